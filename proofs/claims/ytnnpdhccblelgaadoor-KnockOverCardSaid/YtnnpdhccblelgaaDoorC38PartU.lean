/-
  Chapter 38: the laws' frames: the listed variable; a fraction as an argument.
-/
import Derived.Test.YtnnpdhccblelgaaDoorRows
import Derived.Test.YtnnpdhccblelgaaDoorCards
import Derived.Below
import Derived.Test.YtnnpdhccblelgaaDoorTie
import Derived.Test.YtnnpdhccblelgaaDoorC38PartA
import Derived.Test.YtnnpdhccblelgaaDoorIdlPartH
import Derived.LaidMore
import Derived.Stop.Joined
import Derived.SevenTiedAt
import Derived.ChangeSame
namespace Go.Idl
set_option linter.all false
open Go.Proofs Go.Proofs.YtnnpdhccblelgaaDoor Go.RowKit

theorem IFun.lawG {own : Bool} {P : Program} {gl : List (Nat × IV)} {f : FuncId} {args : List IV} {vs : List Value} {w : World} (h : IFun own P gl f args (fun v => v = .bool true)) (hv : VRs Mu.none (Fz.all w) w vs args)
    (hg : ∀ (g : Nat) (c : IV), eget gl g = some c → VR Mu.none (Fz.all w) w (.pointer (some ⟨g, 0, none⟩)) c) :
    Calls P f vs.toArray w fun e w' => e = .returned (.bool true) ∧ Below w.heap.size w w' := by
  refine (h.2 Mu.none (Fz.all w) w vs (HR.empty fun g h => h) hv hg).mono ?_
  rintro e w' ⟨v, r, σ', μ1, F2, rfl, ⟨v', hfr, rfl⟩, hvr, hH1, hX⟩
  have hr : r = .bool true := by cases hfr <;> rfl
  subst hr
  cases hvr
  exact ⟨rfl, ⟨hX.os, hX.tape, hX.output, hX.size, fun g hg => hX.same g hg⟩⟩

/-- A listed struct of two integers. -/
theorem laid_two {H : Type} {enc : TypeId × Value → H} {P : Program} {w : World} {g : Nat} {t : TypeId} {f0 f1 : Field} {k : IntKind} {cs : Array Value} {sp : Nat → Bool} {held : Bool} {fuel : Nat} {p : List MemPlace}
    (ht : P.underlying t = some (.struct #[f0, f1])) (h0 : P.underlying f0.type = some (.int k)) (h1 : P.underlying f1.type = some (.int k)) (o0 : f0.offset = 0) (o1 : f1.offset = 1) (c0 : P.cellsOf f0.type = 1) (c1 : P.cellsOf f1.type = 1) (a b : Int)
    (hd : DataW.trod enc P w 0 sp held fuel t cs.toList = some (.agg [.lit (.int k a), .lit (.int k b)], p)) (hcell : ∀ i : Nat, w.cell? ⟨g, i, none⟩ = cs[i]?) :
    VR Mu.none (Fz.all w) w (.pointer (some ⟨g, 0, none⟩)) (.fptr 2 [[.int k a, .int k b]] 0 0) := by
  obtain ⟨y0, y1, m, hx, hl, k0, k1⟩ := Go.ChangeShapes.trod_struct2 ht hd
  rw [o0, c0] at k0
  rw [o1, c1] at k1
  obtain ⟨z0, e0, x0, _⟩ := DataW.trod_int h0 k0
  obtain ⟨z1, e1, x1, _⟩ := DataW.trod_int h1 k1
  rw [x0, x1] at hx
  simp only [Prod.mk.injEq, DataW.agg.injEq, List.cons.injEq, DataW.lit.injEq, Lit.int.injEq, and_true, true_and] at hx
  obtain ⟨⟨q0, q1⟩, _⟩ := hx
  subst q0
  subst q1
  have g0 : cs[0]? = some (.int k a) := by
    have : ((cs.toList.drop 0).take 1)[0]? = some (.int k a) := by rw [e0]; rfl
    rw [List.getElem?_take] at this
    simpa using this
  have g1 : cs[1]? = some (.int k b) := by
    have : ((cs.toList.drop 1).take 1)[0]? = some (.int k b) := by rw [e1]; rfl
    rw [List.getElem?_take] at this
    simpa using this
  have hb : g < w.heap.size := by
    have h1 := hcell 0
    rw [g0] at h1
    unfold World.cell? at h1
    cases hh : w.heap[g]? with
    | none => simp [hh] at h1
    | some o => exact (Array.getElem?_eq_some_iff.1 hh).1
  have hrow : ∀ (i : Nat) (row : List IV), [[IV.int k a, IV.int k b]][i]? = some row → i = 0 ∧ row = [IV.int k a, IV.int k b] := by
    intro i row hr
    cases i with
    | zero => simp at hr; exact ⟨rfl, hr.symm⟩
    | succ i => simp at hr
  have := VR.fptr (μ := Mu.none) (F := Fz.all w) (w := w) g 0 2 [[IV.int k a, IV.int k b]] 0 0 (fun _ j => .int k (if j = 0 then a else b)) hb (fun i row hr => by rw [(hrow i row hr).2]; rfl)
    (fun i row j hr hj => by
      obtain ⟨rfl, rfl⟩ := hrow i row hr
      rw [Nat.zero_mul, Nat.add_zero, Nat.zero_add, hcell j]
      rcases (by omega : j = 0 ∨ j = 1) with rfl | rfl
      · exact g0
      · exact g1)
    (fun i row j c hr hc => by
      obtain ⟨rfl, rfl⟩ := hrow i row hr
      match j, hc with
      | 0, hc => simp at hc; subst hc; exact .int _ _
      | 1, hc => simp at hc; subst hc; exact .int _ _
      | j + 2, hc => simp at hc)
  simpa using this

def laid1 : List (String × DataW Unit) := [("finesse/finesselaw38.zero", Rows.laid_finesse_finesselaw38_zero)]
theorem gZero : Tryd.prog.globalNamed "finesse/finesselaw38.zero" = some 0 := by kernel_rfl
theorem tZero : (Tryd.prog.globals[0]?).map (·.type) = some 23 := by kernel_rfl
theorem door_met (os : Os) (args : Array Value) : laidMetH Tryd.prog laid1 ((World.doorLaid Tryd.prog 400 os).forCall (fun _ _ => 0) ⟨#[], args, []⟩).memory :=
  laidMetH_of_parts3 (fuel := 8) (laidMet_of_run' 8 (by kernel_rfl) (by kernel_rfl)) (by kernel_rfl) (by kernel_rfl)
theorem var_in {W : World} (h : laidMetH Tryd.prog laid1 W) : ∀ (g : Nat) (c : IV), eget glT g = some c → VR Mu.none (Fz.all W) W (.pointer (some ⟨g, 0, none⟩)) c := by
  rw [MakeChecks.laidMetH_plain _ _ _ (by kernel_rfl)] at h
  obtain ⟨ps, ⟨g0, t0, cs0, f0, p0, q0, hg0, ht0, hv0, hd0, _, _⟩, _, _⟩ := h
  obtain rfl := Option.some.inj (gZero.symm.trans hg0)
  obtain rfl := Option.some.inj (tZero.symm.trans ht0)
  intro g c hc
  have e : g = 0 ∧ c = zerov := by
    unfold glT at hc
    simp only [eget] at hc
    by_cases h : g = 0
    · subst h; exact ⟨rfl, (Option.some.inj hc).symm⟩
    · have : (0 == g) = false := by simpa using fun e => h e.symm
      rw [this] at hc; cases hc
  obtain ⟨rfl, rfl⟩ := e
  exact laid_two Tryd.underlying23 (by kernel_rfl) (by kernel_rfl) rfl rfl (by kernel_rfl) (by kernel_rfl) 0 1 hd0 (fun i => World.var?_cell hg0 hv0 i)
end Go.Idl
