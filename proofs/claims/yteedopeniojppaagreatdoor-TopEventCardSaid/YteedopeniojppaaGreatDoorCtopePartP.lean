import Derived.Test.YteedopeniojppaaGreatDoorRows
import Derived.Test.YteedopeniojppaaGreatDoorCards
import Derived.Test.YteedopeniojppaaGreatDoorTie
import Derived.Test.YteedopeniojppaaGreatDoorCtopePartA
import Derived.Test.YteedopeniojppaaGreatDoorIdlPartH
import Derived.LaidMore
import Derived.Stop.Joined
import Derived.SevenTiedAt
set_option linter.all false
namespace Go.Idl
open Go.Proofs Go.Proofs.YteedopeniojppaaGreatDoor Go.RowKit
theorem IFun.lawG {own : Bool} {P : Program} {gl : List (Nat × IV)} {f : FuncId} {args : List IV} {vs : List Value} {w : World} (h : IFun own P gl f args (fun v => v = .bool true)) (hv : VRs Mu.none (Fz.all w) w vs args)
  (hg : ∀ (g : Nat) (c : IV), eget gl g = some c → VR Mu.none (Fz.all w) w (.pointer (some ⟨g, 0, none⟩)) c) :
  Calls P f vs.toArray w fun e w' => e = .returned (.bool true) ∧ Below w.heap.size w w' := by
 refine (h.2 Mu.none (Fz.all w) w vs (HR.empty fun g h => h) hv hg).mono ?_
 rintro e w' ⟨v, r, σ', μ1, F2, rfl, ⟨v', hfr, rfl⟩, hvr, hH1, hX⟩
 have hr : r = .bool true := by cases hfr <;> rfl
 subst hr
 cases hvr
 exact ⟨rfl, ⟨hX.os, hX.tape, hX.output.o, hX.size, fun g hg => hX.same g hg⟩⟩
theorem laid_ints {H : Type} {enc : TypeId × Value → H} {P : Program} {w : World} {g n : Nat} {t e : TypeId} {k : IntKind} {cs : Array Value} {sp : Nat → Bool} {held : Bool} {fuel : Nat} {p : List MemPlace}
  (ht : P.underlying t = some (.array n e)) (he : P.underlying e = some (.int k)) (ce : P.cellsOf e = 1) (vals : List Int) (hn : vals.length = n) (h0 : 0 < n)
  (hd : DataW.trod enc P w 0 sp held fuel t cs.toList = some (.agg (vals.map fun z => .lit (.int k z)), p)) (hcell : ∀ i : Nat, w.cell? ⟨g, i, none⟩ = cs[i]?) :
  VR Mu.none (Fz.all w) w (.pointer (some ⟨g, 0, none⟩)) (.fptr n [vals.map fun z => .int k z] 0 0) := by
 obtain ⟨xs, m, _, hx, hlen, hxl, hf⟩ := DataW.trod_array ht hd
 simp only [Prod.mk.injEq, DataW.agg.injEq] at hx
 have each : ∀ (i : Nat) (z : Int), vals[i]? = some z → cs[i]? = some (Value.int k z) := by
  intro i z hz
  have hi : i < vals.length := (List.getElem?_eq_some_iff.1 hz).1
  have h1 := hf i (by omega)
  rw [ce, Nat.mul_one] at h1
  have hxi : i < xs.length := by omega
  rw [List.getElem?_eq_getElem hxi] at h1
  obtain ⟨z', e1, e2, _⟩ := DataW.trod_int he h1
  have e3 : (xs.map (·.1))[i]? = (vals.map fun z => DataW.lit (H := H) (.int k z))[i]? := by rw [hx.1]
  rw [List.getElem?_map, List.getElem?_map, hz, List.getElem?_eq_getElem hxi, e2] at e3
  simp at e3
  subst e3
  have e4 : (cs.toList.drop i)[0]? = some (.int k z') := by
   have : ((cs.toList.drop i).take 1)[0]? = some (.int k z') := by rw [e1]; rfl
   rw [List.getElem?_take] at this
   simpa using this
  simpa using e4
 have hb : g < w.heap.size := by
  obtain ⟨z, hz⟩ : ∃ z, vals[0]? = some z := ⟨vals[0]'(by omega), List.getElem?_eq_getElem _⟩
  have h1 := hcell 0
  rw [each 0 z hz] at h1
  unfold World.cell? at h1
  cases hh : w.heap[g]? with
  | none => simp [hh] at h1
  | some o => exact (Array.getElem?_eq_some_iff.1 hh).1
 have hrow : ∀ (i : Nat) (row : List IV), [vals.map fun z => IV.int k z][i]? = some row → i = 0 ∧ row = vals.map fun z => IV.int k z := by
  intro i row hr
  cases i with
  | zero => simp at hr; exact ⟨rfl, hr.symm⟩
  | succ i => simp at hr
 have := VR.fptr (μ := Mu.none) (F := Fz.all w) (w := w) g 0 n [vals.map fun z => IV.int k z] 0 0 (fun _ j => .int k (vals.getD j 0)) hb (fun i row hr => by rw [(hrow i row hr).2]; simpa using hn)
  (fun i row j hr hj => by
   obtain ⟨rfl, rfl⟩ := hrow i row hr
   have hj' : j < vals.length := by omega
   have e5 := each j vals[j] (List.getElem?_eq_getElem hj')
   rw [Nat.zero_mul, Nat.add_zero, Nat.zero_add, hcell j, e5, List.getD_eq_getElem?_getD, List.getElem?_eq_getElem hj']; rfl)
  (fun i row j c hr hc => by
   obtain ⟨rfl, rfl⟩ := hrow i row hr
   rw [List.getElem?_map] at hc
   cases hv : vals[j]? with
   | none => rw [hv] at hc; simp at hc
   | some z =>
    rw [hv] at hc
    simp at hc
    subst hc
    rw [List.getD_eq_getElem?_getD, hv]
    exact .int _ _)
 simpa using this
def laid1 : List (String × DataW Unit) := [("finesse/imp.scale", Rows.laid_finesse_imp_scale), ("math/bits.deBruijn32tab", Rows.laid_math_bits_deBruijn32tab)]
theorem gTab : Tryz.prog.globalNamed "finesse/imp.scale" = some 0 := by kernel_rfl
theorem tTab : (Tryz.prog.globals[0]?).map (·.type) = some 177 := by kernel_rfl
theorem gTab1 : Tryz.prog.globalNamed "math/bits.deBruijn32tab" = some 1 := by kernel_rfl
theorem tTab1 : (Tryz.prog.globals[1]?).map (·.type) = some 192 := by kernel_rfl
theorem door_met (os : Os) (args : Array Value) : laidMetH Tryz.prog laid1 ((World.doorLaid Tryz.prog 400 os).forCall (fun _ _ => 0) ⟨#[], args, []⟩).memory :=
 laidMetH_of_parts3 (fuel := 8) (laidMet_of_run' 8 (by kernel_rfl) (by kernel_rfl)) (by kernel_rfl) (by kernel_rfl)
theorem tab_in {W : World} (h : laidMetH Tryz.prog laid1 W) : ∀ (g : Nat) (c : IV), eget glT g = some c → VR Mu.none (Fz.all W) W (.pointer (some ⟨g, 0, none⟩)) c := by
 rw [MakeChecks.laidMetH_plain _ _ _ (by kernel_rfl)] at h
 obtain ⟨ps, ⟨g0, t0, cs0, f0, p0, q0, hg0, ht0, hv0, hd0, ⟨g1, t1, cs1, f1, p1, q1, hg1, ht1, hv1, hd1, _, _⟩, _⟩, _, _⟩ := h
 obtain rfl := Option.some.inj (gTab.symm.trans hg0)
 obtain rfl := Option.some.inj (tTab.symm.trans ht0)
 obtain rfl := Option.some.inj (gTab1.symm.trans hg1)
 obtain rfl := Option.some.inj (tTab1.symm.trans ht1)
 intro g c hc
 have e : g = 0 ∧ c = scalev ∨ g = 1 ∧ c = tabv := by
  unfold glT at hc
  match g, hc with
  | 0, hc => exact .inl ⟨rfl, (Option.some.inj hc).symm⟩
  | 1, hc => exact .inr ⟨rfl, (Option.some.inj hc).symm⟩
  | g + 2, hc => simp [eget] at hc
 rcases e with ⟨rfl, rfl⟩ | ⟨rfl, rfl⟩
 ·exact laid_ints Tryz.underlying177 Tryz.underlying3 (by kernel_rfl) scaleL rfl (by decide) hd0 (fun i => World.var?_cell hg0 hv0 i)
 ·exact laid_ints Tryz.underlying192 Tryz.underlying5 (by kernel_rfl) [0, 1, 28, 2, 29, 14, 24, 3, 30, 22, 20, 15, 25, 17, 4, 8, 31, 27, 13, 23, 21, 19, 16, 7, 26, 12, 18, 6, 11, 5, 10, 9] rfl (by decide) hd1 (fun i => World.var?_cell hg1 hv1 i)
end Go.Idl
