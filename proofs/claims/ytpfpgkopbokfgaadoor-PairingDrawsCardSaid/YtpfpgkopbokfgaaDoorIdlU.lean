/-
  From a pure function's contract to what the model says of a law.
-/
import Derived.Test.YtpfpgkopbokfgaaDoorIdlT
import Derived.Below
namespace Go.Idl
set_option linter.all false
open Go.RowKit

/-- All blocks that are there, as what nobody writes. -/
def Fz.all (w : World) : Fz := ⟨fun g => g < w.heap.size, fun g => g < w.heap.size, fun _ h => h⟩

theorem IFun.law {own : Bool} {P : Program} {f : FuncId} {args : List IV} {vs : List Value} {w : World} (h : IFun own P [] f args (fun v => v = .bool true)) (hv : VRs Mu.none (Fz.all w) w vs args) :
    Calls P f vs.toArray w fun e w' => e = .returned (.bool true) ∧ Below w.heap.size w w' := by
  refine (h.2 Mu.none (Fz.all w) w vs (HR.empty fun g h => h) hv (fun g c hc => by simp [eget] at hc)).mono ?_
  rintro e w' ⟨v, r, σ', μ1, F2, rfl, ⟨v', hfr, rfl⟩, hvr, hH1, hX⟩
  have hr : r = .bool true := by cases hfr <;> rfl
  subst hr
  cases hvr
  exact ⟨rfl, ⟨hX.os, hX.tape, hX.output, hX.size, fun g hg => hX.same g hg⟩⟩

/-- A slice that came in. -/
theorem vr_in {w : World} {b off len cap s : Nat} {rows : List (List IV)} (us : Nat → Nat → Value) (hl : rows.length = len) (hcap : len ≤ cap) (hs : 0 < s) (hrow : ∀ (i : Nat) (row : List IV), rows[i]? = some row → row.length = s)
    (hcell : ∀ (i j : Nat), i < len → j < s → w.cell? ⟨b, off + i * s + j, none⟩ = some (us i j)) (hv : ∀ (i : Nat) (row : List IV) (j : Nat) (c : IV), rows[i]? = some row → row[j]? = some c → VR Mu.none (Fz.all w) w (us i j) c) :
    VR Mu.none (Fz.all w) w (.slice (some ⟨b, off, none⟩) len cap) (.fz s rows) := by
  by_cases h0 : len = 0
  · have : rows = [] := List.eq_nil_of_length_eq_zero (by omega)
    subst this; subst h0
    exact .fz0 _ _ _
  · have hb : b < w.heap.size := by
      have := hcell 0 0 (by omega) hs
      unfold World.cell? at this
      cases hh : w.heap[b]? with
      | none => simp [hh] at this
      | some o => exact (Array.getElem?_eq_some_iff.1 hh).1
    have := VR.fz (μ := Mu.none) (F := Fz.all w) (w := w) b off s rows cap us hb hrow (fun i row j hi hj => hcell i j (by have := (List.getElem?_eq_some_iff.1 hi).1; omega) hj) hv (by omega)
    rw [hl] at this
    exact this

/-- A pure function called with closed arguments; no package-level variable. -/
theorem IFun.callM {own : Bool} {P : Program} {f : FuncId} {args : List IV} {V : IV → Prop} {σ : Heap} {K : IV → Heap → Prop} (h : IFun own P [] f args V) (ha : ∀ c ∈ args, Cl c) (hK : ∀ v, V v → K v σ) : ICalls P [] f args σ K :=
  h.callC (fun _ _ e => ha _ (List.mem_of_getElem? e)) (fun g c e => by simp [eget] at e) hK
end Go.Idl
