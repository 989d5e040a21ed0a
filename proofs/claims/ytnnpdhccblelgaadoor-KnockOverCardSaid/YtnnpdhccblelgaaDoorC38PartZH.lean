/-
  slices.Contains at []int.
-/
import Derived.Test.YtnnpdhccblelgaaDoorC38PartB
namespace Go.Idl
set_option linter.all false
open Go.Proofs
set_option maxHeartbeats 4000000
set_option maxRecDepth 40000

def idxI (l : List Int) (p : Int) : Int := match l.findIdx? (· == p) with | some i => i | none => -1
theorem idxI_neg {l : List Int} {p : Int} (h : p ∉ l) : idxI l p = -1 := by
  unfold idxI
  have : l.findIdx? (· == p) = none := List.findIdx?_eq_none_iff.2 fun x hx => by simp; intro e; exact h (e ▸ hx)
  rw [this]
theorem idxI_at {l : List Int} {p : Int} {i : Nat} (h : i < l.length) (hi : l[i] = p) (hb : ∀ j (hj : j < l.length), j < i → l[j] ≠ p) : idxI l p = i := by
  unfold idxI
  have : l.findIdx? (· == p) = some i := by
    rw [List.findIdx?_eq_some_iff_getElem]
    exact ⟨h, by simp [hi], fun j hj => by simpa using hb j (by omega) hj⟩
  rw [this]
theorem idxI_pos {l : List Int} {p : Int} : 0 ≤ idxI l p ↔ p ∈ l := by
  constructor
  · intro h
    apply Decidable.byContradiction
    intro hn
    rw [idxI_neg hn] at h; omega
  · intro h
    unfold idxI
    split
    · omega
    · rename_i he
      rw [List.findIdx?_eq_none_iff] at he
      have := he p h
      simp at this
theorem indexInts_fun (l : List Int) (p : Int) (hl : l.length ≤ 2 ^ 40) : FN 62 [.fz 1 (ints l), .int .i64 p] (fun v => v = .int .i64 (idxI l p)) := by
  refine IFun.of_bodyZ false 6 [7, 8, 9, 16] Tryd.func62 rfl Tryd.call62 rfl fun R hR => ?_
  simp [go_sem]
  refine IWp.loopT (α := Nat) (fun i => (⟨false, 19, 6, [7, 8, 9, 16], glT, [(0, .fz 1 (ints l)), (1, .int .i64 p), (7, .int .i64 l.length), (8, .int .i64 (i : Int))], []⟩, []))
    (fun i => i ≤ l.length ∧ ∀ j (hj : j < l.length), j < i → l[j] ≠ p) (fun i => l.length - i) 0 (by simp) (by simp [go_sem]) ?_
  rintro i ⟨hi, hb⟩
  by_cases h : i < l.length
  · have w1 : IntKind.i64.wrap ((i : Int) + 1) = i + 1 := wrap64 (by omega) (by omega)
    by_cases he : p = l[i]
    · have hx := idxI_at h he.symm hb
      simp [go_sem, h, ← he]
      exact hR _ _ _ rfl (by simp [go_sem, hx])
    · simp [go_sem, h, he, w1]
      exact ⟨i + 1, by simp, ⟨by omega, fun j hj h2 => by
        by_cases e : j = i
        · subst e; exact fun e2 => he e2.symm
        · exact hb j hj (by omega)⟩, by omega⟩
  · have hx : idxI l p = -1 := idxI_neg fun hm => by
      obtain ⟨j, hj, e⟩ := List.mem_iff_getElem.1 hm
      exact hb j hj (by omega) e
    simp [go_sem, h]
    exact hR _ _ _ rfl (by simp [go_sem, hx])
theorem containsInts_fun (l : List Int) (p : Int) (hl : l.length ≤ 2 ^ 40) : FN 29 [.fz 1 (ints l), .int .i64 p] (fun v => v = .bool (decide (p ∈ l))) := by
  refine IFun.of_bodyZ false 5 [] Tryd.func29 rfl Tryd.call29 rfl fun R hR => ?_
  simp [go_sem]
  refine (indexInts_fun l p hl).callF (by simp [go_sem]) ?_
  rintro _ rfl
  simp [go_sem]
  refine hR _ _ _ rfl ?_
  simp [go_sem, idxI_pos]
end Go.Idl
