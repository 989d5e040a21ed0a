/-
  Maps that count: keyed by two integers, or one.
  slices.Contains at []int.
-/
import Derived.Test.YtjdcaidcheodpaaC25PartC
import Derived.Test.YtjdcaidcheodpaaIdlPartG
namespace Go.Idl
set_option linter.all false
open Go.Proofs

def k2 (k : Int × Int) : IV := .agg [.int .i64 k.1, .int .i64 k.2]
def enP (S : List ((Int × Int) × Int)) : List (IV × IV) := enM k2 (fun v : Int => .int .i64 v) S
theorem keP (a b : Int × Int) : keq (k2 a) (k2 b) = decide (a = b) := by
  obtain ⟨a1, a2⟩ := a
  obtain ⟨b1, b2⟩ := b
  show (match ceqs [IV.int .i64 a1, IV.int .i64 a2] [IV.int .i64 b1, IV.int .i64 b2] with | some b => b | none => false) = _
  simp [ceqs, ceq, Prod.mk.injEq]
  by_cases h1 : a1 = b1 <;> by_cases h2 : a2 = b2 <;> simp [h1, h2]
theorem mget_p (a b : Int) (S : List ((Int × Int) × Int)) : mget (.agg [.int .i64 a, .int .i64 b]) (enP S) = (aget (a, b) S).map fun v => .int .i64 v := mget_en (kf := k2) keP (a, b) S
theorem mset_p (a b v : Int) (S : List ((Int × Int) × Int)) : mset (.agg [.int .i64 a, .int .i64 b]) (.int .i64 v) (enP S) = enP (aset (a, b) v S) := mset_en (kf := k2) (vf := fun v : Int => .int .i64 v) keP (a, b) v S
@[go_sem] theorem all_enP {S : List ((Int × Int) × Int)} {X : IV → Prop} : (∀ (a b : IV), (a, b) ∈ enP S → X a) ↔ ∀ p ∈ S, X (.agg [.int .i64 p.1.1, .int .i64 p.1.2]) := by
  simp only [enP, enM, List.mem_map, Prod.mk.injEq, k2]
  constructor
  · intro h p hp; exact h _ _ ⟨p, hp, rfl, rfl⟩
  · rintro h a b ⟨p, hp, rfl, rfl⟩; exact h p hp
@[go_sem] theorem bl_p {n : Nat} {S : List ((Int × Int) × Int)} : BlM n (enP S) = True := eq_true (en_bl (fun a => by simp [go_sem, k2]) (fun b => by simp [go_sem]) S)
@[go_sem] theorem enP_nil : enP [] = [] := rfl
section
variable {α : Type} [DecidableEq α]
def getC (S : List (α × Int)) (k : α) : Int := (aget k S).getD 0
@[simp] theorem getC_nil (k : α) : getC ([] : List (α × Int)) k = 0 := rfl
theorem getC_set (S : List (α × Int)) (k k' : α) (v : Int) : getC (aset k v S) k' = if k' = k then v else getC S k' := by
  unfold getC
  rw [aget_aset]
  by_cases e : k' = k <;> simp [e]
end
end Go.Idl
namespace Go.Idl
set_option linter.all false
open Go.Proofs
set_option maxHeartbeats 4000000
set_option maxRecDepth 40000

def idxI (l : List Int) (p : Int) : Int := match l.findIdx? (· == p) with | some i => i | none => -1
theorem idxI_neg {l : List Int} {p : Int} (h : p ∉ l) : idxI l p = -1 := by
  unfold idxI
  have : l.findIdx? (· == p) = none := List.findIdx?_eq_none_iff.2 fun x hx => by simp; intro e; exact h (e ▸ hx)
  rw [this]
theorem idxI_at {l : List Int} {p : Int} {i : Nat} (h : i < l.length) (hi : l[i] = p) (hb : ∀ j (hj : j < l.length), j < i → l[j] ≠ p) : idxI l p = i := by
  unfold idxI
  have : l.findIdx? (· == p) = some i := by
    rw [List.findIdx?_eq_some_iff_getElem]
    exact ⟨h, by simp [hi], fun j hj => by simpa using hb j (by omega) hj⟩
  rw [this]
theorem idxI_pos {l : List Int} {p : Int} : 0 ≤ idxI l p ↔ p ∈ l := by
  constructor
  · intro h
    apply Decidable.byContradiction
    intro hn
    rw [idxI_neg hn] at h; omega
  · intro h
    unfold idxI
    split
    · omega
    · rename_i he
      rw [List.findIdx?_eq_none_iff] at he
      have := he p h
      simp at this
theorem indexInts_fun (l : List Int) (p : Int) (hl : l.length ≤ 2 ^ 40) : FN 45 [.fz 1 (ints l), .int .i64 p] (fun v => v = .int .i64 (idxI l p)) := by
  refine IFun.of_bodyZ false 6 [7, 8, 9, 16] Try.func45 rfl Try.call45 rfl fun R hR => ?_
  simp [go_sem]
  refine IWp.loopT (α := Nat) (fun i => (⟨false, 19, 6, [7, 8, 9, 16], [], [(0, .fz 1 (ints l)), (1, .int .i64 p), (7, .int .i64 l.length), (8, .int .i64 (i : Int))], []⟩, []))
    (fun i => i ≤ l.length ∧ ∀ j (hj : j < l.length), j < i → l[j] ≠ p) (fun i => l.length - i) 0 (by simp) (by simp [go_sem]) ?_
  rintro i ⟨hi, hb⟩
  by_cases h : i < l.length
  · have w1 : IntKind.i64.wrap ((i : Int) + 1) = i + 1 := wrap64 (by omega) (by omega)
    by_cases he : p = l[i]
    · have hx := idxI_at h he.symm hb
      simp [go_sem, h, ← he]
      exact hR _ _ _ rfl (by simp [go_sem, hx])
    · simp [go_sem, h, he, w1]
      exact ⟨i + 1, by simp, ⟨by omega, fun j hj h2 => by
        by_cases e : j = i
        · subst e; exact fun e2 => he e2.symm
        · exact hb j hj (by omega)⟩, by omega⟩
  · have hx : idxI l p = -1 := idxI_neg fun hm => by
      obtain ⟨j, hj, e⟩ := List.mem_iff_getElem.1 hm
      exact hb j hj (by omega) e
    simp [go_sem, h]
    exact hR _ _ _ rfl (by simp [go_sem, hx])
theorem containsInts_fun (l : List Int) (p : Int) (hl : l.length ≤ 2 ^ 40) : FN 21 [.fz 1 (ints l), .int .i64 p] (fun v => v = .bool (decide (p ∈ l))) := by
  refine IFun.of_bodyZ false 5 [] Try.func21 rfl Try.call21 rfl fun R hR => ?_
  simp [go_sem]
  refine (indexInts_fun l p hl).callF (by simp [go_sem]) ?_
  rintro _ rfl
  simp [go_sem]
  refine hR _ _ _ rfl ?_
  simp [go_sem, idxI_pos]
end Go.Idl
