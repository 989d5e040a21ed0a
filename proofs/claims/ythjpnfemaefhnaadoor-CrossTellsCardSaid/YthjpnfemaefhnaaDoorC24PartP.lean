/-
  Chapter 24: cross scores add up to 0, and so do plain scores (plain).
-/
import Derived.Test.YthjpnfemaefhnaaDoorC24PartL
import Derived.Test.YthjpnfemaefhnaaDoorC24PartO
namespace Go.Idl
set_option linter.all false
open Go.Proofs

theorem sum_map_zero {α : Type} (l : List α) : (l.map fun _ => (0 : Int)).sum = 0 := by
  induction l with
  | nil => rfl
  | cons _ _ ih => simp only [List.map_cons, List.sum_cons, ih]; rfl
theorem sum_map_add' {α : Type} (l : List α) (f g : α → Int) : (l.map fun x => f x + g x).sum = (l.map f).sum + (l.map g).sum := by
  induction l with
  | nil => rfl
  | cons _ _ ih => simp only [List.map_cons, List.sum_cons, ih]; omega
theorem sum_map_neg' {α : Type} (l : List α) (f : α → Int) : (l.map fun x => -f x).sum = -(l.map f).sum := by
  induction l with
  | nil => rfl
  | cons _ _ ih => simp only [List.map_cons, List.sum_cons, ih]; omega
theorem sum_swap {α β : Type} (f : α → β → Int) (m : List β) : ∀ l : List α, (l.map fun x => (m.map fun y => f x y).sum).sum = (m.map fun y => (l.map fun x => f x y).sum).sum
  | [] => by simp only [List.map_nil, List.sum_nil]; rw [sum_map_zero]
  | a :: l => by
    simp only [List.map_cons, List.sum_cons]
    rw [sum_swap f m l, ← sum_map_add']
theorem cross_total (l : List Int) : (l.map fun x => vI l x).sum = 0 := by
  have h1 : (l.map fun x => vI l x).sum = -(l.map fun x => vI l x).sum := by
    have e1 : (l.map fun x => vI l x).sum = (l.map fun y => (l.map fun x => impI (x - y)).sum).sum := sum_swap (fun x y => impI (x - y)) l l
    have e2 : (fun y : Int => (l.map fun x => impI (x - y)).sum) = fun y => -vI l y := by
      funext y
      unfold vI
      rw [← sum_map_neg']
      congr 2
      funext x
      rw [← impI_neg]
      congr 1
      omega
    rw [e2, sum_map_neg'] at e1
    exact e1
  omega
theorem plain_total (l : List Int) : (l.map fun x => (l.length : Int) * x - l.sum).sum = 0 := by
  have e : ∀ (c s : Int) (m : List Int), (m.map fun x => c * x - s).sum = c * m.sum - m.length * s := fun c s m => by
    induction m with
    | nil => simp
    | cons a m ih =>
      simp only [List.map_cons, List.sum_cons, ih, List.length_cons, Int.mul_add, Int.natCast_add, Int.add_mul]
      omega
  rw [e]
  omega
theorem low_one (u : Int) : lowF u 1 = ⟨u, 1⟩ := low_of (g := 1) (a := u) (b := 1) (by omega) (by omega) (by simp) rfl (by simp)
theorem crossL_low {l : List Int} (hl : l.length ≤ 24) : crossL l = (l.map (vI l)).map fun a => lowF a (if l.length ≤ 1 then 1 else l.length - 1) := by
  refine List.ext_getElem (by simp) fun i h1 h2 => ?_
  have hi : i < l.length := by simpa using h1
  rw [crossL_at hi]
  simp only [List.getElem_map]
  show fS l l[i] = lowF (vI l l[i]) _
  unfold fS
  by_cases h : l.length = 1
  · rw [if_pos h, show (if l.length ≤ 1 then 1 else l.length - 1) = 1 from if_pos (by omega)]
    have : vI l l[i] = 0 := by
      match l, h with
      | [x], _ => simp [vI, impI_zero]
    rw [this]
    exact (lowF_zero (by omega)).symm
  · rw [if_neg h, show (if l.length ≤ 1 then 1 else l.length - 1) = l.length - 1 from if_neg (by omega)]
    have hv := vsI_bd (l := l) (i := i) (x := l[i]) l.length (Nat.le_refl _)
    rw [vI_all hi] at hv
    rw [show (l.length : Int) - 1 = ((l.length - 1 : Nat) : Int) by omega, mk_low (by omega) (by omega) (by omega)]
theorem plainL_low {l : List Int} (hl : l.length ≤ 24) (hb : ∀ y ∈ l, -7600 ≤ y ∧ y ≤ 7600) : plainL l l.sum = (l.map fun x => (l.length : Int) * x - l.sum).map fun a => lowF a (if l.length = 0 then 1 else l.length) := by
  refine List.ext_getElem (by simp) fun i h1 h2 => ?_
  have hi : i < l.length := by simpa using h1
  rw [plainL_at hi]
  simp only [List.getElem_map]
  show plainF l l.sum l[i] = lowF ((l.length : Int) * l[i] - l.sum) _
  rw [show (if l.length = 0 then 1 else l.length) = l.length from if_neg (by omega)]
  unfold plainF
  have := plain_in hl hb (hb _ (List.getElem_mem hi))
  rw [mk_low (by omega) (by omega) (by omega)]
theorem cross_in {l : List Int} (hl : l.length ≤ 24) : ∀ x ∈ l.map (vI l), -2 ^ 24 ≤ x ∧ x ≤ 2 ^ 24 := by
  intro x hx
  obtain ⟨y, hy, rfl⟩ := List.mem_map.1 hx
  obtain ⟨i, hi, rfl⟩ := List.getElem_of_mem hy
  have hv := vsI_bd (l := l) (i := i) (x := l[i]) l.length (Nat.le_refl _)
  rw [vI_all hi] at hv
  omega
theorem plain_in2 {l : List Int} (hl : l.length ≤ 24) (hb : ∀ y ∈ l, -7600 ≤ y ∧ y ≤ 7600) : ∀ x ∈ l.map fun x => (l.length : Int) * x - l.sum, -2 ^ 24 ≤ x ∧ x ≤ 2 ^ 24 := by
  intro x hx
  obtain ⟨y, hy, rfl⟩ := List.mem_map.1 hx
  have h1 := hb y hy
  have h2 := sum_bd l hb
  have h3 : -(24 * 7600) ≤ (l.length : Int) * y ∧ (l.length : Int) * y ≤ 24 * 7600 := by
    have a1 := Int.mul_le_mul_of_nonneg_left h1.2 (show 0 ≤ (l.length : Int) by omega)
    have a2 := Int.mul_le_mul_of_nonneg_left h1.1 (show 0 ≤ (l.length : Int) by omega)
    omega
  omega
end Go.Idl
