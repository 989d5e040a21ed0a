/-
  Maps told by lists of keys and values.
-/
import Derived.Test.YtpfpgkopbokfgaaDoorIdlX
namespace Go.Idl
set_option linter.all false

def enM {α β : Type} (kf : α → IV) (vf : β → IV) (S : List (α × β)) : List (IV × IV) := S.map fun p => (kf p.1, vf p.2)
section
variable {α β : Type} [DecidableEq α] {kf : α → IV} {vf : β → IV}
def aget (a : α) : List (α × β) → Option β
  | [] => none
  | (k, v) :: l => if a = k then some v else aget a l
def aset (a : α) (b : β) : List (α × β) → List (α × β)
  | [] => [(a, b)]
  | (k, v) :: l => if a = k then (k, b) :: l else (k, v) :: aset a b l
theorem aget_aset (a b : α) (v : β) (S : List (α × β)) : aget a (aset b v S) = if a = b then some v else aget a S := by
  induction S with
  | nil => simp [aset, aget]
  | cons p S ih =>
    obtain ⟨k, u⟩ := p
    simp only [aset]
    by_cases h : b = k
    · subst h
      simp only [if_true, aget]
      by_cases h2 : a = b <;> simp [h2]
    · rw [if_neg h]
      simp only [aget, ih]
      by_cases h2 : a = k
      · subst h2; simp [Ne.symm h]
      · simp [h2]
theorem mget_en (hk : ∀ a b, keq (kf a) (kf b) = decide (a = b)) (a : α) (S : List (α × β)) : mget (kf a) (enM kf vf S) = (aget a S).map vf := by
  induction S with
  | nil => rfl
  | cons p S ih =>
    obtain ⟨k, u⟩ := p
    show (if keq (kf a) (kf k) = true then some (vf u) else mget (kf a) (enM kf vf S)) = _
    rw [hk, ih]
    simp only [aget]
    by_cases h : a = k <;> simp [h]
theorem mset_en (hk : ∀ a b, keq (kf a) (kf b) = decide (a = b)) (a : α) (b : β) (S : List (α × β)) : mset (kf a) (vf b) (enM kf vf S) = enM kf vf (aset a b S) := by
  induction S with
  | nil => rfl
  | cons p S ih =>
    obtain ⟨k, u⟩ := p
    show (if keq (kf a) (kf k) = true then (kf k, vf b) :: enM kf vf S else (kf k, vf u) :: mset (kf a) (vf b) (enM kf vf S)) = _
    rw [hk, ih]
    simp only [aset]
    by_cases h : a = k <;> simp [h, enM]
theorem en_ok {P : Program} {t : TypeId} {ks : List TypeDesc} (h : ∀ a, keyOK P t ks (kf a) = true) (S : List (α × β)) : ∀ e ∈ enM kf vf S, keyOK P t ks e.1 = true := by
  intro e he
  simp only [enM, List.mem_map] at he
  obtain ⟨p, _, rfl⟩ := he
  exact h p.1
theorem en_bl {n : Nat} (hk : ∀ a, Cl (kf a)) (hv : ∀ b, Cl (vf b)) (S : List (α × β)) : BlM n (enM kf vf S) := by
  intro e he
  simp only [enM, List.mem_map] at he
  obtain ⟨p, _, rfl⟩ := he
  exact ⟨(hk p.1).bl, (hv p.2).bl⟩
@[go_sem] theorem en_nil : enM kf vf [] = [] := rfl
end
end Go.Idl
