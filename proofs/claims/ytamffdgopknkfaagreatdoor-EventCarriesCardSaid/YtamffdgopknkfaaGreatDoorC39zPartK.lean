/-
  Package event: plain: what its functions return, and the reference.
-/
import Derived.Test.YtamffdgopknkfaaGreatDoorC39zPartJ
namespace Go.Idl
set_option linter.all false
open Go.Proofs
set_option maxHeartbeats 8000000
set_option maxRecDepth 40000

def ltM (l : List Em) (a b : Nat) : Prop := (l.getD a Em0).r < (l.getD b Em0).r ∨ (l.getD a Em0).r = (l.getD b Em0).r ∧ a < b
instance (l : List Em) (a b : Nat) : Decidable (ltM l a b) := by unfold ltM; infer_instance
theorem ltM_trans {l : List Em} {a b c : Nat} (h : ltM l a b) (h' : ltM l b c) : ltM l a c := by unfold ltM at *; omega
theorem ltM_irr {l : List Em} {a : Nat} : ¬ ltM l a a := by unfold ltM; omega
theorem ltM_total {l : List Em} {a b : Nat} (h : a ≠ b) (h' : ¬ ltM l a b) : ltM l b a := by unfold ltM at *; omega
def insM (l : List Em) (i : Nat) : List Nat → List Nat
  | [] => [i]
  | j :: A => if ltM l j i then j :: insM l i A else i :: j :: A
def ordF (l : List Em) : List Nat → List Nat
  | [] => []
  | i :: A => insM l i (ordF l A)
def ordM (l : List Em) : List Nat := ordF l (List.range l.length)
theorem insM_perm {l : List Em} (i : Nat) : ∀ A : List Nat, (insM l i A).Perm (i :: A)
  | [] => List.Perm.refl _
  | j :: A => by
    unfold insM
    split
    · exact ((insM_perm i A).cons j).trans (List.Perm.swap i j A)
    · exact List.Perm.refl _
theorem ordF_perm {l : List Em} : ∀ A : List Nat, (ordF l A).Perm A
  | [] => List.Perm.refl _
  | i :: A => (insM_perm i _).trans ((ordF_perm A).cons i)
theorem insM_sorted {l : List Em} {i : Nat} : ∀ {A : List Nat}, i ∉ A → A.Pairwise (ltM l) → (insM l i A).Pairwise (ltM l)
  | [], _, _ => by simp [insM]
  | j :: A, hx, h => by
    unfold insM
    rw [List.pairwise_cons] at h
    simp only [List.mem_cons, not_or] at hx
    split
    · rename_i hy
      rw [List.pairwise_cons]
      refine ⟨fun z hz => ?_, insM_sorted hx.2 h.2⟩
      rcases List.mem_cons.1 ((insM_perm i A).mem_iff.1 hz) with rfl | hz
      · exact hy
      · exact h.1 z hz
    · rename_i hy
      have hxy := ltM_total (Ne.symm hx.1) hy
      rw [List.pairwise_cons, List.pairwise_cons]
      refine ⟨fun z hz => ?_, h⟩
      rcases List.mem_cons.1 hz with rfl | hz
      · exact hxy
      · exact ltM_trans hxy (h.1 z hz)
theorem ordF_sorted {l : List Em} : ∀ {A : List Nat}, A.Nodup → (ordF l A).Pairwise (ltM l)
  | [], _ => List.Pairwise.nil
  | i :: A, h => by
    rw [List.nodup_cons] at h
    exact insM_sorted (fun hc => h.1 ((ordF_perm A).mem_iff.1 hc)) (ordF_sorted h.2)
theorem ordM_ok (l : List Em) : OrdM l (ordM l) := ⟨ordF_perm _, ordF_sorted List.nodup_range⟩
theorem OrdM.eq {l : List Em} {A B : List Nat} (h : OrdM l A) (h' : OrdM l B) : A = B :=
  List.Perm.eq_of_pairwise (le := ltM l) (fun a b _ _ h1 h2 => absurd (ltM_trans h1 h2) ltM_irr) h.2 h'.2 (h.1.trans h'.1.symm)

/-! ### what the functions return -/
def chkR (p : Pl) (l : List Em) : Int × Int := if plB p = true then chkP p l (rchd p l) (ordM l) [] else (-1, 2)
def drawE (p : Pl) (l : List Em) (n : Int) : List (Int × Int) × Int × Int :=
  if (chkR p l).2 ≠ 0 then ([], 0, (chkR p l).2) else if n < 0 ∨ ((rchd p l).length : Int) ≤ n then ([], 0, 6) else (((rchd p l).getD n.toNat Er0).draw, ((rchd p l).getD n.toNat Er0).bye, 0)
def lastR (p : Pl) (l : List Em) : Er := (rchd p l).getD ((rchd p l).length - 1) Er0
def opnR (r : Er) : List (Int × Int) := r.draw.filter fun x => (aget x r.mg).isNone
def openE (p : Pl) (l : List Em) : List (Int × Int) × Int :=
  if (chkR p l).2 ≠ 0 then ([], (chkR p l).2) else if (rchd p l).length = 0 then ([], 0) else (opnR (lastR p l), 0)
def tableE (p : Pl) (l : List Em) : List Ln × Int := if (chkR p l).2 ≠ 0 then ([], (chkR p l).2) else (tabL9 p (ovrd (rchd p l)), 0)
def overE (p : Pl) (l : List Em) : Bool × Int := if (chkR p l).2 ≠ 0 then (false, (chkR p l).2) else (decide ((rchd p l).length = (ovrd (rchd p l)).length), 0)
def qualE (p : Pl) (l : List Em) (n : Int) : List Int × Int :=
  if (chkR p l).2 ≠ 0 then ([], (chkR p l).2) else if (rchd p l).length ≠ (ovrd (rchd p l)).length then ([], 392) else if n < 1 ∨ p.t < n then ([], 2) else (((tabL9 p (ovrd (rchd p l))).take n.toNat).map (·.team), 0)

/-! ### rounds that are reached -/
theorem reach_get {p : Pl} {l : List Em} : ∀ (k n : Nat) (bf : List Er) (j : Nat) (r : Er), (reach p l k n bf)[j]? = some r →
    r.mg = mgs l ((n + j : Nat) : Int) r.draw ∧ (j + 1 < (reach p l k n bf).length → r.over = true) ∧ (drawR (ordT p (bf ++ (reach p l k n bf).take j)) (metT (bf ++ (reach p l k n bf).take j)) (byeT (bf ++ (reach p l k n bf).take j))) = (r.draw, r.bye, 0)
  | 0, n, bf, j, r, h => by simp [reach] at h
  | k + 1, n, bf, j, r, h => by
    unfold reach at h ⊢
    simp only at h ⊢
    by_cases he : (drawR (ordT p bf) (metT bf) (byeT bf)).2.2 ≠ 0
    · rw [if_pos he] at h; simp at h
    rw [if_neg he] at h ⊢
    have he' : (drawR (ordT p bf) (metT bf) (byeT bf)).2.2 = 0 := by simpa using he
    generalize hq : drawR (ordT p bf) (metT bf) (byeT bf) = q at *
    obtain ⟨d, y, e⟩ := q
    simp only at *
    subst he'
    by_cases ho : (Er.mk d y (mgs l n d)).over = true
    · rw [if_pos ho] at h ⊢
      cases j with
      | zero =>
        simp only [List.getElem?_cons_zero, Option.some.injEq] at h
        subst h
        exact ⟨rfl, fun _ => ho, by simpa using hq⟩
      | succ j =>
        simp only [List.getElem?_cons_succ] at h
        obtain ⟨h1, h2, h3⟩ := reach_get k (n + 1) _ j r h
        refine ⟨by rw [h1, show n + 1 + j = n + (j + 1) by omega], fun hl => h2 (by simpa using hl), ?_⟩
        simpa using h3
    · rw [if_neg ho] at h ⊢
      cases j with
      | zero =>
        simp only [List.getElem?_cons_zero, Option.some.injEq] at h
        subst h
        exact ⟨rfl, fun hl => by simp at hl, by simpa using hq⟩
      | succ j => simp at h
theorem reach_len (p : Pl) (l : List Em) : ∀ (k n : Nat) (bf : List Er), (reach p l k n bf).length ≤ k
  | 0, _, _ => by simp [reach]
  | k + 1, n, bf => by
    unfold reach
    simp only
    split
    · simp
    · split
      · have := reach_len p l k (n + 1) (bf ++ [⟨(drawR (ordT p bf) (metT bf) (byeT bf)).1, (drawR (ordT p bf) (metT bf) (byeT bf)).2.1, mgs l n (drawR (ordT p bf) (metT bf) (byeT bf)).1⟩])
        simp; omega
      · simp
theorem rchd_get {p : Pl} {l : List Em} {j : Nat} {r : Er} (h : (rchd p l)[j]? = some r) : r.mg = mgs l (j : Int) r.draw ∧ (j + 1 < (rchd p l).length → r.over = true) ∧ drawR (ordT p ((rchd p l).take j)) (metT ((rchd p l).take j)) (byeT ((rchd p l).take j)) = (r.draw, r.bye, 0) := by
  have := reach_get p.r.toNat 0 [] j r h
  rw [Nat.zero_add, List.nil_append] at this
  exact this
/-! ### the reference -/
def opnF (p : Pl) (l : List Em) (n : Nat) : List (Int × Int) :=
  if (rst p l n p.r.toNat 0 []).2.2.2 = true then (rst p l n p.r.toNat 0 []).2.1.filter fun x => (fnd l n x).isNone else []
end Go.Idl
