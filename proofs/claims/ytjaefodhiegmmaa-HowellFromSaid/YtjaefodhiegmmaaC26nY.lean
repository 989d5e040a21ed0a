/-
  Chapter 26: what 'fair' looks at, row by row.
-/
import Derived.Test.YtjaefodhiegmmaaC26nS
namespace Go.Idl
set_option linter.all false
open Go.Proofs
set_option maxHeartbeats 4000000
set_option maxRecDepth 40000

def plA (S : Nat) (D : List RowV) (j : Nat) : Bool := D.any fun w => Nat.beq j (w.n.toNat * S + w.s.toNat) || Nat.beq j (w.e.toNat * S + w.s.toNat)
def mtI (N : Nat) (w : RowV) : Nat := min w.n.toNat w.e.toNat * N + max w.n.toNat w.e.toNat
def meA (N : Nat) (D : List RowV) (j : Nat) : Bool := D.any fun w => Nat.beq j (mtI N w)
def siA (D : List RowV) (j : Nat) : Bool := D.any fun w => Nat.beq j w.n.toNat || Nat.beq j w.e.toNat
def stA (D : List RowV) (j : Nat) : Nat := D.countP fun w => Nat.beq j w.s.toNat
/-- One row, those before it (D), those of its round before it (E). -/
structure RowOK (T S C : Nat) (D E : List RowV) (r t : Nat) (w : RowV) : Prop where
  r : w.r = r
  t : w.t = t
  n1 : 1 ≤ w.n
  n2 : w.n ≤ 2 * T
  e1 : 1 ≤ w.e
  e2 : w.e ≤ 2 * T
  ne : w.n ≠ w.e
  s1 : 0 ≤ w.s
  s2 : w.s < S
  p1 : plA S D (w.n.toNat * S + w.s.toNat) = false
  p2 : plA S D (w.e.toNat * S + w.s.toNat) = false
  m : meA (2 * T + 1) D (mtI (2 * T + 1) w) = false
  q1 : siA E w.n.toNat = false
  q2 : siA E w.e.toNat = false
  c : stA E w.s.toNat < C
def FairL (T S C : Nat) (l : List RowV) : Prop := ∀ r t : Nat, t < T → ∀ w, l[r * T + t]? = some w → RowOK T S C (l.take (r * T + t)) ((l.take (r * T + t)).drop (r * T)) r t w

theorem FairL.take {T S C : Nat} {l : List RowV} (h : FairL T S C l) (k : Nat) : FairL T S C (l.take k) := by
  intro r t ht w hw
  rw [List.getElem?_take] at hw
  split at hw
  · rename_i hk
    have := h r t ht w hw
    rw [List.take_take, Nat.min_eq_left (by omega)]
    exact this
  · cases hw
theorem plA_snoc (S : Nat) (D : List RowV) (w : RowV) : (fun j => IV.bool (if j = w.e.toNat * S + w.s.toNat then true else if j = w.n.toNat * S + w.s.toNat then true else plA S D j)) = fun j => .bool (plA S (D ++ [w]) j) := by
  funext j
  congr 1
  simp only [plA, List.any_append, List.any_cons, List.any_nil, Bool.or_false]
  by_cases h1 : j = w.e.toNat * S + w.s.toNat
  · rw [if_pos h1]; subst h1; simp
  · rw [if_neg h1, show Nat.beq j (w.e.toNat * S + w.s.toNat) = false by rw [← Bool.not_eq_true, Nat.beq_eq]; exact h1]
    by_cases h2 : j = w.n.toNat * S + w.s.toNat
    · rw [if_pos h2]; subst h2; simp
    · rw [if_neg h2, show Nat.beq j (w.n.toNat * S + w.s.toNat) = false by rw [← Bool.not_eq_true, Nat.beq_eq]; exact h2]; simp
theorem siA_snoc (D : List RowV) (w : RowV) : (fun j => IV.bool (if j = w.e.toNat then true else if j = w.n.toNat then true else siA D j)) = fun j => .bool (siA (D ++ [w]) j) := by
  funext j
  congr 1
  simp only [siA, List.any_append, List.any_cons, List.any_nil, Bool.or_false]
  by_cases h1 : j = w.e.toNat
  · rw [if_pos h1]; subst h1; simp
  · rw [if_neg h1, show Nat.beq j w.e.toNat = false by rw [← Bool.not_eq_true, Nat.beq_eq]; exact h1]
    by_cases h2 : j = w.n.toNat
    · rw [if_pos h2]; subst h2; simp
    · rw [if_neg h2, show Nat.beq j w.n.toNat = false by rw [← Bool.not_eq_true, Nat.beq_eq]; exact h2]; simp
theorem meA_snoc (N : Nat) (D : List RowV) (w : RowV) : (fun j => IV.bool (if j = mtI N w then true else meA N D j)) = fun j => .bool (meA N (D ++ [w]) j) := by
  funext j
  congr 1
  simp only [meA, List.any_append, List.any_cons, List.any_nil, Bool.or_false]
  by_cases h1 : j = mtI N w
  · rw [if_pos h1]; subst h1; simp
  · rw [if_neg h1, show Nat.beq j (mtI N w) = false by rw [← Bool.not_eq_true, Nat.beq_eq]; exact h1]; simp
theorem stA_snoc (D : List RowV) (w : RowV) : (fun j => IV.int .i64 (if j = w.s.toNat then (stA D w.s.toNat : Int) + 1 else (stA D j : Int))) = fun j => .int .i64 ((stA (D ++ [w]) j : Nat) : Int) := by
  funext j
  congr 1
  simp only [stA, List.countP_append, List.countP_cons, List.countP_nil]
  by_cases h1 : j = w.s.toNat
  · rw [if_pos h1]; subst h1; simp
  · rw [if_neg h1, show Nat.beq j w.s.toNat = false by rw [← Bool.not_eq_true, Nat.beq_eq]; exact h1]; simp
end Go.Idl
