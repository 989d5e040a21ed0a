/-
  Chapter 38: the path where the lesser seed wins (plain).
-/
import Derived.Test.YtnnpdhccblelgaaDoorC38PartP
namespace Go.Idl
set_option linter.all false
open Go.Proofs
set_option maxHeartbeats 16000000
set_option maxRecDepth 100000

/-- All matches where the lesser seed wins. -/
def pmS (S : List Int) (q i : Nat) (z : Won × List Mt) : Won × List Mt :=
  if (sidW S z.1 q i).2.1 = 0 then z
  else (aset ((q : Int), (i : Int)) (if (sidW S z.1 q i).2.1 < (sidW S z.1 q i).1 then (sidW S z.1 q i).2.1 else (sidW S z.1 q i).1, if (sidW S z.1 q i).1 < (sidW S z.1 q i).2.1 then (sidW S z.1 q i).2.1 else (sidW S z.1 q i).1) z.1,
    z.2 ++ [⟨q, i, (sidW S z.1 q i).1, (sidW S z.1 q i).2.1⟩])
def pmI (S : List Int) (q : Nat) : Nat → Won × List Mt → Won × List Mt
  | 0, z => z
  | i + 1, z => pmS S q i (pmI S q i z)
def pmQ (r : Nat) (S : List Int) : Nat → Won × List Mt → Won × List Mt
  | 0, z => z
  | q + 1, z => pmI S q (matN r q) (pmQ r S q z)
def hasT (d : Int) (m : Mt) : Bool := decide (m.a = d) || decide (m.b = d)
def Flt38 (d : Int) (z z' : Won × List Mt) : Prop := z.1 = z'.1 ∧ z.2 = z'.2.filter (hasT d)
theorem pm_S {S : List Int} {d : Int} {q i : Nat} {z z' : Won × List Mt} (h : Flt38 d z z') : Flt38 d (ptS S d q i z) (pmS S q i z') := by
  obtain ⟨h1, h2⟩ := h
  unfold ptS pmS
  rw [h1]
  split
  · exact ⟨h1, h2⟩
  · refine ⟨rfl, ?_⟩
    simp only [List.filter_append]
    split
    · rename_i hh
      have : hasT d ⟨(q : Int), (i : Int), (sidW S z'.1 q i).1, (sidW S z'.1 q i).2.1⟩ = true := by
        simp only [hasT, Bool.or_eq_true, decide_eq_true_eq]
        exact hh
      rw [h2]
      simp [List.filter, this]
    · rename_i hh
      rw [h2]
      have : hasT d ⟨(q : Int), (i : Int), (sidW S z'.1 q i).1, (sidW S z'.1 q i).2.1⟩ = false := by
        simp only [hasT, Bool.or_eq_false_iff, decide_eq_false_iff_not]
        exact ⟨fun h => hh (.inl h), fun h => hh (.inr h)⟩
      simp [List.filter, this]
theorem pm_I {S : List Int} {d : Int} {q : Nat} {z z' : Won × List Mt} (h : Flt38 d z z') : ∀ i, Flt38 d (ptI S d q i z) (pmI S q i z')
  | 0 => h
  | i + 1 => pm_S (pm_I h i)
theorem pm_Q {r : Nat} {S : List Int} {d : Int} {z z' : Won × List Mt} (h : Flt38 d z z') : ∀ q, Flt38 d (ptQ r S d q z) (pmQ r S q z')
  | 0 => h
  | q + 1 => pm_I (pm_Q h q) _
def allM (n : Nat) : List Mt := (pmQ (rnd n) (seedsL n) (rnd n) (beg n, [])).2
theorem pathL_eq (n : Nat) (d : Int) : pathL n d = (allM n).filter (hasT d) := (pm_Q ⟨rfl, rfl⟩ _).2
def chkP (r n s : Int) : Int → List Mt → Bool
  | last, [] => decide (s = 1 → last = r - 1)
  | last, m :: P => (hasT s m && decide (last < m.r) && decide (m.r < r) && decide (0 ≤ m.r) && decide (1 ≤ m.a + m.b - s) && decide (m.a + m.b - s ≤ n) && decide ((m.a + m.b - s < s) ↔ (P.isEmpty = true ∧ 1 < s)) && decide (m.a + m.b = 2 ^ (r - m.r).toNat + 1)) && chkP r n s m.r P
def chkB (N n : Int) : Nat → Nat → List Mt → Bool
  | _, y, [] => decide ((y : Int) = N - n)
  | i, y, m :: L => decide (m.r = 0) && decide (m.i = i) && decide (1 ≤ m.a) && decide (m.a ≤ n) && (if m.b = 0 then decide (m.a ≤ N - n) && chkB N n (i + 1) (y + 1) L else decide (m.a + m.b = N + 1) && chkB N n (i + 1) y L)
def chkS (n : Nat) (M : List Mt) : Nat → Bool
  | 0 => true
  | s + 1 => !(M.filter (hasT ((s : Int) + 1))).isEmpty && chkP (rnd n) n ((s : Int) + 1) (-1) (M.filter (hasT ((s : Int) + 1))) && chkS n M s
theorem seeded64 : ∀ n, n < 65 → 2 ≤ n → chkS n (allM n) n = true := by decide +kernel
theorem brackets64 : ∀ n, n < 65 → 2 ≤ n → chkB (2 ^ rnd n : Nat) n 0 0 (brkL n) = true := by decide +kernel
end Go.Idl
