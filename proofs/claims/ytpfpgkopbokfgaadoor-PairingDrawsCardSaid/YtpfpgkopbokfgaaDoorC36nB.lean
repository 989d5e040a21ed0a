/-
  Chapter 36, plain law: sets of places as bits of a number of 32 bits.
-/
import Derived.Test.YtpfpgkopbokfgaaDoorIdlP
namespace Go.Idl
set_option linter.all false
set_option maxHeartbeats 4000000
set_option maxRecDepth 40000

theorem wrapu32 {n : Int} (h1 : 0 ≤ n) (h2 : n < 4294967296) : IntKind.u32.wrap n = n := by
  simp [IntKind.wrap, IntKind.bits, IntKind.signed]
  omega
def bitsL (m : Nat) : List Nat := (List.range 32).filter fun i => Nat.testBit m i
theorem bitsL_mem {m i : Nat} : i ∈ bitsL m ↔ i < 32 ∧ Nat.testBit m i = true := by simp [bitsL]
theorem bitsL_zero : bitsL 0 = [] := by decide
theorem bitsL_nodup (m : Nat) : (bitsL m).Nodup := List.nodup_range.filter _
theorem bitsL_sorted (m : Nat) : (bitsL m).Pairwise (· < ·) := List.pairwise_lt_range.filter _
theorem bitsL_ne {m : Nat} (h0 : m ≠ 0) (h : m < 2 ^ 32) : bitsL m ≠ [] := by
  intro e
  obtain ⟨i, hi⟩ := Nat.exists_testBit_of_ne_zero h0
  have : i < 32 := by
    apply Decidable.byContradiction
    intro hn
    have : m < 2 ^ i := Nat.lt_of_lt_of_le h (Nat.pow_le_pow_right (by decide) (by omega))
    rw [Nat.testBit_lt_two_pow this] at hi; cases hi
  have h2 : i ∈ bitsL m := bitsL_mem.2 ⟨this, hi⟩
  rw [e] at h2; cases h2
/-- The first place. -/
def tz (m : Nat) : Nat := (bitsL m).headD 32
theorem tz_spec {m : Nat} (h0 : m ≠ 0) (h : m < 2 ^ 32) : tz m < 32 ∧ Nat.testBit m (tz m) = true ∧ ∀ j, j < tz m → Nat.testBit m j = false := by
  have hs := bitsL_sorted m
  unfold tz
  cases hb : bitsL m with
  | nil => exact absurd hb (bitsL_ne h0 h)
  | cons a r =>
    have ha : a ∈ bitsL m := by rw [hb]; simp
    refine ⟨(bitsL_mem.1 ha).1, (bitsL_mem.1 ha).2, fun j hj => ?_⟩
    simp only [List.headD_cons] at hj
    rw [hb, List.pairwise_cons] at hs
    cases ht : Nat.testBit m j with
    | false => rfl
    | true =>
      have hj2 : j ∈ bitsL m := bitsL_mem.2 ⟨by have := (bitsL_mem.1 ha).1; omega, ht⟩
      rw [hb] at hj2
      rcases List.mem_cons.1 hj2 with e | e
      · omega
      · have := hs.1 j e; omega
theorem pred_bit {m a : Nat} (h1 : Nat.testBit m a = true) (h2 : ∀ j, j < a → Nat.testBit m j = false) (j : Nat) : Nat.testBit (m - 1) j = if j < a then true else if j = a then false else Nat.testBit m j := by
  have hz : m % 2 ^ a = 0 := by
    apply Nat.eq_of_testBit_eq
    intro i
    rw [Nat.testBit_mod_two_pow, Nat.zero_testBit]
    by_cases h : i < a
    · rw [h2 i h]; simp
    · simp [h]
  have hm : m = 2 ^ a * (m / 2 ^ a) := by have := Nat.div_add_mod m (2 ^ a); omega
  have hodd : (m / 2 ^ a) % 2 = 1 := by
    have : Nat.testBit (m / 2 ^ a) 0 = true := by rw [Nat.testBit_div_two_pow]; simpa using h1
    simpa [Nat.testBit_zero] using this
  obtain ⟨q, hq⟩ : ∃ q, m / 2 ^ a = 2 * q + 1 := ⟨m / 2 ^ a / 2, by omega⟩
  rw [hq] at hm
  have hp : 0 < 2 ^ a := Nat.pow_pos (by decide)
  have hm1 : m - 1 = 2 ^ a * (2 * q) + (2 ^ a - 1) := by rw [hm, Nat.mul_add]; omega
  rw [hm1, Nat.testBit_two_pow_mul_add _ (by omega)]
  by_cases hj : j < a
  · rw [if_pos hj, if_pos hj, Nat.testBit_two_pow_sub_one]; simpa using hj
  · rw [if_neg hj, if_neg hj]
    by_cases hja : j = a
    · subst hja; simp
    · rw [if_neg hja]
      obtain ⟨k, hk⟩ : ∃ k, j - a = k + 1 := ⟨j - a - 1, by omega⟩
      have h3 : Nat.testBit m j = Nat.testBit (2 * q + 1) (j - a) := by
        conv => lhs; rw [hm, show 2 ^ a * (2 * q + 1) = 2 ^ a * (2 * q + 1) + 0 by omega]
        rw [Nat.testBit_two_pow_mul_add _ hp, if_neg hj]
      rw [h3, hk, Nat.testBit_succ, Nat.testBit_succ]
      congr 1; omega
theorem clear_bit {m : Nat} (h0 : m ≠ 0) (h : m < 2 ^ 32) (j : Nat) : Nat.testBit (m &&& (m - 1)) j = (Nat.testBit m j && !(decide (j = tz m))) := by
  obtain ⟨_, h1, h2⟩ := tz_spec h0 h
  rw [Nat.testBit_and, pred_bit h1 h2]
  by_cases hj : j < tz m
  · rw [if_pos hj, h2 j hj]; rfl
  · rw [if_neg hj]
    by_cases hja : j = tz m
    · rw [if_pos hja]; simp [hja]
    · rw [if_neg hja]; simp [hja]
theorem low_bit {m : Nat} (h0 : m ≠ 0) (h : m < 2 ^ 32) : m &&& (2 ^ 32 - m) = 2 ^ tz m := by
  obtain ⟨h3, h1, h2⟩ := tz_spec h0 h
  apply Nat.eq_of_testBit_eq
  intro j
  rw [Nat.testBit_and, Nat.testBit_two_pow, show 2 ^ 32 - m = 2 ^ 32 - ((m - 1) + 1) by omega, Nat.testBit_two_pow_sub_succ (by omega), pred_bit h1 h2]
  by_cases hj : j < tz m
  · rw [if_pos hj, h2 j hj]; simp; omega
  · rw [if_neg hj]
    by_cases hja : j = tz m
    · rw [if_pos hja]; subst hja; simp [h1, h3]
    · rw [if_neg hja]
      cases Nat.testBit m j <;> simp <;> omega
theorem bitsL_clear {m : Nat} (h0 : m ≠ 0) (h : m < 2 ^ 32) : bitsL m = tz m :: bitsL (m &&& (m - 1)) := by
  have h1 : bitsL (m &&& (m - 1)) = (bitsL m).filter fun j => !(decide (j = tz m)) := by
    unfold bitsL
    rw [List.filter_filter]
    congr 1; funext j
    rw [clear_bit h0 h, Bool.and_comm]
  rw [h1]
  have hs := bitsL_nodup m
  unfold tz
  cases hb : bitsL m with
  | nil => exact absurd hb (bitsL_ne h0 h)
  | cons a r =>
    rw [hb, List.nodup_cons] at hs
    simp only [List.headD_cons, List.filter_cons, decide_true, Bool.not_true, Bool.false_eq_true, if_false, List.cons.injEq, true_and]
    rw [eq_comm, List.filter_eq_self]
    intro x hx
    have : x ≠ a := fun e => hs.1 (e ▸ hx)
    simp [this]
theorem bitsL_and (m o : Nat) : bitsL (m &&& o) = (bitsL m).filter fun i => Nat.testBit o i := by
  unfold bitsL
  rw [List.filter_filter]
  congr 1; funext j
  rw [Nat.testBit_and, Bool.and_comm]
def anb (a b : Nat) : Nat := (BitVec.ofNat 32 a &&& ~~~(BitVec.ofNat 32 b)).toNat
theorem anb_lt (a b : Nat) : anb a b < 2 ^ 32 := BitVec.isLt _
theorem anb_bit {a : Nat} (b : Nat) (h : a < 2 ^ 32) (j : Nat) : Nat.testBit (anb a b) j = (Nat.testBit a j && !(Nat.testBit b j)) := by
  unfold anb
  rw [BitVec.testBit_toNat, BitVec.getLsbD_and, BitVec.getLsbD_not, BitVec.getLsbD_ofNat, BitVec.getLsbD_ofNat]
  by_cases hj : j < 32
  · simp [hj]
  · have : Nat.testBit a j = false := Nat.testBit_lt_two_pow (Nat.lt_of_lt_of_le h (Nat.pow_le_pow_right (by decide) (by omega)))
    simp [this]
theorem bitsL_anb {m : Nat} (b : Nat) (h : m < 2 ^ 32) : bitsL (anb m (2 ^ b)) = (bitsL m).filter fun i => !(decide (i = b)) := by
  unfold bitsL
  rw [List.filter_filter]
  congr 1; funext j
  rw [anb_bit _ h, Nat.testBit_two_pow, Bool.and_comm]
  congr 2
  exact decide_eq_decide.2 eq_comm
theorem and_lt {m o : Nat} (h : m < 2 ^ 32) : m &&& o < 2 ^ 32 := Nat.lt_of_le_of_lt Nat.and_le_left h
theorem anb_le {m b : Nat} (h : m < 2 ^ 32) : anb m b ≤ m := by
  have : anb m b = m &&& anb m b := by
    apply Nat.eq_of_testBit_eq
    intro j
    rw [Nat.testBit_and, anb_bit _ h]
    cases Nat.testBit m j <;> simp
  rw [this]; exact Nat.and_le_left
theorem u32_and {a b : Nat} (ha : a < 2 ^ 32) (hb : b < 2 ^ 32) : bitsOf .and .u32 (a : Int) (b : Int) = ((a &&& b : Nat) : Int) := by
  have h := and_lt (o := b) ha
  simp only [bitsOf, BitVec.ofInt_natCast, BitVec.toNat_and, BitVec.toNat_ofNat, show IntKind.u32.bits = 32 from rfl]
  rw [Nat.mod_eq_of_lt ha, Nat.mod_eq_of_lt hb]
  exact wrapu32 (by omega) (by omega)
theorem u32_andNot {a b : Nat} : bitsOf .andNot .u32 (a : Int) (b : Int) = (anb a b : Int) := by
  have h := anb_lt a b
  simp only [bitsOf, BitVec.ofInt_natCast]
  exact wrapu32 (Int.natCast_nonneg _) (by show (anb a b : Int) < _; omega)
theorem u32_neg {m : Nat} (h0 : m ≠ 0) (h : m < 2 ^ 32) : IntKind.u32.wrap (0 - (m : Int)) = ((2 ^ 32 - m : Nat) : Int) := by
  simp [IntKind.wrap, IntKind.bits, IntKind.signed]
  omega
theorem u32_pred {m : Nat} (h0 : m ≠ 0) (h : m < 2 ^ 32) : IntKind.u32.wrap ((m : Int) - 1) = ((m - 1 : Nat) : Int) := by
  rw [wrapu32 (by omega) (by omega)]; omega
end Go.Idl
