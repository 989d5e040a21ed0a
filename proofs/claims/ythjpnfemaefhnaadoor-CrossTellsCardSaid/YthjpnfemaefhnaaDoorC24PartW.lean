/-
  Chapter 24: what is left without extremes; the nearest multiple of ten (plain).
  Chapter 24, the reference: without, Datum, Butler.
-/
import Derived.Test.YthjpnfemaefhnaaDoorC24PartV
import Derived.Test.YthjpnfemaefhnaaDoorC24PartI
import Derived.Test.YthjpnfemaefhnaaDoorC24PartG
namespace Go.Idl
set_option linter.all false
open Go.Proofs

theorem perm_sum {a b : List Int} (h : a.Perm b) : a.sum = b.sum := by
  induction h with
  | nil => rfl
  | cons x _ ih => simp only [List.sum_cons, ih]
  | swap x y l => simp only [List.sum_cons]; omega
  | trans _ _ h1 h2 => exact h1.trans h2
theorem leftL_step {l W : List Int} {lo hi : Int} (hp : l.Perm (lo :: W ++ [hi])) (hw : ∀ x ∈ W, lo ≤ x ∧ x ≤ hi) (hlh : lo ≤ hi) (d : Nat) : leftL W d = leftL l (d + 1) ∧ l.length = W.length + 2 := by
  have hl : l.length = W.length + 2 := by have := hp.length_eq; simp at this; omega
  refine ⟨?_, hl⟩
  have e : srtI l = lo :: srtI W ++ [hi] := by
    refine srtI_eq ?_ ?_
    · rw [List.pairwise_append]
      refine ⟨List.pairwise_cons.2 ⟨fun x hx => (hw x (srtI_mem.1 hx)).1, srtI_le W⟩, List.pairwise_singleton _ _, fun x hx y hy => ?_⟩
      simp only [List.mem_singleton] at hy
      subst hy
      rcases List.mem_cons.1 hx with h | h
      · omega
      · exact (hw x (srtI_mem.1 h)).2
    · exact (((srtI_perm W).cons lo).append_right [hi]).trans hp.symm
  unfold leftL
  rw [e, hl, List.cons_append, List.drop_succ_cons, show W.length + 2 - 2 * (d + 1) = W.length - 2 * d by omega]
  by_cases hd : d ≤ W.length
  · rw [List.drop_append_of_le_length (by rw [srtI_length]; exact hd), List.take_append_of_le_length (by rw [List.length_drop, srtI_length]; omega)]
  · rw [show W.length - 2 * d = 0 by omega]; simp
theorem leftL_nil (l : List Int) : (leftL l 0).sum = l.sum ∧ (leftL l 0).length = l.length := by
  have : leftL l 0 = srtI l := by unfold leftL; rw [List.drop_zero]; exact List.take_of_length_le (by rw [srtI_length]; omega)
  rw [this]
  exact ⟨perm_sum (srtI_perm l), srtI_length l⟩
def dst (x S m : Int) : Int := if x * m - S < 0 then -(x * m - S) else x * m - S
section
variable {S : Int} {m : Nat} (hm : 0 < m) (hS : -(7600 * (m : Int)) ≤ S ∧ S ≤ 7600 * m)
include hm
theorem dst_le (j : Int) : dst (10 * nearQ S (10 * m)) S m ≤ dst (10 * j) S m := by
  obtain ⟨⟨e1, e2⟩, -, -⟩ := nearQ_apart S hm
  generalize nearQ S (10 * m) = t at *
  obtain ⟨k, hk⟩ : ∃ k, j = t + k := ⟨j - t, by omega⟩
  subst hk
  have hT : 10 * (t + k) * (m : Int) = 10 * t * m + 10 * (k * m) := by rw [Int.mul_add, Int.add_mul, Int.mul_assoc 10 k]
  unfold dst
  rw [hT]
  rcases Int.lt_trichotomy k 0 with h | h | h
  · have := Int.mul_le_mul_of_nonneg_right (show k ≤ -1 by omega) (show (0 : Int) ≤ m by omega)
    generalize k * (m : Int) = P at *
    generalize 10 * t * (m : Int) = T at *
    split <;> split <;> omega
  · subst h; simp
  · have := Int.mul_le_mul_of_nonneg_right (show 1 ≤ k by omega) (show (0 : Int) ≤ m by omega)
    generalize k * (m : Int) = P at *
    generalize 10 * t * (m : Int) = T at *
    split <;> split <;> omega
theorem dst_lt (j : Int) (h : (nearQ S (10 * m)).natAbs < j.natAbs) : dst (10 * nearQ S (10 * m)) S m < dst (10 * j) S m := by
  obtain ⟨⟨e1, e2⟩, e3, e4⟩ := nearQ_apart S hm
  generalize nearQ S (10 * m) = t at *
  obtain ⟨k, hk⟩ : ∃ k, j = t + k := ⟨j - t, by omega⟩
  subst hk
  have hT : 10 * (t + k) * (m : Int) = 10 * t * m + 10 * (k * m) := by rw [Int.mul_add, Int.add_mul, Int.mul_assoc 10 k]
  unfold dst
  rw [hT]
  rcases Int.lt_trichotomy k 0 with hk | hk | hk
  · have h1 := Int.mul_le_mul_of_nonneg_right (show k ≤ -1 by omega) (show (0 : Int) ≤ m by omega)
    have h2 : k * (m : Int) = -(m : Int) → k = -1 := fun e => Int.eq_of_mul_eq_mul_right (show (m : Int) ≠ 0 by omega) (by rw [e]; omega)
    have h3 : t ≤ 0 → 10 * t * (m : Int) ≤ 0 := fun ht => Int.mul_nonpos_of_nonpos_of_nonneg (by omega) (by omega)
    generalize k * (m : Int) = P at *
    generalize 10 * t * (m : Int) = T at *
    by_cases hP : P = -(m : Int)
    · have := h2 hP
      split <;> split <;> omega
    · split <;> split <;> omega
  · subst hk; simp at h
  · have h1 := Int.mul_le_mul_of_nonneg_right (show 1 ≤ k by omega) (show (0 : Int) ≤ m by omega)
    have h2 : k * (m : Int) = m → k = 1 := fun e => Int.eq_of_mul_eq_mul_right (show (m : Int) ≠ 0 by omega) (by rw [e]; omega)
    have h3 : 0 ≤ t → 0 ≤ 10 * t * (m : Int) := fun ht => Int.mul_nonneg (by omega) (by omega)
    generalize k * (m : Int) = P at *
    generalize 10 * t * (m : Int) = T at *
    by_cases hP : P = m
    · have := h2 hP
      split <;> split <;> omega
    · split <;> split <;> omega
theorem dst_neg (h : nearQ S (10 * m) ≠ 0) : dst (10 * nearQ S (10 * m)) S m < dst (10 * -nearQ S (10 * m)) S m := by
  obtain ⟨⟨e1, e2⟩, -, -⟩ := nearQ_apart S hm
  generalize nearQ S (10 * m) = t at *
  have hT : 10 * -t * (m : Int) = -(10 * t * m) := by rw [Int.mul_neg, Int.neg_mul]
  unfold dst
  rw [hT]
  rcases Int.lt_or_le t 0 with ht | ht
  · have := Int.mul_le_mul_of_nonneg_right (show 10 * t ≤ -10 by omega) (show (0 : Int) ≤ m by omega)
    generalize 10 * t * (m : Int) = T at *
    split <;> split <;> omega
  · have := Int.mul_le_mul_of_nonneg_right (show 10 ≤ 10 * t by omega) (show (0 : Int) ≤ m by omega)
    generalize 10 * t * (m : Int) = T at *
    split <;> split <;> omega
include hS
theorem near_top : (nearQ S (10 * m)).natAbs ≤ 760 := by
  obtain ⟨⟨e1, e2⟩, -, -⟩ := nearQ_apart S hm
  generalize nearQ S (10 * m) = t at *
  rcases Int.lt_or_le t (-760) with h | h
  · have := Int.mul_le_mul_of_nonneg_right (show 10 * t ≤ -7610 by omega) (show (0 : Int) ≤ m by omega)
    generalize 10 * t * (m : Int) = T at *
    omega
  · rcases Int.lt_or_le 760 t with h2 | h2
    · have := Int.mul_le_mul_of_nonneg_right (show 7610 ≤ 10 * t by omega) (show (0 : Int) ≤ m by omega)
      generalize 10 * t * (m : Int) = T at *
      omega
    · omega
end
/-- What is known of the best multiple of ten up to now, ahead of 10 c - 10. -/
def BestI (D : Int → Int) (t : Int) (c : Nat) (b : Int) : Prop := (t.natAbs + 1 ≤ c → b = t ∨ D t < D b) ∧ (c ≤ t.natAbs → b = t) ∧ b.natAbs ≤ 760
theorem best_step {D : Int → Int} {t : Int} (f1 : ∀ j, D t ≤ D j) (f2 : ∀ j, t.natAbs < j.natAbs → D t < D j) (f3 : t ≠ 0 → D t < D (-t)) {c : Nat} {b b1 b2 : Int} (hc : c + 1 ≤ 761) (h : BestI D t (c + 1) b)
    (h1 : b1 = if D c < D b then (c : Int) else b) (h2 : b2 = if D (-(c : Int)) < D b1 then -(c : Int) else b1) : BestI D t c b2 := by
  obtain ⟨g1, g2, g3⟩ := h
  have a1 := f1 c
  have a2 := f1 (-(c : Int))
  have a3 := f2 c
  have a4 := f2 (-(c : Int))
  have hb1 : b1 = c ∨ b1 = b := by rw [h1]; split <;> simp
  have hb2 : b2 = -(c : Int) ∨ b2 = b1 := by rw [h2]; split <;> simp
  refine ⟨fun hlt => ?_, fun hge => ?_, ?_⟩
  · have := a3 (by omega)
    have := a4 (by omega)
    rcases hb2 with e | e
    · rw [e]; exact .inr (by omega)
    · rw [e]
      rcases hb1 with e1 | e1
      · rw [e1]; exact .inr (by omega)
      · rw [e1]; exact g1 (by omega)
  · rcases Nat.lt_or_ge c t.natAbs with hlt | hge2
    · have eb := g2 (by omega)
      rw [eb] at h1
      rw [if_neg (by omega)] at h1
      rw [h1, if_neg (by omega)] at h2
      exact h2
    · have hct : c = t.natAbs := by omega
      have gg := g1 (by omega)
      rcases Int.lt_or_le t 0 with ht | ht
      · have e : -(c : Int) = t := by omega
        have e3 := f3 (by omega)
        have e4 : (c : Int) = -t := by omega
        rw [e] at h2
        rw [e4] at h1
        by_cases hbt : b1 = t
        · rw [hbt, if_neg (by omega)] at h2; exact h2
        · have : D t < D b1 := by
            rw [h1] at hbt ⊢
            split at hbt
            · rename_i hh; rw [if_pos hh]; exact e3
            · rename_i hh; rw [if_neg hh]; exact gg.resolve_left hbt
          rw [if_pos this] at h2; exact h2
      · have e : (c : Int) = t := by omega
        rw [e] at h1
        have eb1 : b1 = t := by
          rcases gg with h | h
          · rw [h, if_neg (by omega)] at h1; exact h1
          · rw [if_pos h] at h1; exact h1
        rw [eb1, if_neg (by omega)] at h2
        exact h2
  · omega
theorem best_start {D : Int → Int} {t : Int} (f2 : ∀ j, t.natAbs < j.natAbs → D t < D j) (f3 : t ≠ 0 → D t < D (-t)) (h : t.natAbs ≤ 760) : BestI D t 761 760 := by
  refine ⟨fun _ => ?_, fun h => by omega, by decide⟩
  rcases Nat.lt_or_ge t.natAbs 760 with h1 | h1
  · exact .inr (f2 760 (by omega))
  · rcases Int.lt_or_le t 0 with ht | ht
    · have e : -t = 760 := by omega
      rw [← e]; exact .inr (f3 (by omega))
    · exact .inl (by omega)
end Go.Idl
namespace Go.Idl
set_option linter.all false
open Go.Proofs
set_option maxHeartbeats 8000000
set_option maxRecDepth 40000

/-- A list without two of its elements. -/
def kp (l : List Int) (a b : Nat) : Nat → List Int
  | 0 => []
  | k + 1 => kp l a b k ++ if k = a ∨ k = b then [] else [l[k]?.getD 0]
theorem kp_le (l : List Int) (a b : Nat) : ∀ k, (kp l a b k).length ≤ k
  | 0 => by simp [kp]
  | k + 1 => by
    have := kp_le l a b k
    unfold kp
    split <;> simp <;> omega
theorem kp_perm (l : List Int) {a b : Nat} (hab : a ≠ b) : ∀ k, k ≤ l.length → (l.take k).Perm ((if b < k then [l[b]?.getD 0] else []) ++ kp l a b k ++ (if a < k then [l[a]?.getD 0] else []))
  | 0, _ => by simp [kp]
  | k + 1, hk => by
    have ih := kp_perm l hab k (by omega)
    rw [List.perm_iff_count] at ih ⊢
    intro x
    have h1 := ih x
    rw [List.take_succ_eq_append_getElem (by omega)]
    have hg : l[k] = l[k]?.getD 0 := by simp [show k < l.length by omega]
    rw [hg]
    unfold kp
    simp only [List.count_append] at h1 ⊢
    rcases Nat.lt_trichotomy a k with h2 | h2 | h2 <;> rcases Nat.lt_trichotomy b k with h3 | h3 | h3
    · rw [if_pos h3, if_pos h2] at h1
      rw [if_pos (by omega), if_neg (by omega), if_pos (by omega)]
      try simp at h1
      try simp
      try omega
    · subst h3
      rw [if_neg (by omega), if_pos h2] at h1
      rw [if_pos (by omega), if_pos (by omega), if_pos (by omega)]
      try simp at h1
      try simp
      try omega
    · rw [if_neg (by omega), if_pos h2] at h1
      rw [if_neg (by omega), if_neg (by omega), if_pos (by omega)]
      try simp at h1
      try simp
      try omega
    · subst h2
      rw [if_pos h3, if_neg (by omega)] at h1
      rw [if_pos (by omega), if_pos (by omega), if_pos (by omega)]
      try simp at h1
      try simp
      try omega
    · omega
    · subst h2
      rw [if_neg (by omega), if_neg (by omega)] at h1
      rw [if_neg (by omega), if_pos (by omega), if_pos (by omega)]
      try simp at h1
      try simp
      try omega
    · rw [if_pos h3, if_neg (by omega)] at h1
      rw [if_pos (by omega), if_neg (by omega), if_neg (by omega)]
      try simp at h1
      try simp
      try omega
    · subst h3
      rw [if_neg (by omega), if_neg (by omega)] at h1
      rw [if_pos (by omega), if_pos (by omega), if_neg (by omega)]
      try simp at h1
      try simp
      try omega
    · rw [if_neg (by omega), if_neg (by omega)] at h1
      rw [if_neg (by omega), if_neg (by omega), if_neg (by omega)]
      try simp at h1
      try simp
      try omega
def WoR (l W : List Int) : Prop := ∃ lo hi, l.Perm (lo :: W ++ [hi]) ∧ (∀ x ∈ W, lo ≤ x ∧ x ≤ hi) ∧ lo ≤ hi
theorem without24_fun (l : List Int) (h2 : 2 ≤ l.length) (hl : l.length < 2 ^ 31) : FN 50 [.fz 1 (ints l)] (fun v => ∃ W, WoR l W ∧ v = .fz 1 (ints W)) := by
  refine IFun.of_bodyZ false 9 [12, 23, 28, 48, 53, 63] Tryd.func50 rfl Tryd.call50 rfl fun R hR => ?_
  have hq0 := ints_q (show 0 < l.length by omega) rfl
  simp [go_sem]
  refine IWp.loopT (α := Nat × Nat) (fun x => (⟨false, 72, 9, [12, 23, 28, 48, 53, 63], glT, [(0, .fz 1 (ints l)), (2, .nils), (3, .int .i64 (x.2 : Int)), (4, .int .i64 (x.1 : Int))], []⟩, []))
    (fun x => x.1 ≤ l.length ∧ x.2 < l.length ∧ ∀ j, j < x.1 → l[j]?.getD 0 ≤ l[x.2]?.getD 0) (fun x => l.length - x.1) (0, 0) ⟨by simp, by simp; omega, fun j h => by simp at h⟩ (by simp [go_sem]) ?_
  rintro ⟨i, h⟩ ⟨hi, hh, hg⟩
  simp only at hi hh hg
  have gd : ∀ j (hj : j < l.length), l[j] = l[j]?.getD 0 := fun j hj => by simp [hj]
  by_cases hil : i < l.length
  · have hil' : (i : Int) < l.length := by omega
    have w1 : IntKind.i64.wrap ((i : Int) + 1) = i + 1 := wrap64 (by omega) (by omega)
    have x1 := gd i hil
    have x2 := gd h hh
    have q1 := ints_q hil x1
    have q2 := ints_q hh x2
    obtain ⟨a, ha⟩ : ∃ a, l[i]?.getD 0 = a := ⟨_, rfl⟩
    obtain ⟨b, hb⟩ : ∃ b, l[h]?.getD 0 = b := ⟨_, rfl⟩
    rw [ha] at x1 q1
    rw [hb] at x2 q2 hg
    by_cases hab : b < a
    · simp [go_sem, hil, hil', hh, x1, x2, q1, q2, hab, w1]
      exact ⟨by decide +kernel, i + 1, i, by omega, ⟨by omega, hil, fun j hj => by
        rw [ha]
        rcases Nat.lt_or_ge j i with hji | hji
        · have := hg j hji; omega
        · rw [show j = i by omega]; omega⟩, by omega⟩
    · simp [go_sem, hil, hil', hh, x1, x2, q1, q2, hab, w1]
      exact ⟨by decide +kernel, i + 1, h, by omega, ⟨by omega, hh, fun j hj => by
        rw [hb]
        rcases Nat.lt_or_ge j i with hji | hji
        · exact hg j hji
        · rw [show j = i by omega]; omega⟩, by omega⟩
  obtain rfl : i = l.length := by omega
  have w1m : IntKind.i64.wrap (-1) = -1 := by decide
  simp [go_sem, w1m]
  refine IWp.loopT (α := Nat × Int) (fun x => (⟨false, 72, 9, [12, 23, 28, 48, 53, 63], glT, [(0, .fz 1 (ints l)), (2, .nils), (3, .int .i64 (h : Int)), (5, .int .i64 x.2), (6, .int .i64 (x.1 : Int))], []⟩, []))
    (fun x => x.1 ≤ l.length ∧ ((x.2 = -1 ∧ ∀ j, j < x.1 → j = h) ∨ ∃ q : Nat, x.2 = q ∧ q < x.1 ∧ q ≠ h ∧ ∀ j, j < x.1 → j ≠ h → l[q]?.getD 0 ≤ l[j]?.getD 0)) (fun x => l.length - x.1) (0, -1) ⟨by simp, .inl ⟨rfl, fun j h => by simp at h⟩⟩ (by simp [go_sem]) ?_
  rintro ⟨i, lw⟩ ⟨hi, hw⟩
  simp only at hi hw
  by_cases hil : i < l.length
  · have hil' : (i : Int) < l.length := by omega
    have w1 : IntKind.i64.wrap ((i : Int) + 1) = i + 1 := wrap64 (by omega) (by omega)
    have x1 := gd i hil
    have q1 := ints_q hil x1
    obtain ⟨a, ha⟩ : ∃ a, l[i]?.getD 0 = a := ⟨_, rfl⟩
    rw [ha] at x1 q1
    by_cases hih : i = h
    · subst hih
      have new : (lw = -1 ∧ ∀ j, j < i + 1 → j = i) ∨ ∃ q : Nat, lw = q ∧ q < i + 1 ∧ q ≠ i ∧ ∀ j, j < i + 1 → j ≠ i → l[q]?.getD 0 ≤ l[j]?.getD 0 := by
        rcases hw with ⟨rfl, hw⟩ | ⟨q, rfl, hq1, hq2, hq3⟩
        · exact .inl ⟨rfl, fun j hj => by
            by_cases e : j = i
            · exact e
            · exact hw j (by omega)⟩
        · exact .inr ⟨q, rfl, by omega, hq2, fun j hj hji => hq3 j (by omega) hji⟩
      rcases hw with ⟨rfl, hw⟩ | ⟨q, rfl, hq1, hq2, hq3⟩
      · simp [go_sem, hil, hil', x1, q1, hq0, w1]
        exact ⟨by decide +kernel, i + 1, -1, ⟨rfl, by omega⟩, ⟨by omega, new⟩, by omega⟩
      · have hql : q < l.length := by omega
        have x2 := gd q hql
        have q2 := ints_q hql x2
        have hq0' : ¬ (q : Int) < 0 := by omega
        simp [go_sem, hil, hil', x1, q1, q2, hq0', w1]
        exact ⟨by decide +kernel, i + 1, q, ⟨rfl, by omega⟩, ⟨by omega, new⟩, by omega⟩
    · have hih' : ¬ (i : Int) = h := by omega
      rcases hw with ⟨rfl, hw⟩ | ⟨q, rfl, hq1, hq2, hq3⟩
      · simp [go_sem, hil, hil', hih, hih', x1, q1, hq0, w1]
        exact ⟨by decide +kernel, i + 1, i, ⟨rfl, by omega⟩, ⟨by omega, .inr ⟨i, rfl, by omega, hih, fun j hj hjh => by
          by_cases e : j = i
          · subst e; omega
          · exact absurd (hw j (by omega)) hjh⟩⟩, by omega⟩
      · have hql : q < l.length := by omega
        have x2 := gd q hql
        have q2 := ints_q hql x2
        obtain ⟨b, hb⟩ : ∃ b, l[q]?.getD 0 = b := ⟨_, rfl⟩
        rw [hb] at x2 q2 hq3
        have hq0' : ¬ (q : Int) < 0 := by omega
        by_cases hab : a < b
        · simp [go_sem, hil, hil', hih, hih', x1, q1, x2, q2, hql, hq0', hab, w1]
          exact ⟨by decide +kernel, i + 1, i, ⟨rfl, by omega⟩, ⟨by omega, .inr ⟨i, rfl, by omega, hih, fun j hj hjh => by
            by_cases e : j = i
            · subst e; omega
            · have := hq3 j (by omega) hjh; omega⟩⟩, by omega⟩
        · simp [go_sem, hil, hil', hih, hih', x1, q1, x2, q2, hql, hq0', hab, w1]
          exact ⟨by decide +kernel, i + 1, q, ⟨rfl, by omega⟩, ⟨by omega, .inr ⟨q, rfl, by omega, hq2, fun j hj hjh => by
            by_cases e : j = i
            · subst e; omega
            · rw [hb]; exact hq3 j (by omega) hjh⟩⟩, by omega⟩
  obtain rfl : i = l.length := by omega
  obtain ⟨q, rfl, hq1, hq2, hq3⟩ : ∃ q : Nat, lw = q ∧ q < l.length ∧ q ≠ h ∧ ∀ j, j < l.length → j ≠ h → l[q]?.getD 0 ≤ l[j]?.getD 0 := by
    rcases hw with ⟨_, hw⟩ | hw
    · have h1 := hw 0 (by omega)
      have h2 := hw 1 (by omega)
      omega
    · exact hw
  have hWo : WoR l (kp l h q l.length) := by
    have hp := kp_perm l (show h ≠ q from fun e => hq2 e.symm) l.length (Nat.le_refl _)
    rw [List.take_of_length_le (Nat.le_refl _), if_pos hq1, if_pos hh] at hp
    have hmem : ∀ k, k ≤ l.length → ∀ x ∈ kp l h q k, ∃ j, j < l.length ∧ j ≠ h ∧ x = l[j]?.getD 0 := by
      intro k
      induction k with
      | zero => intro _ x hx; simp [kp] at hx
      | succ k ih =>
        intro hk x hx
        unfold kp at hx
        rcases List.mem_append.1 hx with hx | hx
        · exact ih (by omega) x hx
        · split at hx
          · cases hx
          · rename_i hn
            simp only [List.mem_singleton] at hx
            exact ⟨k, by omega, fun e => hn (.inl e), hx⟩
    refine ⟨l[q]?.getD 0, l[h]?.getD 0, by simpa using hp, fun x hx => ?_, hg q hq1⟩
    obtain ⟨j, hj, hjh, rfl⟩ := hmem _ (Nat.le_refl _) x hx
    exact ⟨hq3 j hj hjh, hg j hj⟩
  have hR2 := fun r σ hk => hR r σ (.fz 1 (ints (kp l h q l.length))) ⟨_, hWo, rfl⟩ hk
  have hkl := kp_le l h q
  simp [go_sem]
  refine IWp.ownNilS 1 7 (by decide) rfl ?_
  refine IWp.loopT (α := Nat) (fun i => (⟨false, 72, 9, [12, 23, 28, 48, 53, 63], glT, [(0, .fz 1 (ints l)), (2, .nils), (3, .int .i64 (h : Int)), (5, .int .i64 (q : Int)), (7, .sl 0 (kp l h q i).length 0 (kp l h q i).length none), (8, .int .i64 (i : Int))], []⟩, [.rows 1 (ints (kp l h q i))]))
    (fun i => i ≤ l.length) (fun i => l.length - i) 0 (by simp) (by simp [go_sem, kp]) ?_
  intro i hi
  by_cases hil : i < l.length
  · have hil' : (i : Int) < l.length := by omega
    have w1 : IntKind.i64.wrap ((i : Int) + 1) = i + 1 := wrap64 (by omega) (by omega)
    have x1 := gd i hil
    have q1 := ints_q hil x1
    have hs : kp l h q (i + 1) = kp l h q i ++ if i = h ∨ i = q then [] else [l[i]?.getD 0] := rfl
    have hkli := hkl i
    obtain ⟨a, ha⟩ : ∃ a, l[i]?.getD 0 = a := ⟨_, rfl⟩
    rw [ha] at x1 q1 hs
    generalize kp l h q i = T at *
    by_cases hih : i = h
    · rw [if_pos (.inl hih), List.append_nil] at hs
      subst hih
      simp [go_sem, hil, hil', w1]
      exact ⟨i + 1, ⟨⟨by rw [hs], by omega⟩, by rw [hs]⟩, by omega, by omega⟩
    · have hih' : ¬ (i : Int) = h := by omega
      by_cases hiq : i = q
      · rw [if_pos (.inr hiq), List.append_nil] at hs
        subst hiq
        simp [go_sem, hil, hil', hih, hih', w1]
        exact ⟨i + 1, ⟨⟨by rw [hs], by omega⟩, by rw [hs]⟩, by omega, by omega⟩
      · have hiq' : ¬ (i : Int) = q := by omega
        rw [if_neg (by omega)] at hs
        simp [go_sem, hil, hil', hih, hih', hiq, hiq', x1, w1]
        exact ⟨by omega, i + 1, ⟨⟨by rw [hs]; simp, by omega⟩, by rw [hs, ints_snoc]⟩, by omega, by omega⟩
  obtain rfl : i = l.length := by omega
  have hklen := hkl l.length
  generalize kp l h q l.length = T at *
  simp [go_sem]
  exact hR2 _ _ (by simp [go_sem])
theorem distance24_fun (x S m : Int) (hx : -8000 ≤ x ∧ x ≤ 8000) (hS : -200000 ≤ S ∧ S ≤ 200000) (hm : 0 ≤ m ∧ m ≤ 24) : FN 51 [.int .i64 x, .int .i64 S, .int .i64 m] (fun v => v = .int .i64 (dst x S m)) := by
  refine IFun.of_bodyZ false 8 [14] Tryd.func51 rfl Tryd.call51 rfl fun R hR => ?_
  have h1 := Int.mul_le_mul_of_nonneg_right hx.1 hm.1
  have h2 := Int.mul_le_mul_of_nonneg_right hx.2 hm.1
  have w1 : IntKind.i64.wrap (x * m) = x * m := wrap64 (by omega) (by omega)
  have w2 : IntKind.i64.wrap (x * m - S) = x * m - S := wrap64 (by omega) (by omega)
  unfold dst at hR
  obtain ⟨z, hz⟩ : ∃ z, x * m - S = z := ⟨_, rfl⟩
  rw [hz] at w2 hR
  by_cases h : z < 0
  · have w3 : IntKind.i64.wrap (-z) = -z := wrap64 (by omega) (by omega)
    rw [if_pos h] at hR
    simp [go_sem, w1, hz, w2, h, w3]
    exact hR _ _ _ rfl (by simp [go_sem])
  · rw [if_neg h] at hR
    simp [go_sem, w1, hz, w2, h]
    exact hR _ _ _ rfl (by simp [go_sem])
theorem datum24_fun (l : List Int) (d : Int) (hl : l.length < 2 ^ 63) (hd : -2 ^ 63 ≤ d ∧ d < 2 ^ 63) : FN 24 [.fz 1 (ints l), .int .i64 d] (fun v => v = .tup [.int .i64 (datI l d), .int .i64 (datE l d)]) := by
  refine IFun.of_bodyZ false 12 [15, 29, 32, 40, 50, 63, 76] Tryd.func24 rfl Tryd.call24 rfl fun R hR => ?_
  have cr := right24_fun l hl
  simp [go_sem]
  refine cr.callF (by simp [go_sem]) ?_
  rintro _ rfl
  by_cases h0 : exE l = 0
  case neg =>
    have e : datE l d = exE l := by unfold datE; rw [if_pos h0]
    have e2 : datI l d = 0 := by unfold datI; rw [if_neg (by rw [e]; exact h0)]
    rw [e, e2] at hR
    simp [go_sem, h0]
    exact hR _ _ _ rfl (by simp [go_sem])
  obtain ⟨h24, hbd⟩ := exE_ok h0
  by_cases hbad : d < 0 ∨ 24 < d ∨ (l.length : Int) ≤ 2 * d
  · have e : datE l d = 2 := by
      unfold datE
      rw [if_neg (by simp [h0]), if_pos]
      by_cases hn : l = []
      · exact .inr (.inl hn)
      · have : 0 < l.length := List.length_pos_iff.2 hn
        omega
    have e2 : datI l d = 0 := by unfold datI; rw [if_neg (by rw [e]; decide)]
    rw [e, e2] at hR
    by_cases b1 : d < 0
    · simp [go_sem, h0, b1]
      exact hR _ _ _ rfl (by simp [go_sem])
    · by_cases b2 : 24 < d
      · simp [go_sem, h0, b1, b2]
        exact hR _ _ _ rfl (by simp [go_sem])
      · have w1 : IntKind.i64.wrap (2 * d) = 2 * d := wrap64 (by omega) (by omega)
        have b3 : (l.length : Int) ≤ 2 * d := by omega
        simp [go_sem, h0, b1, b2, w1, b3]
        exact hR _ _ _ rfl (by simp [go_sem])
  · have b1 : ¬ d < 0 := by omega
    have b2 : ¬ 24 < d := by omega
    have b3 : ¬ (l.length : Int) ≤ 2 * d := by omega
    have w1 : IntKind.i64.wrap (2 * d) = 2 * d := wrap64 (by omega) (by omega)
    obtain ⟨D, hD⟩ : ∃ D : Nat, d = D := ⟨d.toNat, by omega⟩
    subst hD
    have eE : datE l (D : Int) = 0 := by
      unfold datE
      rw [if_neg (by simp [h0]), if_neg]
      rintro (h | h | h)
      · omega
      · subst h; simp at b3; omega
      · omega
    have eI : datI l (D : Int) = 10 * nearQ (leftL l D).sum (10 * (leftL l D).length) := by unfold datI; rw [if_pos eE]; rfl
    rw [eE, eI] at hR
    simp [go_sem, h0, b2, w1, b3]
    refine IWp.loopT (α := Nat × List Int) (fun x => (⟨false, 80, 12, [15, 29, 32, 40, 50, 63, 76], glT, [(0, .fz 1 (ints x.2)), (1, .int .i64 (D : Int)), (4, .int .i64 0), (5, .int .i64 0), (7, .int .i64 (x.1 : Int))], []⟩, []))
      (fun x => x.1 ≤ D ∧ x.2.length + 2 * x.1 = l.length ∧ (∀ y ∈ x.2, -7600 ≤ y ∧ y ≤ 7600) ∧ leftL x.2 (D - x.1) = leftL l D) (fun x => D - x.1) (0, l) ⟨by simp, by simp, hbd, rfl⟩ (by simp [go_sem]) ?_
    rintro ⟨i, W⟩ ⟨hi, hWl, hWb, hWL⟩
    simp only at hi hWl hWb hWL
    by_cases hiD : i < D
    · have hiD' : (i : Int) < D := by omega
      have v1 : IntKind.i64.wrap ((i : Int) + 1) = i + 1 := wrap64 (by omega) (by omega)
      have cw := without24_fun W (by omega) (by omega)
      simp [go_sem, hiD, hiD']
      refine cw.callF (by simp [go_sem]) ?_
      rintro _ ⟨W', ⟨lo, hi', hp, hw, hlh⟩, rfl⟩
      simp [go_sem, v1]
      obtain ⟨s1, s2⟩ := leftL_step hp hw hlh (D - (i + 1))
      refine ⟨i + 1, W', ⟨rfl, by omega⟩, ⟨by omega, by omega, fun y hy => hWb y (hp.symm.subset (by simp [hy])), ?_⟩, by omega⟩
      rw [s1, ← hWL]
      congr 1; omega
    obtain rfl : i = D := by omega
    rw [Nat.sub_self] at hWL
    obtain ⟨hs1, hs2⟩ := leftL_nil W
    rw [← hWL, hs1, hs2] at hR
    have hm0 : 0 < W.length := by omega
    have hsb := fun k => sum_take_bd (l := W) (by omega) hWb k
    have hss := fun k (hk : k < W.length) => @sum_succ24 W k hk
    have hSb := sum_bd W hWb
    simp [go_sem]
    refine IWp.loopT (α := Nat) (fun i => (⟨false, 80, 12, [15, 29, 32, 40, 50, 63, 76], glT, [(0, .fz 1 (ints W)), (4, .int .i64 0), (5, .int .i64 0), (8, .int .i64 (W.take i).sum), (9, .int .i64 (i : Int))], []⟩, []))
      (fun i => i ≤ W.length) (fun i => W.length - i) 0 (by simp) (by simp [go_sem]) ?_
    intro i hi
    by_cases h : i < W.length
    · have h' : (i : Int) < W.length := by omega
      have v1 : IntKind.i64.wrap ((i : Int) + 1) = i + 1 := wrap64 (by omega) (by omega)
      have s1 := hss i h
      have s2 := hsb (i + 1)
      obtain ⟨x, hx⟩ : ∃ x, W[i] = x := ⟨_, rfl⟩
      have qx := ints_q h hx
      rw [hx] at s1
      have v2 : IntKind.i64.wrap ((W.take i).sum + x) = (W.take (i + 1)).sum := by rw [← s1]; exact wrap64 (by omega) (by omega)
      generalize (W.take i).sum = S at *
      simp [go_sem, h, h', hx, qx, v1, v2]
      exact ⟨i + 1, ⟨rfl, by omega⟩, by omega, by omega⟩
    obtain rfl : i = W.length := by omega
    have hT : (W.take W.length).sum = W.sum := by rw [List.take_of_length_le (Nat.le_refl _)]
    rw [hT]
    have hSs : -200000 ≤ W.sum ∧ W.sum ≤ 200000 := by have := hsb W.length; rwa [hT] at this
    have hm24 : W.length ≤ 24 := by omega
    obtain ⟨S, hSe⟩ : ∃ S, W.sum = S := ⟨_, rfl⟩
    obtain ⟨m, hme⟩ : ∃ m, W.length = m := ⟨_, rfl⟩
    rw [hSe] at hSs hSb hR ⊢
    rw [hme] at hSb hm0 hm24 hR
    have f1 := fun j => dst_le (S := S) hm0 j
    have f2 := fun j => dst_lt (S := S) hm0 j
    have f3 := dst_neg (S := S) hm0
    have f4 := near_top hm0 hSb
    generalize nearQ S (10 * m) = t at *
    have hst := best_start (D := fun j => dst (10 * j) S m) (t := t) f2 f3 f4
    simp [go_sem]
    refine IWp.loopT (α := Nat × Int × Int) (fun x => (⟨false, 80, 12, [15, 29, 32, 40, 50, 63, 76], glT, [(0, .fz 1 (ints W)), (4, .int .i64 0), (5, .int .i64 0), (8, .int .i64 S), (10, .int .i64 x.2.2), (11, .int .i64 x.2.1)], []⟩, []))
      (fun x => x.1 ≤ 761 ∧ x.2.1 = 10 * (x.1 : Int) - 10 ∧ ∃ b, x.2.2 = 10 * b ∧ BestI (fun j => dst (10 * j) S m) t x.1 b) (fun x => x.1) (761, 7600, 7600) ⟨by simp, by simp, 760, by simp, hst⟩ (by simp [go_sem]) ?_
    rintro ⟨c, x, B⟩ ⟨hc, hx, b, hB, hb⟩
    simp only at hc hx hB hb
    have hbb := hb.2.2
    rcases c with _ | c
    · have hx0 : ¬ 0 ≤ x := by omega
      have hbt := hb.2.1 (by omega)
      subst hbt
      subst hB
      simp [go_sem, hx0]
      exact hR _ _ _ rfl (by simp [go_sem])
    · have hx0 : 0 ≤ x := by omega
      have hxc : x = 10 * (c : Int) := by omega
      have v1 : IntKind.i64.wrap (-x) = -x := wrap64 (by omega) (by omega)
      have v2 : IntKind.i64.wrap (x - 10) = x - 10 := wrap64 (by omega) (by omega)
      have e1 : dst (10 * (c : Int)) S m = dst x S m := by rw [hxc]
      have e2 : dst (10 * b) S m = dst B S m := by rw [hB]
      have e3 : dst (10 * -(c : Int)) S m = dst (-x) S m := by rw [hxc, Int.mul_neg]
      have stp : ∀ b1 b2 : Int, b1 = (if dst x S m < dst B S m then (c : Int) else b) → b2 = (if dst (-x) S m < dst (10 * b1) S m then -(c : Int) else b1) → BestI (fun j => dst (10 * j) S m) t c b2 := fun b1 b2 g1 g2 => by
        refine best_step (D := fun j => dst (10 * j) S m) f1 f2 f3 (b1 := b1) (by omega) hb ?_ ?_
        · simp only [e1, e2]; exact g1
        · simp only [e3]; exact g2
      have c1 := distance24_fun x S m (by omega) hSs (by omega)
      have c2 := distance24_fun B S m (by omega) hSs (by omega)
      have c3 := distance24_fun (-x) S m (by omega) hSs (by omega)
      have hWm : (W.length : Int) = m := by omega
      by_cases h1 : dst x S m < dst B S m
      · by_cases h2 : dst (-x) S m < dst x S m
        · have g := stp c (-(c : Int)) (by rw [if_pos h1]) (by rw [e1, if_pos h2])
          generalize dst x S m = D1 at *
          generalize dst B S m = D2 at *
          generalize dst (-x) S m = D3 at *
          simp [go_sem, hx0, hme]
          refine c1.callF (by simp [go_sem]) ?_
          rintro _ rfl
          simp [go_sem, hme]
          refine c2.callF (by simp [go_sem]) ?_
          rintro _ rfl
          simp [go_sem, hme, h1, v1]
          refine c3.callF (by simp [go_sem]) ?_
          rintro _ rfl
          simp [go_sem, hme]
          refine c1.callF (by simp [go_sem]) ?_
          rintro _ rfl
          simp [go_sem, h2, v1, v2]
          exact ⟨c, x - 10, -x, ⟨rfl, rfl⟩, ⟨by omega, by omega, _, by omega, g⟩, by omega⟩
        · have g := stp c c (by rw [if_pos h1]) (by rw [e1, if_neg h2])
          generalize dst x S m = D1 at *
          generalize dst B S m = D2 at *
          generalize dst (-x) S m = D3 at *
          simp [go_sem, hx0, hme]
          refine c1.callF (by simp [go_sem]) ?_
          rintro _ rfl
          simp [go_sem, hme]
          refine c2.callF (by simp [go_sem]) ?_
          rintro _ rfl
          simp [go_sem, hme, h1, v1]
          refine c3.callF (by simp [go_sem]) ?_
          rintro _ rfl
          simp [go_sem, hme]
          refine c1.callF (by simp [go_sem]) ?_
          rintro _ rfl
          simp [go_sem, h2, v1, v2]
          exact ⟨c, x - 10, x, ⟨rfl, rfl⟩, ⟨by omega, by omega, _, by omega, g⟩, by omega⟩
      · by_cases h2 : dst (-x) S m < dst B S m
        · have g := stp b (-(c : Int)) (by rw [if_neg h1]) (by rw [e2, if_pos h2])
          generalize dst x S m = D1 at *
          generalize dst B S m = D2 at *
          generalize dst (-x) S m = D3 at *
          simp [go_sem, hx0, hme]
          refine c1.callF (by simp [go_sem]) ?_
          rintro _ rfl
          simp [go_sem, hme]
          refine c2.callF (by simp [go_sem]) ?_
          rintro _ rfl
          simp [go_sem, hme, h1, v1]
          refine c3.callF (by simp [go_sem]) ?_
          rintro _ rfl
          simp [go_sem, hme]
          refine c2.callF (by simp [go_sem]) ?_
          rintro _ rfl
          simp [go_sem, h2, v1, v2]
          exact ⟨c, x - 10, -x, ⟨rfl, rfl⟩, ⟨by omega, by omega, _, by omega, g⟩, by omega⟩
        · have g := stp b b (by rw [if_neg h1]) (by rw [e2, if_neg h2])
          generalize dst x S m = D1 at *
          generalize dst B S m = D2 at *
          generalize dst (-x) S m = D3 at *
          simp [go_sem, hx0, hme]
          refine c1.callF (by simp [go_sem]) ?_
          rintro _ rfl
          simp [go_sem, hme]
          refine c2.callF (by simp [go_sem]) ?_
          rintro _ rfl
          simp [go_sem, hme, h1, v1]
          refine c3.callF (by simp [go_sem]) ?_
          rintro _ rfl
          simp [go_sem, hme]
          refine c2.callF (by simp [go_sem]) ?_
          rintro _ rfl
          simp [go_sem, h2, v1, v2]
          exact ⟨c, x - 10, B, ⟨rfl, rfl⟩, ⟨by omega, by omega, b, hB, g⟩, by omega⟩
theorem butler24_fun (l : List Int) (d : Int) (hl : l.length < 2 ^ 63) (hd : -2 ^ 63 ≤ d ∧ d < 2 ^ 63) : FN 25 [.fz 1 (ints l), .int .i64 d] (fun v => v = .tup [.fz 1 (ints (butR l d)), .int .i64 (datE l d)]) := by
  refine IFun.of_bodyZ false 10 [17, 22] Tryd.func25 rfl Tryd.call25 rfl fun R hR => ?_
  have cd := datum24_fun l d hl hd
  have hDb := datI_bd l d
  simp [go_sem]
  refine cd.callF (by simp [go_sem]) ?_
  rintro _ rfl
  by_cases h0 : datE l d = 0
  case neg =>
    have e : butR l d = [] := by unfold butR; rw [if_neg h0]
    rw [e] at hR
    simp [go_sem, h0]
    exact hR _ _ _ rfl (by simp [go_sem])
  have e : butR l d = butlerL l (datI l d) := by unfold butR; rw [if_pos h0]
  rw [e, h0] at hR
  obtain ⟨h24, hbd⟩ := exE_ok (datE_zero h0).1
  generalize datI l d = T at *
  have hat : ∀ i (h : i < l.length) (h2 : i < (butlerL l T).length), (butlerL l T)[i] = impI (l[i] - T) := fun i h _ => butlerL_at h
  have hlen : (butlerL l T).length = l.length := by simp
  generalize butlerL l T = C at *
  simp [go_sem, h0]
  refine IWp.ownNilS 1 8 (by decide) rfl ?_
  refine IWp.loopT (α := Nat) (fun i => (⟨false, 36, 10, [17, 22], glT, [(0, .fz 1 (ints l)), (4, .nils), (5, .int .i64 0), (6, .int .i64 T), (8, .sl 0 i 0 i none), (9, .int .i64 (i : Int))], []⟩, [.rows 1 (ints (C.take i))]))
    (fun i => i ≤ l.length) (fun i => l.length - i) 0 (by simp) (by simp [go_sem]) ?_
  intro i hi
  by_cases h : i < l.length
  · have h' : (i : Int) < l.length := by omega
    have v1 : IntKind.i64.wrap ((i : Int) + 1) = i + 1 := wrap64 (by omega) (by omega)
    have hb := hbd l[i] (List.getElem_mem h)
    have hsn : C.take (i + 1) = C.take i ++ [C[i]'(by omega)] := List.take_succ_eq_append_getElem (by omega)
    have hC := hat i h (by omega)
    obtain ⟨x, hx⟩ : ∃ x, l[i] = x := ⟨_, rfl⟩
    have qx := ints_q h hx
    rw [hx] at hb hC
    rw [hC] at hsn
    have v2 : IntKind.i64.wrap (x - T) = x - T := wrap64 (by omega) (by omega)
    have ci := imp19_fun (x - T) (by omega)
    generalize impI (x - T) = I at *
    have hTl : (C.take i).length = i := by simp; omega
    generalize C.take i = A at *
    simp [go_sem, h, h', hx, qx, v2]
    refine ci.callF (by simp [go_sem]) ?_
    rintro _ rfl
    simp [go_sem, v1]
    exact ⟨⟨by omega, by omega⟩, i + 1, ⟨⟨rfl, by omega⟩, by rw [hsn, ints_snoc]⟩, by omega, by omega⟩
  · obtain rfl : i = l.length := by omega
    have hC : C.take l.length = C := List.take_of_length_le (by omega)
    rw [hC]
    simp [go_sem]
    exact hR _ _ _ rfl (by simp [go_sem, hlen])
end Go.Idl
