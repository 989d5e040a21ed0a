import Derived.Test.YtamffdgopknkfaaGreatDoorC39zPartY
set_option linter.all false
set_option maxHeartbeats 8000000
set_option maxRecDepth 40000
namespace Go.Idl
open Go.Proofs
def dk (n k : Nat) : List Int := (List.range k).map fun i => ((n / 65536 ^ i % 65536 : Nat) : Int)
@[simp] theorem dk_len {n k : Nat} : (dk n k).length = k := by simp [dk]
theorem dk_at {n k i : Nat} (h : i < k) : (dk n k)[i]'(by simpa using h) = ((n / 65536 ^ i % 65536 : Nat) : Int) := by simp [dk]
theorem dk_zero {n : Nat} : dk n 0 = [] := rfl
theorem pow_ge1 (k : Nat) : 1 ≤ 65536 ^ k := Nat.one_le_pow _ _ (by decide)
def dl (n : Nat) : Nat := if n = 0 then 0 else dl (n / 65536) + 1
termination_by n
decreasing_by omega
theorem dl_zero : dl 0 = 0 := by rw [dl]; rfl
theorem dl_pos {n : Nat} (h : n ≠ 0) : dl n = dl (n / 65536) + 1 := by rw [dl, if_neg h]
theorem dl_le (n k : Nat) : dl n ≤ k ↔ n < 65536 ^ k := by
 induction k generalizing n with
 | zero =>
  constructor
  ·intro h
   by_cases h0 : n = 0
   ·omega
   ·rw [dl_pos h0] at h; omega
  ·intro h
   have : n = 0 := by omega
   subst this; rw [dl_zero]; omega
 | succ k ih =>
  by_cases h0 : n = 0
  ·subst h0; rw [dl_zero]; have := pow_ge1 (k + 1); omega
  ·rw [dl_pos h0, Nat.pow_succ]
   have := ih (n / 65536)
   have e : n / 65536 < 65536 ^ k ↔ n < 65536 ^ k * 65536 := Nat.div_lt_iff_lt_mul (by decide)
   rw [← e, ← this]; omega
theorem lt_dl (n k : Nat) : k < dl n ↔ 65536 ^ k ≤ n := by
 have := dl_le n k; omega
theorem dl_self (n : Nat) : n < 65536 ^ dl n := (dl_le n _).1 (Nat.le_refl _)
def dg (n : Nat) : List Int := dk n (dl n)
@[simp] theorem dg_len {n : Nat} : (dg n).length = dl n := by simp [dg]
theorem dg_zero : dg 0 = [] := by simp [dg, dl_zero, dk]
theorem dl_eq {n k : Nat} (h1 : 65536 ^ k ≤ n) (h2 : n < 65536 ^ (k + 1)) : dl n = k + 1 := by
 have := (dl_le n (k + 1)).2 h2
 have := (lt_dl n k).2 h1
 omega
theorem dk_trim {n k : Nat} (h : n < 65536 ^ (k + 1)) (h0 : n / 65536 ^ k % 65536 = 0) : n < 65536 ^ k := by
 have hp := pow_ge1 k
 have : n / 65536 ^ k < 65536 := by
  rw [Nat.div_lt_iff_lt_mul (by omega)]
  rw [Nat.pow_succ] at h; rw [Nat.mul_comm]; exact h
 have h3 : n / 65536 ^ k = 0 := by
  generalize n / 65536 ^ k = q at *
  omega
 rcases Nat.div_eq_zero_iff.1 h3 with h | h <;> omega
theorem dk_top {n k : Nat} (h : n < 65536 ^ (k + 1)) (h0 : n / 65536 ^ k % 65536 ≠ 0) : dl n = k + 1 := by
 refine dl_eq ?_ h
 rcases Nat.lt_or_ge n (65536 ^ k) with h1 | h1
 ·rw [Nat.div_eq_of_lt h1] at h0; simp at h0
 ·exact h1
theorem dk_take {n k j : Nat} (h : j ≤ k) : (dk n k).take j = dk n j := by
 unfold dk
 rw [← List.map_take, List.take_range, Nat.min_eq_left h]
theorem dk_drop {n k j : Nat} : (dk n k).drop j = dk (n / 65536 ^ j) (k - j) := by
 refine List.ext_getElem (by simp) fun i h1 h2 => ?_
 rw [List.getElem_drop, dk_at (by simp at h1; omega), dk_at (by simp at h2; omega)]
 rw [Nat.div_div_eq_div_mul, ← Nat.pow_add]
theorem dk_snoc {n k : Nat} : dk n (k + 1) = dk n k ++ [((n / 65536 ^ k % 65536 : Nat) : Int)] := by
 unfold dk
 rw [List.range_succ, List.map_append]; rfl
theorem dk_cons {n d k : Nat} (hd : d < 65536) : ((d : Nat) : Int) :: dk n k = dk (n * 65536 + d) (k + 1) := by
 refine List.ext_getElem (by simp) fun i h1 h2 => ?_
 simp at h1
 cases i with
 | zero => simp only [List.getElem_cons_zero]; rw [dk_at (by omega)]; simp; omega
 | succ i =>
  simp only [List.getElem_cons_succ]
  rw [dk_at (by omega), dk_at (by omega), Nat.pow_succ', ← Nat.div_div_eq_div_mul]
  congr 3
  omega
theorem dg_cons {n : Nat} (h : n ≠ 0) : dg n = ((n % 65536 : Nat) : Int) :: dg (n / 65536) := by
 unfold dg
 rw [dk_cons (by omega), dl_pos h]
 congr 1
 omega
theorem dk_dg {n k : Nat} (h : dl n = k) : dk n k = dg n := by subst h; rfl
theorem top_digit {n k : Nat} (h : dl n = k + 1) : n / 65536 ^ k % 65536 = n / 65536 ^ k ∧ 1 ≤ n / 65536 ^ k ∧ n / 65536 ^ k < 65536 := by
 have h1 := dl_self n
 have h2 := (lt_dl n k).1 (by omega)
 rw [h, Nat.pow_succ, Nat.mul_comm] at h1
 have hp := pow_ge1 k
 have h3 : n / 65536 ^ k < 65536 := (Nat.div_lt_iff_lt_mul (by omega)).2 h1
 have h4 : 1 ≤ n / 65536 ^ k := (Nat.le_div_iff_mul_le (by omega)).2 (by omega)
 exact ⟨Nat.mod_eq_of_lt h3, h4, h3⟩
theorem dig_split (n k : Nat) : n / 65536 ^ k = n / 65536 ^ (k + 1) * 65536 + n / 65536 ^ k % 65536 := by
 rw [Nat.pow_succ, ← Nat.div_div_eq_div_mul]
 omega
theorem low_split (n k : Nat) : n % 65536 ^ (k + 1) = n % 65536 ^ k + 65536 ^ k * (n / 65536 ^ k % 65536) := by
 rw [Nat.pow_succ, Nat.mod_mul]
theorem quot_bounds {R B K : Nat} (hK : 1 ≤ K) (hB : K ≤ B) : R / K / (B / K + 1) ≤ R / B ∧ R / B ≤ R / K / (B / K) := by
 have hb1 : B / K * K ≤ B := Nat.div_mul_le_self B K
 have hb2 : B < (B / K + 1) * K := by
  have := Nat.div_add_mod B K
  have := Nat.mod_lt B (show K > 0 by omega)
  rw [Nat.add_mul, Nat.mul_comm (B / K)]; omega
 have hb : 1 ≤ B / K := (Nat.le_div_iff_mul_le (by omega)).2 (by omega)
 rw [Nat.div_div_eq_div_mul, Nat.div_div_eq_div_mul]
 refine ⟨Nat.div_le_div_left (by rw [Nat.mul_comm]; omega) (by omega), Nat.div_le_div_left (by rw [Nat.mul_comm]; exact hb1) (by rw [Nat.mul_comm]; exact Nat.mul_pos hb (by omega))⟩
theorem low_lt (n k : Nat) : n % 65536 ^ k < 65536 ^ k := Nat.mod_lt _ (by have := pow_ge1 k; omega)
end Go.Idl
namespace Go.Idl
open Go.Proofs
theorem dg_at {n i : Nat} (h : i < (dg n).length) : (dg n)[i] = ((n / 65536 ^ i % 65536 : Nat) : Int) := dk_at (by simpa [dg] using h)
theorem dl_mono {a b : Nat} (h : a ≤ b) : dl a ≤ dl b := by
 have h1 := dl_self b
 exact (dl_le a (dl b)).2 (by omega)
theorem dl_lt_lt {a b : Nat} (h : dl a < dl b) : a < b := by
 have h1 := dl_self a
 have h2 := (lt_dl b (dl a)).1 h
 omega
theorem dl_top_zero {a i : Nat} (h : dl a ≤ i) : a / 65536 ^ i % 65536 = 0 := by
 rw [Nat.div_eq_of_lt ((dl_le a i).1 h)]
theorem dl_mod {a i : Nat} (h : dl a ≤ i) : a % 65536 ^ i = a := Nat.mod_eq_of_lt ((dl_le a i).1 h)
theorem dig_lt {a b j : Nat} (h : a / 65536 ^ (j + 1) = b / 65536 ^ (j + 1)) (hne : a / 65536 ^ j % 65536 ≠ b / 65536 ^ j % 65536) : a < b ↔ a / 65536 ^ j % 65536 < b / 65536 ^ j % 65536 := by
 have h1 := dig_split a j
 have h2 := dig_split b j
 have h3 : a ≤ b → a / 65536 ^ j ≤ b / 65536 ^ j := fun h => Nat.div_le_div_right h
 have h4 : b ≤ a → b / 65536 ^ j ≤ a / 65536 ^ j := fun h => Nat.div_le_div_right h
 rw [h] at h1
 generalize b / 65536 ^ (j + 1) = q at *
 generalize a / 65536 ^ j = x at *
 generalize b / 65536 ^ j = y at *
 omega
theorem dig_eq {a b j : Nat} (h : a / 65536 ^ (j + 1) = b / 65536 ^ (j + 1)) (he : a / 65536 ^ j % 65536 = b / 65536 ^ j % 65536) : a / 65536 ^ j = b / 65536 ^ j := by
 rw [dig_split a j, dig_split b j, h, he]
def crA (a b i : Nat) : Nat := (a % 65536 ^ i + b % 65536 ^ i) / 65536 ^ i
theorem crA_zero (a b : Nat) : crA a b 0 = 0 := by unfold crA; simp [Nat.mod_one]
theorem crA_le (a b i : Nat) : crA a b i ≤ 1 := by
 have h1 := low_lt a i
 have h2 := low_lt b i
 unfold crA
 have := pow_ge1 i
 have : (a % 65536 ^ i + b % 65536 ^ i) / 65536 ^ i < 2 := (Nat.div_lt_iff_lt_mul (by omega)).2 (by omega)
 omega
theorem crA_succ (a b i : Nat) : crA a b (i + 1) = (crA a b i + a / 65536 ^ i % 65536 + b / 65536 ^ i % 65536) / 65536 := by
 unfold crA
 have hp := pow_ge1 i
 rw [low_split a i, low_split b i, Nat.pow_succ, ← Nat.div_div_eq_div_mul]
 congr 1
 have : a % 65536 ^ i + 65536 ^ i * (a / 65536 ^ i % 65536) + (b % 65536 ^ i + 65536 ^ i * (b / 65536 ^ i % 65536)) = a % 65536 ^ i + b % 65536 ^ i + 65536 ^ i * (a / 65536 ^ i % 65536 + b / 65536 ^ i % 65536) := by rw [Nat.mul_add]; omega
 rw [this, Nat.add_mul_div_left _ _ (by omega)]
 omega
theorem crA_dig (a b i : Nat) : (a + b) / 65536 ^ i % 65536 = (crA a b i + a / 65536 ^ i % 65536 + b / 65536 ^ i % 65536) % 65536 := by
 have hp := pow_ge1 i
 have e : (a + b) / 65536 ^ i = a / 65536 ^ i + b / 65536 ^ i + crA a b i := by
  have h1 := Nat.div_add_mod a (65536 ^ i)
  have h2 := Nat.div_add_mod b (65536 ^ i)
  have : a + b = a % 65536 ^ i + b % 65536 ^ i + 65536 ^ i * (a / 65536 ^ i + b / 65536 ^ i) := by rw [Nat.mul_add]; omega
  unfold crA
  rw [this, Nat.add_mul_div_left _ _ (by omega)]
  omega
 rw [e]; omega
theorem crA_end {a b i : Nat} (ha : dl a ≤ i) (hb : dl b ≤ i) (hc : crA a b i = 0) : dl (a + b) ≤ i := by
 rw [dl_le]
 unfold crA at hc
 rw [dl_mod ha, dl_mod hb] at hc
 have hp := pow_ge1 i
 rcases Nat.div_eq_zero_iff.1 hc with h | h <;> omega
theorem crA_more {a b i : Nat} (h : i < dl a ∨ i < dl b ∨ 0 < crA a b i) : i < dl (a + b) := by
 rcases h with h | h | h
 ·have := dl_mono (show a ≤ a + b by omega); omega
 ·have := dl_mono (show b ≤ a + b by omega); omega
 ·rw [lt_dl]
  unfold crA at h
  have hp := pow_ge1 i
  have h1 := (Nat.le_div_iff_mul_le (show 0 < 65536 ^ i by omega)).1 h
  have h2 := Nat.mod_le a (65536 ^ i)
  have h3 := Nat.mod_le b (65536 ^ i)
  omega
def owS (a b i : Nat) : Nat := if a % 65536 ^ i < b % 65536 ^ i then 1 else 0
theorem owS_zero (a b : Nat) : owS a b 0 = 0 := by unfold owS; simp [Nat.mod_one]
theorem owS_le (a b i : Nat) : owS a b i ≤ 1 := by unfold owS; split <;> omega
theorem owS_succ (a b i : Nat) : owS a b (i + 1) = if a / 65536 ^ i % 65536 < owS a b i + b / 65536 ^ i % 65536 then 1 else 0 := by
 have h1 := low_lt a i
 have h2 := low_lt b i
 have e : a % 65536 ^ (i + 1) < b % 65536 ^ (i + 1) ↔ a / 65536 ^ i % 65536 < owS a b i + b / 65536 ^ i % 65536 := by
  rw [low_split a i, low_split b i]
  unfold owS
  generalize a / 65536 ^ i % 65536 = x
  generalize b / 65536 ^ i % 65536 = y
  generalize a % 65536 ^ i = α at *
  generalize b % 65536 ^ i = β at *
  generalize 65536 ^ i = P at *
  rcases Nat.lt_trichotomy x y with h | h | h
  ·have := Nat.mul_le_mul_left P (show x + 1 ≤ y from h)
   rw [Nat.mul_add] at this
   constructor
   ·intro _; split <;> omega
   ·intro _; omega
  ·subst h
   by_cases hh : α < β
   ·simp [hh]
   ·simp [hh]
  ·have := Nat.mul_le_mul_left P (show y + 1 ≤ x from h)
   rw [Nat.mul_add] at this
   constructor
   ·intro _; omega
   ·intro hh; split at hh <;> omega
 show (if _ then 1 else 0 : Nat) = _
 simp only [e]
theorem owS_dig {a b : Nat} (h : b ≤ a) (i : Nat) : (a - b) / 65536 ^ i % 65536 = if a / 65536 ^ i % 65536 < owS a b i + b / 65536 ^ i % 65536 then a / 65536 ^ i % 65536 + 65536 - owS a b i - b / 65536 ^ i % 65536 else a / 65536 ^ i % 65536 - owS a b i - b / 65536 ^ i % 65536 := by
 have hp := pow_ge1 i
 have h1 := Nat.div_add_mod a (65536 ^ i)
 have h2 := Nat.div_add_mod b (65536 ^ i)
 have l1 := low_lt a i
 have l2 := low_lt b i
 have hle : b / 65536 ^ i ≤ a / 65536 ^ i := Nat.div_le_div_right h
 have e : (a - b) / 65536 ^ i + owS a b i + b / 65536 ^ i = a / 65536 ^ i := by
  unfold owS
  split
  ·rename_i hlt
   have hlt2 : b / 65536 ^ i < a / 65536 ^ i := by
    rcases Nat.lt_or_ge (b / 65536 ^ i) (a / 65536 ^ i) with h3 | h3
    ·exact h3
    ·have : a / 65536 ^ i = b / 65536 ^ i := by omega
     rw [this] at h1; omega
   obtain ⟨d, hd⟩ : ∃ d, a / 65536 ^ i = b / 65536 ^ i + 1 + d := ⟨a / 65536 ^ i - b / 65536 ^ i - 1, by omega⟩
   have : a - b = (65536 ^ i + a % 65536 ^ i - b % 65536 ^ i) + 65536 ^ i * d := by
    rw [hd, Nat.mul_add, Nat.mul_add] at h1; omega
   rw [this, Nat.add_mul_div_left _ _ (by omega), Nat.div_eq_of_lt (by omega), hd]; omega
  ·obtain ⟨d, hd⟩ : ∃ d, a / 65536 ^ i = b / 65536 ^ i + d := ⟨a / 65536 ^ i - b / 65536 ^ i, by omega⟩
   have : a - b = (a % 65536 ^ i - b % 65536 ^ i) + 65536 ^ i * d := by
    rw [hd, Nat.mul_add] at h1; omega
   rw [this, Nat.add_mul_div_left _ _ (by omega), Nat.div_eq_of_lt (by omega), hd]; omega
 have ho := owS_le a b i
 generalize (a - b) / 65536 ^ i = z at *
 generalize owS a b i = o at *
 generalize a / 65536 ^ i = x at *
 generalize b / 65536 ^ i = y at *
 split <;> omega
def crM (a d i : Nat) : Nat := a % 65536 ^ i * d / 65536 ^ i
theorem crM_zero (a d : Nat) : crM a d 0 = 0 := by unfold crM; simp [Nat.mod_one]
theorem crM_le (a d i : Nat) : crM a d i ≤ d := by
 unfold crM
 have h1 := low_lt a i
 have hp := pow_ge1 i
 rw [Nat.div_le_iff_le_mul_add_pred (by omega)]
 have := Nat.mul_le_mul_right d (Nat.le_of_lt h1)
 omega
theorem crM_succ (a d i : Nat) : crM a d (i + 1) = (crM a d i + a / 65536 ^ i % 65536 * d) / 65536 := by
 unfold crM
 have hp := pow_ge1 i
 rw [low_split a i, Nat.pow_succ, ← Nat.div_div_eq_div_mul]
 congr 1
 rw [Nat.add_mul, Nat.mul_assoc, Nat.add_mul_div_left _ _ (by omega)]
theorem crM_dig (a d i : Nat) : a * d / 65536 ^ i % 65536 = (crM a d i + a / 65536 ^ i % 65536 * d) % 65536 := by
 have hp := pow_ge1 i
 have e : a * d / 65536 ^ i = a / 65536 ^ i * d + crM a d i := by
  have h1 := Nat.div_add_mod a (65536 ^ i)
  have : a * d = a % 65536 ^ i * d + 65536 ^ i * (a / 65536 ^ i * d) := by
   rw [← Nat.mul_assoc, ← Nat.add_mul]; congr 1; omega
  unfold crM
  rw [this, Nat.add_mul_div_left _ _ (by omega)]
  omega
 rw [e]
 have h2 := Nat.div_add_mod (a / 65536 ^ i) 65536
 have h3 : a / 65536 ^ i * d = 65536 * (a / 65536 ^ i / 65536 * d) + a / 65536 ^ i % 65536 * d := by
  rw [← Nat.mul_assoc, ← Nat.add_mul, h2]
 rw [h3]
 generalize a / 65536 ^ i / 65536 * d = u
 generalize a / 65536 ^ i % 65536 * d = v
 omega
theorem crM_end {a d i : Nat} (ha : dl a ≤ i) (hc : crM a d i = 0) : a * d < 65536 ^ i := by
 unfold crM at hc
 rw [dl_mod ha] at hc
 have hp := pow_ge1 i
 rcases Nat.div_eq_zero_iff.1 hc with h | h <;> omega
theorem crM_more {a d i : Nat} (hd : d < 65536) (h : 0 < crM a d i) : i ≤ dl a := by
 rcases Nat.lt_or_ge (dl a) i with h1 | h1
 ·exfalso
  unfold crM at h
  rw [dl_mod (by omega)] at h
  have hp := pow_ge1 i
  have h2 := (Nat.le_div_iff_mul_le (show 0 < 65536 ^ i by omega)).1 h
  have h3 := dl_self a
  have h4 : a * d < 65536 ^ dl a * 65536 := Nat.mul_lt_mul'' h3 hd
  rw [← Nat.pow_succ] at h4
  have h5 : 65536 ^ (dl a + 1) ≤ 65536 ^ i := Nat.pow_le_pow_right (by decide) h1
  omega
 ·exact h1
theorem dk_take_dg {N n : Nat} (h : N < 65536 ^ n) : (dk N n).take (dl N) = dg N := by
 rw [dk_take ((dl_le N n).2 h)]; rfl
end Go.Idl
namespace Go.Idl
open Go.Proofs
theorem ints_cutR (l : List Int) (n : Nat) : cutR 0 n (ints l) = ints (l.take n) := by simp [cutR, ints, mp]
theorem ints_q {l : List Int} {i : Nat} {x : Int} (h : i < l.length) (hx : l[i] = x) : (ints l)[i]?.getD [] = [.int .i64 x] := by
 rw [List.getElem?_eq_getElem (by simpa using h), Option.getD_some, ints_getElem, hx]
theorem trim_calls (N n : Nat) (hN : N < 65536 ^ n) (hn : n < 2 ^ 31) : ICalls Tryz.prog glT 96 [.sl 0 n 0 n none] [.rows 1 (ints (dk N n))] (fun v σ => v = .sl 0 n 0 (dl N) none ∧ σ = [.rows 1 (ints (dk N n))]) := by
 refine ICalls.forget (ICalls.of_bodyE false 3 [14] Tryz.func96 rfl Tryz.call96 rfl fun R hR => ?_)
 have hat : ∀ i (h : i < (dk N n).length), (dk N n)[i] = ((N / 65536 ^ i % 65536 : Nat) : Int) := fun i h => dk_at (by simpa using h)
 have hlen : (dk N n).length = n := by simp
 generalize dk N n = l at *
 simp [go_sem]
 refine IWp.loopT (α := Nat) (fun k => (⟨false, 21, 3, [14], glT, [(0, .sl 0 n 0 k none)], []⟩, [.rows 1 (ints l)]))
  (fun k => k ≤ n ∧ N < 65536 ^ k) (fun k => k) n ⟨by omega, hN⟩ (by simp [go_sem]) ?_
 rintro k ⟨hk, hNk⟩
 rcases k with _ | k
 ·have h0 : dl N = 0 := by have := (dl_le N 0).2 hNk; omega
  rw [h0] at hR
  have wm : IntKind.i64.wrap (-1) = -1 := by decide
  cases l with
  | nil =>
   simp [go_sem, wm]
   refine ⟨by simpa using hlen.symm, ?_⟩
   refine hR _ _ ⟨_, ?_, rfl, rfl⟩
   simp [go_sem]
  | cons y l =>
   have hl1 : n = l.length + 1 := by simpa using hlen.symm
   simp [go_sem, wm, ints_cons, hl1]
   rw [← hl1, ← ints_cons]
   refine hR _ _ ⟨_, ?_, rfl, rfl⟩
   simp [go_sem]
 ·have w1 : IntKind.i64.wrap (k : Int) = k := wrap64 (by omega) (by omega)
  have hkl : k < l.length := by omega
  have hx := ints_q hkl (hat k hkl)
  have hk1 : (0 : Int) < k + 1 := by omega
  by_cases h0 : N / 65536 ^ k % 65536 = 0
  ·rw [h0] at hx
   simp [go_sem, w1, hkl, hx, hk1, hlen]
   exact ⟨⟨by omega, by omega⟩, by omega, ⟨by omega, by omega⟩, by omega, dk_trim hNk h0⟩
  ·have hd := dk_top hNk h0
   have h0' : ¬ ((N / 65536 ^ k % 65536 : Nat) : Int) = 0 := by omega
   generalize ((N / 65536 ^ k % 65536 : Nat) : Int) = x at *
   rw [hd] at hR
   simp [go_sem, w1, hkl, hx, h0', hk1, hlen]
   refine ⟨⟨by omega, by omega⟩, by omega, hR _ _ ⟨_, ?_, rfl, rfl⟩⟩
   simp [go_sem]
theorem trim_fun (N n : Nat) (hN : N < 65536 ^ n) (hn : n < 2 ^ 31) : ON 96 [.fz 1 (ints (dk N n))] (fun v => v = .fz 1 (ints (dg N))) := by
 refine IFun.of_bodyZ false 3 [14] Tryz.func96 rfl Tryz.call96 rfl fun R hR => ?_
 simp [go_sem]
 refine IWp.loopT (α := Nat) (fun k => (⟨false, 21, 3, [14], glT, [(0, .fz 1 (ints (dk N k)))], []⟩, []))
  (fun k => k ≤ n ∧ N < 65536 ^ k) (fun k => k) n ⟨by omega, hN⟩ (by simp [go_sem]) ?_
 rintro k ⟨hk, hNk⟩
 rcases k with _ | k
 ·have h0 : dl N = 0 := by have := (dl_le N 0).2 hNk; omega
  have e : dg N = [] := by simp [dg, h0, dk_zero]
  rw [e] at hR
  simp [go_sem, dk_zero]
  exact hR _ _ _ rfl (by simp [go_sem])
 ·have w1 : IntKind.i64.wrap (k : Int) = k := wrap64 (by omega) (by omega)
  have hx : ∀ h : k < (dk N (k + 1)).length, (dk N (k + 1))[k] = ((N / 65536 ^ k % 65536 : Nat) : Int) := fun _ => dk_at (by omega)
  have hc : (dk N (k + 1)).take k = dk N k := dk_take (by omega)
  have hlen : (dk N (k + 1)).length = k + 1 := by simp
  have hk1 : (0 : Int) < k + 1 := by omega
  by_cases h0 : N / 65536 ^ k % 65536 = 0
  ·rw [h0] at hx
   generalize dk N (k + 1) = l at *
   have hkl : k < l.length := by omega
   have hq := ints_q hkl (hx hkl)
   have hx := hx hkl
   simp [go_sem, w1, hx, hq, hk1, hlen]
   exact ⟨by omega, by omega, k, by rw [← ints_take, hc], ⟨by omega, dk_trim hNk h0⟩, by omega⟩
  ·have hd := dk_top hNk h0
   have h0' : ¬ ((N / 65536 ^ k % 65536 : Nat) : Int) = 0 := by omega
   rw [← dk_dg hd] at hR
   generalize ((N / 65536 ^ k % 65536 : Nat) : Int) = x at *
   generalize dk N (k + 1) = l at *
   have hkl : k < l.length := by omega
   have hq := ints_q hkl (hx hkl)
   have hx := hx hkl
   simp [go_sem, w1, hx, hq, h0', hk1, hlen]
   exact ⟨by omega, hR _ _ _ rfl (by simp [go_sem])⟩
theorem less_fun (a b : Nat) (ha : dl a < 2 ^ 31) (hb : dl b < 2 ^ 31) : FN 92 [.fz 1 (ints (dg a)), .fz 1 (ints (dg b))] (fun v => v = .bool (decide (a < b))) := by
 refine IFun.of_bodyZ false 6 [10, 20, 31] Tryz.func92 rfl Tryz.call92 rfl fun R hR => ?_
 have ta : ∀ i (h : i < (dg a).length), (dg a)[i] = ((a / 65536 ^ i % 65536 : Nat) : Int) := fun i h => dg_at h
 have tb : ∀ i (h : i < (dg b).length), (dg b)[i] = ((b / 65536 ^ i % 65536 : Nat) : Int) := fun i h => dg_at h
 have la : (dg a).length = dl a := by simp
 have lb : (dg b).length = dl b := by simp
 generalize dg a = A at *
 generalize dg b = B at *
 by_cases hne : dl a = dl b
 case neg =>
  have hne' : ¬ (dl a : Int) = dl b := by omega
  have e : decide (a < b) = decide (dl a < dl b) := by
   rw [decide_eq_decide]
   constructor
   ·intro h; have := dl_mono (Nat.le_of_lt h); omega
   ·exact dl_lt_lt
  rw [e] at hR
  simp [go_sem, la, lb, hne, hne']
  exact hR _ _ _ rfl (by simp [go_sem])
 have w1 : IntKind.i64.wrap ((dl a : Int) - 1) = dl a - 1 := wrap64 (by omega) (by omega)
 have w1b : IntKind.i64.wrap ((dl b : Int) - 1) = dl b - 1 := wrap64 (by omega) (by omega)
 simp [go_sem, la, lb, hne, w1, w1b]
 refine IWp.loopT (α := Nat) (fun k => (⟨false, 41, 6, [10, 20, 31], glT, [(0, .fz 1 (ints A)), (1, .fz 1 (ints B)), (5, .int .i64 ((k : Int) - 1))], []⟩, []))
  (fun k => k ≤ dl b ∧ a / 65536 ^ k = b / 65536 ^ k) (fun k => k) (dl b) ⟨by omega, by rw [Nat.div_eq_of_lt (dl_self b), ← hne, Nat.div_eq_of_lt (dl_self a)]⟩ (by simp [go_sem]) ?_
 rintro k ⟨hk, he⟩
 rcases k with _ | k
 ·have hab : a = b := by simpa using he
  have e : decide (a < b) = false := by simp [hab]
  rw [e] at hR
  simp [go_sem]
  exact hR _ _ _ rfl (by simp [go_sem])
 ·have hka : k < A.length := by omega
  have hkb : k < B.length := by omega
  have xa := ta k hka
  have xb := tb k hkb
  have w2 : IntKind.i64.wrap ((k : Int) - 1) = k - 1 := wrap64 (by omega) (by omega)
  have hk1 : (0 : Int) ≤ k := by omega
  by_cases h0 : a / 65536 ^ k % 65536 = b / 65536 ^ k % 65536
  ·have he2 := dig_eq he h0
   rw [h0] at xa
   generalize ((b / 65536 ^ k % 65536 : Nat) : Int) = x at *
   simp [go_sem, w2, hka, hkb, xa, xb, hk1]
   exact ⟨by decide +kernel, k, by simp [go_sem], ⟨by omega, he2⟩, by omega⟩
  ·have e : decide (a < b) = decide (a / 65536 ^ k % 65536 < b / 65536 ^ k % 65536) := by
    rw [decide_eq_decide]; exact dig_lt he h0
   rw [e] at hR
   generalize a / 65536 ^ k % 65536 = x at *
   generalize b / 65536 ^ k % 65536 = y at *
   have h0' : ¬ (x : Int) = y := by omega
   simp [go_sem, hka, hkb, xa, xb, hk1, h0, h0']
   refine ⟨by decide +kernel, by decide +kernel, ?_⟩
   exact hR _ _ _ rfl (by simp [go_sem])
theorem whole_fun (n : Int) (h : -2 ^ 63 ≤ n ∧ n < 2 ^ 63) : FN 76 [.int .i64 n] (fun v => v = .fz 1 (ints (dg n.natAbs))) := by
 refine IFun.of_bodyZ false 5 [6, 10] Tryz.func76 rfl Tryz.call76 rfl fun R hR => ?_
 simp [go_sem]
 refine IWp.ownNilS 1 3 (by decide) rfl ?_
 have hdl : dl n.natAbs ≤ 4 := (dl_le _ 4).2 (by omega)
 obtain ⟨N, hN⟩ : ∃ N, n.natAbs = N := ⟨_, rfl⟩
 rw [hN] at hdl hR
 obtain ⟨sg, hsg, hs⟩ : ∃ sg : Int, (sg = 1 ∨ sg = -1) ∧ n = sg * N := by
  rcases Int.lt_or_le n 0 with h0 | h0
  ·exact ⟨-1, .inr rfl, by omega⟩
  ·exact ⟨1, .inl rfl, by omega⟩
 refine IWp.loopT (α := Nat) (fun i => (⟨false, 20, 5, [6, 10], glT, [(0, .int .i64 (sg * ((N / 65536 ^ i : Nat) : Int))), (2, .nils), (3, .sl 0 i 0 i none)], []⟩, [.rows 1 (ints (dk N i))]))
  (fun i => i ≤ dl N) (fun i => dl N - i) 0 (by simp) (by simp [go_sem, dk_zero, hs]) ?_
 intro i hi
 by_cases h0 : N / 65536 ^ i = 0
 ·have hd : dl N = i := by
   have := (dl_le N i).2 (by rcases Nat.div_eq_zero_iff.1 h0 with h | h; · have := pow_ge1 i; omega
                             ·exact h)
   omega
  rw [dk_dg hd, h0]
  have hlen : (dg N).length = i := by simp [hd]
  simp [go_sem]
  exact hR _ _ _ rfl (by simp [go_sem, hlen])
 ·have hil : i < dl N := by
   rw [lt_dl]
   rcases Nat.lt_or_ge N (65536 ^ i) with h1 | h1
   ·exact absurd (Nat.div_eq_of_lt h1) h0
   ·exact h1
  have hle := Nat.div_le_self N (65536 ^ i)
  have hsn : dk N (i + 1) = dk N i ++ [((N / 65536 ^ i % 65536 : Nat) : Int)] := dk_snoc
  have hnx : N / 65536 ^ (i + 1) = N / 65536 ^ i / 65536 := by rw [Nat.pow_succ, Nat.div_div_eq_div_mul]
  have hlen : (dk N i).length = i := by simp
  generalize dk N i = l at *
  obtain ⟨z, hz⟩ : ∃ z, N / 65536 ^ (i + 1) = z := ⟨_, rfl⟩
  have hzI : (N : Int) / 65536 ^ (i + 1) = z := by rw [← hz]; simp
  rw [hz] at hnx
  generalize N / 65536 ^ i = x at *
  have hx0 : ¬ (x : Int) = 0 := by omega
  rcases hsg with rfl | rfl
  ·have e1 : (x : Int).tmod 65536 = ((x % 65536 : Nat) : Int) := by rw [Int.tmod_eq_emod_of_nonneg (by omega)]; omega
   have e2 : (x : Int).tdiv 65536 = (z : Int) := by rw [Int.tdiv_eq_ediv_of_nonneg (by omega)]; omega
   have a1 : ¬ (((x % 65536 : Nat) : Int) < 0) := by omega
   have w2 : IntKind.i64.wrap (z : Int) = z := wrap64 (by omega) (by omega)
   generalize ((x % 65536 : Nat) : Int) = d at *
   simp [go_sem, hx0, h0, e1, e2, a1, w2]
   exact ⟨⟨by omega, by omega⟩, i + 1, by simp [go_sem, hsn, ints_snoc, hzI], by omega, by omega⟩
  ·have e1 : (-(x : Int)).tmod 65536 = -((x % 65536 : Nat) : Int) := by rw [Int.neg_tmod, Int.tmod_eq_emod_of_nonneg (by omega)]; omega
   have e2 : (-(x : Int)).tdiv 65536 = -(z : Int) := by rw [Int.neg_tdiv, Int.tdiv_eq_ediv_of_nonneg (by omega)]; omega
   have w2 : IntKind.i64.wrap (-(z : Int)) = -(z : Int) := wrap64 (by omega) (by omega)
   obtain ⟨d, hd⟩ : ∃ d, x % 65536 = d := ⟨_, rfl⟩
   rw [hd] at e1 hsn
   have hdlt : d < 65536 := by omega
   have w3 : IntKind.i64.wrap (d : Int) = d := wrap64 (by omega) (by omega)
   by_cases hd0 : d = 0
   ·subst hd0
    simp [go_sem, hx0, h0, e1, e2, w2]
    exact ⟨⟨by omega, by omega⟩, i + 1, by simp [go_sem, hsn, ints_snoc, hzI], by omega, by omega⟩
   ·have a1 : (0 : Int) < d := by omega
    have a2 : 0 < d := by omega
    simp [go_sem, hx0, h0, e1, e2, a1, a2, w2, w3]
    exact ⟨⟨by omega, by omega⟩, i + 1, by simp [go_sem, hsn, ints_snoc, hzI], by omega, by omega⟩
end Go.Idl
