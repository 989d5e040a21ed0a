/-
  Chapter 26: numbers, with no program in sight: primes, orders, primitive roots up to 1000.
  Package howell (turned from chapter 26).
  Package howell (turned from chapter 26).
  Package howell (turned from chapter 26).
  Package howell (turned from chapter 26).
-/
import Derived.Test.YteedopeniojppaaGreatCtopmPartF
namespace Go.Idl.How
set_option linter.all false
open Go.Idl

def ordN (w p : Nat) : Nat → Nat → Nat → Nat
  | 0, _, _ => 0
  | f + 1, x, k => if x = 1 then k else ordN w p f (x * w % p) (k + 1)
def rootN (p : Nat) : Nat → Nat → Nat
  | 0, _ => 0
  | f + 1, w => let k := ordN w p p (w % p) 1; if k = p - 1 then w else if k = 0 ∨ p - 1 < k then 0 else rootN p f (w + 1)
def isPb (p : Nat) : Bool := Nat.ble 2 p && (List.range 32).all fun d => Nat.blt d 2 || Nat.blt p (d * d) || !(Nat.beq (p % d) 0)

theorem root_check : (List.range 1001).all (fun p => !(isPb p) || Nat.blt p 3 || (Nat.blt 1 (rootN p 40 2) && Nat.blt (rootN p 40 2) p)) = true := by decide +kernel

def powN (w p : Nat) : Nat → Nat
  | 0 => 1
  | n + 1 => powN w p n * w % p
theorem powI_nat (w p : Nat) : ∀ n, powI w p n = (powN w p n : Int)
  | 0 => rfl
  | n + 1 => by
    simp only [powI, powN, powI_nat w p n]
    rw [Int.tmod_eq_emod_of_nonneg (Int.mul_nonneg (by omega) (by omega))]
    simp

theorem ordN_ok (w p : Nat) : ∀ (f x k : Nat), 0 < k → x = powN w p k → (∀ j, 0 < j → j < k → powN w p j ≠ 1) → ∀ r, ordN w p f x k = r → r ≠ 0 → 0 < r ∧ powN w p r = 1 ∧ ∀ j, 0 < j → j < r → powN w p j ≠ 1
  | 0, x, k, hk, hx, hj, r, h, hr => by simp [ordN] at h; omega
  | f + 1, x, k, hk, hx, hj, r, h, hr => by
    simp only [ordN] at h
    split at h
    · rename_i h1; subst h; exact ⟨hk, hx ▸ h1, hj⟩
    · rename_i h1
      refine ordN_ok w p f _ (k + 1) (by omega) (by rw [hx]; rfl) (fun j a b => ?_) r h hr
      by_cases e : j = k
      · subst e; rw [← hx]; exact h1
      · exact hj j a (by omega)

theorem ordN_ord {w p k : Nat} (h : ordN w p p (w % p) 1 = k) (hk : k ≠ 0) : OrdI w p k := by
  obtain ⟨h1, h2, h3⟩ := ordN_ok w p p (w % p) 1 (by omega) (by simp [powN]) (by omega) k h hk
  refine ⟨h1, by rw [powI_nat, h2]; rfl, fun j a b e => ?_⟩
  rw [powI_nat] at e
  exact h3 j a b (by omega)

theorem rootN_ok (p : Nat) : ∀ (f w : Nat), 2 ≤ w → (∀ b : Nat, 2 ≤ b → b < w → ∃ k : Nat, OrdI b p k ∧ k < p - 1) → ∀ g, rootN p f w = g → g ≠ 0 → 2 ≤ g ∧ (g = 0 ∨ ordN g p p (g % p) 1 = p - 1) ∧ ∀ b : Nat, 2 ≤ b → b < g → ∃ k : Nat, OrdI b p k ∧ k < p - 1
  | 0, w, hw, hb, g, h, hg => by simp [rootN] at h; omega
  | f + 1, w, hw, hb, g, h, hg => by
    simp only [rootN] at h
    split at h
    · rename_i h1; subst h; exact ⟨hw, .inr h1, hb⟩
    · rename_i h1
      split at h
      · omega
      · rename_i h2
        refine rootN_ok p f (w + 1) (by omega) (fun b a c => ?_) g h hg
        by_cases e : b = w
        · subst e; exact ⟨_, ordN_ord rfl (by omega), by omega⟩
        · exact hb b a (by omega)

def rootOf (p : Int) : Int := rootN p.toNat 40 2

theorem isPb_of {p : Nat} (hp : p ≤ 1000) (h : PrimeOK p) : isPb p = true := by
  have h2 := h.1
  simp only [isPb, Bool.and_eq_true, Nat.ble_eq, List.all_eq_true, List.mem_range, Bool.or_eq_true, Nat.blt_eq, Bool.not_eq_true']
  refine ⟨by omega, fun d hd => ?_⟩
  by_cases h1 : d < 2
  · exact .inl (.inl h1)
  · by_cases h3 : p < d * d
    · exact .inl (.inr h3)
    · refine .inr ?_
      have := h.2 d (by omega) (by have : ((d * d : Nat) : Int) ≤ p := by omega
                                   simpa using this)
      rw [Int.tmod_eq_emod_of_nonneg (by omega)] at this
      cases hb : Nat.beq (p % d) 0 with
      | false => rfl
      | true =>
        rw [Nat.beq_eq] at hb
        exact absurd (by have : ((p % d : Nat) : Int) = 0 := by omega
                         simpa using this) this

theorem root_ok {p : Int} (h1 : 3 ≤ p) (h2 : p ≤ 1000) (h3 : PrimeOK p) : IsRoot (rootOf p) p ∧ ∀ b, 2 ≤ b → b < rootOf p → ∃ k : Nat, OrdI b p k ∧ (k : Int) < p - 1 := by
  obtain ⟨n, rfl⟩ : ∃ n : Nat, p = n := ⟨p.toNat, by omega⟩
  have hc := root_check
  rw [List.all_eq_true] at hc
  have hc := hc n (by simp; omega)
  rw [isPb_of (by omega) h3] at hc
  simp only [Bool.not_true, Bool.false_or, Bool.or_eq_true, Bool.and_eq_true, Nat.blt_eq] at hc
  obtain ⟨c1, c2⟩ := hc.resolve_left (by omega)
  obtain ⟨k1, k2, k3⟩ := rootN_ok n 40 2 (by omega) (by omega) _ rfl (by omega)
  have hord := ordN_ord (k2.resolve_left (by omega)) (by omega)
  have key : ∀ b : Int, 2 ≤ b → b < rootOf n → ∃ k : Nat, OrdI b n k ∧ (k : Int) < n - 1 := fun b b1 b2 => by
    obtain ⟨m, rfl⟩ : ∃ m : Nat, b = m := ⟨b.toNat, by omega⟩
    simp only [rootOf, Int.toNat_natCast] at b2
    obtain ⟨k, q1, q2⟩ := k3 m (by omega) (by omega)
    exact ⟨k, q1, by omega⟩
  refine ⟨⟨by simp only [rootOf, Int.toNat_natCast]; omega, by simp only [rootOf, Int.toNat_natCast]; omega, ⟨n - 1, by simpa only [rootOf, Int.toNat_natCast] using hord, by omega⟩, fun b b1 b2 => ?_⟩, key⟩
  obtain ⟨k, q1, q2⟩ := key b b1 b2
  exact ⟨k, q1, by omega, by omega⟩

theorem powI_shift {w p : Int} {i j : Nat} (h : powI w p i = powI w p j) : ∀ m, powI w p (i + m) = powI w p (j + m)
  | 0 => h
  | m + 1 => by
    have := powI_shift h m
    show (powI w p (i + m) * w).tmod p = (powI w p (j + m) * w).tmod p
    rw [this]

theorem OrdI.dst {w p : Int} {k : Nat} (h : OrdI w p k) : Dst w p k := by
  intro i j h1 h2 h3 e
  have := powI_shift e (k - j)
  rw [show j + (k - j) = k by omega, h.2.1] at this
  exact h.2.2 (i + (k - j)) (by omega) (by omega) this
theorem OrdI.not_dst {w p : Int} {k n : Nat} (h : OrdI w p k) (hn : k < n) : ¬ Dst w p n := by
  intro hd
  have e : powI w p 0 = powI w p k := h.2.1.symm
  have := powI_shift e 1
  rw [show 0 + 1 = 1 by omega] at this
  have := h.1
  exact hd 1 (k + 1) (by omega) (by omega) (by omega) ‹_›

theorem prime_all {p : Int} : PrimeAll p ↔ PrimeOK p := by
  constructor
  · rintro ⟨h1, h2⟩
    refine ⟨h1, fun d d1 d2 => h2 d d1 ?_⟩
    have : 2 * d ≤ d * d := Int.mul_le_mul_of_nonneg_right d1 (by omega)
    omega
  · rintro ⟨h1, h2⟩
    refine ⟨h1, fun d d1 d2 hd => ?_⟩
    obtain ⟨e, he⟩ := Int.dvd_of_tmod_eq_zero hd
    have he0 : 0 < e := by
      rcases Int.lt_trichotomy e 0 with h | h | h
      · have : d * e < 0 := Int.mul_neg_of_pos_of_neg (by omega) h
        omega
      · subst h; omega
      · exact h
    have he1 : e ≠ 1 := fun h => by subst h; omega
    by_cases h : p < d * d
    · have : e ≤ d := by
        by_cases h3 : d < e
        · have : d * d < d * e := Int.mul_lt_mul_of_pos_left h3 (by omega)
          omega
        · omega
      refine h2 e (by omega) ?_ ?_
      · rw [he]; exact Int.mul_le_mul_of_nonneg_right this (by omega)
      · rw [he]; simp
    · exact h2 d d1 (by omega) hd
end Go.Idl.How
namespace Go.Idl.How
set_option linter.all false
open Go.Idl
open Go.Proofs
set_option maxHeartbeats 2000000
set_option maxRecDepth 20000
end Go.Idl.How
namespace Go.Idl.How
set_option linter.all false
open Go.Idl
open Go.Proofs
set_option maxHeartbeats 4000000
set_option maxRecDepth 20000

/-- The numbers of tables that have a prime. -/
def HP (t : Int) : Prop := 2 ≤ t ∧ t ≤ 24 ∧ PrimeOK (2 * t - 1) ∧ bitsOf .and .i64 (2 * t - 2) (2 * t - 3) ≠ 0
open Classical in
noncomputable def stL (t : Int) : List (Int × Int) := if HP t then strgP (rootOf (2 * t - 1)) (2 * t - 1) else opp t (t.toNat - 1)

theorem stL_pos {t : Int} (h : HP t) : stL t = strgP (rootOf (2 * t - 1)) (2 * t - 1) := by unfold stL; rw [if_pos h]
theorem stL_neg {t : Int} (h : ¬ HP t) : stL t = opp t (t.toNat - 1) := by unfold stL; rw [if_neg h]

theorem starter_fun (t : Int) : IFun true Tryz.prog [] 26 [.int .i64 t] (fun v => (2 ≤ t ∧ t ≤ 24 ∧ v = .tup [.fz 2 (prs (stL t)), .int .i64 0]) ∨ (¬ (2 ≤ t ∧ t ≤ 24) ∧ v = .tup [.fz 2 (prs []), .int .i64 2])) := by
  refine IFun.of_bodyZ false 8 [13, 21] Tryz.func26 rfl Tryz.call26 rfl fun R hR => ?_
  simp [go_sem]
  split
  case isTrue h =>
    refine hR _ _ _ (.inr ⟨by omega, rfl⟩) ?_
    simp [go_sem]
  rename_i h
  have ht : 2 ≤ t ∧ t ≤ 24 := by omega
  refine (Prime_fun t).callM (by simp [go_sem]) ?_
  rintro _ (⟨rfl, hp⟩ | ⟨rfl, hp⟩)
  · simp [go_sem]
    have h1 := root_ok (p := 2 * t - 1) (by omega) (by omega) hp.2.2.1
    refine IFun.callOF (strong_fun (2 * t - 1) (rootOf (2 * t - 1)) (by omega) (by omega) hp.2.2.1 h1.1) (by simp [go_sem, bx]) ?_
    rintro _ rfl
    refine ⟨_, _, _, .here, by decide, rfl, by simp [go_sem], ?_⟩
    simp [go_sem]
    refine hR _ _ _ (.inl ⟨ht.1, ht.2, rfl⟩) ?_
    simp [go_sem, stL_pos hp]
  · simp [go_sem]
    refine IFun.callOF (opposite_fun t ht.1 ht.2) (by simp [go_sem, bx]) ?_
    rintro _ rfl
    refine ⟨_, _, _, .here, by decide, rfl, by simp [go_sem], ?_⟩
    simp [go_sem]
    refine hR _ _ _ (.inl ⟨ht.1, ht.2, rfl⟩) ?_
    simp [go_sem, stL_neg hp]

theorem hv_two : ∀ (n : Nat) (d t : Int), hv n (2 * d) t = (2 * (hv n d t).1, (hv n d t).2)
  | 0, d, t => rfl
  | n + 1, d, t => by
    simp only [hv]
    split
    · exact hv_two n _ _
    · rfl
theorem RPrimeOK_iff (t : Int) : RPrimeOK t ↔ HP t := by
  have key : ∀ n : Nat, n < 25 → 2 ≤ n → ((∀ k : Nat, k < 7 → 2 * (n : Int) - 2 ≠ 2 ^ k) ↔ bitsOf .and .i64 (2 * (n : Int) - 2) (2 * (n : Int) - 3) ≠ 0) := by decide +kernel
  unfold RPrimeOK HP
  rw [prime_all]
  constructor
  · rintro ⟨h1, h2, h3, h4⟩
    obtain ⟨n, rfl⟩ : ∃ n : Nat, t = n := ⟨t.toNat, by omega⟩
    exact ⟨h1, h2, h3, (key n (by omega) (by omega)).1 h4⟩
  · rintro ⟨h1, h2, h3, h4⟩
    obtain ⟨n, rfl⟩ : ∃ n : Nat, t = n := ⟨t.toNat, by omega⟩
    exact ⟨h1, h2, h3, (key n (by omega) (by omega)).2 h4⟩
end Go.Idl.How
namespace Go.Idl.How
set_option linter.all false
open Go.Idl
open Go.Proofs
set_option maxHeartbeats 4000000
set_option maxRecDepth 20000
def w64 (n : Int) : Int := IntKind.i64.wrap n
/-- How often a pair has the number. -/
def hits (n k what : Int) (p : Int × Int) : Int :=
  (if what = 0 ∧ p.1 = k then 1 else 0) + (if what = 0 ∧ p.2 = k then 1 else 0) + (if what = 1 ∧ (w64 (w64 (p.1 + n) - p.2)).tmod n = k then 1 else 0) + (if what = 1 ∧ (w64 (w64 (p.2 + n) - p.1)).tmod n = k then 1 else 0) + (if what = 2 ∧ (w64 (p.1 + p.2)).tmod n = k then 1 else 0)
def timesI (n k what : Int) (l : List (Int × Int)) : Int := (l.map (hits n k what)).sum
theorem times_bd (n k what : Int) (l : List (Int × Int)) : 0 ≤ timesI n k what l ∧ timesI n k what l ≤ 5 * l.length := by
  induction l with
  | nil => simp [timesI]
  | cons p l ih =>
    have : 0 ≤ hits n k what p ∧ hits n k what p ≤ 5 := by unfold hits; omega
    simp only [timesI, List.map_cons, List.sum_cons, List.length_cons] at *
    omega
end Go.Idl.How
namespace Go.Idl.How
set_option linter.all false
open Go.Idl
open Go.Proofs
set_option maxHeartbeats 4000000
set_option maxRecDepth 20000

def BadN (n : Int) : Prop := n.tmod 2 = 0 ∨ n < 3 ∨ 47 < n
def InR (n : Int) (p : Int × Int) : Prop := 1 ≤ p.1 ∧ p.1 < n ∧ 1 ≤ p.2 ∧ p.2 < n
def nums (l : List (Int × Int)) : List Int := l.flatMap fun p => [p.1, p.2]
def difs (n : Int) (l : List (Int × Int)) : List Int := l.flatMap fun p => [(p.1 - p.2 + n).tmod n, (p.2 - p.1 + n).tmod n]
def sums (n : Int) (l : List (Int × Int)) : List Int := l.map fun p => (p.1 + p.2).tmod n
def Good (n : Int) (l : List (Int × Int)) : Prop := (∀ p ∈ l, InR n p) ∧ (nums l).Nodup ∧ (difs n l).Nodup
def Str (n : Int) (l : List (Int × Int)) : Prop := (sums n l).Nodup ∧ (0 : Int) ∉ sums n l
def ChkV (n : Int) (l : List (Int × Int)) (b : Bool) (e : Int) : Prop :=
  (BadN n ∧ b = false ∧ e = 2) ∨ (¬ BadN n ∧ ((l.length : Int) ≠ (n - 1).tdiv 2 ∨ ¬ Good n l) ∧ b = false ∧ e = 260) ∨ (¬ BadN n ∧ (l.length : Int) = (n - 1).tdiv 2 ∧ Good n l ∧ (b = true ↔ Str n l) ∧ e = 0)

theorem times_num (n k : Int) (l : List (Int × Int)) : timesI n k 0 l = ((nums l).count k : Nat) := by
  induction l with
  | nil => rfl
  | cons p l ih =>
    simp only [timesI, List.map_cons, List.sum_cons] at ih ⊢
    rw [ih]
    simp only [nums, List.flatMap_cons, List.count_append, List.count_cons, List.count_nil, hits]
    by_cases h1 : p.1 = k <;> by_cases h2 : p.2 = k <;> simp [h1, h2] <;> omega
theorem times_dif (n k : Int) (hn : 3 ≤ n) (hn2 : n ≤ 47) (l : List (Int × Int)) (hl : ∀ p ∈ l, InR n p) : timesI n k 1 l = ((difs n l).count k : Nat) := by
  induction l with
  | nil => rfl
  | cons p l ih =>
    have ih := ih fun p hp => hl p (by simp [hp])
    have hp := hl p (by simp)
    unfold InR at hp
    simp only [timesI, List.map_cons, List.sum_cons] at ih ⊢
    rw [ih]
    have e1 : w64 (w64 (p.1 + n) - p.2) = p.1 - p.2 + n := by simp (disch := omega) only [w64, wrap64]; omega
    have e2 : w64 (w64 (p.2 + n) - p.1) = p.2 - p.1 + n := by simp (disch := omega) only [w64, wrap64]; omega
    simp only [difs, List.flatMap_cons, List.count_append, List.count_cons, List.count_nil, hits, e1, e2]
    by_cases h1 : (p.1 - p.2 + n).tmod n = k <;> by_cases h2 : (p.2 - p.1 + n).tmod n = k <;> simp [h1, h2] <;> omega
theorem times_sum (n k : Int) (hn : 3 ≤ n) (hn2 : n ≤ 47) (l : List (Int × Int)) (hl : ∀ p ∈ l, InR n p) : timesI n k 2 l = ((sums n l).count k : Nat) := by
  induction l with
  | nil => rfl
  | cons p l ih =>
    have ih := ih fun p hp => hl p (by simp [hp])
    have hp := hl p (by simp)
    unfold InR at hp
    simp only [timesI, List.map_cons, List.sum_cons] at ih ⊢
    rw [ih]
    have e1 : w64 (p.1 + p.2) = p.1 + p.2 := by simp (disch := omega) only [w64, wrap64]
    simp only [sums, List.map_cons, List.count_cons, hits, e1]
    by_cases h1 : (p.1 + p.2).tmod n = k <;> simp [h1] <;> omega

theorem pig {n : Int} {L : List Int} (hL : ∀ x ∈ L, 1 ≤ x ∧ x < n) (hlen : (L.length : Int) = n - 1) : L.Nodup ↔ ∀ k, 1 ≤ k → k < n → L.count k = 1 := by
  constructor
  · intro hnd k h1 h2
    have hle := List.nodup_iff_count.1 hnd k
    by_cases h0 : L.count k = 0
    · exfalso
      have hk : k ∉ L := List.count_eq_zero.1 h0
      have hnd2 : (k :: L).Nodup := List.nodup_cons.2 ⟨hk, hnd⟩
      have hsub : k :: L ⊆ (List.range (n.toNat - 1)).map fun (i : Nat) => (i : Int) + 1 := by
        intro x hx
        have hx' : 1 ≤ x ∧ x < n := by
          rcases List.mem_cons.1 hx with rfl | hx
          · exact ⟨h1, h2⟩
          · exact hL x hx
        rw [List.mem_map]
        exact ⟨(x - 1).toNat, by rw [List.mem_range]; omega, by omega⟩
      have := List.Nodup.length_le_of_subset hnd2 hsub
      simp at this
      omega
    · omega
  · intro h
    rw [List.nodup_iff_count]
    intro a
    by_cases ha : a ∈ L
    · have := hL a ha
      rw [h a this.1 this.2]; omega
    · rw [List.count_eq_zero.2 ha]; omega

theorem nums_length (l : List (Int × Int)) : (nums l).length = 2 * l.length := by
  induction l with
  | nil => rfl
  | cons p l ih => simp only [nums, List.flatMap_cons, List.length_append, List.length_cons, List.length_nil] at ih ⊢; omega
theorem difs_length (n : Int) (l : List (Int × Int)) : (difs n l).length = 2 * l.length := by
  induction l with
  | nil => rfl
  | cons p l ih => simp only [difs, List.flatMap_cons, List.length_append, List.length_cons, List.length_nil] at ih ⊢; omega
theorem nums_in {n : Int} {l : List (Int × Int)} (hl : ∀ p ∈ l, InR n p) : ∀ x ∈ nums l, 1 ≤ x ∧ x < n := by
  intro x hx
  simp only [nums, List.mem_flatMap, List.mem_cons, List.not_mem_nil, or_false] at hx
  obtain ⟨p, hp, rfl | rfl⟩ := hx
  · have := hl p hp; unfold InR at this; omega
  · have := hl p hp; unfold InR at this; omega
theorem tmod_pos {a n : Int} (h : 0 < a) (h2 : a < 2 * n) (h3 : a ≠ n) : 1 ≤ a.tmod n ∧ a.tmod n < n := by
  rw [Int.tmod_eq_emod_of_nonneg (by omega)]
  by_cases h4 : a < n
  · rw [Int.emod_eq_of_lt (by omega) h4]; omega
  · have : a % n = a - n := by
      rw [← Int.sub_emod_right, Int.emod_eq_of_lt (by omega) (by omega)]
    omega
theorem difs_in {n : Int} {l : List (Int × Int)} (hl : ∀ p ∈ l, InR n p) (hne : ∀ p ∈ l, p.1 ≠ p.2) : ∀ x ∈ difs n l, 1 ≤ x ∧ x < n := by
  intro x hx
  simp only [difs, List.mem_flatMap, List.mem_cons, List.not_mem_nil, or_false] at hx
  obtain ⟨p, hp, rfl | rfl⟩ := hx
  · have h1 := hl p hp; have h2 := hne p hp; unfold InR at h1; exact tmod_pos (by omega) (by omega) (by omega)
  · have h1 := hl p hp; have h2 := hne p hp; unfold InR at h1; exact tmod_pos (by omega) (by omega) (by omega)
theorem nums_ne {l : List (Int × Int)} (h : (nums l).Nodup) : ∀ p ∈ l, p.1 ≠ p.2 := by
  induction l with
  | nil => simp
  | cons q l ih =>
    simp only [nums, List.flatMap_cons, List.cons_append, List.nil_append] at h
    rw [List.nodup_cons] at h
    intro p hp
    rcases List.mem_cons.1 hp with rfl | hp
    · intro e; exact h.1 (by rw [e]; simp)
    · exact ih (List.nodup_cons.1 h.2).2 p hp
theorem good_iff {n : Int} {l : List (Int × Int)} (hn : 3 ≤ n) (hn2 : n ≤ 47) (hl : ∀ p ∈ l, InR n p) (hlen : 2 * (l.length : Int) = n - 1) :
    Good n l ↔ ∀ k, 1 ≤ k → k < n → timesI n k 0 l = 1 ∧ timesI n k 1 l = 1 := by
  have hN := pig (nums_in hl) (by rw [nums_length]; omega)
  constructor
  · rintro ⟨_, h1, h2⟩ k k1 k2
    have hD := pig (difs_in hl (nums_ne h1)) (by rw [difs_length]; omega)
    rw [times_num, times_dif n k hn hn2 l hl, hN.1 h1 k k1 k2, hD.1 h2 k k1 k2]
    exact ⟨rfl, rfl⟩
  · intro h
    have h1 : (nums l).Nodup := hN.2 fun k k1 k2 => by have := (h k k1 k2).1; rw [times_num] at this; omega
    have hD := pig (difs_in hl (nums_ne h1)) (by rw [difs_length]; omega)
    exact ⟨hl, h1, hD.2 fun k k1 k2 => by have := (h k k1 k2).2; rw [times_dif n k hn hn2 l hl] at this; omega⟩
theorem str_iff {n : Int} {l : List (Int × Int)} (hn : 3 ≤ n) (hn2 : n ≤ 47) (hl : ∀ p ∈ l, InR n p) :
    Str n l ↔ timesI n 0 2 l = 0 ∧ ∀ k, 1 ≤ k → k < n → timesI n k 2 l ≤ 1 := by
  have hin : ∀ x ∈ sums n l, 0 ≤ x ∧ x < n := by
    intro x hx
    simp only [sums, List.mem_map] at hx
    obtain ⟨p, hp, rfl⟩ := hx
    have h1 := hl p hp
    unfold InR at h1
    rw [Int.tmod_eq_emod_of_nonneg (by omega)]
    exact ⟨Int.emod_nonneg _ (by omega), Int.emod_lt_of_pos _ (by omega)⟩
  constructor
  · rintro ⟨h1, h2⟩
    refine ⟨by rw [times_sum n 0 hn hn2 l hl, List.count_eq_zero.2 h2]; rfl, fun k _ _ => ?_⟩
    rw [times_sum n k hn hn2 l hl]
    have := List.nodup_iff_count.1 h1 k
    omega
  · rintro ⟨h1, h2⟩
    rw [times_sum n 0 hn hn2 l hl] at h1
    refine ⟨List.nodup_iff_count.2 fun a => ?_, List.count_eq_zero.1 (by omega)⟩
    by_cases ha : a ∈ sums n l
    · have h3 := hin a ha
      by_cases h0 : a = 0
      · subst h0; omega
      · have := h2 a (by omega) h3.2
        rw [times_sum n a hn hn2 l hl] at this
        omega
    · rw [List.count_eq_zero.2 ha]; omega
end Go.Idl.How
