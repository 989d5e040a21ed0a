/-
  Chapter 26: numbers, with no program in sight: primes, orders, primitive roots up to 1000.
-/
import Derived.Test.YtjaefodhiegmmaaC26nJ
namespace Go.Idl
set_option linter.all false

def ordN (w p : Nat) : Nat → Nat → Nat → Nat
  | 0, _, _ => 0
  | f + 1, x, k => if x = 1 then k else ordN w p f (x * w % p) (k + 1)
def rootN (p : Nat) : Nat → Nat → Nat
  | 0, _ => 0
  | f + 1, w => let k := ordN w p p (w % p) 1; if k = p - 1 then w else if k = 0 ∨ p - 1 < k then 0 else rootN p f (w + 1)
def isPb (p : Nat) : Bool := Nat.ble 2 p && (List.range 32).all fun d => Nat.blt d 2 || Nat.blt p (d * d) || !(Nat.beq (p % d) 0)

theorem root_check : (List.range 1001).all (fun p => !(isPb p) || Nat.blt p 3 || (Nat.blt 1 (rootN p 40 2) && Nat.blt (rootN p 40 2) p)) = true := by decide +kernel

def powN (w p : Nat) : Nat → Nat
  | 0 => 1
  | n + 1 => powN w p n * w % p
theorem powI_nat (w p : Nat) : ∀ n, powI w p n = (powN w p n : Int)
  | 0 => rfl
  | n + 1 => by
    simp only [powI, powN, powI_nat w p n]
    rw [Int.tmod_eq_emod_of_nonneg (Int.mul_nonneg (by omega) (by omega))]
    simp

theorem ordN_ok (w p : Nat) : ∀ (f x k : Nat), 0 < k → x = powN w p k → (∀ j, 0 < j → j < k → powN w p j ≠ 1) → ∀ r, ordN w p f x k = r → r ≠ 0 → 0 < r ∧ powN w p r = 1 ∧ ∀ j, 0 < j → j < r → powN w p j ≠ 1
  | 0, x, k, hk, hx, hj, r, h, hr => by simp [ordN] at h; omega
  | f + 1, x, k, hk, hx, hj, r, h, hr => by
    simp only [ordN] at h
    split at h
    · rename_i h1; subst h; exact ⟨hk, hx ▸ h1, hj⟩
    · rename_i h1
      refine ordN_ok w p f _ (k + 1) (by omega) (by rw [hx]; rfl) (fun j a b => ?_) r h hr
      by_cases e : j = k
      · subst e; rw [← hx]; exact h1
      · exact hj j a (by omega)

theorem ordN_ord {w p k : Nat} (h : ordN w p p (w % p) 1 = k) (hk : k ≠ 0) : OrdI w p k := by
  obtain ⟨h1, h2, h3⟩ := ordN_ok w p p (w % p) 1 (by omega) (by simp [powN]) (by omega) k h hk
  refine ⟨h1, by rw [powI_nat, h2]; rfl, fun j a b e => ?_⟩
  rw [powI_nat] at e
  exact h3 j a b (by omega)

theorem rootN_ok (p : Nat) : ∀ (f w : Nat), 2 ≤ w → (∀ b : Nat, 2 ≤ b → b < w → ∃ k : Nat, OrdI b p k ∧ k < p - 1) → ∀ g, rootN p f w = g → g ≠ 0 → 2 ≤ g ∧ (g = 0 ∨ ordN g p p (g % p) 1 = p - 1) ∧ ∀ b : Nat, 2 ≤ b → b < g → ∃ k : Nat, OrdI b p k ∧ k < p - 1
  | 0, w, hw, hb, g, h, hg => by simp [rootN] at h; omega
  | f + 1, w, hw, hb, g, h, hg => by
    simp only [rootN] at h
    split at h
    · rename_i h1; subst h; exact ⟨hw, .inr h1, hb⟩
    · rename_i h1
      split at h
      · omega
      · rename_i h2
        refine rootN_ok p f (w + 1) (by omega) (fun b a c => ?_) g h hg
        by_cases e : b = w
        · subst e; exact ⟨_, ordN_ord rfl (by omega), by omega⟩
        · exact hb b a (by omega)

def rootOf (p : Int) : Int := rootN p.toNat 40 2

theorem isPb_of {p : Nat} (hp : p ≤ 1000) (h : PrimeOK p) : isPb p = true := by
  have h2 := h.1
  simp only [isPb, Bool.and_eq_true, Nat.ble_eq, List.all_eq_true, List.mem_range, Bool.or_eq_true, Nat.blt_eq, Bool.not_eq_true']
  refine ⟨by omega, fun d hd => ?_⟩
  by_cases h1 : d < 2
  · exact .inl (.inl h1)
  · by_cases h3 : p < d * d
    · exact .inl (.inr h3)
    · refine .inr ?_
      have := h.2 d (by omega) (by have : ((d * d : Nat) : Int) ≤ p := by omega
                                   simpa using this)
      rw [Int.tmod_eq_emod_of_nonneg (by omega)] at this
      cases hb : Nat.beq (p % d) 0 with
      | false => rfl
      | true =>
        rw [Nat.beq_eq] at hb
        exact absurd (by have : ((p % d : Nat) : Int) = 0 := by omega
                         simpa using this) this

theorem root_ok {p : Int} (h1 : 3 ≤ p) (h2 : p ≤ 1000) (h3 : PrimeOK p) : IsRoot (rootOf p) p ∧ ∀ b, 2 ≤ b → b < rootOf p → ∃ k : Nat, OrdI b p k ∧ (k : Int) < p - 1 := by
  obtain ⟨n, rfl⟩ : ∃ n : Nat, p = n := ⟨p.toNat, by omega⟩
  have hc := root_check
  rw [List.all_eq_true] at hc
  have hc := hc n (by simp; omega)
  rw [isPb_of (by omega) h3] at hc
  simp only [Bool.not_true, Bool.false_or, Bool.or_eq_true, Bool.and_eq_true, Nat.blt_eq] at hc
  obtain ⟨c1, c2⟩ := hc.resolve_left (by omega)
  obtain ⟨k1, k2, k3⟩ := rootN_ok n 40 2 (by omega) (by omega) _ rfl (by omega)
  have hord := ordN_ord (k2.resolve_left (by omega)) (by omega)
  have key : ∀ b : Int, 2 ≤ b → b < rootOf n → ∃ k : Nat, OrdI b n k ∧ (k : Int) < n - 1 := fun b b1 b2 => by
    obtain ⟨m, rfl⟩ : ∃ m : Nat, b = m := ⟨b.toNat, by omega⟩
    simp only [rootOf, Int.toNat_natCast] at b2
    obtain ⟨k, q1, q2⟩ := k3 m (by omega) (by omega)
    exact ⟨k, q1, by omega⟩
  refine ⟨⟨by simp only [rootOf, Int.toNat_natCast]; omega, by simp only [rootOf, Int.toNat_natCast]; omega, ⟨n - 1, by simpa only [rootOf, Int.toNat_natCast] using hord, by omega⟩, fun b b1 b2 => ?_⟩, key⟩
  obtain ⟨k, q1, q2⟩ := key b b1 b2
  exact ⟨k, q1, by omega, by omega⟩

theorem powI_shift {w p : Int} {i j : Nat} (h : powI w p i = powI w p j) : ∀ m, powI w p (i + m) = powI w p (j + m)
  | 0 => h
  | m + 1 => by
    have := powI_shift h m
    show (powI w p (i + m) * w).tmod p = (powI w p (j + m) * w).tmod p
    rw [this]

theorem OrdI.dst {w p : Int} {k : Nat} (h : OrdI w p k) : Dst w p k := by
  intro i j h1 h2 h3 e
  have := powI_shift e (k - j)
  rw [show j + (k - j) = k by omega, h.2.1] at this
  exact h.2.2 (i + (k - j)) (by omega) (by omega) this
theorem OrdI.not_dst {w p : Int} {k n : Nat} (h : OrdI w p k) (hn : k < n) : ¬ Dst w p n := by
  intro hd
  have e : powI w p 0 = powI w p k := h.2.1.symm
  have := powI_shift e 1
  rw [show 0 + 1 = 1 by omega] at this
  have := h.1
  exact hd 1 (k + 1) (by omega) (by omega) (by omega) ‹_›

theorem prime_all {p : Int} : PrimeAll p ↔ PrimeOK p := by
  constructor
  · rintro ⟨h1, h2⟩
    refine ⟨h1, fun d d1 d2 => h2 d d1 ?_⟩
    have : 2 * d ≤ d * d := Int.mul_le_mul_of_nonneg_right d1 (by omega)
    omega
  · rintro ⟨h1, h2⟩
    refine ⟨h1, fun d d1 d2 hd => ?_⟩
    obtain ⟨e, he⟩ := Int.dvd_of_tmod_eq_zero hd
    have he0 : 0 < e := by
      rcases Int.lt_trichotomy e 0 with h | h | h
      · have : d * e < 0 := Int.mul_neg_of_pos_of_neg (by omega) h
        omega
      · subst h; omega
      · exact h
    have he1 : e ≠ 1 := fun h => by subst h; omega
    by_cases h : p < d * d
    · have : e ≤ d := by
        by_cases h3 : d < e
        · have : d * d < d * e := Int.mul_lt_mul_of_pos_left h3 (by omega)
          omega
        · omega
      refine h2 e (by omega) ?_ ?_
      · rw [he]; exact Int.mul_le_mul_of_nonneg_right this (by omega)
      · rw [he]; simp
    · exact h2 d d1 (by omega) hd
end Go.Idl
