/-
  Package frac: size, gcd, pack, Make, Right, Near.
  Package event: sorting numbers stably: ranges swapped and turned (walks).
-/
import Derived.Test.YtamffdgopknkfaaDoorC39PartB
import Derived.Test.YtamffdgopknkfaaDoorC39PartP
namespace Go.Idl
set_option linter.all false
open Go.Proofs
set_option maxHeartbeats 8000000
set_option maxRecDepth 40000

theorem wrapu {n : Int} (h1 : 0 ≤ n) (h2 : n < 18446744073709551616) : IntKind.u64.wrap n = n := by
  simp [IntKind.wrap, IntKind.bits, IntKind.signed]
  omega
/-- A fraction. -/
structure Frc where
  num : Int
  den : Int
  deriving DecidableEq
def Frc.c (f : Frc) : List IV := [.int .i64 f.num, .int .i64 f.den]
def Frc.v (f : Frc) : IV := .agg [.int .i64 f.num, .int .i64 f.den]
def packF (m : Bool) (n d : Nat) : Frc × Int := if (if m = true then 9223372036854775808 else 9223372036854775807) < n ∨ 9223372036854775807 < d then (⟨0, 0⟩, 3) else (⟨if m = true then -(n : Int) else n, d⟩, 0)
end Go.Idl
namespace Go.Idl
set_option linter.all false
open Go.Proofs
set_option maxHeartbeats 16000000
set_option maxRecDepth 40000

theorem nts_swap29 {B : List Nat} {i j : Nat} : nts (swap2 B i j) = ((nts B).set i [.int .i64 (B.getD j 0 : Nat)]).set j [.int .i64 (B.getD i 0 : Nat)] := by rw [swap2, nts_set, nts_set]
theorem swapRangeM_calls (l : List Em) (A : List Nat) (a b n : Nat) (hab : a + n ≤ b) (hbn : b + n ≤ A.length) (hA : A.length < 2 ^ 61) :
    ICalls Tryd.prog glT 116 [.sl 0 A.length 0 A.length none, .int .i64 (a : Int), .int .i64 (b : Int), .int .i64 (n : Int), ck1V] (sortH9 l A)
      (fun _ σ => ∃ B, Swp A a b n B ∧ σ = sortH9 l B) := by
  refine ICalls.forget (ICalls.of_bodyE false 11 [13] Tryd.func116 rfl Tryd.call116 rfl fun R hR => ?_)
  obtain ⟨N, hN⟩ : ∃ N, A.length = N := ⟨_, rfl⟩
  rw [hN] at hbn hA ⊢
  unfold sortH9 lC9 ck1V at *
  simp [go_sem]
  refine IWp.loopI (α := Nat × List Nat) (fun p => (⟨false, 38, 11, [13], glT, [(0, .sl 0 N 0 N none), (1, .int .i64 (a : Int)), (2, .int .i64 (b : Int)), (3, .int .i64 (n : Int)), (10, .int .i64 (p.1 : Int))], []⟩, sortH9 l p.2))
    (fun p => p.1 ≤ n ∧ Swp A a b p.1 p.2) (fun p => n - p.1) (0, A) ⟨by simp, .zero⟩ (by simp [go_sem, sortH9, lC9]) ?_
  rintro ⟨i, B⟩ ⟨hi, hS⟩
  simp only at hi hS
  have hB : B.length = N := by rw [hS.len, hN]
  unfold sortH9 lC9
  refine IWp.seqI ?_
  by_cases h : i < n
  · have v1 : IntKind.i64.wrap ((i : Int) + 1) = ((i + 1 : Nat) : Int) := by rw [wrap64 (by omega) (by omega)]; omega
    have v2 : IntKind.i64.wrap ((a : Int) + i) = ((a + i : Nat) : Int) := by rw [wrap64 (by omega) (by omega)]; omega
    have v3 : IntKind.i64.wrap ((b : Int) + i) = ((b + i : Nat) : Int) := by rw [wrap64 (by omega) (by omega)]; omega
    have a1 : a + i < N := by omega
    have a2 : b + i < N := by omega
    have e1 := nts_at (l := B) (i := a + i) (by omega)
    have e2 := nts_at (l := B) (i := b + i) (by omega)
    have hN2 := hS.step (by omega) (by rw [hN]; omega)
    have hsw := nts_swap29 (B := B) (i := a + i) (j := b + i)
    have hne : a + i ≠ b + i := by omega
    obtain ⟨I, hI⟩ : ∃ I, a + i = I := ⟨_, rfl⟩
    obtain ⟨J, hJ⟩ : ∃ J, b + i = J := ⟨_, rfl⟩
    rw [hI] at v2 a1 e1 hN2 hsw hne
    rw [hJ] at v3 a2 e2 hN2 hsw hne
    have q1 : B[I]'(by omega) = B.getD I 0 := by simp [show I < B.length by omega]
    have q2 : B[J]'(by omega) = B.getD J 0 := by simp [show J < B.length by omega]
    generalize B.getD I 0 = X at *
    generalize B.getD J 0 = Y at *
    generalize swap2 B I J = Sw at *
    simp [go_sem, h]
    refine IWp.seqI ?_
    simp [go_sem, hB, a1, a2, e1, e2, v2, v3, q1, q2]
    refine ⟨by decide +kernel, ?_⟩
    refine IWp.now ?_
    simp [go_sem, v1]
    refine ⟨i + 1, Sw, ⟨by omega, ?_⟩, ⟨by omega, hN2⟩, by omega⟩
    rw [hsw, List.getElem_set_ne hne, nts_getElem]
    rfl
  · obtain rfl : i = n := by omega
    simp [go_sem]
    exact hR _ _ ⟨_, by simp [go_sem], B, hS, rfl⟩
theorem rotateM_calls (l : List Em) (A : List Nat) (a m b : Nat) (ham : a < m) (hmb : m < b) (hb : b ≤ A.length) (hA : A.length < 2 ^ 61) :
    ICalls Tryd.prog glT 97 [.sl 0 A.length 0 A.length none, .int .i64 (a : Int), .int .i64 (m : Int), .int .i64 (b : Int), ck1V] (sortH9 l A)
      (fun _ σ => ∃ B, Rot A a m b B ∧ σ = sortH9 l B) := by
  refine ICalls.forget (ICalls.of_bodyE false 12 [20, 23] Tryd.func97 rfl Tryd.call97 rfl fun R hR => ?_)
  have cs := fun (B : List Nat) (hl : B.length = A.length) (i j n : Nat) h1 h2 => swapRangeM_calls l B i j n h1 h2 (by rw [hl]; exact hA)
  obtain ⟨N, hN⟩ : ∃ N, A.length = N := ⟨_, rfl⟩
  rw [hN] at hb hA cs ⊢
  have v1 : IntKind.i64.wrap ((m : Int) - a) = ((m - a : Nat) : Int) := by rw [wrap64 (by omega) (by omega)]; omega
  have v2 : IntKind.i64.wrap ((b : Int) - m) = ((b - m : Nat) : Int) := by rw [wrap64 (by omega) (by omega)]; omega
  unfold sortH9 lC9 ck1V at *
  simp [go_sem, v1, v2]
  refine IWp.loopT (α := Nat × Nat × List Nat) (fun p => (⟨false, 58, 12, [20, 23], glT, [(0, .sl 0 N 0 N none), (2, .int .i64 (m : Int)), (4, ck1V), (10, .int .i64 (p.1 : Int)), (11, .int .i64 (p.2.1 : Int))], []⟩, sortH9 l p.2.2))
    (fun p => 0 < p.1 ∧ p.1 ≤ m ∧ 0 < p.2.1 ∧ m + p.2.1 ≤ b ∧ p.2.2.length = N ∧ ∀ C, Rot p.2.2 (m - p.1) m (m + p.2.1) C → Rot A a m b C) (fun p => p.1 + p.2.1) (m - a, b - m, A) ⟨by simp; omega, by simp, by simp; omega, by simp; omega, hN, fun C h => by rwa [show m - (m - a) = a by omega, show m + (b - m) = b by omega] at h⟩ (by simp [go_sem, sortH9, lC9, ck1V]) ?_
  rintro ⟨i, j, B⟩ ⟨hi0, him, hj0, hjb, hB, hR2⟩
  simp only at hi0 him hj0 hjb hB hR2
  unfold sortH9 lC9 ck1V
  have v3 : IntKind.i64.wrap ((m : Int) - i) = ((m - i : Nat) : Int) := by rw [wrap64 (by omega) (by omega)]; omega
  by_cases hij : i = j
  · subst hij
    have cc := cs B hB (m - i) m i (by omega) (by omega)
    rw [hB] at cc
    simp [go_sem, v3]
    refine cc.at [0, 1] (by simp [go_sem]) ?_
    rintro _ _ ⟨C, hC, rfl⟩
    simp [go_sem]
    exact hR _ _ ⟨_, by simp [go_sem], C, hR2 C (hC.rot him), rfl⟩
  · have hij' : ¬ (i : Int) = j := by omega
    by_cases hlt : j < i
    · have hlt' : (j : Int) < i := by omega
      have v4 : IntKind.i64.wrap ((i : Int) - j) = ((i - j : Nat) : Int) := by rw [wrap64 (by omega) (by omega)]; omega
      have cc := cs B hB (m - i) m j (by omega) (by omega)
      rw [hB] at cc
      simp [go_sem, hij, hij', hlt, hlt', v3]
      refine cc.at [0, 1] (by simp [go_sem]) ?_
      rintro _ _ ⟨C, hC, rfl⟩
      simp [go_sem, v4]
      exact ⟨i - j, j, C, ⟨⟨rfl, rfl⟩, rfl⟩, ⟨by omega, by omega, hj0, hjb, by rw [hC.len, hB], fun D hD => hR2 D (Rot.big hlt him hC hD)⟩, by omega⟩
    · have hlt' : ¬ (j : Int) < i := by omega
      have v4 : IntKind.i64.wrap ((j : Int) - i) = ((j - i : Nat) : Int) := by rw [wrap64 (by omega) (by omega)]; omega
      have v5 : IntKind.i64.wrap ((m : Int) + j) = ((m + j : Nat) : Int) := by rw [wrap64 (by omega) (by omega)]; omega
      have v6 : IntKind.i64.wrap (((m + j : Nat) : Int) - i) = ((m + j - i : Nat) : Int) := by rw [wrap64 (by omega) (by omega)]; omega
      have cc := cs B hB (m - i) (m + j - i) i (by omega) (by omega)
      rw [hB] at cc
      obtain ⟨J, hJ⟩ : ∃ J, m + j = J := ⟨_, rfl⟩
      rw [hJ] at v5 v6 cc
      simp [go_sem, hij, hij', hlt, hlt', v3, v5, v6]
      refine cc.at [0, 1] (by simp [go_sem]) ?_
      rintro _ _ ⟨C, hC, rfl⟩
      simp [go_sem, v4]
      rw [← hJ] at hC
      exact ⟨i, j - i, C, ⟨⟨rfl, rfl⟩, rfl⟩, ⟨hi0, him, by omega, by omega, by rw [hC.len, hB], fun D hD => hR2 D (Rot.small (by omega) him hC hD)⟩, by omega⟩
end Go.Idl
