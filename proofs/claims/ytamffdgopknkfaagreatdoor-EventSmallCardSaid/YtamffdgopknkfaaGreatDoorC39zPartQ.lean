import Derived.Test.YtamffdgopknkfaaGreatDoorC39zPartP
set_option linter.all false
set_option maxHeartbeats 16000000
set_option maxRecDepth 40000
namespace Go.Idl
open Go.Proofs
theorem wrapu {n : Int} (h1 : 0 ≤ n) (h2 : n < 18446744073709551616) : IntKind.u64.wrap n = n := by
 simp [IntKind.wrap, IntKind.bits, IntKind.signed]
 omega
theorem wrapu_neg {n : Int} (h1 : -18446744073709551616 ≤ n) (h2 : n < 0) : IntKind.u64.wrap n = n + 18446744073709551616 := by
 simp [IntKind.wrap, IntKind.bits, IntKind.signed]
 omega
theorem wrap64_top {n : Int} (h1 : 9223372036854775808 ≤ n) (h2 : n < 18446744073709551616) : IntKind.i64.wrap n = n - 18446744073709551616 := by
 simp [IntKind.wrap, IntKind.bits, IntKind.signed]
 omega
theorem size_fun (n : Int) (h : -2 ^ 63 ≤ n ∧ n < 2 ^ 63) : FN 69 [.int .i64 n] (fun v => v = .int .u64 (n.natAbs : Nat)) := by
 refine IFun.of_bodyZ false 3 [4] Tryz.func69 rfl Tryz.call69 rfl fun R hR => ?_
 by_cases h0 : n < 0
 ·have w1 : IntKind.u64.wrap n = n + 18446744073709551616 := wrapu_neg (by omega) h0
  have w2 : IntKind.u64.wrap (0 - (n + 18446744073709551616)) = (n.natAbs : Nat) := by rw [wrapu_neg (by omega) (by omega)]; omega
  have w3 : IntKind.u64.wrap (-(n + 18446744073709551616)) = (n.natAbs : Nat) := by rw [← w2]; congr 1; omega
  simp [go_sem, h0, w1, w2, w3]
  exact hR _ _ _ rfl (by simp [go_sem])
 ·have w1 : IntKind.u64.wrap n = (n.natAbs : Nat) := by rw [wrapu (by omega) (by omega)]; omega
  simp [go_sem, h0, w1]
  exact hR _ _ _ rfl (by simp [go_sem])
theorem gcd_step {a b : Nat} : Nat.gcd b (a % b) = Nat.gcd a b := by rw [Nat.gcd_comm a b, Nat.gcd_rec b a, Nat.gcd_comm]
theorem gcd_fun (a b : Nat) (ha : a < 2 ^ 64) (hb : b < 2 ^ 64) : FN 68 [.int .u64 (a : Int), .int .u64 (b : Int)] (fun v => v = .int .u64 (Nat.gcd a b : Nat)) := by
 refine IFun.of_bodyZ false 5 [6] Tryz.func68 rfl Tryz.call68 rfl fun R hR => ?_
 simp [go_sem]
 refine IWp.loopT (α := Nat × Nat) (fun x => (⟨false, 12, 5, [6], glT, [(0, .int .u64 (x.1 : Int)), (1, .int .u64 (x.2 : Int))], []⟩, []))
  (fun x => x.1 < 2 ^ 64 ∧ x.2 < 2 ^ 64 ∧ Nat.gcd x.1 x.2 = Nat.gcd a b) (fun x => x.2) (a, b) ⟨ha, hb, rfl⟩ (by simp [go_sem]) ?_
 rintro ⟨x, y⟩ ⟨hx, hy, hg⟩
 simp only at hx hy hg
 by_cases h : y = 0
 ·subst h
  rw [Nat.gcd_zero_right] at hg
  simp [go_sem]
  exact hR _ _ _ rfl (by simp [go_sem, hg])
 ·have h' : ¬ (y : Int) = 0 := by omega
  have e : (x : Int).tmod (y : Int) = ((x % y : Nat) : Int) := by rw [Int.tmod_eq_emod_of_nonneg (by omega)]; exact (Int.natCast_emod x y).symm
  have hlt := Nat.mod_lt x (show 0 < y by omega)
  obtain ⟨z, hz⟩ : ∃ z, x % y = z := ⟨_, rfl⟩
  have hgz : Nat.gcd y z = Nat.gcd a b := by rw [← hz, gcd_step, hg]
  rw [hz] at e hlt
  simp [go_sem, h, h', e]
  exact ⟨by decide +kernel, y, z, ⟨rfl, rfl⟩, ⟨by omega, by omega, hgz⟩, hlt⟩
structure Frc where
 num : Int
 den : Int
 deriving DecidableEq
def Frc.c (f : Frc) : List IV := [.int .i64 f.num, .int .i64 f.den]
def Frc.v (f : Frc) : IV := .agg [.int .i64 f.num, .int .i64 f.den]
def packF (m : Bool) (n d : Nat) : Frc × Int := if (if m = true then 9223372036854775808 else 9223372036854775807) < n ∨ 9223372036854775807 < d then (⟨0, 0⟩, 3) else (⟨if m = true then -(n : Int) else n, d⟩, 0)
theorem pack_fun (m : Bool) (n0 n d0 d : Nat) (h0 : n0 < 2 ^ 64) (h1 : n < 2 ^ 64) (h2 : d0 < 2 ^ 64) (h3 : d < 2 ^ 64) : FN 90 [.bool m, .agg [.int .u64 (n0 : Int), .int .u64 (n : Int)], .agg [.int .u64 (d0 : Int), .int .u64 (d : Int)]]
  (fun v => v = .tup [(if n0 ≠ 0 ∨ d0 ≠ 0 then (⟨0, 0⟩ : Frc) else (packF m n d).1).v, .int .i64 (if n0 ≠ 0 ∨ d0 ≠ 0 then 3 else (packF m n d).2)]) := by
 refine IFun.of_bodyZ false 9 [9, 30, 32] Tryz.func90 rfl Tryz.call90 rfl fun R hR => ?_
 have wm : IntKind.u64.wrap 9223372036854775808 = 9223372036854775808 := by decide
 by_cases a0 : n0 = 0
 case neg =>
  have a0' : ¬ (n0 : Int) = 0 := by omega
  cases m
  all_goals
   simp [go_sem, a0, a0', wm]
   exact hR _ _ _ rfl (by simp [go_sem, a0, Frc.v])
 by_cases a1 : (if m = true then 9223372036854775808 else 9223372036854775807) < n
 ·have hp : packF m n d = (⟨0, 0⟩, 3) := by unfold packF; rw [if_pos (.inl a1)]
  cases m
  ·have a1' : (9223372036854775807 : Int) < n := by simp at a1; omega
   simp [go_sem, a0, a1', wm]
   exact hR _ _ _ rfl (by simp [go_sem, a0, hp, Frc.v])
  ·have a1' : (9223372036854775808 : Int) < n := by simp at a1; omega
   simp [go_sem, a0, a1', wm]
   exact hR _ _ _ rfl (by simp [go_sem, a0, hp, Frc.v])
 have b1 : m = false → ¬ (9223372036854775807 : Int) < n := fun e => by subst e; simp at a1; omega
 have b2 : m = true → ¬ (9223372036854775808 : Int) < n := fun e => by subst e; simp at a1; omega
 by_cases a2 : d0 = 0
 case neg =>
  have a2' : ¬ (d0 : Int) = 0 := by omega
  cases m
  ·have b := b1 rfl
   simp [go_sem, a0, b, a2, a2', wm]
   exact hR _ _ _ rfl (by simp [go_sem, a2, Frc.v])
  ·have b := b2 rfl
   simp [go_sem, a0, b, a2, a2', wm]
   exact hR _ _ _ rfl (by simp [go_sem, a2, Frc.v])
 by_cases a3 : 9223372036854775807 < d
 ·have a3' : (9223372036854775807 : Int) < d := by omega
  have hp : packF m n d = (⟨0, 0⟩, 3) := by unfold packF; rw [if_pos (.inr a3)]
  cases m
  ·have b := b1 rfl
   simp [go_sem, a0, b, a2, a3', wm]
   exact hR _ _ _ rfl (by simp [go_sem, hp, Frc.v])
  ·have b := b2 rfl
   simp [go_sem, a0, b, a2, a3', wm]
   exact hR _ _ _ rfl (by simp [go_sem, hp, Frc.v])
 have a3' : ¬ (9223372036854775807 : Int) < d := by omega
 have w1 : IntKind.i64.wrap (d : Int) = d := wrap64 (by omega) (by omega)
 have hp : packF m n d = (⟨if m = true then -(n : Int) else n, d⟩, 0) := by unfold packF; rw [if_neg (by omega)]
 cases m
 ·have b := b1 rfl
  have w2 : IntKind.i64.wrap (n : Int) = n := wrap64 (by omega) (by omega)
  simp [go_sem, a0, b, a2, a3', w1, w2, wm]
  exact hR _ _ _ rfl (by simp [go_sem, a0, a2, hp, Frc.v])
 ·have b := b2 rfl
  obtain ⟨z, hz⟩ : ∃ z, IntKind.u64.wrap (0 - (n : Int)) = z := ⟨_, rfl⟩
  have hz' : IntKind.u64.wrap (-(n : Int)) = z := by rw [← hz]; congr 1; omega
  have w2 : IntKind.i64.wrap z = -(n : Int) := by
   by_cases hn : n = 0
   ·subst hn; rw [← hz]; decide
   ·rw [← hz, wrapu_neg (by omega) (by omega)]
    rw [wrap64_top (by omega) (by omega)]; omega
  simp [go_sem, a0, b, a2, a3', w1, hz, hz', w2, wm]
  exact hR _ _ _ rfl (by simp [go_sem, a0, a2, hp, Frc.v])
end Go.Idl
namespace Go.Idl
open Go.Proofs
theorem nts_swap29 {B : List Nat} {i j : Nat} : nts (swap2 B i j) = ((nts B).set i [.int .i64 (B.getD j 0 : Nat)]).set j [.int .i64 (B.getD i 0 : Nat)] := by rw [swap2, nts_set, nts_set]
theorem swapRangeM_calls (l : List Em) (A : List Nat) (a b n : Nat) (hab : a + n ≤ b) (hbn : b + n ≤ A.length) (hA : A.length < 2 ^ 61) :
  ICalls Tryz.prog glT 121 [.sl 0 A.length 0 A.length none, .int .i64 (a : Int), .int .i64 (b : Int), .int .i64 (n : Int), ck1V] (sortH9 l A)
   (fun _ σ => ∃ B, Swp A a b n B ∧ σ = sortH9 l B) := by
 refine ICalls.forget (ICalls.of_bodyE false 11 [13] Tryz.func121 rfl Tryz.call121 rfl fun R hR => ?_)
 obtain ⟨N, hN⟩ : ∃ N, A.length = N := ⟨_, rfl⟩
 rw [hN] at hbn hA ⊢
 unfold sortH9 lC9 ck1V at *
 simp [go_sem]
 refine IWp.loopI (α := Nat × List Nat) (fun p => (⟨false, 38, 11, [13], glT, [(0, .sl 0 N 0 N none), (1, .int .i64 (a : Int)), (2, .int .i64 (b : Int)), (3, .int .i64 (n : Int)), (10, .int .i64 (p.1 : Int))], []⟩, sortH9 l p.2))
  (fun p => p.1 ≤ n ∧ Swp A a b p.1 p.2) (fun p => n - p.1) (0, A) ⟨by simp, .zero⟩ (by simp [go_sem, sortH9, lC9]) ?_
 rintro ⟨i, B⟩ ⟨hi, hS⟩
 simp only at hi hS
 have hB : B.length = N := by rw [hS.len, hN]
 unfold sortH9 lC9
 refine IWp.seqI ?_
 by_cases h : i < n
 ·have v1 : IntKind.i64.wrap ((i : Int) + 1) = ((i + 1 : Nat) : Int) := by rw [wrap64 (by omega) (by omega)]; omega
  have v2 : IntKind.i64.wrap ((a : Int) + i) = ((a + i : Nat) : Int) := by rw [wrap64 (by omega) (by omega)]; omega
  have v3 : IntKind.i64.wrap ((b : Int) + i) = ((b + i : Nat) : Int) := by rw [wrap64 (by omega) (by omega)]; omega
  have a1 : a + i < N := by omega
  have a2 : b + i < N := by omega
  have e1 := nts_at (l := B) (i := a + i) (by omega)
  have e2 := nts_at (l := B) (i := b + i) (by omega)
  have hN2 := hS.step (by omega) (by rw [hN]; omega)
  have hsw := nts_swap29 (B := B) (i := a + i) (j := b + i)
  have hne : a + i ≠ b + i := by omega
  obtain ⟨I, hI⟩ : ∃ I, a + i = I := ⟨_, rfl⟩
  obtain ⟨J, hJ⟩ : ∃ J, b + i = J := ⟨_, rfl⟩
  rw [hI] at v2 a1 e1 hN2 hsw hne
  rw [hJ] at v3 a2 e2 hN2 hsw hne
  have q1 : B[I]'(by omega) = B.getD I 0 := by simp [show I < B.length by omega]
  have q2 : B[J]'(by omega) = B.getD J 0 := by simp [show J < B.length by omega]
  generalize B.getD I 0 = X at *
  generalize B.getD J 0 = Y at *
  generalize swap2 B I J = Sw at *
  simp [go_sem, h]
  refine IWp.seqI ?_
  simp [go_sem, hB, a1, a2, e1, e2, v2, v3, q1, q2]
  refine ⟨by decide +kernel, ?_⟩
  refine IWp.now ?_
  simp [go_sem, v1]
  refine ⟨i + 1, Sw, ⟨by omega, ?_⟩, ⟨by omega, hN2⟩, by omega⟩
  rw [hsw, List.getElem_set_ne hne, nts_getElem]
  rfl
 ·obtain rfl : i = n := by omega
  simp [go_sem]
  exact hR _ _ ⟨_, by simp [go_sem], B, hS, rfl⟩
theorem rotateM_calls (l : List Em) (A : List Nat) (a m b : Nat) (ham : a < m) (hmb : m < b) (hb : b ≤ A.length) (hA : A.length < 2 ^ 61) :
  ICalls Tryz.prog glT 108 [.sl 0 A.length 0 A.length none, .int .i64 (a : Int), .int .i64 (m : Int), .int .i64 (b : Int), ck1V] (sortH9 l A)
   (fun _ σ => ∃ B, Rot A a m b B ∧ σ = sortH9 l B) := by
 refine ICalls.forget (ICalls.of_bodyE false 12 [20, 23] Tryz.func108 rfl Tryz.call108 rfl fun R hR => ?_)
 have cs := fun (B : List Nat) (hl : B.length = A.length) (i j n : Nat) h1 h2 => swapRangeM_calls l B i j n h1 h2 (by rw [hl]; exact hA)
 obtain ⟨N, hN⟩ : ∃ N, A.length = N := ⟨_, rfl⟩
 rw [hN] at hb hA cs ⊢
 have v1 : IntKind.i64.wrap ((m : Int) - a) = ((m - a : Nat) : Int) := by rw [wrap64 (by omega) (by omega)]; omega
 have v2 : IntKind.i64.wrap ((b : Int) - m) = ((b - m : Nat) : Int) := by rw [wrap64 (by omega) (by omega)]; omega
 unfold sortH9 lC9 ck1V at *
 simp [go_sem, v1, v2]
 refine IWp.loopT (α := Nat × Nat × List Nat) (fun p => (⟨false, 58, 12, [20, 23], glT, [(0, .sl 0 N 0 N none), (2, .int .i64 (m : Int)), (4, ck1V), (10, .int .i64 (p.1 : Int)), (11, .int .i64 (p.2.1 : Int))], []⟩, sortH9 l p.2.2))
  (fun p => 0 < p.1 ∧ p.1 ≤ m ∧ 0 < p.2.1 ∧ m + p.2.1 ≤ b ∧ p.2.2.length = N ∧ ∀ C, Rot p.2.2 (m - p.1) m (m + p.2.1) C → Rot A a m b C) (fun p => p.1 + p.2.1) (m - a, b - m, A) ⟨by simp; omega, by simp, by simp; omega, by simp; omega, hN, fun C h => by rwa [show m - (m - a) = a by omega, show m + (b - m) = b by omega] at h⟩ (by simp [go_sem, sortH9, lC9, ck1V]) ?_
 rintro ⟨i, j, B⟩ ⟨hi0, him, hj0, hjb, hB, hR2⟩
 simp only at hi0 him hj0 hjb hB hR2
 unfold sortH9 lC9 ck1V
 have v3 : IntKind.i64.wrap ((m : Int) - i) = ((m - i : Nat) : Int) := by rw [wrap64 (by omega) (by omega)]; omega
 by_cases hij : i = j
 ·subst hij
  have cc := cs B hB (m - i) m i (by omega) (by omega)
  rw [hB] at cc
  simp [go_sem, v3]
  refine cc.at [0, 1] (by simp [go_sem]) ?_
  rintro _ _ ⟨C, hC, rfl⟩
  simp [go_sem]
  exact hR _ _ ⟨_, by simp [go_sem], C, hR2 C (hC.rot him), rfl⟩
 ·have hij' : ¬ (i : Int) = j := by omega
  by_cases hlt : j < i
  ·have hlt' : (j : Int) < i := by omega
   have v4 : IntKind.i64.wrap ((i : Int) - j) = ((i - j : Nat) : Int) := by rw [wrap64 (by omega) (by omega)]; omega
   have cc := cs B hB (m - i) m j (by omega) (by omega)
   rw [hB] at cc
   simp [go_sem, hij, hij', hlt, hlt', v3]
   refine cc.at [0, 1] (by simp [go_sem]) ?_
   rintro _ _ ⟨C, hC, rfl⟩
   simp [go_sem, v4]
   exact ⟨i - j, j, C, ⟨⟨rfl, rfl⟩, rfl⟩, ⟨by omega, by omega, hj0, hjb, by rw [hC.len, hB], fun D hD => hR2 D (Rot.big hlt him hC hD)⟩, by omega⟩
  ·have hlt' : ¬ (j : Int) < i := by omega
   have v4 : IntKind.i64.wrap ((j : Int) - i) = ((j - i : Nat) : Int) := by rw [wrap64 (by omega) (by omega)]; omega
   have v5 : IntKind.i64.wrap ((m : Int) + j) = ((m + j : Nat) : Int) := by rw [wrap64 (by omega) (by omega)]; omega
   have v6 : IntKind.i64.wrap (((m + j : Nat) : Int) - i) = ((m + j - i : Nat) : Int) := by rw [wrap64 (by omega) (by omega)]; omega
   have cc := cs B hB (m - i) (m + j - i) i (by omega) (by omega)
   rw [hB] at cc
   obtain ⟨J, hJ⟩ : ∃ J, m + j = J := ⟨_, rfl⟩
   rw [hJ] at v5 v6 cc
   simp [go_sem, hij, hij', hlt, hlt', v3, v5, v6]
   refine cc.at [0, 1] (by simp [go_sem]) ?_
   rintro _ _ ⟨C, hC, rfl⟩
   simp [go_sem, v4]
   rw [← hJ] at hC
   exact ⟨i, j - i, C, ⟨⟨rfl, rfl⟩, rfl⟩, ⟨hi0, him, by omega, by omega, by rw [hC.len, hB], fun D hD => hR2 D (Rot.small (by omega) him hC hD)⟩, by omega⟩
end Go.Idl
