import Derived.Test.YtamffdgopknkfaaGreatDoorC39zPartZ
import Derived.Test.YtamffdgopknkfaaGreatDoorIdlPartM
set_option linter.all false
set_option maxHeartbeats 8000000
set_option maxRecDepth 40000
namespace Go.Idl
open Go.Proofs
theorem tdivN {x : Nat} (k : Nat) : (x : Int).tdiv (k : Int) = ((x / k : Nat) : Int) := (Int.tdiv_eq_ediv_of_nonneg (by omega)).trans (Int.natCast_ediv x k).symm
theorem tmodN {x : Nat} (k : Nat) : (x : Int).tmod (k : Int) = ((x % k : Nat) : Int) := (Int.tmod_eq_emod_of_nonneg (by omega)).trans (Int.natCast_emod x k).symm
theorem add01_fun (a b : Nat) (ha : dl a < 2 ^ 31) (hb : dl b < 2 ^ 31) : FN 95 [.fz 1 (ints (dg a)), .fz 1 (ints (dg b))] (fun v => v = .fz 1 (ints (dg (a + b)))) := by
 refine IFun.of_bodyZ false 8 [21, 27, 37] Tryz.func95 rfl Tryz.call95 rfl fun R hR => ?_
 have ta : ∀ i (h : i < (dg a).length), (dg a)[i] = ((a / 65536 ^ i % 65536 : Nat) : Int) := fun i h => dg_at h
 have tb : ∀ i (h : i < (dg b).length), (dg b)[i] = ((b / 65536 ^ i % 65536 : Nat) : Int) := fun i h => dg_at h
 have la : (dg a).length = dl a := by simp
 have lb : (dg b).length = dl b := by simp
 generalize dg a = A at *
 generalize dg b = B at *
 simp [go_sem]
 refine IWp.ownNilS 1 5 (by decide) rfl ?_
 refine IWp.loopT (α := Nat) (fun i => (⟨false, 52, 8, [21, 27, 37], glT, [(0, .fz 1 (ints A)), (1, .fz 1 (ints B)), (4, .nils), (5, .sl 0 i 0 i none), (6, .int .i64 (crA a b i : Int)), (7, .int .i64 (i : Int))], []⟩, [.rows 1 (ints (dk (a + b) i))]))
  (fun i => i ≤ dl (a + b)) (fun i => dl (a + b) - i) 0 (by simp) (by simp [go_sem, crA_zero, dk_zero]) ?_
 intro i hi
 have hab : dl (a + b) < 2 ^ 32 := by
  have : dl (a + b) ≤ max (dl a) (dl b) + 1 := by
   rw [dl_le]
   have h1 := (dl_le a (max (dl a) (dl b))).1 (by omega)
   have h2 := (dl_le b (max (dl a) (dl b))).1 (by omega)
   rw [Nat.pow_succ]; omega
  omega
 have hc1 := crA_le a b i
 have hcs := crA_succ a b i
 have hdg := crA_dig a b i
 have hsn : dk (a + b) (i + 1) = dk (a + b) i ++ [(((a + b) / 65536 ^ i % 65536 : Nat) : Int)] := dk_snoc
 have hlen : (dk (a + b) i).length = i := by simp
 have w1 : IntKind.i64.wrap ((i : Int) + 1) = i + 1 := wrap64 (by omega) (by omega)
 have hend := crA_end (a := a) (b := b) (i := i)
 have hmore := crA_more (a := a) (b := b) (i := i)
 by_cases hm : i < dl a ∨ i < dl b ∨ 0 < crA a b i
 ·have hlt := hmore hm
  rw [hdg] at hsn
  have xa : ∀ h : i < dl a, A[i]'(by rw [la]; exact h) = ((a / 65536 ^ i % 65536 : Nat) : Int) := fun h => ta i _
  have xb : ∀ h : i < dl b, B[i]'(by rw [lb]; exact h) = ((b / 65536 ^ i % 65536 : Nat) : Int) := fun h => tb i _
  have za : ¬ i < dl a → a / 65536 ^ i % 65536 = 0 := fun h => dl_top_zero (by omega)
  have zb : ¬ i < dl b → b / 65536 ^ i % 65536 = 0 := fun h => dl_top_zero (by omega)
  have ba : a / 65536 ^ i % 65536 < 65536 := by omega
  have bb : b / 65536 ^ i % 65536 < 65536 := by omega
  generalize a / 65536 ^ i % 65536 = x at *
  generalize b / 65536 ^ i % 65536 = y at *
  obtain ⟨c2, hc2⟩ : ∃ c2, crA a b (i + 1) = c2 := ⟨_, rfl⟩
  rw [hc2] at hcs
  generalize crA a b i = c at *
  generalize dk (a + b) i = l at *
  have w2 : ∀ k : Nat, k < 2 ^ 40 → IntKind.i64.wrap (k : Int) = k := fun k h => wrap64 (by omega) (by omega)
  by_cases h1 : i < dl a
  ·have xa1 := xa h1
   have h1' : (i : Int) < dl a := by omega
   have hiA : i < A.length := by omega
   have w3 : IntKind.i64.wrap ((c : Int) + x) = ((c + x : Nat) : Int) := by rw [Int.natCast_add]; exact wrap64 (by omega) (by omega)
   by_cases h2 : i < dl b
   ·have xb1 := xb h2
    have h2' : (i : Int) < dl b := by omega
    have hiB : i < B.length := by omega
    obtain ⟨t, ht⟩ : ∃ t, c + x = t := ⟨_, rfl⟩
    rw [ht] at w3 hsn hcs
    have w4 : IntKind.i64.wrap ((t : Int) + y) = ((t + y : Nat) : Int) := by rw [Int.natCast_add]; exact wrap64 (by omega) (by omega)
    obtain ⟨u, hu⟩ : ∃ u, t + y = u := ⟨_, rfl⟩
    rw [hu] at w4 hsn hcs
    have e1 : (u : Int).tmod 65536 = ((u % 65536 : Nat) : Int) := tmodN 65536
    have e2 : (u : Int).tdiv 65536 = ((u / 65536 : Nat) : Int) := tdivN 65536
    rw [← hcs] at e2
    generalize ((u % 65536 : Nat) : Int) = d at *
    have w5 := w2 c2 (by omega)
    simp [go_sem, la, lb, h1, h1', h2, h2', hiA, hiB, xa1, xb1, w3, w4, e1, e2, w1, w5]
    exact ⟨⟨by omega, by omega⟩, i + 1, by simp [go_sem, hsn, ints_snoc, hc2], by omega, by omega⟩
   ·have h2' : ¬ (i : Int) < dl b := by omega
    have zb1 := zb h2
    subst zb1
    obtain ⟨u, hu⟩ : ∃ u, c + x = u := ⟨_, rfl⟩
    simp only [Nat.add_zero, hu] at hsn hcs
    rw [hu] at w3
    have e1 : (u : Int).tmod 65536 = ((u % 65536 : Nat) : Int) := tmodN 65536
    have e2 : (u : Int).tdiv 65536 = ((u / 65536 : Nat) : Int) := tdivN 65536
    rw [← hcs] at e2
    generalize ((u % 65536 : Nat) : Int) = d at *
    have w5 := w2 c2 (by omega)
    simp [go_sem, la, lb, h1, h1', h2, h2', hiA, xa1, w3, e1, e2, w1, w5]
    exact ⟨⟨by omega, by omega⟩, i + 1, by simp [go_sem, hsn, ints_snoc, hc2], by omega, by omega⟩
  ·have h1' : ¬ (i : Int) < dl a := by omega
   have za1 := za h1
   subst za1
   by_cases h2 : i < dl b
   ·have xb1 := xb h2
    have h2' : (i : Int) < dl b := by omega
    have hiB : i < B.length := by omega
    have w4 : IntKind.i64.wrap ((c : Int) + y) = ((c + y : Nat) : Int) := by rw [Int.natCast_add]; exact wrap64 (by omega) (by omega)
    obtain ⟨u, hu⟩ : ∃ u, c + y = u := ⟨_, rfl⟩
    simp only [Nat.add_zero, hu] at hsn hcs
    rw [hu] at w4
    have e1 : (u : Int).tmod 65536 = ((u % 65536 : Nat) : Int) := tmodN 65536
    have e2 : (u : Int).tdiv 65536 = ((u / 65536 : Nat) : Int) := tdivN 65536
    rw [← hcs] at e2
    generalize ((u % 65536 : Nat) : Int) = d at *
    have w5 := w2 c2 (by omega)
    simp [go_sem, la, lb, h1, h1', h2, h2', hiB, xb1, w4, e1, e2, w1, w5]
    exact ⟨⟨by omega, by omega⟩, i + 1, by simp [go_sem, hsn, ints_snoc, hc2], by omega, by omega⟩
   ·have h2' : ¬ (i : Int) < dl b := by omega
    have zb1 := zb h2
    subst zb1
    have hc0 : 0 < c := by omega
    have hc0' : (0 : Int) < c := by omega
    simp only [Nat.add_zero] at hsn hcs
    have e1 : (c : Int).tmod 65536 = ((c % 65536 : Nat) : Int) := tmodN 65536
    have e2 : (c : Int).tdiv 65536 = ((c / 65536 : Nat) : Int) := tdivN 65536
    rw [← hcs] at e2
    generalize ((c % 65536 : Nat) : Int) = d at *
    have w5 := w2 c2 (by omega)
    simp [go_sem, la, lb, h1, h1', h2, h2', hc0, hc0', e1, e2, w1, w5]
    exact ⟨⟨by omega, by omega⟩, i + 1, by simp [go_sem, hsn, ints_snoc, hc2], by omega, by omega⟩
 ·have hc0 : crA a b i = 0 := by omega
  have hd := hend (by omega) (by omega) hc0
  obtain rfl : i = dl (a + b) := by omega
  rw [show dk (a + b) (dl (a + b)) = dg (a + b) from rfl] at hlen ⊢
  rw [hc0]
  have h1 : ¬ dl (a + b) < dl a := by omega
  have h2 : ¬ dl (a + b) < dl b := by omega
  have h1' : ¬ (dl (a + b) : Int) < dl a := by omega
  have h2' : ¬ (dl (a + b) : Int) < dl b := by omega
  generalize dl (a + b) = n at *
  generalize dg (a + b) = l at *
  simp [go_sem, la, lb, h1, h2, h1', h2']
  exact hR _ _ _ rfl (by simp [go_sem, hlen])
theorem sub01_fun (a b : Nat) (hba : b ≤ a) (ha : dl a < 2 ^ 31) : FN 115 [.fz 1 (ints (dg a)), .fz 1 (ints (dg b))] (fun v => v = .fz 1 (ints (dg (a - b)))) := by
 refine IFun.of_bodyZ false 9 [12, 24, 32] Tryz.func115 rfl Tryz.call115 rfl fun R hR => ?_
 have ta : ∀ i (h : i < (dg a).length), (dg a)[i] = ((a / 65536 ^ i % 65536 : Nat) : Int) := fun i h => dg_at h
 have tb : ∀ i (h : i < (dg b).length), (dg b)[i] = ((b / 65536 ^ i % 65536 : Nat) : Int) := fun i h => dg_at h
 have la : (dg a).length = dl a := by simp
 have lb : (dg b).length = dl b := by simp
 generalize dg a = A at *
 generalize dg b = B at *
 simp [go_sem]
 refine IWp.ownNilS 1 5 (by decide) rfl ?_
 refine IWp.loopT (α := Nat) (fun i => (⟨false, 41, 9, [12, 24, 32], glT, [(0, .fz 1 (ints A)), (1, .fz 1 (ints B)), (4, .nils), (5, .sl 0 i 0 i none), (6, .int .i64 (owS a b i : Int)), (7, .int .i64 (i : Int))], []⟩, [.rows 1 (ints (dk (a - b) i))]))
  (fun i => i ≤ dl a) (fun i => dl a - i) 0 (by simp) (by simp [go_sem, owS_zero, dk_zero]) ?_
 intro i hi
 by_cases hm : i < dl a
 ·have ho := owS_le a b i
  have hos := owS_succ a b i
  have hdg := owS_dig hba i
  have hsn : dk (a - b) (i + 1) = dk (a - b) i ++ [(((a - b) / 65536 ^ i % 65536 : Nat) : Int)] := dk_snoc
  have hlen : (dk (a - b) i).length = i := by simp
  have w1 : IntKind.i64.wrap ((i : Int) + 1) = i + 1 := wrap64 (by omega) (by omega)
  rw [hdg] at hsn
  have hiA : i < A.length := by omega
  have hm' : (i : Int) < dl a := by omega
  have xa := ta i hiA
  have xb : ∀ h : i < dl b, B[i]'(by rw [lb]; exact h) = ((b / 65536 ^ i % 65536 : Nat) : Int) := fun h => tb i _
  have zb : ¬ i < dl b → b / 65536 ^ i % 65536 = 0 := fun h => dl_top_zero (by omega)
  have ba : a / 65536 ^ i % 65536 < 65536 := by omega
  have bb : b / 65536 ^ i % 65536 < 65536 := by omega
  generalize a / 65536 ^ i % 65536 = x at *
  generalize b / 65536 ^ i % 65536 = y at *
  obtain ⟨o2, ho2⟩ : ∃ o2, owS a b (i + 1) = o2 := ⟨_, rfl⟩
  rw [ho2] at hos
  generalize owS a b i = o at *
  generalize dk (a - b) i = l at *
  have w3 : IntKind.i64.wrap ((x : Int) - o) = x - o := wrap64 (by omega) (by omega)
  obtain ⟨X, hX⟩ : ∃ X : Int, (x : Int) - o = X := ⟨_, rfl⟩
  rw [hX] at w3
  by_cases h2 : i < dl b
  ·have xb1 := xb h2
   have h2' : (i : Int) < dl b := by omega
   have hiB : i < B.length := by omega
   have w4 : IntKind.i64.wrap (X - y) = X - y := wrap64 (by omega) (by omega)
   obtain ⟨Y, hY⟩ : ∃ Y : Int, X - y = Y := ⟨_, rfl⟩
   rw [hY] at w4
   by_cases hn : Y < 0
   ·have w5 : IntKind.i64.wrap (Y + 65536) = Y + 65536 := wrap64 (by omega) (by omega)
    rw [if_pos (by omega)] at hsn hos
    rw [show ((x + 65536 - o - y : Nat) : Int) = Y + 65536 by omega] at hsn
    simp [go_sem, la, lb, hm, hm', h2, h2', hiA, hiB, xa, xb1, hX, w3, hY, w4, hn, w5, w1]
    exact ⟨⟨by omega, by omega⟩, i + 1, by simp [go_sem, hsn, ints_snoc, ho2, hos], by omega, by omega⟩
   ·rw [if_neg (by omega)] at hsn hos
    rw [show ((x - o - y : Nat) : Int) = Y by omega] at hsn
    simp [go_sem, la, lb, hm, hm', h2, h2', hiA, hiB, xa, xb1, hX, w3, hY, w4, hn, w1]
    exact ⟨⟨by omega, by omega⟩, i + 1, by simp [go_sem, hsn, ints_snoc, ho2, hos], by omega, by omega⟩
  ·have h2' : ¬ (i : Int) < dl b := by omega
   have zb1 := zb h2
   subst zb1
   by_cases hn : X < 0
   ·have w5 : IntKind.i64.wrap (X + 65536) = X + 65536 := wrap64 (by omega) (by omega)
    rw [if_pos (by omega)] at hsn hos
    rw [show ((x + 65536 - o - 0 : Nat) : Int) = X + 65536 by omega] at hsn
    simp [go_sem, la, lb, hm, hm', h2, h2', hiA, xa, hX, w3, hn, w5, w1]
    exact ⟨⟨by omega, by omega⟩, i + 1, by simp [go_sem, hsn, ints_snoc, ho2, hos], by omega, by omega⟩
   ·rw [if_neg (by omega)] at hsn hos
    rw [show ((x - o - 0 : Nat) : Int) = X by omega] at hsn
    simp [go_sem, la, lb, hm, hm', h2, h2', hiA, xa, hX, w3, hn, w1]
    exact ⟨⟨by omega, by omega⟩, i + 1, by simp [go_sem, hsn, ints_snoc, ho2, hos], by omega, by omega⟩
 ·obtain rfl : i = dl a := by omega
  have hN : a - b < 65536 ^ dl a := by have := dl_self a; omega
  have ct := trim_calls (a - b) (dl a) hN ha
  have hlen : (dk (a - b) (dl a)).length = dl a := by simp
  have htk := dk_take_dg hN
  have hdle := (dl_le (a - b) (dl a)).2 hN
  generalize dk (a - b) (dl a) = l at *
  simp [go_sem, la]
  refine ct.at [0] (by simp [go_sem]) ?_
  rintro _ _ ⟨rfl, rfl⟩
  simp [go_sem]
  exact hR _ _ _ rfl (by simp [go_sem, hlen, ints_cutR, htk, hdle])
theorem scale_fun (a d : Nat) (ha : dl a < 2 ^ 30) (hd : d < 65536) : FN 97 [.fz 1 (ints (dg a)), .int .i64 (d : Int)] (fun v => v = .fz 1 (ints (dg (a * d)))) := by
 refine IFun.of_bodyZ false 8 [15, 21] Tryz.func97 rfl Tryz.call97 rfl fun R hR => ?_
 have ta : ∀ i (h : i < (dg a).length), (dg a)[i] = ((a / 65536 ^ i % 65536 : Nat) : Int) := fun i h => dg_at h
 have la : (dg a).length = dl a := by simp
 generalize dg a = A at *
 simp [go_sem]
 refine IWp.ownNilS 1 5 (by decide) rfl ?_
 refine IWp.loopT (α := Nat) (fun i => (⟨false, 39, 8, [15, 21], glT, [(0, .fz 1 (ints A)), (1, .int .i64 (d : Int)), (4, .nils), (5, .sl 0 i 0 i none), (6, .int .i64 (crM a d i : Int)), (7, .int .i64 (i : Int))], []⟩, [.rows 1 (ints (dk (a * d) i))]))
  (fun i => i ≤ dl a + 1) (fun i => dl a + 1 - i) 0 (by simp) (by simp [go_sem, crM_zero, dk_zero]) ?_
 intro i hi
 have hc1 := crM_le a d i
 have hcs := crM_succ a d i
 have hdg := crM_dig a d i
 have hsn : dk (a * d) (i + 1) = dk (a * d) i ++ [((a * d / 65536 ^ i % 65536 : Nat) : Int)] := dk_snoc
 have hlen : (dk (a * d) i).length = i := by simp
 have w1 : IntKind.i64.wrap ((i : Int) + 1) = i + 1 := wrap64 (by omega) (by omega)
 have hmore := crM_more (a := a) (d := d) (i := i) hd
 have w2 : ∀ k : Nat, k < 2 ^ 40 → IntKind.i64.wrap (k : Int) = k := fun k h => wrap64 (by omega) (by omega)
 rw [hdg] at hsn
 by_cases h1 : i < dl a
 ·have h1' : (i : Int) < dl a := by omega
  have hiA : i < A.length := by omega
  have xa := ta i hiA
  have ba : a / 65536 ^ i % 65536 < 65536 := by omega
  generalize a / 65536 ^ i % 65536 = x at *
  have hxd : x * d ≤ 65536 * 65536 := Nat.mul_le_mul (by omega) (by omega)
  obtain ⟨p, hp⟩ : ∃ p, x * d = p := ⟨_, rfl⟩
  rw [hp] at hsn hcs hxd
  have hpI : (x : Int) * d = p := by rw [← hp, Int.natCast_mul]
  obtain ⟨c2, hc2⟩ : ∃ c2, crM a d (i + 1) = c2 := ⟨_, rfl⟩
  rw [hc2] at hcs
  generalize crM a d i = c at *
  generalize dk (a * d) i = l at *
  have w6 := w2 p (by omega)
  have w3 : IntKind.i64.wrap ((c : Int) + p) = ((c + p : Nat) : Int) := by rw [Int.natCast_add]; exact wrap64 (by omega) (by omega)
  obtain ⟨u, hu⟩ : ∃ u, c + p = u := ⟨_, rfl⟩
  rw [hu] at w3 hsn hcs
  have e1 : (u : Int).tmod 65536 = ((u % 65536 : Nat) : Int) := tmodN 65536
  have e2 : (u : Int).tdiv 65536 = ((u / 65536 : Nat) : Int) := tdivN 65536
  rw [← hcs] at e2
  generalize ((u % 65536 : Nat) : Int) = g at *
  have w5 := w2 c2 (by omega)
  simp [go_sem, la, h1, h1', hiA, xa, hpI, w6, w3, e1, e2, w1, w5]
  exact ⟨⟨by omega, by omega⟩, i + 1, by simp [go_sem, hsn, ints_snoc, hc2], by omega, by omega⟩
 ·have h1' : ¬ (i : Int) < dl a := by omega
  by_cases h2 : 0 < crM a d i
  ·have hle := hmore h2
   have hz := dl_top_zero (a := a) (i := i) (by omega)
   simp only [hz, Nat.zero_mul, Nat.add_zero] at hsn hcs
   obtain ⟨c2, hc2⟩ : ∃ c2, crM a d (i + 1) = c2 := ⟨_, rfl⟩
   rw [hc2] at hcs
   generalize crM a d i = c at *
   generalize dk (a * d) i = l at *
   have h2' : (0 : Int) < c := by omega
   have e1 : (c : Int).tmod 65536 = ((c % 65536 : Nat) : Int) := tmodN 65536
   have e2 : (c : Int).tdiv 65536 = ((c / 65536 : Nat) : Int) := tdivN 65536
   rw [← hcs] at e2
   generalize ((c % 65536 : Nat) : Int) = g at *
   have w5 := w2 c2 (by omega)
   simp [go_sem, la, h1, h1', h2, h2', e1, e2, w1, w5]
   exact ⟨⟨by omega, by omega⟩, i + 1, by simp [go_sem, hsn, ints_snoc, hc2], by omega, by omega⟩
  ·have hc0 : crM a d i = 0 := by omega
   have hN := crM_end (by omega) hc0
   have ct := trim_calls (a * d) i hN (by omega)
   have htk := dk_take_dg hN
   have hdle := (dl_le (a * d) i).2 hN
   rw [hc0]
   generalize dk (a * d) i = l at *
   simp [go_sem, la, h1, h1']
   refine ct.at [0] (by simp [go_sem]) ?_
   rintro _ _ ⟨rfl, rfl⟩
   simp [go_sem]
   exact hR _ _ _ rfl (by simp [go_sem, hlen, ints_cutR, htk, hdle])
end Go.Idl
namespace Go.Idl
open Go.Proofs
theorem dg_63 : dg 9223372036854775808 = [0, 0, 0, 32768] := by
 rw [dg_cons (by decide), show 9223372036854775808 / 65536 = 140737488355328 from rfl, dg_cons (by decide), show 140737488355328 / 65536 = 2147483648 from rfl, dg_cons (by decide), show 2147483648 / 65536 = 32768 from rfl, dg_cons (by decide), show 32768 / 65536 = 0 from rfl, dg_zero]
 rfl
theorem dl_63 : dl 9223372036854775808 = 4 := by
 rw [show dl 9223372036854775808 = (dg 9223372036854775808).length by simp, dg_63]; rfl
def numI (neg : Bool) (N : Nat) : Int × Bool := if 9223372036854775808 < N ∨ (neg = false ∧ 9223372036854775808 ≤ N) then (0, false) else (if neg = true then -(N : Int) else N, true)
theorem numberD_fun (neg : Bool) (N : Nat) (h : dl N < 2 ^ 31) : FN 94 [.bool neg, .fz 1 (ints (dg N))] (fun v => v = .tup [.int .i64 (numI neg N).1, .bool (numI neg N).2]) := by
 refine IFun.of_bodyW false 9 [22, 27, 30] Tryz.func94 rfl Tryz.call94 rfl fun R hR => ?_
 have c1 := less_fun 9223372036854775808 N (by rw [dl_63]; decide) h
 have c2 := less_fun N 9223372036854775808 h (by rw [dl_63]; decide)
 rw [dg_63] at c1 c2
 simp only [ints_cons, ints_nil] at c1 c2
 have tN : ∀ i (h : i < (dg N).length), (dg N)[i] = ((N / 65536 ^ i % 65536 : Nat) : Int) := fun i h => dg_at h
 have lN : (dg N).length = dl N := by simp
 generalize dg N = L at *
 have w0 : IntKind.i64.wrap ((dl N : Int) - 1) = dl N - 1 := wrap64 (by omega) (by omega)
 refine IWp.seqI ?_
 simp [go_sem]
 refine IWp.seqI ?_
 simp [go_sem]
 refine IWp.seqI ?_
 simp [go_sem]
 refine c1.callF (by simp [go_sem]) ?_
 rintro _ rfl
 by_cases h1 : 9223372036854775808 < N
 ·have e : numI neg N = (0, false) := by unfold numI; rw [if_pos (.inl h1)]
  rw [e] at hR
  simp [go_sem, h1]
  exact hR _ _ _ rfl (by simp [go_sem])
 by_cases h2 : neg = false ∧ 9223372036854775808 ≤ N
 ·obtain ⟨rfl, h2⟩ := h2
  have e : numI false N = (0, false) := by unfold numI; rw [if_pos (.inr ⟨rfl, h2⟩)]
  rw [e] at hR
  have h2' : ¬ N < 9223372036854775808 := by omega
  simp [go_sem, h1]
  refine c2.callF (by simp [go_sem]) ?_
  rintro _ rfl
  simp [go_sem, h2, h2']
  exact hR _ _ _ rfl (by simp [go_sem])
 have e : numI neg N = (if neg = true then -(N : Int) else N, true) := by unfold numI; rw [if_neg (fun h => h.elim h1 h2)]
 rw [e] at hR
 have hNle : N ≤ 9223372036854775808 := by omega
 have hNneg : neg = false → N < 9223372036854775808 := fun hn => Nat.lt_of_not_le fun h => h2 ⟨hn, h⟩
 cases hneg : neg with
 | false =>
  have hN2 := hNneg hneg
  subst hneg
  have h2' : N < 9223372036854775808 := hN2
  simp [go_sem, h1]
  refine c2.callF (by simp [go_sem]) ?_
  rintro _ rfl
  simp [go_sem, h2']
  refine IWp.seqI ?_
  simp [go_sem]
  refine IWp.seqI ?_
  simp [go_sem, lN, w0]
  refine IWp.loopT (α := Nat) (fun k => (⟨false, 46, 9, [22, 27, 30], glT, [(0, .bool false), (1, .fz 1 (ints L)), (7, .int .i64 ((N / 65536 ^ k : Nat) : Int)), (8, .int .i64 ((k : Int) - 1))], []⟩, [.dead]))
   (fun k => k ≤ dl N) (fun k => k) (dl N) (Nat.le_refl _) (by simp [go_sem, Nat.div_eq_of_lt (dl_self N)]) ?_
  intro k hk
  rcases k with _ | k
  ·simp only [Nat.pow_zero, Nat.div_one]
   simp [go_sem]
   refine IWp.now ?_
   simp [go_sem]
   exact hR _ _ _ rfl (by simp [go_sem])
  ·have hkL : k < L.length := by omega
   have hx := tN k hkL
   have hq := ints_q hkL hx
   have w1 : IntKind.i64.wrap ((k : Int) - 1) = k - 1 := wrap64 (by omega) (by omega)
   have hk1 : (0 : Int) ≤ k := by omega
   have hsp := dig_split N k
   have hle := Nat.div_le_self N (65536 ^ k)
   obtain ⟨x, hxe⟩ : ∃ x, N / 65536 ^ (k + 1) = x := ⟨_, rfl⟩
   obtain ⟨y, hye⟩ : ∃ y, N / 65536 ^ k = y := ⟨_, rfl⟩
   have hyI : (N : Int) / 65536 ^ k = y := by rw [← hye]; simp
   rw [hxe, hye] at hsp
   rw [hye] at hx hq hle
   rw [hxe]
   obtain ⟨d, hd⟩ : ∃ d, y % 65536 = d := ⟨_, rfl⟩
   rw [hd] at hx hq hsp
   have w2 : IntKind.i64.wrap ((x : Int) * 65536) = x * 65536 := wrap64 (by omega) (by omega)
   have w3 : IntKind.i64.wrap ((x : Int) * 65536 + d) = y := by rw [show (x : Int) * 65536 + d = y by omega]; exact wrap64 (by omega) (by omega)
   simp [go_sem, hk1, hkL, hx, hq, w1, w2, w3]
   exact ⟨k, ⟨by rw [hyI], by omega⟩, by omega⟩
 | true =>
  subst hneg
  simp [go_sem, h1]
  refine IWp.seqI ?_
  simp [go_sem]
  refine IWp.seqI ?_
  simp [go_sem, lN, w0]
  refine IWp.loopT (α := Nat) (fun k => (⟨false, 46, 9, [22, 27, 30], glT, [(0, .bool true), (1, .fz 1 (ints L)), (7, .int .i64 (-((N / 65536 ^ k : Nat) : Int))), (8, .int .i64 ((k : Int) - 1))], []⟩, [.dead]))
   (fun k => k ≤ dl N) (fun k => k) (dl N) (Nat.le_refl _) (by simp [go_sem, Nat.div_eq_of_lt (dl_self N)]) ?_
  intro k hk
  rcases k with _ | k
  ·simp only [Nat.pow_zero, Nat.div_one]
   simp [go_sem]
   refine IWp.now ?_
   simp [go_sem]
   exact hR _ _ _ rfl (by simp [go_sem])
  ·have hkL : k < L.length := by omega
   have hx := tN k hkL
   have hq := ints_q hkL hx
   have w1 : IntKind.i64.wrap ((k : Int) - 1) = k - 1 := wrap64 (by omega) (by omega)
   have hk1 : (0 : Int) ≤ k := by omega
   have hsp := dig_split N k
   have hle := Nat.div_le_self N (65536 ^ k)
   obtain ⟨x, hxe⟩ : ∃ x, N / 65536 ^ (k + 1) = x := ⟨_, rfl⟩
   obtain ⟨y, hye⟩ : ∃ y, N / 65536 ^ k = y := ⟨_, rfl⟩
   have hyI : (N : Int) / 65536 ^ k = y := by rw [← hye]; simp
   rw [hxe, hye] at hsp
   rw [hye] at hx hq hle
   rw [hxe]
   obtain ⟨d, hd⟩ : ∃ d, y % 65536 = d := ⟨_, rfl⟩
   rw [hd] at hx hq hsp
   have w2 : IntKind.i64.wrap (-(x : Int) * 65536) = -(x : Int) * 65536 := wrap64 (by omega) (by omega)
   have w2' : IntKind.i64.wrap (-((x : Int) * 65536)) = -((x : Int) * 65536) := wrap64 (by omega) (by omega)
   have w3' : IntKind.i64.wrap (-(x : Int) * 65536 - d) = -(y : Int) := by rw [show -(x : Int) * 65536 - d = -(y : Int) by omega]; exact wrap64 (by omega) (by omega)
   have w3 : IntKind.i64.wrap (-((x : Int) * 65536) - d) = -(y : Int) := by rw [show -((x : Int) * 65536) - d = -(y : Int) by omega]; exact wrap64 (by omega) (by omega)
   simp [go_sem, hk1, hkL, hx, hq, w1, w2, w2', w3, w3']
   exact ⟨k, ⟨by rw [hyI], by omega⟩, by omega⟩
theorem trim_reads (N n b : Nat) (hN : N < 65536 ^ n) (hn : n < 2 ^ 31) (H : Heap) (hb : H[b]? = some (.rows 1 (ints (dk N n)))) : ICalls Tryz.prog glT 96 [.sl b n 0 n none] H (fun v σ => v = .sl b n 0 (dl N) none ∧ σ = H) := by
 refine (trim_calls N n hN hn).at [b] (by simp [go_sem, hb]) ?_
 rintro _ _ ⟨rfl, rfl⟩
 have e : List.set H b (.rows 1 (ints (dk N n))) = H := by rw [← hput_set (List.getElem?_eq_some_iff.1 hb).1, hput_selfK hb]
 simp [go_sem, e]
theorem cl_ints {l : List Int} : Cl (.fz 1 (ints l)) := .fz _ _ fun i row j c h1 h2 => of_eq_true ClR_ints row (List.mem_of_getElem? h1) c (List.mem_of_getElem? h2)
theorem mul01_fun (a b : Nat) (ha : dl a < 2 ^ 20) (hb : dl b < 2 ^ 20) : ON 75 [.fz 1 (ints (dg a)), .fz 1 (ints (dg b))] (fun v => v = .fz 1 (ints (dg (a * b)))) := by
 refine IFun.of_bodyW false 7 [11] Tryz.func75 rfl Tryz.call75 rfl fun R hR => ?_
 have tb : ∀ i (h : i < (dg b).length), (dg b)[i] = ((b / 65536 ^ i % 65536 : Nat) : Int) := fun i h => dg_at h
 have lb : (dg b).length = dl b := by simp
 obtain ⟨A, hA⟩ : ∃ A, dg a = A := ⟨_, rfl⟩
 rw [hA]
 generalize dg b = B at *
 have w0 : IntKind.i64.wrap ((dl b : Int) - 1) = dl b - 1 := wrap64 (by omega) (by omega)
 have hab : ∀ k, dl (a * (b / 65536 ^ k)) ≤ dl a + dl b := fun k => by
  rw [dl_le, Nat.pow_add]
  exact Nat.lt_of_le_of_lt (Nat.mul_le_mul_left a (Nat.div_le_self b _)) (Nat.mul_lt_mul'' (dl_self a) (dl_self b))
 refine IWp.seqI ?_
 simp [go_sem]
 refine IWp.seqI ?_
 simp [go_sem]
 refine IWp.nzS 1 5 rfl rfl ?_
 simp only [go_sem]
 refine IWp.seqI ?_
 simp [go_sem, lb, w0]
 refine IWp.loopT (α := Nat) (fun k => (⟨false, 27, 7, [11], glT, [(0, .fz 1 (ints A)), (1, .fz 1 (ints B)), (5, .fz 1 (ints (dg (a * (b / 65536 ^ k))))), (6, .int .i64 ((k : Int) - 1))], []⟩, []))
  (fun k => k ≤ dl b) (fun k => k) (dl b) (Nat.le_refl _) (by rw [Nat.div_eq_of_lt (dl_self b), Nat.mul_zero, dg_zero]; simp [go_sem]) ?_
 intro k hk
 rcases k with _ | k
 ·have ct := trim_fun (a * (b / 65536 ^ 0)) (dl (a * (b / 65536 ^ 0))) (dl_self _) (by have := hab 0; omega)
  rw [dk_dg rfl] at ct
  simp only [Nat.pow_zero, Nat.div_one] at ct ⊢
  simp [go_sem]
  refine IWp.now ?_
  simp [go_sem]
  refine ct.callM (fun c hc => by simp at hc; subst hc; exact cl_ints) ?_
  rintro _ rfl
  simp [go_sem]
  exact hR _ _ _ rfl (by simp [go_sem])
 ·have hkB : k < B.length := by omega
  have hx := tb k hkB
  have hq := ints_q hkB hx
  have w1 : IntKind.i64.wrap ((k : Int) - 1) = k - 1 := wrap64 (by omega) (by omega)
  have hk1 : (0 : Int) ≤ k := by omega
  have hd : b / 65536 ^ k % 65536 < 65536 := Nat.mod_lt _ (by decide)
  have cs := scale_fun a (b / 65536 ^ k % 65536) (by omega) hd
  rw [hA] at cs
  have hsplit : a * (b / 65536 ^ k) = a * (b / 65536 ^ (k + 1)) * 65536 + a * (b / 65536 ^ k % 65536) := by
   rw [Nat.mul_assoc, ← Nat.mul_add, ← dig_split]
  have hX := hab (k + 1)
  have hY := hab k
  obtain ⟨X, hXe⟩ : ∃ X, a * (b / 65536 ^ (k + 1)) = X := ⟨_, rfl⟩
  rw [hXe] at hsplit hX ⊢
  have hdX : dl (X * 65536) ≤ dl X + 1 := by
   rw [dl_le, Nat.pow_succ]; exact Nat.mul_lt_mul_of_pos_right (dl_self X) (by decide)
  have hN : X * 65536 < 65536 ^ (dl X + 1) := (dl_le _ _).1 hdX
  have hdc : dk (X * 65536) (dl X + 1) = 0 :: dg X := by
   have := dk_cons (n := X) (d := 0) (k := dl X) (by decide)
   rw [Nat.add_zero] at this
   rw [← this]; rfl
  have hdd : dl (a * (b / 65536 ^ k % 65536)) < 2 ^ 31 := by
   have : dl (a * (b / 65536 ^ k % 65536)) ≤ dl (a * (b / 65536 ^ k)) := dl_mono (by rw [hsplit]; omega)
   omega
  have ca := add01_fun (X * 65536) (a * (b / 65536 ^ k % 65536)) (by omega) hdd
  rw [← hsplit] at ca
  have hlX : (dg X).length = dl X := by simp
  have htk : (0 :: dg X).take (dl (X * 65536)) = dg (X * 65536) := by rw [← hdc]; exact dk_take_dg hN
  have htk2 : List.take (dl (X * 65536)) ([IV.int .i64 0] :: ints (dg X)) = ints (dg (X * 65536)) := by rw [← htk, ints_take]; rfl
  have ctr := fun H hb => trim_reads (X * 65536) (dl X + 1) 0 hN (by omega) H hb
  rw [hdc] at ctr
  generalize b / 65536 ^ k % 65536 = d at *
  obtain ⟨Z, hZ⟩ : ∃ Z, dg (a * (b / 65536 ^ k)) = Z := ⟨_, rfl⟩
  rw [hZ] at ca
  obtain ⟨D, hD⟩ : ∃ D, dg (a * d) = D := ⟨_, rfl⟩
  obtain ⟨Y, hYe⟩ : ∃ Y, dg (X * 65536) = Y := ⟨_, rfl⟩
  rw [hD] at cs ca
  rw [hYe] at ca htk2
  generalize dg X = LX at *
  simp [go_sem, hk1, hlX]
  refine Drawn.intro (fun j => if j = 3 then .tup [.junk, .junk, .sl 0 (dl X + 1) 0 (dl (X * 65536)) none] else if j = 9 then .fz 1 (ints D) else if j = 10 then .fz 1 (ints Z) else .tup []) ?_
  simp [go_sem, hkB, hx, hq, hlX, hdX, htk2, cs, ca, w1]
  refine ⟨⟨by omega, fun r hr => ints_one r hr⟩, ?_, fun row hr c hc => of_eq_true ClR_ints row hr c hc, by decide +kernel, k, ⟨?_, by omega⟩, by omega, by omega⟩
  ·rw [Nat.add_comm 1 (dl X)]
   exact fun H hH => ctr H (hget_some.1 ((hH 0 (by simp [go_sem])).trans rfl)).1
  ·rw [hZ]
end Go.Idl
