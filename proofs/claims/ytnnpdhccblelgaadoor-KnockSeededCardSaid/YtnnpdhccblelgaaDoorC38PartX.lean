/-
  Chapter 38: KnockSeeded: walk and law.
-/
import Derived.Test.YtnnpdhccblelgaaDoorC38PartR
import Derived.Test.YtnnpdhccblelgaaDoorC38PartW
import Derived.Test.YtnnpdhccblelgaaDoorC38PartB
namespace Go.Idl
set_option linter.all false
open Go.Proofs
set_option maxHeartbeats 16000000
set_option maxRecDepth 40000

theorem chkS_get {n : Nat} {M : List Mt} : ∀ {k : Nat}, chkS n M k = true → ∀ s : Int, 1 ≤ s → s ≤ k → M.filter (hasT s) ≠ [] ∧ chkP (rnd n) n s (-1) (M.filter (hasT s)) = true
  | 0, _, s, h1, h2 => by omega
  | k + 1, h, s, h1, h2 => by
    simp only [chkS, Bool.and_eq_true, Bool.not_eq_true'] at h
    by_cases hs : s = k + 1
    · subst hs
      refine ⟨fun e => ?_, h.1.2⟩
      have := h.1.1
      rw [e] at this
      cases this
    · exact chkS_get h.2 s h1 (by omega)
theorem pow38 {r : Nat} (h : r ≤ 6) : IntKind.i64.wrap (2 ^ min r 64) = ((2 ^ r : Nat) : Int) := by
  rcases (by omega : r = 0 ∨ r = 1 ∨ r = 2 ∨ r = 3 ∨ r = 4 ∨ r = 5 ∨ r = 6) with rfl | rfl | rfl | rfl | rfl | rfl | rfl <;> decide
theorem knockSeeded_fun (t d : Int) (ht : 0 ≤ t ∧ t < 256) (hd : 0 ≤ d ∧ d < 256) : FN 4 [.int .u8 t, .int .u8 d] (fun v => v = .bool true) := by
  refine IFun.of_bodyW false 20 [21, 78, 79, 80, 81, 82, 105, 108, 117, 126, 128, 129, 130, 131, 181, 193] Tryd.func4 rfl Tryd.call4 rfl fun R hR => ?_
  have w1 : IntKind.i64.wrap t = t := wrap64 (by omega) (by omega)
  have w2 : IntKind.i64.wrap d = d := wrap64 (by omega) (by omega)
  have hm : t.tmod 63 = t % 63 := Int.tmod_eq_emod_of_nonneg (by omega)
  obtain ⟨n, hn⟩ : ∃ n : Nat, 2 + t.tmod 63 = n := ⟨(2 + t.tmod 63).toNat, by omega⟩
  have h1 : 2 ≤ n := by omega
  have h2 : n ≤ 64 := by omega
  have hm2 : d.tmod n = d % n := Int.tmod_eq_emod_of_nonneg (by omega)
  have hm3 := Int.emod_lt_of_pos d (show (0 : Int) < n by omega)
  have hm4 := Int.emod_nonneg d (show (n : Int) ≠ 0 by omega)
  obtain ⟨s, hs⟩ : ∃ s : Int, 1 + d.tmod n = s := ⟨_, rfl⟩
  have hs1 : 1 ≤ s := by omega
  have hs2 : s ≤ n := by omega
  have w3 : IntKind.i64.wrap (2 + t.tmod 63) = n := by rw [hn]; exact wrap64 (by omega) (by omega)
  have w4 : IntKind.i64.wrap (1 + d.tmod n) = s := by rw [hs]; exact wrap64 (by omega) (by omega)
  have w5 : ¬ n = 0 := by omega
  have z0 : IntKind.i64.wrap 0 = 0 := by decide
  have cr := roundsY_fun n h1 h2
  have cb := bracket_fun n h1 h2
  have cp := path_fun n s h1 h2 ⟨hs1, hs2⟩
  have kb := brackets64 n (by omega) h1
  obtain ⟨kp0, kp⟩ := chkS_get (seeded64 n (by omega) h1) s hs1 hs2
  rw [← pathL_eq] at kp0 kp
  obtain ⟨r1, r2⟩ := rnd_bd h1
  obtain ⟨p1, p2⟩ := rnd_pow h1 h2
  have hbl : (brkL n).length = 2 ^ (rnd n - 1) := by unfold brkL; exact brkT_length _ _
  have x1 := pow38 r2
  have x2 := pow38 (show rnd n - 1 ≤ 6 by omega)
  have x3 : IntKind.i64.wrap ((rnd n : Int) - 1) = ((rnd n - 1 : Nat) : Int) := by rw [wrap64 (by omega) (by omega)]; omega
  have hPl : (pathL n s).length ≤ 192 := by
    have := ptQ_len r2 (seedsL n) s (beg n, []) (rnd n)
    simp only [List.length_nil, Nat.zero_add] at this
    unfold pathL
    omega
  have hH32 : 2 ^ (rnd n - 1) ≤ 32 := Nat.le_trans (Nat.pow_le_pow_right (by decide) (show rnd n - 1 ≤ 5 by omega)) (by decide)
  generalize brkL n = B at *
  generalize pathL n s = P at *
  generalize rnd n = r at *
  clear hm hm2 hm3 hm4
  refine IWp.seqI ?_
  simp [go_sem]
  refine IWp.seqI ?_
  simp [go_sem]
  refine awake38_fun.callF (by simp [go_sem]) ?_
  rintro _ rfl
  simp [go_sem]
  refine IWp.seqI ?_
  simp [go_sem, w1, w2, w3, w4, w5]
  refine IWp.seqI ?_
  simp [go_sem, w1, w2, w3, w4, w5]
  refine IWp.seqI ?_
  simp [go_sem]
  refine cr.callF (by simp [go_sem]) ?_
  rintro _ rfl
  simp [go_sem]
  refine IWp.seqI ?_
  simp [go_sem]
  refine cb.callF (by simp [go_sem]) ?_
  rintro _ rfl
  simp [go_sem]
  refine IWp.seqI ?_
  simp [go_sem]
  refine cp.callF (by simp [go_sem]) ?_
  rintro _ rfl
  simp [go_sem]
  have n1 : ¬ 2 ^ r < n := by omega
  have n2 : 2 ^ r < 2 * n := by omega
  have n3 : ¬ 2 * (n : Int) ≤ ((2 ^ r : Nat) : Int) := by omega
  have n4 : IntKind.i64.wrap (2 * (n : Int)) = 2 * n := wrap64 (by omega) (by omega)
  have n5 : P.length ≠ 0 := fun h => kp0 (List.length_eq_zero_iff.1 h)
  obtain ⟨N, hN⟩ : ∃ N, 2 ^ r = N := ⟨_, rfl⟩
  rw [hN] at x1 p1 p2 n1 n2 n3 kb
  obtain ⟨H, hH⟩ : ∃ H, 2 ^ (r - 1) = H := ⟨_, rfl⟩
  rw [hH] at x2 hbl hH32
  refine IWp.seqI ?_
  simp [go_sem, z0, x1, x2, x3, n1, n2, n3, n4, n5, hbl]
  refine IWp.seqI ?_
  simp [go_sem]
  refine IWp.seqI ?_
  simp [go_sem]
  refine IWp.loopT (α := Nat × Nat) (fun p => (⟨false, 213, 20, [21, 78, 79, 80, 81, 82, 105, 108, 117, 126, 128, 129, 130, 131, 181, 193], glT, [(5, .int .i64 n), (6, .int .i64 s), (7, .int .i64 r), (11, .fz 4 (mts P)), (13, .int .i64 (p.2 : Nat)), (79, .fz 4 (mts B)), (80, .int .i64 (H : Nat)), (81, .int .i64 (p.1 : Nat))], []⟩, []))
    (fun p => p.1 ≤ H ∧ p.2 ≤ p.1 ∧ chkB N n p.1 p.2 (B.drop p.1) = true) (fun p => H - p.1) (0, 0) ⟨by simp, by simp, by simpa using kb⟩ (by simp [go_sem, hbl]) ?_
  rintro ⟨i, y⟩ ⟨hi, hy, hk⟩
  simp only at hi hy hk
  by_cases h : i < H
  · have hiB : i < B.length := by omega
    have v1 : IntKind.i64.wrap ((i : Int) + 1) = ((i + 1 : Nat) : Int) := by rw [wrap64 (by omega) (by omega)]; omega
    have v2 : IntKind.i64.wrap ((y : Int) + 1) = ((y + 1 : Nat) : Int) := by rw [wrap64 (by omega) (by omega)]; omega
    rw [List.drop_eq_getElem_cons hiB] at hk
    obtain ⟨⟨mr, mi, ma, mb⟩, hm⟩ : ∃ m, B[i] = m := ⟨_, rfl⟩
    rw [hm, chkB] at hk
    simp only [Bool.and_eq_true, decide_eq_true_eq] at hk
    obtain ⟨⟨⟨⟨k1, k2⟩, k3⟩, k4⟩, k5⟩ := hk
    subst k1
    subst k2
    have g3 : ¬ ma < 1 := by omega
    have g4 : ¬ (n : Int) < ma := by omega
    have v3 : IntKind.i64.wrap ((N : Int) - n) = N - n := wrap64 (by omega) (by omega)
    have v4 : IntKind.i64.wrap ((N : Int) + 1) = N + 1 := wrap64 (by omega) (by omega)
    by_cases hb : mb = 0
    · rw [if_pos hb] at k5
      simp only [Bool.and_eq_true, decide_eq_true_eq] at k5
      obtain ⟨k6, k7⟩ := k5
      have g5 : ¬ (N : Int) - n < ma := by omega
      simp [go_sem, h, hbl, hm, g3, g4, hb, v1, v2, v3, x1, g5]
      exact ⟨by decide +kernel, i + 1, y + 1, ⟨by simp, by simp⟩, ⟨by omega, by omega, k7⟩, by omega⟩
    · rw [if_neg hb] at k5
      simp only [Bool.and_eq_true, decide_eq_true_eq] at k5
      obtain ⟨k6, k7⟩ := k5
      have v5 : IntKind.i64.wrap (ma + mb) = N + 1 := by rw [k6]; exact v4
      simp [go_sem, h, hbl, hm, g3, g4, hb, v1, v4, v5, x1]
      exact ⟨by decide +kernel, i + 1, y, ⟨rfl, by simp⟩, ⟨by omega, by omega, k7⟩, by omega⟩
  · obtain rfl : i = H := by omega
    rw [List.drop_of_length_le (by omega), chkB, decide_eq_true_eq] at hk
    simp [go_sem]
    refine IWp.seqI ?_
    simp [go_sem]
    refine IWp.seqI ?_
    simp [go_sem]
    refine IWp.loopI (α := Nat × Int) (fun p => (⟨false, 213, 20, [21, 78, 79, 80, 81, 82, 105, 108, 117, 126, 128, 129, 130, 131, 181, 193], glT, [(5, .int .i64 n), (6, .int .i64 s), (7, .int .i64 r), (11, .fz 4 (mts P)), (13, .int .i64 (y : Nat)), (16, .int .i64 p.2), (128, .fz 4 (mts P)), (129, .int .i64 (P.length : Nat)), (130, .int .i64 (p.1 : Nat))], []⟩, []))
      (fun p => p.1 ≤ P.length ∧ (-1 ≤ p.2 ∧ p.2 < r) ∧ chkP r n s p.2 (P.drop p.1) = true) (fun p => P.length - p.1) (0, -1) ⟨by simp, ⟨by simp, by simp; omega⟩, by simpa using kp⟩ (by simp [go_sem]) ?_
    rintro ⟨j, last⟩ ⟨hj, hla, hp⟩
    simp only at hj hla hp
    by_cases h : j < P.length
    · have v1 : IntKind.i64.wrap ((j : Int) + 1) = ((j + 1 : Nat) : Int) := by rw [wrap64 (by omega) (by omega)]; omega
      rw [List.drop_eq_getElem_cons h] at hp
      obtain ⟨⟨mr, mi, ma, mb⟩, hm⟩ : ∃ m, P[j] = m := ⟨_, rfl⟩
      rw [hm, chkP] at hp
      simp only [Bool.and_eq_true, Bool.or_eq_true, decide_eq_true_eq, hasT] at hp
      obtain ⟨⟨⟨⟨⟨⟨⟨⟨k1, k2⟩, k3⟩, k4⟩, k5⟩, k6⟩, k7⟩, k8⟩, k9⟩ := hp
      have k10 : (P.drop (j + 1)).isEmpty = true ↔ j + 1 = P.length := by
        rw [List.isEmpty_iff, List.drop_eq_nil_iff]
        omega
      rw [k10] at k7
      obtain ⟨k, hk2⟩ : ∃ k : Nat, (r : Int) - mr = k := ⟨((r : Int) - mr).toNat, by omega⟩
      have hk6 : k ≤ 6 := by omega
      rw [hk2, Int.toNat_natCast] at k8
      have hKb : (2 : Nat) ^ k ≤ 2 ^ 6 := Nat.pow_le_pow_right (by decide) hk6
      have v2 : IntKind.i64.wrap ((r : Int) - mr) = k := by rw [hk2]; exact wrap64 (by omega) (by omega)
      have v3 := pow38 hk6
      obtain ⟨K, hK⟩ : ∃ K, 2 ^ k = K := ⟨_, rfl⟩
      have hK2 : (2 : Int) ^ k = K := by rw [← hK]; simp
      rw [hK] at v3 hKb
      rw [hK2] at k8
      have v4 : IntKind.i64.wrap ((K : Int) + 1) = K + 1 := wrap64 (by omega) (by omega)
      have v5 : IntKind.i64.wrap (ma + mb) = K + 1 := by rw [k8]; exact v4
      obtain ⟨o, ho⟩ : ∃ o, (K : Int) + 1 - s = o := ⟨_, rfl⟩
      have v6 : IntKind.i64.wrap ((K : Int) + 1 - s) = o := by rw [ho]; exact wrap64 (by omega) (by omega)
      have v7 : IntKind.i64.wrap ((P.length : Int) - 1) = P.length - 1 := wrap64 (by omega) (by omega)
      rw [k8, ho] at k5 k6 k7
      have g1 : ¬ (¬ ma = s ∧ ¬ mb = s) := by omega
      have g2 : ¬ mr ≤ last := by omega
      have g3 : ¬ o < 1 := by omega
      have g4 : ¬ (n : Int) < o := by omega
      refine IWp.seqI ?_
      simp [go_sem, h]
      refine IWp.seqI ?_
      simp [go_sem]
      refine IWp.seq ?_
      refine IWp.block ?_
      refine IWp.seqI ?_
      simp [go_sem, h, hm]
      refine IWp.seqI ?_
      simp [go_sem, v5, v6]
      refine IWp.seqT (α := Unit) (fun _ => (⟨false, 213, 20, [21, 78, 79, 80, 81, 82, 105, 108, 117, 126, 128, 129, 130, 131, 181, 193], glT, [(5, .int .i64 n), (6, .int .i64 s), (7, .int .i64 r), (11, .fz 4 (mts P)), (13, .int .i64 (y : Nat)), (16, .int .i64 last), (18, .ptr 0 1 0 0), (128, .fz 4 (mts P)), (129, .int .i64 (P.length : Nat)), (130, .int .i64 (j : Nat))], []⟩, [.rows 4 [[.int .i64 mr, .int .i64 mi, .int .i64 ma, .int .i64 mb]]])) (fun _ => True) ?_ ?_
      · by_cases c : o < s
        · obtain ⟨c1, c2⟩ := k7.1 c
          have c3 : ((j : Int) = P.length - 1) = True := eq_true (by omega)
          rcases k1 with k1 | k1
          · subst k1
            simp [go_sem, g2, g3, g4, v7, c, c2, c3]
            done
          · subst k1
            by_cases k11 : ma = mb
            · subst k11
              simp [go_sem, g2, g3, g4, v7, c, c2, c3]
              done
            · simp [go_sem, k11, g2, g3, g4, v7, c, c2, c3]
              done
        · have c3 : ¬ (j + 1 = P.length ∧ 1 < s) := fun h => c (k7.2 h)
          by_cases c4 : j + 1 = P.length
          · have c5 : ((j : Int) = P.length - 1) = True := eq_true (by omega)
            have c6 : ¬ 1 < s := fun h => c3 ⟨c4, h⟩
            by_cases k11 : ma = s
            · subst k11
              simp [go_sem, g2, g3, g4, v7, c, c5, c6]
            · have k12 : mb = s := by omega
              subst k12
              simp [go_sem, k11, g2, g3, g4, v7, c, c5, c6]
          · have c5 : ((j : Int) = P.length - 1) = False := eq_false (by omega)
            by_cases k11 : ma = s
            · subst k11
              simp [go_sem, g2, g3, g4, v7, c, c5]
            · have k12 : mb = s := by omega
              subst k12
              simp [go_sem, k11, g2, g3, g4, v7, c, c5]
      · rintro _ _
        refine IWp.seq ?_
        refine IWp.seqI ?_
        simp [go_sem, v2, v3, v4, v5]
        refine ⟨by decide +kernel, ?_⟩
        refine IWp.now ?_
        simp [go_sem]
        refine IWp.now ?_
        simp [go_sem]
        refine IWp.now ?_
        simp [go_sem, v1]
        exact ⟨j + 1, mr, ⟨rfl, by simp⟩, ⟨by omega, by omega, k9⟩, by omega⟩
    · obtain rfl : j = P.length := by omega
      rw [List.drop_of_length_le (by omega), chkP, decide_eq_true_eq] at hp
      refine IWp.seqI ?_
      simp [go_sem]
      refine IWp.seqI ?_
      simp [go_sem]
      have v7 : IntKind.i64.wrap ((r : Int) - 1) = r - 1 := wrap64 (by omega) (by omega)
      have v8 : IntKind.i64.wrap ((N : Int) - n) = y := by rw [← hk]; exact wrap64 (by omega) (by omega)
      by_cases hs0 : s = 1
      · have hp2 := hp hs0
        subst hp2
        subst hs0
        refine IWp.seqI ?_
        simp [go_sem, x1, v7, v8]
        refine IWp.now ?_
        simp [go_sem]
        exact hR _ _ _ rfl (by simp [go_sem])
      · refine IWp.seqI ?_
        simp [go_sem, x1, v7, v8, hs0]
        refine IWp.now ?_
        simp [go_sem, hs0]
        exact hR _ _ _ rfl (by simp [go_sem, hs0])
theorem knockSeeded_law (t d : Int) (ht : (Lit.int .u8 t).wf = true) (hd : (Lit.int .u8 d).wf = true) : FN 4 [.int .u8 t, .int .u8 d] (fun v => v = .bool true) :=
  knockSeeded_fun t d (wf8 ht) (wf8 hd)
end Go.Idl
