/-
  Chapter 38: the reference's path: the walk.
  Chapter 38: KnockBrackets: walk and law.
-/
import Derived.Test.YtnnpdhccblelgaaDoorC38PartZ
import Derived.Test.YtnnpdhccblelgaaDoorC38PartR
import Derived.Test.YtnnpdhccblelgaaDoorC38PartB
namespace Go.Idl
set_option linter.all false
open Go.Proofs
set_option maxHeartbeats 16000000
set_option maxRecDepth 40000

theorem rpath_none (n d : Int) (h : ¬ (2 ≤ n ∧ n ≤ 64)) : FN 50 [.int .i64 n, .int .i64 d] (fun v => v = .tup [.fz 4 [], .int .i64 380]) := by
  refine IFun.of_bodyZ false 15 [21, 29, 32, 41, 59, 67, 82] Tryd.func50 rfl Tryd.call50 rfl fun R hR => ?_
  simp [go_sem]
  refine (rrounds_none n h).callF (by simp [go_sem]) ?_
  rintro _ rfl
  simp [go_sem]
  exact hR _ _ _ rfl (by simp [go_sem])
theorem rpath_seed (n : Nat) (d : Int) (h1 : 2 ≤ n) (h2 : n ≤ 64) (h : ¬ (1 ≤ d ∧ d ≤ n)) : FN 50 [.int .i64 (n : Int), .int .i64 d] (fun v => v = .tup [.fz 4 [], .int .i64 6]) := by
  refine IFun.of_bodyZ false 15 [21, 29, 32, 41, 59, 67, 82] Tryd.func50 rfl Tryd.call50 rfl fun R hR => ?_
  simp [go_sem]
  refine (rrounds_fun n h1 h2).callF (by simp [go_sem]) ?_
  rintro _ rfl
  by_cases h1 : d < 1
  · simp [go_sem, h1]
    exact hR _ _ _ rfl (by simp [go_sem])
  · have h2 : (n : Int) < d := by omega
    simp [go_sem, h1, h2]
    exact hR _ _ _ rfl (by simp [go_sem])
theorem rpath_fun (n : Nat) (d : Int) (h1 : 2 ≤ n) (h2 : n ≤ 64) (hd : 1 ≤ d ∧ d ≤ n) : FN 50 [.int .i64 (n : Int), .int .i64 d] (fun v => v = .tup [.fz 4 (mts ((allR n).filter (hasT d))), .int .i64 0]) := by
  refine IFun.of_bodyZ false 15 [21, 29, 32, 41, 59, 67, 82] Tryd.func50 rfl Tryd.call50 rfl fun R hR => ?_
  have cr := rrounds_fun n h1 h2
  obtain ⟨r1, r2⟩ := rnd_bd h1
  have ctw := fun l hl hf q i hq hi => (team_won n h1 h2 l hl hf q i hq hi).1
  unfold allR at hR
  have hS := seeds_bd h1
  generalize seedsL n = S at *
  generalize rnd n = r at *
  have g3 : ¬ d < 1 := by omega
  have g4 : ¬ (n : Int) < d := by omega
  simp [go_sem]
  refine cr.callF (by simp [go_sem]) ?_
  rintro _ rfl
  simp [go_sem, g3, g4]
  refine IWp.ownNilS 6 8 (by decide) rfl ?_
  refine IWp.ownNilS 4 9 (by decide) rfl ?_
  refine IWp.loopT (α := Nat) (fun q => (⟨false, 90, 15, [21, 29, 32, 41, 59, 67, 82], glT, [(0, .int .i64 (n : Int)), (1, .int .i64 d), (6, .int .i64 (r : Int)), (8, .sl 0 (rmQ r S q ([], [])).1.length 0 (rmQ r S q ([], [])).1.length none), (9, .sl 1 ((rmQ r S q ([], [])).2.filter (hasT d)).length 0 ((rmQ r S q ([], [])).2.filter (hasT d)).length none), (10, .int .i64 (q : Int))], []⟩, [.rows 6 (rss (rmQ r S q ([], [])).1), .rows 4 (mts ((rmQ r S q ([], [])).2.filter (hasT d)))]))
      (fun q => q ≤ r) (fun q => r - q) 0 (by simp) (by simp [go_sem, rmQ]) ?_
  intro q hq
  have hok := rm_Q r2 (S := S) q
  by_cases h : q < r
  · have hmat := (matN_le r2 (q : Int)).1
    have v0 : IntKind.i64.wrap ((q : Int) + 1) = ((q + 1 : Nat) : Int) := by rw [wrap64 (by omega) (by omega)]; omega
    have w1 : IntKind.i64.wrap ((r : Int) - 1) = r - 1 := wrap64 (by omega) (by omega)
    have w2 : IntKind.i64.wrap ((r : Int) - 1 - q) = ((r - 1 - q : Nat) : Int) := by rw [wrap64 (by omega) (by omega)]; omega
    have cp := rpower_fun (r - 1 - q) (by omega)
    have hM : 2 ^ (r - 1 - q) = matN r q := by unfold matN; rw [if_pos (by omega)]; simp
    have hMq : matN r q * 2 ^ q = 2 ^ (r - 1) := by rw [← hM, ← Nat.pow_add]; congr 1; omega
    have hsq : rmQ r S (q + 1) ([], []) = rmI S q (matN r q) (rmQ r S q ([], [])) := rfl
    rw [hM] at cp
    generalize rmQ r S q ([], []) = Z at *
    obtain ⟨M, hM⟩ : ∃ M, matN r q = M := ⟨_, rfl⟩
    rw [hM] at hmat hsq cp hMq
    obtain ⟨k, hk⟩ : ∃ k, r - 1 - q = k := ⟨_, rfl⟩
    rw [hk] at cp w2
    have hq1 : rmI S q 0 Z = Z := rfl
    simp [go_sem, h]
    refine IWp.loopT (α := Nat) (fun i => (⟨false, 90, 15, [21, 29, 32, 41, 59, 67, 82], glT, [(0, .int .i64 (n : Int)), (1, .int .i64 d), (6, .int .i64 (r : Int)), (8, .sl 0 (rmI S q i Z).1.length 0 (rmI S q i Z).1.length none), (9, .sl 1 ((rmI S q i Z).2.filter (hasT d)).length 0 ((rmI S q i Z).2.filter (hasT d)).length none), (10, .int .i64 (q : Int)), (11, .int .i64 (i : Int))], []⟩, [.rows 6 (rss (rmI S q i Z).1), .rows 4 (mts ((rmI S q i Z).2.filter (hasT d)))]))
      (fun i => i ≤ M) (fun i => M - i) 0 (by simp) (by simp [go_sem, hq1]) ?_
    intro i hi
    have hokI := rm_I hok (S := S) (q := q) i
    simp [go_sem, w1, w2]
    refine cp.callF (by simp [go_sem]) ?_
    rintro _ rfl
    by_cases hi' : i < M
    · have v1 : IntKind.i64.wrap ((i : Int) + 1) = ((i + 1 : Nat) : Int) := by rw [wrap64 (by omega) (by omega)]; omega
      have hs : rmI S q (i + 1) Z = rmS S q i (rmI S q i Z) := rfl
      generalize rmI S q i Z = T at *
      obtain ⟨l, T⟩ := T
      obtain ⟨o1, o2, o3⟩ := hokI
      simp only at o1 o2 o3
      have ct := ctw l (by omega) o3 q i (by omega) (by rw [← hMq]; exact Nat.mul_le_mul_right _ (by omega))
      have ca := ct 0 (by decide)
      have cb := ct 1 (by decide)
      have b1 := teamR_bd hS l q i 0
      have b2 := teamR_bd hS l q i 1
      unfold rmS mkR at hs
      simp only at hs
      generalize teamR S l q i 0 = a at *
      generalize teamR S l q i 1 = b at *
      simp [go_sem, hi']
      refine ca.callF (by simp [go_sem]) ?_
      rintro _ rfl
      simp [go_sem]
      refine cb.callF (by simp [go_sem]) ?_
      rintro _ rfl
      have hfl := List.length_filter_le (hasT d) T
      by_cases hz : a = 0 ∨ b = 0
      · rw [if_pos hz] at hs
        by_cases ha0 : a = 0
        · simp [go_sem, ha0]
          exact ⟨i + 1, ⟨⟨by rw [hs], by rw [hs], v1⟩, by rw [hs], by rw [hs]⟩, by omega, by omega⟩
        · have hb0 : b = 0 := by omega
          simp [go_sem, ha0, hb0]
          exact ⟨i + 1, ⟨⟨by rw [hs], by rw [hs], v1⟩, by rw [hs], by rw [hs]⟩, by omega, by omega⟩
      · rw [if_neg hz] at hs
        have ha0 : ¬ a = 0 := fun h => hz (.inl h)
        have hb0 : ¬ b = 0 := fun h => hz (.inr h)
        have cw := refWhole_fun 0
        simp only [whF, Frc.v] at cw
        by_cases hdd : a = d ∨ b = d
        · have fl : (T ++ [(⟨(q : Int), (i : Int), a, b⟩ : Mt)]).filter (hasT d) = T.filter (hasT d) ++ [(⟨(q : Int), (i : Int), a, b⟩ : Mt)] := by
            rw [List.filter_append]
            congr 1
            have : hasT d ⟨(q : Int), (i : Int), a, b⟩ = true := by simp only [hasT, Bool.or_eq_true, decide_eq_true_eq]; exact hdd
            simp [List.filter, this]
          by_cases had : a = d
          · subst had
            simp [go_sem, ha0, hb0]
            refine ⟨by omega, ?_⟩
            refine cw.callF (by simp [go_sem]) ?_
            rintro _ rfl
            by_cases hba : b < a
            · rw [if_pos hba, if_pos hba] at hs
              simp [go_sem, hba]
              exact ⟨by omega, i + 1, ⟨⟨by rw [hs]; simp, by rw [hs, fl]; simp, v1⟩, by rw [hs]; simp [rss_snoc], by rw [hs, fl]; simp [mts_snoc]⟩, by omega, by omega⟩
            · rw [if_neg hba, if_neg hba] at hs
              simp [go_sem, hba]
              exact ⟨by omega, i + 1, ⟨⟨by rw [hs]; simp, by rw [hs, fl]; simp, v1⟩, by rw [hs]; simp [rss_snoc], by rw [hs, fl]; simp [mts_snoc]⟩, by omega, by omega⟩
          · have hbd : b = d := by omega
            subst hbd
            simp [go_sem, ha0, hb0, had]
            refine ⟨by omega, ?_⟩
            refine cw.callF (by simp [go_sem]) ?_
            rintro _ rfl
            by_cases hba : b < a
            · rw [if_pos hba, if_pos hba] at hs
              simp [go_sem, hba]
              exact ⟨by omega, i + 1, ⟨⟨by rw [hs]; simp, by rw [hs, fl]; simp, v1⟩, by rw [hs]; simp [rss_snoc], by rw [hs, fl]; simp [mts_snoc]⟩, by omega, by omega⟩
            · rw [if_neg hba, if_neg hba] at hs
              simp [go_sem, hba]
              exact ⟨by omega, i + 1, ⟨⟨by rw [hs]; simp, by rw [hs, fl]; simp, v1⟩, by rw [hs]; simp [rss_snoc], by rw [hs, fl]; simp [mts_snoc]⟩, by omega, by omega⟩
        · have fl : (T ++ [(⟨(q : Int), (i : Int), a, b⟩ : Mt)]).filter (hasT d) = T.filter (hasT d) := by
            rw [List.filter_append]
            have : hasT d ⟨(q : Int), (i : Int), a, b⟩ = false := by
              simp only [hasT, Bool.or_eq_false_iff, decide_eq_false_iff_not]
              exact ⟨fun h => hdd (.inl h), fun h => hdd (.inr h)⟩
            simp [List.filter, this]
          have had : ¬ a = d := fun h => hdd (.inl h)
          have hbd : ¬ b = d := fun h => hdd (.inr h)
          simp [go_sem, ha0, hb0, had, hbd]
          refine cw.callF (by simp [go_sem]) ?_
          rintro _ rfl
          by_cases hba : b < a
          · rw [if_pos hba, if_pos hba] at hs
            simp [go_sem, hba]
            exact ⟨by omega, i + 1, ⟨⟨by rw [hs]; simp, by rw [hs, fl], v1⟩, by rw [hs]; simp [rss_snoc], by rw [hs, fl]⟩, by omega, by omega⟩
          · rw [if_neg hba, if_neg hba] at hs
            simp [go_sem, hba]
            exact ⟨by omega, i + 1, ⟨⟨by rw [hs]; simp, by rw [hs, fl], v1⟩, by rw [hs]; simp [rss_snoc], by rw [hs, fl]⟩, by omega, by omega⟩
    · obtain rfl : i = M := by omega
      simp [go_sem]
      exact ⟨q + 1, ⟨⟨by rw [hsq], by rw [hsq], v0⟩, by rw [hsq], by rw [hsq]⟩, by omega, by omega⟩
  · obtain rfl : q = r := by omega
    simp [go_sem]
    exact hR _ _ _ rfl (by simp [go_sem])
end Go.Idl
namespace Go.Idl
set_option linter.all false
open Go.Proofs
set_option maxHeartbeats 16000000
set_option maxRecDepth 40000

theorem same38_fun (a : List Int) (ha : a.length ≤ 2 ^ 62) : FN 37 [.fz 1 (ints a), .fz 1 (ints a)] (fun v => v = .bool true) := by
  refine IFun.of_bodyZ false 6 [10, 14, 25] Tryd.func37 rfl Tryd.call37 rfl fun R hR => ?_
  simp [go_sem]
  refine IWp.loopT (α := Nat) (fun i => (⟨false, 26, 6, [10, 14, 25], glT, [(0, .fz 1 (ints a)), (1, .fz 1 (ints a)), (5, .int .i64 (i : Int))], []⟩, []))
    (fun i => i ≤ a.length) (fun i => a.length - i) 0 (by simp) (by simp [go_sem]) ?_
  intro i hi
  by_cases h : i < a.length
  · have w1 : IntKind.i64.wrap ((i : Int) + 1) = i + 1 := wrap64 (by omega) (by omega)
    simp [go_sem, h, w1]
    exact ⟨by decide +kernel, i + 1, by omega, by omega, by omega⟩
  · obtain rfl : i = a.length := by omega
    simp [go_sem]
    exact hR _ _ _ rfl (by simp [go_sem])
theorem alike1_fun (m : Mt) : FN 74 [m.v, m.v] (fun v => v = .bool true) := by
  refine IFun.of_bodyZ false 5 [] Tryd.func74 rfl Tryd.call74 rfl fun R hR => ?_
  obtain ⟨mr, mi, ma, mb⟩ := m
  simp only [Mt.v]
  simp [go_sem]
  exact hR _ _ _ rfl (by simp [go_sem])
theorem equalF_fun (a : List Mt) (ha : a.length ≤ 2 ^ 62) : FN 73 [.fz 4 (mts a), .fz 4 (mts a), .func (.func 74) [] []] (fun v => v = .bool true) := by
  refine IFun.of_bodyZ false 10 [14, 15, 16, 17, 18, 30] Tryd.func73 rfl Tryd.call73 rfl fun R hR => ?_
  simp [go_sem]
  refine IWp.loopT (α := Nat) (fun i => (⟨false, 32, 10, [14, 15, 16, 17, 18, 30], glT, [(1, .fz 4 (mts a)), (2, .func (.func 74) [] []), (15, .fz 4 (mts a)), (16, .int .i64 (a.length : Nat)), (17, .int .i64 (i : Int))], []⟩, []))
    (fun i => i ≤ a.length) (fun i => a.length - i) 0 (by simp) (by simp [go_sem]) ?_
  intro i hi
  by_cases h : i < a.length
  · have w1 : IntKind.i64.wrap ((i : Int) + 1) = i + 1 := wrap64 (by omega) (by omega)
    have c := alike1_fun a[i]
    obtain ⟨⟨mr, mi, ma, mb⟩, hm⟩ : ∃ m, a[i] = m := ⟨_, rfl⟩
    rw [hm] at c
    simp only [Mt.v] at c
    simp [go_sem, h, hm]
    refine c.callF (by simp [go_sem]) ?_
    rintro _ rfl
    simp [go_sem, w1]
    exact ⟨i + 1, by omega, by omega, by omega⟩
  · obtain rfl : i = a.length := by omega
    simp [go_sem]
    exact hR _ _ _ rfl (by simp [go_sem])
theorem alike_fun (a : List Mt) (ha : a.length ≤ 2 ^ 62) : FN 51 [.fz 4 (mts a), .fz 4 (mts a)] (fun v => v = .bool true) := by
  refine IFun.of_bodyZ false 5 [] Tryd.func51 rfl Tryd.call51 rfl fun R hR => ?_
  simp [go_sem]
  refine (equalF_fun a ha).callF (by simp [go_sem]) ?_
  rintro _ rfl
  simp [go_sem]
  exact hR _ _ _ rfl (by simp [go_sem])
theorem brackets_eq (n d r e1 e2 e3 e4 : Int) (s : List Int) (b p : List Mt) (hs : s.length ≤ 2 ^ 62) (hb : b.length ≤ 2 ^ 62) (hp : p.length ≤ 2 ^ 62)
    (c1 : FN 12 [.int .i64 n] (fun v => v = .tup [.int .i64 r, .int .i64 e1])) (c2 : FN 47 [.int .i64 n] (fun v => v = .tup [.int .i64 r, .int .i64 e1]))
    (c3 : FN 39 [.int .i64 n] (fun v => v = .tup [.fz 1 (ints s), .int .i64 e2])) (c4 : FN 48 [.int .i64 n] (fun v => v = .tup [.fz 1 (ints s), .int .i64 e2]))
    (c5 : FN 13 [.int .i64 n] (fun v => v = .tup [.fz 4 (mts b), .int .i64 e3])) (c6 : FN 49 [.int .i64 n] (fun v => v = .tup [.fz 4 (mts b), .int .i64 e3]))
    (c7 : FN 14 [.int .i64 n, .int .i64 d] (fun v => v = .tup [.fz 4 (mts p), .int .i64 e4])) (c8 : FN 50 [.int .i64 n, .int .i64 d] (fun v => v = .tup [.fz 4 (mts p), .int .i64 e4])) :
    FN 15 [.int .i64 n, .int .i64 d] (fun v => v = .bool true) := by
  refine IFun.of_bodyZ false 21 [] Tryd.func15 rfl Tryd.call15 rfl fun R hR => ?_
  simp [go_sem]
  refine c1.callF (by simp [go_sem]) ?_
  rintro _ rfl
  simp [go_sem]
  refine c2.callF (by simp [go_sem]) ?_
  rintro _ rfl
  simp [go_sem]
  refine c3.callF (by simp [go_sem]) ?_
  rintro _ rfl
  simp [go_sem]
  refine c4.callF (by simp [go_sem]) ?_
  rintro _ rfl
  simp [go_sem]
  refine c5.callF (by simp [go_sem]) ?_
  rintro _ rfl
  simp [go_sem]
  refine c6.callF (by simp [go_sem]) ?_
  rintro _ rfl
  simp [go_sem]
  refine c7.callF (by simp [go_sem]) ?_
  rintro _ rfl
  simp [go_sem]
  refine c8.callF (by simp [go_sem]) ?_
  rintro _ rfl
  simp [go_sem]
  refine (same38_fun s hs).callF (by simp [go_sem]) ?_
  rintro _ rfl
  simp [go_sem]
  refine (alike_fun b hb).callF (by simp [go_sem]) ?_
  rintro _ rfl
  simp [go_sem]
  refine (alike_fun p hp).callF (by simp [go_sem]) ?_
  rintro _ rfl
  simp [go_sem]
  exact hR _ _ _ rfl (by simp [go_sem])
theorem brackets_fun (n d : Int) : FN 15 [.int .i64 n, .int .i64 d] (fun v => v = .bool true) := by
  by_cases h : 2 ≤ n ∧ n ≤ 64
  · obtain ⟨k, rfl⟩ : ∃ k : Nat, n = k := ⟨n.toNat, by omega⟩
    have h1 : 2 ≤ k := by omega
    have h2 : k ≤ 64 := by omega
    have hp6 : 2 ^ rnd k ≤ 2 ^ 6 := pow2_le (rnd_bd h1).2
    have hp5 : 2 ^ (rnd k - 1) ≤ 2 ^ 6 := pow2_le (by have := (rnd_bd h1).2; omega)
    have hs : (seedsL k).length ≤ 2 ^ 62 := by rw [seedsL_len]; omega
    have hb : (brkL k).length ≤ 2 ^ 62 := by rw [show (brkL k).length = 2 ^ (rnd k - 1) by unfold brkL; exact brkT_length _ _]; omega
    by_cases hd : 1 ≤ d ∧ d ≤ (k : Int)
    · have c8 := rpath_fun k d h1 h2 hd
      rw [all64 k (by omega) h1, ← pathL_eq] at c8
      have hPl : (pathL k d).length ≤ 2 ^ 62 := by
        have := ptQ_len (rnd_bd h1).2 (seedsL k) d (beg k, []) (rnd k)
        have h6 := (rnd_bd h1).2
        simp only [List.length_nil, Nat.zero_add] at this
        unfold pathL
        omega
      exact brackets_eq k d (rnd k) 0 0 0 0 _ _ _ hs hb hPl (roundsY_fun k h1 h2) (rrounds_fun k h1 h2) (seeds_fun k h1 h2) (rseeds_fun k h1 h2) (bracket_fun k h1 h2) (rbracket_fun k h1 h2) (path_fun k d h1 h2 hd) c8
    · exact brackets_eq k d (rnd k) 0 0 0 6 _ _ [] hs hb (by decide) (roundsY_fun k h1 h2) (rrounds_fun k h1 h2) (seeds_fun k h1 h2) (rseeds_fun k h1 h2) (bracket_fun k h1 h2) (rbracket_fun k h1 h2) (path_none k d (by omega) hd) (rpath_seed k d h1 h2 hd)
  · exact brackets_eq n d 0 380 380 380 380 [] [] [] (by decide) (by decide) (by decide) (roundsN_fun n h) (rrounds_none n h) (seedsN_fun n h) (rseeds_none n h) (bracketN_fun n h) (rbracket_none n h) (pathN_fun n d h) (rpath_none n d h)
theorem knockBrackets_law (n d : Int) : FN 5 [.int .i64 n, .int .i64 d] (fun v => v = .bool true) := by
  refine IFun.of_bodyZ false 5 [] Tryd.func5 rfl Tryd.call5 rfl fun R hR => ?_
  simp [go_sem]
  refine (brackets_fun n d).callF (by simp [go_sem]) ?_
  rintro _ rfl
  simp [go_sem]
  refine awake38_fun.callF (by simp [go_sem]) ?_
  rintro _ rfl
  simp [go_sem]
  exact hR _ _ _ rfl (by simp [go_sem])
end Go.Idl
