/-
  Chapter 26: HowellSmall.
-/
import Derived.Test.YtjaefodhiegmmaaC26nS
namespace Go.Idl
set_option linter.all false
open Go.Proofs
set_option maxHeartbeats 4000000
set_option maxRecDepth 40000

theorem cut_prs {l : List (Int × Int)} {n : Nat} (h : l.length = n) : cutR 0 n (prs l) = prs l := by
  subst h; exact cutR_all (by simp)
theorem cut_tail {x : Int × Int} {l : List (Int × Int)} {n : Nat} (h : l.length = n) : cutR 1 n (prs (x :: l)) = prs l := by
  subst h; simp only [cutR, prs, mp, List.map_cons, List.drop_succ_cons, List.drop_zero]; exact List.take_of_length_le (by simp)
theorem bit_set (l : List (Int × Int)) (i u : Nat) (hu : u ≤ 20) (hi : i < l.length) : 0 ≤ bitsOf BinOp.and IntKind.i64 ((u : Int) - 1) 1 ∧ bitsOf BinOp.and IntKind.i64 ((u : Int) - 1) 1 ≤ 1 ∧ ∃ L1 : List (Int × Int), (prs l).set i (List.take (bitsOf BinOp.and IntKind.i64 ((u : Int) - 1) 1).toNat ((prs l)[i]?.getD []) ++ IV.int IntKind.i64 ((u : Int) - 1) :: List.drop ((bitsOf BinOp.and IntKind.i64 ((u : Int) - 1) 1).toNat + 1) ((prs l)[i]?.getD [])) = prs L1 ∧ L1.length = l.length := by
  have hb : ∀ u : Nat, u < 21 → bitsOf BinOp.and IntKind.i64 ((u : Int) - 1) 1 = 0 ∨ bitsOf BinOp.and IntKind.i64 ((u : Int) - 1) 1 = 1 := by decide +kernel
  have hr : (prs l)[i]?.getD [] = [.int .i64 l[i].1, .int .i64 l[i].2] := mp_at hi
  rcases hb u (by omega) with e | e
  · exact ⟨by omega, by omega, l.set i ((u : Int) - 1, l[i].2), by rw [e, hr, prs_set]; rfl, by simp⟩
  · exact ⟨by omega, by omega, l.set i (l[i].1, (u : Int) - 1), by rw [e, hr, prs_set]; rfl, by simp⟩

theorem Cx.tup1 (e : Int) : Cx fun v => .tup [v, .int .i64 e] := .tup [] [.int .i64 e] (fun v => v) (by simp) (by simp [scal]) .here

theorem lawSmall_fun : IFun true Try.prog [] 9 [] (fun v => v = .bool true) := by
  refine IFun.of_bodyZ false 1 [1, 3, 4, 5, 6, 8, 9, 11, 12, 13, 14, 15, 16, 18, 29, 30, 31, 32, 42, 45, 61, 63, 84, 85, 86, 87, 88, 100, 101, 102, 106, 121, 125, 126, 127, 172, 203] Try.func9 rfl Try.call9 rfl fun R hR => ?_
  simp [go_sem]
  have wm1 : IntKind.i64.wrap (-1) = -1 := by decide
  have w0 : IntKind.i64.wrap 0 = 0 := by decide
  refine IWp.loopT (α := Nat) (fun i => (⟨false, 226, 1, [1, 3, 4, 5, 6, 8, 9, 11, 12, 13, 14, 15, 16, 18, 29, 30, 31, 32, 42, 45, 61, 63, 84, 85, 86, 87, 88, 100, 101, 102, 106, 121, 125, 126, 127, 172, 203], [], [(1, .int .i64 ((i : Int) - 1))], []⟩, [])) (fun i => i ≤ 28) (fun i => 28 - i) 0 (by decide) (by simp [go_sem]) ?_
  intro i hi
  by_cases h : ((i : Int) - 1) < 27
  · have wi : IntKind.i64.wrap (i : Int) = i := wrap64 (by omega) (by omega)
    simp [go_sem, h]
    refine IWp.loopT (α := Nat) (fun j => (⟨false, 226, 1, [1, 3, 4, 5, 6, 8, 9, 11, 12, 13, 14, 15, 16, 18, 29, 30, 31, 32, 42, 45, 61, 63, 84, 85, 86, 87, 88, 100, 101, 102, 106, 121, 125, 126, 127, 172, 203], [], [(1, .int .i64 ((i : Int) - 1)), (29, .sl 0 6 0 6 none), (30, .int .i64 6), (31, .int .i64 (j : Int))], []⟩, [.rows 1 [[.int .i64 (-1)], [.int .i64 0], [.int .i64 1], [.int .i64 (IntKind.i64.wrap (IntKind.i64.wrap (2 * ((i : Int) - 1)) - 2))], [.int .i64 (IntKind.i64.wrap (IntKind.i64.wrap (2 * ((i : Int) - 1)) - 1))], [.int .i64 (IntKind.i64.wrap (2 * ((i : Int) - 1)))]]])) (fun j => j ≤ 6) (fun j => 6 - j) 0 (by decide) (by simp [go_sem, wm1, w0]) ?_
    intro j hj
    have hc : j = 0 ∨ j = 1 ∨ j = 2 ∨ j = 3 ∨ j = 4 ∨ j = 5 ∨ j = 6 := by omega
    rcases hc with rfl | rfl | rfl | rfl | rfl | rfl | rfl
    · simp [go_sem, wm1, w0]
      refine (tells_fun _ _ _).callF (by simp [go_sem]; exact ⟨rfl, rfl, rfl⟩) ?_
      rintro _ rfl
      simp [go_sem, wm1, w0]
      exact ⟨1, by decide, by decide, by decide⟩
    · simp [go_sem, wm1, w0]
      refine (tells_fun _ _ _).callF (by simp [go_sem]; exact ⟨rfl, rfl, rfl⟩) ?_
      rintro _ rfl
      simp [go_sem, wm1, w0]
      exact ⟨2, by decide, by decide, by decide⟩
    · simp [go_sem, wm1, w0]
      refine (tells_fun _ _ _).callF (by simp [go_sem]; exact ⟨rfl, rfl, rfl⟩) ?_
      rintro _ rfl
      simp [go_sem, wm1, w0]
      exact ⟨3, by decide, by decide, by decide⟩
    · simp [go_sem, wm1, w0]
      refine (tells_fun _ _ _).callF (by simp [go_sem]; exact ⟨rfl, rfl, rfl⟩) ?_
      rintro _ rfl
      simp [go_sem, wm1, w0]
      exact ⟨4, by decide, by decide, by decide⟩
    · simp [go_sem, wm1, w0]
      refine (tells_fun _ _ _).callF (by simp [go_sem]; exact ⟨rfl, rfl, rfl⟩) ?_
      rintro _ rfl
      simp [go_sem, wm1, w0]
      exact ⟨5, by decide, by decide, by decide⟩
    · simp [go_sem, wm1, w0]
      refine (tells_fun _ _ _).callF (by simp [go_sem]; exact ⟨rfl, rfl, rfl⟩) ?_
      rintro _ rfl
      simp [go_sem, wm1, w0]
      exact ⟨6, by decide, by decide, by decide⟩
    · simp [go_sem, wi]
      exact ⟨i + 1, by omega, by omega, by omega⟩
  · simp [go_sem, h]
    refine IWp.loopT (α := Nat) (fun i => (⟨false, 226, 1, [1, 3, 4, 5, 6, 8, 9, 11, 12, 13, 14, 15, 16, 18, 29, 30, 31, 32, 42, 45, 61, 63, 84, 85, 86, 87, 88, 100, 101, 102, 106, 121, 125, 126, 127, 172, 203], [], [(4, .int .i64 ((i : Int) - 2))], []⟩, [])) (fun i => i ≤ 122) (fun i => 122 - i) 0 (by decide) (by simp [go_sem]) ?_
    intro i hi
    by_cases h : ((i : Int) - 2) < 120
    · have wi : IntKind.i64.wrap ((i : Int) - 2 + 1) = i - 1 := by rw [wrap64 (by omega) (by omega)]; omega
      simp [go_sem, h]
      refine (tells_fun _ _ _).callF (by simp [go_sem]; exact ⟨rfl, rfl, rfl⟩) ?_
      rintro _ rfl
      simp [go_sem, w0]
      by_cases h3 : ((i : Int) - 2).tmod 3 = 0
      · simp [go_sem, h3]
        refine (tells_fun _ _ _).callF (by simp [go_sem]; exact ⟨rfl, rfl, rfl⟩) ?_
        rintro _ rfl
        simp [go_sem, w0, h3, wi]
        exact ⟨i + 1, by omega, by omega, by omega⟩
      · simp [go_sem, h3, wi]
        exact ⟨i + 1, by omega, by omega, by omega⟩
    · simp [go_sem, h]
      refine IWp.loopT (α := Nat) (fun i => (⟨false, 226, 1, [1, 3, 4, 5, 6, 8, 9, 11, 12, 13, 14, 15, 16, 18, 29, 30, 31, 32, 42, 45, 61, 63, 84, 85, 86, 87, 88, 100, 101, 102, 106, 121, 125, 126, 127, 172, 203], [], [(5, .int .i64 (i : Int))], []⟩, [])) (fun i => i ≤ 625) (fun i => 625 - i) 0 (by decide) (by simp [go_sem]) ?_
      intro i hi
      by_cases h : (i : Int) < 625
      · have wi : IntKind.i64.wrap ((i : Int) + 1) = i + 1 := wrap64 (by omega) (by omega)
        simp [go_sem, h]
        refine (froms_fun _ _ [(_, _), (_, _)] (by simp)).callF (by simp [go_sem, prs, mp]; and_intros <;> rfl) ?_
        rintro _ rfl
        simp [go_sem, wi]
        exact ⟨i + 1, by omega, by omega, by omega⟩
      · simp [go_sem, h]
        refine IWp.loopT (α := Nat) (fun i => (⟨false, 226, 1, [1, 3, 4, 5, 6, 8, 9, 11, 12, 13, 14, 15, 16, 18, 29, 30, 31, 32, 42, 45, 61, 63, 84, 85, 86, 87, 88, 100, 101, 102, 106, 121, 125, 126, 127, 172, 203], [], [(85, .sl 0 4 0 4 none), (86, .int .i64 4), (87, .int .i64 (i : Int))], []⟩, [.rows 1 [[.int .i64 2], [.int .i64 4], [.int .i64 5], [.int .i64 7]]])) (fun i => i ≤ 4) (fun i => 4 - i) 0 (by decide) (by simp [go_sem]) ?_
        intro j hj
        have hc : j = 0 ∨ j = 1 ∨ j = 2 ∨ j = 3 ∨ j = 4 := by omega
        rcases hc with rfl | rfl | rfl | rfl | rfl
        · have s7 := sL_at 2 (by decide) (by decide)
          obtain ⟨x, l, hl, hk⟩ : ∃ x l, stN 2 = x :: l ∧ l.length = 0 := ⟨_, _, rfl, by decide +kernel⟩
          have wn : IntKind.i64.wrap (IntKind.i64.wrap 4 - 1) = 3 := by decide
          have hcut : cutR 0 1 (prs (x :: l)) = prs (x :: l) := cut_prs (by simp [hk])
          simp [go_sem, wn]
          refine (refStarter_c 2).callOF (by simp [go_sem]) ?_
          rintro _ rfl
          rw [show sL 2 = x :: l from s7.1.trans hl, show sE 2 = 0 from s7.2]
          refine ⟨_, 2, prs (x :: l), Cx.tup1 0, by decide, rfl, by simp [go_sem], ?_⟩
          simp [go_sem, hk, wn]
          refine IWp.loopT (α := Nat) (fun i => (⟨false, 226, 1, [1, 3, 4, 5, 6, 8, 9, 11, 12, 13, 14, 15, 16, 18, 29, 30, 31, 32, 42, 45, 61, 63, 84, 85, 86, 87, 88, 100, 101, 102, 106, 121, 125, 126, 127, 172, 203], [], [(9, .sl 1 1 0 1 none), (11, .int .i64 3), (85, .sl 0 4 0 4 none), (86, .int .i64 4), (87, .int .i64 0), (100, .int .i64 1), (101, .int .i64 (i : Int))], []⟩, [.rows 1 [[.int .i64 2], [.int .i64 4], [.int .i64 5], [.int .i64 7]], .rows 2 (prs (x :: l))])) (fun i => i ≤ 1) (fun i => 1 - i) 0 (by decide) (by simp [go_sem, hk, wn]) ?_
          intro i hi
          by_cases h : (i : Int) < 1
          · simp [go_sem, h]
            refine IWp.loopT (α := Nat) (fun u => (⟨false, 226, 1, [1, 3, 4, 5, 6, 8, 9, 11, 12, 13, 14, 15, 16, 18, 29, 30, 31, 32, 42, 45, 61, 63, 84, 85, 86, 87, 88, 100, 101, 102, 106, 121, 125, 126, 127, 172, 203], [], [(9, .sl 1 1 0 1 none), (11, .int .i64 3), (85, .sl 0 4 0 4 none), (86, .int .i64 4), (87, .int .i64 0), (100, .int .i64 1), (101, .int .i64 (i : Int)), (12, .int .i64 (i : Int)), (13, .int .i64 ((u : Int) - 1))], []⟩, [.rows 1 [[.int .i64 2], [.int .i64 4], [.int .i64 5], [.int .i64 7]], .rows 2 (prs (x :: l))])) (fun u => u ≤ 5) (fun u => 5 - u) 0 (by decide) (by simp [go_sem, hk]) ?_
            intro u hu
            by_cases hu2 : (u : Int) - 1 ≤ 3
            · simp [go_sem, hu2]
              refine (clone_fun x l (by omega)).callOF (by simp [go_sem, hk, hcut]) ?_
              rintro _ rfl
              refine ⟨_, 2, prs (x :: l), .here, by decide, rfl, by simp [go_sem], ?_⟩
              obtain ⟨b0, b1, L1, e1, k1⟩ := bit_set (x :: l) i u (by omega) (by simp [hk]; omega)
              have hcut1 : cutR 0 1 (prs L1) = prs L1 := cut_prs (by simp [k1, hk])
              simp only [List.length_cons, hk] at k1
              simp [go_sem, hk, h]
              rw [e1]
              refine ⟨⟨by omega, by omega, by omega⟩, ⟨by omega, by omega⟩, ?_⟩
              refine (froms_fun 3 1 L1 (by omega)).callF (by simp [go_sem, k1, hcut1]) ?_
              rintro _ rfl
              simp [go_sem]
              refine (clone_fun x l (by omega)).callOF (by simp [go_sem, hk, hcut]) ?_
              rintro _ rfl
              refine ⟨_, 2, prs (x :: l), .here, by decide, rfl, by simp [go_sem], ?_⟩
              simp [go_sem, hk]
              refine IWp.loopT (α := Nat × List (Int × Int)) (fun y => (⟨false, 226, 1, [1, 3, 4, 5, 6, 8, 9, 11, 12, 13, 14, 15, 16, 18, 29, 30, 31, 32, 42, 45, 61, 63, 84, 85, 86, 87, 88, 100, 101, 102, 106, 121, 125, 126, 127, 172, 203], [], [(9, .sl 1 1 0 1 none), (11, .int .i64 3), (85, .sl 0 4 0 4 none), (86, .int .i64 4), (87, .int .i64 0), (100, .int .i64 1), (101, .int .i64 (i : Int)), (12, .int .i64 (i : Int)), (13, .int .i64 ((u : Int) - 1)), (15, .sl 3 1 0 1 none), (125, .int .i64 1), (126, .int .i64 (y.1 : Int))], []⟩, [.rows 1 [[.int .i64 2], [.int .i64 4], [.int .i64 5], [.int .i64 7]], .rows 2 (prs (x :: l)), .dead, .rows 2 (prs y.2)])) (fun y => y.1 ≤ 1 ∧ y.2.length = 1) (fun y => 1 - y.1) (0, x :: l) (by simp [hk]) (by simp [go_sem, hk]) ?_
              rintro ⟨m, L2⟩ ⟨hm, k2⟩
              simp only at hm k2
              have hcut2 : cutR 0 1 (prs L2) = prs L2 := cut_prs k2
              by_cases hm2 : (m : Int) < 1
              · obtain ⟨a, b, hr⟩ : ∃ a b, (prs L2)[m]?.getD [] = [.int .i64 a, .int .i64 b] := ⟨_, _, mp_at (by omega)⟩
                have wm : IntKind.i64.wrap ((m : Int) + 1) = m + 1 := wrap64 (by omega) (by omega)
                simp [go_sem, hm2, k2, hr, wm]
                exact ⟨by omega, by decide +kernel, m + 1, L2.set m (_, _), ⟨by omega, prs_set⟩, ⟨by omega, by simp [k2]⟩, by omega⟩
              · simp [go_sem, hm2]
                refine (froms_fun 3 3 L2 (by omega)).callF (by simp [go_sem, k2, hcut2]) ?_
                rintro _ rfl
                simp [go_sem]
                refine (froms_fun _ 2 (x :: l) (by simp [hk])).callF (by simp [go_sem, hk, hcut]; rfl) ?_
                rintro _ rfl
                have wu : IntKind.i64.wrap (u : Int) = u := wrap64 (by omega) (by omega)
                simp [go_sem, wu]
                exact ⟨u + 1, by omega, by omega, by omega⟩
            · simp [go_sem, hu2]
              have wi : IntKind.i64.wrap ((i : Int) + 1) = i + 1 := wrap64 (by omega) (by omega)
              exact ⟨i + 1, by omega, by omega, by omega⟩
          · simp [go_sem, h]
            refine (froms_fun 3 0 (x :: l) (by simp [hk])).callF (by simp [go_sem, hk, hcut]) ?_
            rintro _ rfl
            simp [go_sem]
            refine (froms_fun 3 _ (x :: l) (by simp [hk])).callF (by simp [go_sem, hk, hcut]; rfl) ?_
            rintro _ rfl
            simp [go_sem]
            refine ⟨List.length_eq_zero_iff.1 hk, ?_⟩
            refine (froms_fun 3 1 l (by omega)).callF (by simp [go_sem, hk, cut_tail]) ?_
            rintro _ rfl
            simp [go_sem]
            refine ⟨List.length_eq_zero_iff.1 hk, ?_⟩
            rw [show prs (x :: l) ++ [[IV.int .i64 x.1, IV.int .i64 x.2]] = prs ((x :: l) ++ [x]) from prs_snoc.symm]
            refine (froms_fun 3 1 ((x :: l) ++ [x]) (by simp [hk])).callF (by simp [go_sem, hk, cut_prs]) ?_
            rintro _ rfl
            have wj : IntKind.i64.wrap 0 = 0 := by decide
            simp [go_sem, wj]
            exact ⟨1, by decide, by decide, by decide⟩
        · have s7 := sL_at 4 (by decide) (by decide)
          obtain ⟨x, l, hl, hk⟩ : ∃ x l, stN 4 = x :: l ∧ l.length = 2 := ⟨_, _, rfl, by decide +kernel⟩
          have wn : IntKind.i64.wrap (IntKind.i64.wrap 8 - 1) = 7 := by decide
          have hcut : cutR 0 3 (prs (x :: l)) = prs (x :: l) := cut_prs (by simp [hk])
          simp [go_sem, wn]
          refine (refStarter_c 4).callOF (by simp [go_sem]) ?_
          rintro _ rfl
          rw [show sL 4 = x :: l from s7.1.trans hl, show sE 4 = 0 from s7.2]
          refine ⟨_, 2, prs (x :: l), Cx.tup1 0, by decide, rfl, by simp [go_sem], ?_⟩
          simp [go_sem, hk, wn]
          refine IWp.loopT (α := Nat) (fun i => (⟨false, 226, 1, [1, 3, 4, 5, 6, 8, 9, 11, 12, 13, 14, 15, 16, 18, 29, 30, 31, 32, 42, 45, 61, 63, 84, 85, 86, 87, 88, 100, 101, 102, 106, 121, 125, 126, 127, 172, 203], [], [(9, .sl 1 3 0 3 none), (11, .int .i64 7), (85, .sl 0 4 0 4 none), (86, .int .i64 4), (87, .int .i64 1), (100, .int .i64 3), (101, .int .i64 (i : Int))], []⟩, [.rows 1 [[.int .i64 2], [.int .i64 4], [.int .i64 5], [.int .i64 7]], .rows 2 (prs (x :: l))])) (fun i => i ≤ 3) (fun i => 3 - i) 0 (by decide) (by simp [go_sem, hk, wn]) ?_
          intro i hi
          by_cases h : (i : Int) < 3
          · simp [go_sem, h]
            refine IWp.loopT (α := Nat) (fun u => (⟨false, 226, 1, [1, 3, 4, 5, 6, 8, 9, 11, 12, 13, 14, 15, 16, 18, 29, 30, 31, 32, 42, 45, 61, 63, 84, 85, 86, 87, 88, 100, 101, 102, 106, 121, 125, 126, 127, 172, 203], [], [(9, .sl 1 3 0 3 none), (11, .int .i64 7), (85, .sl 0 4 0 4 none), (86, .int .i64 4), (87, .int .i64 1), (100, .int .i64 3), (101, .int .i64 (i : Int)), (12, .int .i64 (i : Int)), (13, .int .i64 ((u : Int) - 1))], []⟩, [.rows 1 [[.int .i64 2], [.int .i64 4], [.int .i64 5], [.int .i64 7]], .rows 2 (prs (x :: l))])) (fun u => u ≤ 9) (fun u => 9 - u) 0 (by decide) (by simp [go_sem, hk]) ?_
            intro u hu
            by_cases hu2 : (u : Int) - 1 ≤ 7
            · simp [go_sem, hu2]
              refine (clone_fun x l (by omega)).callOF (by simp [go_sem, hk, hcut]) ?_
              rintro _ rfl
              refine ⟨_, 2, prs (x :: l), .here, by decide, rfl, by simp [go_sem], ?_⟩
              obtain ⟨b0, b1, L1, e1, k1⟩ := bit_set (x :: l) i u (by omega) (by simp [hk]; omega)
              have hcut1 : cutR 0 3 (prs L1) = prs L1 := cut_prs (by simp [k1, hk])
              simp only [List.length_cons, hk] at k1
              simp [go_sem, hk, h]
              rw [e1]
              refine ⟨⟨by omega, by omega, by omega⟩, ⟨by omega, by omega⟩, ?_⟩
              refine (froms_fun 7 1 L1 (by omega)).callF (by simp [go_sem, k1, hcut1]) ?_
              rintro _ rfl
              simp [go_sem]
              refine (clone_fun x l (by omega)).callOF (by simp [go_sem, hk, hcut]) ?_
              rintro _ rfl
              refine ⟨_, 2, prs (x :: l), .here, by decide, rfl, by simp [go_sem], ?_⟩
              simp [go_sem, hk]
              refine IWp.loopT (α := Nat × List (Int × Int)) (fun y => (⟨false, 226, 1, [1, 3, 4, 5, 6, 8, 9, 11, 12, 13, 14, 15, 16, 18, 29, 30, 31, 32, 42, 45, 61, 63, 84, 85, 86, 87, 88, 100, 101, 102, 106, 121, 125, 126, 127, 172, 203], [], [(9, .sl 1 3 0 3 none), (11, .int .i64 7), (85, .sl 0 4 0 4 none), (86, .int .i64 4), (87, .int .i64 1), (100, .int .i64 3), (101, .int .i64 (i : Int)), (12, .int .i64 (i : Int)), (13, .int .i64 ((u : Int) - 1)), (15, .sl 3 3 0 3 none), (125, .int .i64 3), (126, .int .i64 (y.1 : Int))], []⟩, [.rows 1 [[.int .i64 2], [.int .i64 4], [.int .i64 5], [.int .i64 7]], .rows 2 (prs (x :: l)), .dead, .rows 2 (prs y.2)])) (fun y => y.1 ≤ 3 ∧ y.2.length = 3) (fun y => 3 - y.1) (0, x :: l) (by simp [hk]) (by simp [go_sem, hk]) ?_
              rintro ⟨m, L2⟩ ⟨hm, k2⟩
              simp only at hm k2
              have hcut2 : cutR 0 3 (prs L2) = prs L2 := cut_prs k2
              by_cases hm2 : (m : Int) < 3
              · obtain ⟨a, b, hr⟩ : ∃ a b, (prs L2)[m]?.getD [] = [.int .i64 a, .int .i64 b] := ⟨_, _, mp_at (by omega)⟩
                have wm : IntKind.i64.wrap ((m : Int) + 1) = m + 1 := wrap64 (by omega) (by omega)
                simp [go_sem, hm2, k2, hr, wm]
                exact ⟨by omega, by decide +kernel, m + 1, L2.set m (_, _), ⟨by omega, prs_set⟩, ⟨by omega, by simp [k2]⟩, by omega⟩
              · simp [go_sem, hm2]
                refine (froms_fun 7 7 L2 (by omega)).callF (by simp [go_sem, k2, hcut2]) ?_
                rintro _ rfl
                simp [go_sem]
                refine (froms_fun _ 2 (x :: l) (by simp [hk])).callF (by simp [go_sem, hk, hcut]; rfl) ?_
                rintro _ rfl
                have wu : IntKind.i64.wrap (u : Int) = u := wrap64 (by omega) (by omega)
                simp [go_sem, wu]
                exact ⟨u + 1, by omega, by omega, by omega⟩
            · simp [go_sem, hu2]
              have wi : IntKind.i64.wrap ((i : Int) + 1) = i + 1 := wrap64 (by omega) (by omega)
              exact ⟨i + 1, by omega, by omega, by omega⟩
          · simp [go_sem, h]
            refine (froms_fun 7 0 (x :: l) (by simp [hk])).callF (by simp [go_sem, hk, hcut]) ?_
            rintro _ rfl
            simp [go_sem]
            refine (froms_fun 7 _ (x :: l) (by simp [hk])).callF (by simp [go_sem, hk, hcut]; rfl) ?_
            rintro _ rfl
            simp [go_sem]
            refine ⟨⟨hk, by omega⟩, ?_⟩
            refine (froms_fun 7 1 l (by omega)).callF (by simp [go_sem, hk, cut_tail]) ?_
            rintro _ rfl
            simp [go_sem]
            refine ⟨⟨hk, by omega⟩, hk, ?_⟩
            rw [show prs (x :: l) ++ [[IV.int .i64 x.1, IV.int .i64 x.2]] = prs ((x :: l) ++ [x]) from prs_snoc.symm]
            refine (froms_fun 7 1 ((x :: l) ++ [x]) (by simp [hk])).callF (by simp [go_sem, hk, cut_prs]) ?_
            rintro _ rfl
            have wj : IntKind.i64.wrap 1 = 1 := by decide
            simp [go_sem, wj]
            exact ⟨2, by decide, by decide, by decide⟩
        · have s7 := sL_at 5 (by decide) (by decide)
          obtain ⟨x, l, hl, hk⟩ : ∃ x l, stN 5 = x :: l ∧ l.length = 3 := ⟨_, _, rfl, by decide +kernel⟩
          have wn : IntKind.i64.wrap (IntKind.i64.wrap 10 - 1) = 9 := by decide
          have hcut : cutR 0 4 (prs (x :: l)) = prs (x :: l) := cut_prs (by simp [hk])
          simp [go_sem, wn]
          refine (refStarter_c 5).callOF (by simp [go_sem]) ?_
          rintro _ rfl
          rw [show sL 5 = x :: l from s7.1.trans hl, show sE 5 = 0 from s7.2]
          refine ⟨_, 2, prs (x :: l), Cx.tup1 0, by decide, rfl, by simp [go_sem], ?_⟩
          simp [go_sem, hk, wn]
          refine IWp.loopT (α := Nat) (fun i => (⟨false, 226, 1, [1, 3, 4, 5, 6, 8, 9, 11, 12, 13, 14, 15, 16, 18, 29, 30, 31, 32, 42, 45, 61, 63, 84, 85, 86, 87, 88, 100, 101, 102, 106, 121, 125, 126, 127, 172, 203], [], [(9, .sl 1 4 0 4 none), (11, .int .i64 9), (85, .sl 0 4 0 4 none), (86, .int .i64 4), (87, .int .i64 2), (100, .int .i64 4), (101, .int .i64 (i : Int))], []⟩, [.rows 1 [[.int .i64 2], [.int .i64 4], [.int .i64 5], [.int .i64 7]], .rows 2 (prs (x :: l))])) (fun i => i ≤ 4) (fun i => 4 - i) 0 (by decide) (by simp [go_sem, hk, wn]) ?_
          intro i hi
          by_cases h : (i : Int) < 4
          · simp [go_sem, h]
            refine IWp.loopT (α := Nat) (fun u => (⟨false, 226, 1, [1, 3, 4, 5, 6, 8, 9, 11, 12, 13, 14, 15, 16, 18, 29, 30, 31, 32, 42, 45, 61, 63, 84, 85, 86, 87, 88, 100, 101, 102, 106, 121, 125, 126, 127, 172, 203], [], [(9, .sl 1 4 0 4 none), (11, .int .i64 9), (85, .sl 0 4 0 4 none), (86, .int .i64 4), (87, .int .i64 2), (100, .int .i64 4), (101, .int .i64 (i : Int)), (12, .int .i64 (i : Int)), (13, .int .i64 ((u : Int) - 1))], []⟩, [.rows 1 [[.int .i64 2], [.int .i64 4], [.int .i64 5], [.int .i64 7]], .rows 2 (prs (x :: l))])) (fun u => u ≤ 11) (fun u => 11 - u) 0 (by decide) (by simp [go_sem, hk]) ?_
            intro u hu
            by_cases hu2 : (u : Int) - 1 ≤ 9
            · simp [go_sem, hu2]
              refine (clone_fun x l (by omega)).callOF (by simp [go_sem, hk, hcut]) ?_
              rintro _ rfl
              refine ⟨_, 2, prs (x :: l), .here, by decide, rfl, by simp [go_sem], ?_⟩
              obtain ⟨b0, b1, L1, e1, k1⟩ := bit_set (x :: l) i u (by omega) (by simp [hk]; omega)
              have hcut1 : cutR 0 4 (prs L1) = prs L1 := cut_prs (by simp [k1, hk])
              simp only [List.length_cons, hk] at k1
              simp [go_sem, hk, h]
              rw [e1]
              refine ⟨⟨by omega, by omega, by omega⟩, ⟨by omega, by omega⟩, ?_⟩
              refine (froms_fun 9 1 L1 (by omega)).callF (by simp [go_sem, k1, hcut1]) ?_
              rintro _ rfl
              simp [go_sem]
              refine (clone_fun x l (by omega)).callOF (by simp [go_sem, hk, hcut]) ?_
              rintro _ rfl
              refine ⟨_, 2, prs (x :: l), .here, by decide, rfl, by simp [go_sem], ?_⟩
              simp [go_sem, hk]
              refine IWp.loopT (α := Nat × List (Int × Int)) (fun y => (⟨false, 226, 1, [1, 3, 4, 5, 6, 8, 9, 11, 12, 13, 14, 15, 16, 18, 29, 30, 31, 32, 42, 45, 61, 63, 84, 85, 86, 87, 88, 100, 101, 102, 106, 121, 125, 126, 127, 172, 203], [], [(9, .sl 1 4 0 4 none), (11, .int .i64 9), (85, .sl 0 4 0 4 none), (86, .int .i64 4), (87, .int .i64 2), (100, .int .i64 4), (101, .int .i64 (i : Int)), (12, .int .i64 (i : Int)), (13, .int .i64 ((u : Int) - 1)), (15, .sl 3 4 0 4 none), (125, .int .i64 4), (126, .int .i64 (y.1 : Int))], []⟩, [.rows 1 [[.int .i64 2], [.int .i64 4], [.int .i64 5], [.int .i64 7]], .rows 2 (prs (x :: l)), .dead, .rows 2 (prs y.2)])) (fun y => y.1 ≤ 4 ∧ y.2.length = 4) (fun y => 4 - y.1) (0, x :: l) (by simp [hk]) (by simp [go_sem, hk]) ?_
              rintro ⟨m, L2⟩ ⟨hm, k2⟩
              simp only at hm k2
              have hcut2 : cutR 0 4 (prs L2) = prs L2 := cut_prs k2
              by_cases hm2 : (m : Int) < 4
              · obtain ⟨a, b, hr⟩ : ∃ a b, (prs L2)[m]?.getD [] = [.int .i64 a, .int .i64 b] := ⟨_, _, mp_at (by omega)⟩
                have wm : IntKind.i64.wrap ((m : Int) + 1) = m + 1 := wrap64 (by omega) (by omega)
                simp [go_sem, hm2, k2, hr, wm]
                exact ⟨by omega, by decide +kernel, m + 1, L2.set m (_, _), ⟨by omega, prs_set⟩, ⟨by omega, by simp [k2]⟩, by omega⟩
              · simp [go_sem, hm2]
                refine (froms_fun 9 9 L2 (by omega)).callF (by simp [go_sem, k2, hcut2]) ?_
                rintro _ rfl
                simp [go_sem]
                refine (froms_fun _ 2 (x :: l) (by simp [hk])).callF (by simp [go_sem, hk, hcut]; rfl) ?_
                rintro _ rfl
                have wu : IntKind.i64.wrap (u : Int) = u := wrap64 (by omega) (by omega)
                simp [go_sem, wu]
                exact ⟨u + 1, by omega, by omega, by omega⟩
            · simp [go_sem, hu2]
              have wi : IntKind.i64.wrap ((i : Int) + 1) = i + 1 := wrap64 (by omega) (by omega)
              exact ⟨i + 1, by omega, by omega, by omega⟩
          · simp [go_sem, h]
            refine (froms_fun 9 0 (x :: l) (by simp [hk])).callF (by simp [go_sem, hk, hcut]) ?_
            rintro _ rfl
            simp [go_sem]
            refine (froms_fun 9 _ (x :: l) (by simp [hk])).callF (by simp [go_sem, hk, hcut]; rfl) ?_
            rintro _ rfl
            simp [go_sem]
            refine ⟨⟨hk, by omega⟩, ?_⟩
            refine (froms_fun 9 1 l (by omega)).callF (by simp [go_sem, hk, cut_tail]) ?_
            rintro _ rfl
            simp [go_sem]
            refine ⟨⟨hk, by omega⟩, hk, ?_⟩
            rw [show prs (x :: l) ++ [[IV.int .i64 x.1, IV.int .i64 x.2]] = prs ((x :: l) ++ [x]) from prs_snoc.symm]
            refine (froms_fun 9 1 ((x :: l) ++ [x]) (by simp [hk])).callF (by simp [go_sem, hk, cut_prs]) ?_
            rintro _ rfl
            have wj : IntKind.i64.wrap 2 = 2 := by decide
            simp [go_sem, wj]
            exact ⟨3, by decide, by decide, by decide⟩
        · have s7 := sL_at 7 (by decide) (by decide)
          obtain ⟨x, l, hl, hk⟩ : ∃ x l, stN 7 = x :: l ∧ l.length = 5 := ⟨_, _, rfl, by decide +kernel⟩
          have wn : IntKind.i64.wrap (IntKind.i64.wrap 14 - 1) = 13 := by decide
          have hcut : cutR 0 6 (prs (x :: l)) = prs (x :: l) := cut_prs (by simp [hk])
          simp [go_sem, wn]
          refine (refStarter_c 7).callOF (by simp [go_sem]) ?_
          rintro _ rfl
          rw [show sL 7 = x :: l from s7.1.trans hl, show sE 7 = 0 from s7.2]
          refine ⟨_, 2, prs (x :: l), Cx.tup1 0, by decide, rfl, by simp [go_sem], ?_⟩
          simp [go_sem, hk, wn]
          refine IWp.loopT (α := Nat) (fun i => (⟨false, 226, 1, [1, 3, 4, 5, 6, 8, 9, 11, 12, 13, 14, 15, 16, 18, 29, 30, 31, 32, 42, 45, 61, 63, 84, 85, 86, 87, 88, 100, 101, 102, 106, 121, 125, 126, 127, 172, 203], [], [(9, .sl 1 6 0 6 none), (11, .int .i64 13), (85, .sl 0 4 0 4 none), (86, .int .i64 4), (87, .int .i64 3), (100, .int .i64 6), (101, .int .i64 (i : Int))], []⟩, [.rows 1 [[.int .i64 2], [.int .i64 4], [.int .i64 5], [.int .i64 7]], .rows 2 (prs (x :: l))])) (fun i => i ≤ 6) (fun i => 6 - i) 0 (by decide) (by simp [go_sem, hk, wn]) ?_
          intro i hi
          by_cases h : (i : Int) < 6
          · simp [go_sem, h]
            refine IWp.loopT (α := Nat) (fun u => (⟨false, 226, 1, [1, 3, 4, 5, 6, 8, 9, 11, 12, 13, 14, 15, 16, 18, 29, 30, 31, 32, 42, 45, 61, 63, 84, 85, 86, 87, 88, 100, 101, 102, 106, 121, 125, 126, 127, 172, 203], [], [(9, .sl 1 6 0 6 none), (11, .int .i64 13), (85, .sl 0 4 0 4 none), (86, .int .i64 4), (87, .int .i64 3), (100, .int .i64 6), (101, .int .i64 (i : Int)), (12, .int .i64 (i : Int)), (13, .int .i64 ((u : Int) - 1))], []⟩, [.rows 1 [[.int .i64 2], [.int .i64 4], [.int .i64 5], [.int .i64 7]], .rows 2 (prs (x :: l))])) (fun u => u ≤ 15) (fun u => 15 - u) 0 (by decide) (by simp [go_sem, hk]) ?_
            intro u hu
            by_cases hu2 : (u : Int) - 1 ≤ 13
            · simp [go_sem, hu2]
              refine (clone_fun x l (by omega)).callOF (by simp [go_sem, hk, hcut]) ?_
              rintro _ rfl
              refine ⟨_, 2, prs (x :: l), .here, by decide, rfl, by simp [go_sem], ?_⟩
              obtain ⟨b0, b1, L1, e1, k1⟩ := bit_set (x :: l) i u (by omega) (by simp [hk]; omega)
              have hcut1 : cutR 0 6 (prs L1) = prs L1 := cut_prs (by simp [k1, hk])
              simp only [List.length_cons, hk] at k1
              simp [go_sem, hk, h]
              rw [e1]
              refine ⟨⟨by omega, by omega, by omega⟩, ⟨by omega, by omega⟩, ?_⟩
              refine (froms_fun 13 1 L1 (by omega)).callF (by simp [go_sem, k1, hcut1]) ?_
              rintro _ rfl
              simp [go_sem]
              refine (clone_fun x l (by omega)).callOF (by simp [go_sem, hk, hcut]) ?_
              rintro _ rfl
              refine ⟨_, 2, prs (x :: l), .here, by decide, rfl, by simp [go_sem], ?_⟩
              simp [go_sem, hk]
              refine IWp.loopT (α := Nat × List (Int × Int)) (fun y => (⟨false, 226, 1, [1, 3, 4, 5, 6, 8, 9, 11, 12, 13, 14, 15, 16, 18, 29, 30, 31, 32, 42, 45, 61, 63, 84, 85, 86, 87, 88, 100, 101, 102, 106, 121, 125, 126, 127, 172, 203], [], [(9, .sl 1 6 0 6 none), (11, .int .i64 13), (85, .sl 0 4 0 4 none), (86, .int .i64 4), (87, .int .i64 3), (100, .int .i64 6), (101, .int .i64 (i : Int)), (12, .int .i64 (i : Int)), (13, .int .i64 ((u : Int) - 1)), (15, .sl 3 6 0 6 none), (125, .int .i64 6), (126, .int .i64 (y.1 : Int))], []⟩, [.rows 1 [[.int .i64 2], [.int .i64 4], [.int .i64 5], [.int .i64 7]], .rows 2 (prs (x :: l)), .dead, .rows 2 (prs y.2)])) (fun y => y.1 ≤ 6 ∧ y.2.length = 6) (fun y => 6 - y.1) (0, x :: l) (by simp [hk]) (by simp [go_sem, hk]) ?_
              rintro ⟨m, L2⟩ ⟨hm, k2⟩
              simp only at hm k2
              have hcut2 : cutR 0 6 (prs L2) = prs L2 := cut_prs k2
              by_cases hm2 : (m : Int) < 6
              · obtain ⟨a, b, hr⟩ : ∃ a b, (prs L2)[m]?.getD [] = [.int .i64 a, .int .i64 b] := ⟨_, _, mp_at (by omega)⟩
                have wm : IntKind.i64.wrap ((m : Int) + 1) = m + 1 := wrap64 (by omega) (by omega)
                simp [go_sem, hm2, k2, hr, wm]
                exact ⟨by omega, by decide +kernel, m + 1, L2.set m (_, _), ⟨by omega, prs_set⟩, ⟨by omega, by simp [k2]⟩, by omega⟩
              · simp [go_sem, hm2]
                refine (froms_fun 13 13 L2 (by omega)).callF (by simp [go_sem, k2, hcut2]) ?_
                rintro _ rfl
                simp [go_sem]
                refine (froms_fun _ 2 (x :: l) (by simp [hk])).callF (by simp [go_sem, hk, hcut]; rfl) ?_
                rintro _ rfl
                have wu : IntKind.i64.wrap (u : Int) = u := wrap64 (by omega) (by omega)
                simp [go_sem, wu]
                exact ⟨u + 1, by omega, by omega, by omega⟩
            · simp [go_sem, hu2]
              have wi : IntKind.i64.wrap ((i : Int) + 1) = i + 1 := wrap64 (by omega) (by omega)
              exact ⟨i + 1, by omega, by omega, by omega⟩
          · simp [go_sem, h]
            refine (froms_fun 13 0 (x :: l) (by simp [hk])).callF (by simp [go_sem, hk, hcut]) ?_
            rintro _ rfl
            simp [go_sem]
            refine (froms_fun 13 _ (x :: l) (by simp [hk])).callF (by simp [go_sem, hk, hcut]; rfl) ?_
            rintro _ rfl
            simp [go_sem]
            refine ⟨⟨hk, by omega⟩, ?_⟩
            refine (froms_fun 13 1 l (by omega)).callF (by simp [go_sem, hk, cut_tail]) ?_
            rintro _ rfl
            simp [go_sem]
            refine ⟨⟨hk, by omega⟩, hk, ?_⟩
            rw [show prs (x :: l) ++ [[IV.int .i64 x.1, IV.int .i64 x.2]] = prs ((x :: l) ++ [x]) from prs_snoc.symm]
            refine (froms_fun 13 1 ((x :: l) ++ [x]) (by simp [hk])).callF (by simp [go_sem, hk, cut_prs]) ?_
            rintro _ rfl
            have wj : IntKind.i64.wrap 3 = 3 := by decide
            simp [go_sem, wj]
            exact ⟨4, by decide, by decide, by decide⟩
        · simp [go_sem, w0]
          refine (froms_fun 9 9 [(1, 2), (4, 6), (5, 8), (3, 7)] (by decide)).callF (by simp [go_sem, prs, mp]) ?_
          rintro _ rfl
          simp [go_sem, w0]
          refine (froms_fun 49 1 [] (by decide)).callF (by simp [go_sem, prs, mp]) ?_
          rintro _ rfl
          simp [go_sem, w0]
          refine (froms_fun 1 1 [] (by decide)).callF (by simp [go_sem, prs, mp]) ?_
          rintro _ rfl
          simp [go_sem, w0]
          refine (froms_fun (-3) 1 [] (by decide)).callF (by simp [go_sem, prs, mp]) ?_
          rintro _ rfl
          simp [go_sem, w0]
          refine (tells_fun _ _ _).callF (by simp [go_sem]; and_intros <;> rfl) ?_
          rintro _ rfl
          simp [go_sem, w0]
          refine awake_fun.callF (by simp [go_sem]) ?_
          rintro _ rfl
          simp [go_sem, w0]
          exact hR _ _ _ rfl (by simp [go_sem])
end Go.Idl
