import Derived.Test.YtamffdgopknkfaaGreatDoorC39zPartZK
import Derived.Test.YtamffdgopknkfaaGreatDoorC39zPartZL
set_option linter.all false
set_option maxHeartbeats 16000000
set_option maxRecDepth 40000
namespace Go.Idl
open Go.Proofs
theorem example_calls : ICalls Tryz.prog glT 11 [] [] (fun v σ => v = .tup [.agg [.int .i64 4, .int .i64 2, .int .i64 3, .sl 1 2 0 2 (some 2)], .sl 2 4 0 4 (some 4)] ∧ σ = [.dead, .rows 1 (ints exP.s), .rows 4 (ems exE)]) := by
 refine ICalls.forget (ICalls.of_bodyE true 2 [] Tryz.func11 rfl Tryz.call11 rfl fun R hR => ?_)
 simp [go_sem]
 refine hR _ _ ⟨[.dead, .rows 1 (ints exP.s), .rows 4 (ems exE)], ?_, rfl, rfl⟩
 simp [go_sem]
 exact ⟨rfl, rfl⟩
def exS (i k : Nat) (x : Int) : List Em := exE.modify i fun e => if k = 0 then { e with r := x } else if k = 1 then { e with a := x } else if k = 2 then { e with b := x } else { e with m := x }
def plX (i : Nat) (x : Int) : Pl := if i = 0 then ⟨x, 2, 3, [1, 5]⟩ else if i = 1 then ⟨4, x, 3, [1, 5]⟩ else if i = 2 then ⟨4, 2, x, [1, 5]⟩ else ⟨4, 2, 3, [x, 5]⟩
def numS : List Int := [-9223372036854775808, -1000001, -1000000, -1, 0, 1, 2, 3, 4, 5, 7, 15, 16, 17, 100001, 1000000, 1000001, 9223372036854775807]
theorem eventSmall_fun : FN 4 [] (fun v => v = .bool true) := by
 refine IFun.of_bodyW false 20 [21, 25, 36, 37, 54, 57, 88, 89, 90, 91, 94, 95, 97, 98, 137, 192, 220] Tryz.func4 rfl Tryz.call4 rfl fun R hR => ?_
 refine IWp.seqI ?_
 simp [go_sem]
 refine IWp.seqT (α := Unit) (fun _ => (⟨false, 223, 20, [21, 25, 36, 37, 54, 57, 88, 89, 90, 91, 94, 95, 97, 98, 137, 192, 220], glT, [], []⟩, [])) (fun _ => True) ?_ ?_
 ·simp [go_sem]
  refine IWp.loopI (α := Nat) (fun t => (⟨false, 223, 20, [21, 25, 36, 37, 54, 57, 88, 89, 90, 91, 94, 95, 97, 98, 137, 192, 220], glT, [(1, .int .i64 ((t + 2 : Nat) : Int))], []⟩, []))
   (fun t => t ≤ 4) (fun t => 4 - t) 0 (by omega) (by simp [go_sem]) ?_
  intro t ht
  by_cases h4 : t < 4
  case neg =>
   obtain rfl : t = 4 := by omega
   refine IWp.now ?_
   simp [go_sem]
  have h4' : (t : Int) + 2 ≤ 5 := by omega
  have wt : IntKind.i64.wrap ((t : Int) + 2 + 1) = (t : Int) + 1 + 2 := by rw [wrap64 (by omega) (by omega)]; omega
  refine IWp.now ?_
  simp [go_sem, h4']
  refine IWp.loopI (α := Nat) (fun n => (⟨false, 223, 20, [21, 25, 36, 37, 54, 57, 88, 89, 90, 91, 94, 95, 97, 98, 137, 192, 220], glT, [(1, .int .i64 ((t : Int) + 2)), (2, .int .i64 (n : Int))], []⟩, []))
   (fun n => n ≤ 25) (fun n => 25 - n) 0 (by omega) (by simp [go_sem]) ?_
  intro n hn
  by_cases h25 : n < 25
  case neg =>
   obtain rfl : n = 25 := by omega
   refine IWp.now ?_
   simp [go_sem, wt]
   exact ⟨t + 1, by omega, by omega, by omega⟩
  have h25' : (n : Int) < 25 := by omega
  have wn : IntKind.i64.wrap ((n : Int) + 1) = n + 1 := wrap64 (by omega) (by omega)
  have hr : Int.tmod (n : Int) 4 = ((n % 4 : Nat) : Int) := by rw [Int.tmod_eq_emod_of_nonneg (by omega)]; omega
  obtain ⟨r, hrr⟩ : ∃ r, n % 4 = r := ⟨_, rfl⟩
  have hr4 : r < 4 := by omega
  rw [hrr] at hr
  have w1 : IntKind.i64.wrap (1 + (r : Int)) = 1 + r := wrap64 (by omega) (by omega)
  have w2 : IntKind.i64.wrap (r : Int) = r := wrap64 (by omega) (by omega)
  refine IWp.now ?_
  simp [go_sem, h25', hr, w1, w2]
  refine IWp.ownNilS 4 4 (by decide) (by simp [go_sem]) ?_
  simp [go_sem]
  have hplay := okP9_all t h4 n h25
  have hPv : (plS (t + 2) n).v = .agg [.int .i64 ((t : Int) + 2), .int .i64 (1 + (r : Int)), .int .i64 (r : Int), .fz 1 (ints [2, 3])] := by
   simp [Pl.v, plS, hrr]
  have hPt : (plS (t + 2) n).t ≤ 5 := by simp only [plS]; omega
  have hPs : (plS (t + 2) n).s.length = 2 := rfl
  generalize plS (t + 2) n = p at *
  refine IWp.freeze 0 1 (ints [2, 3]) [(1, .int .i64 ((t : Int) + 2)), (2, .int .i64 (n : Int)), (25, .bool true), (3, .ptr 1 1 0 0), (4, .sl 2 0 0 0 none), (36, .int .i64 0)] [.dead, .rows 4 [[.int .i64 ((t : Int) + 2), .int .i64 (1 + (r : Int)), .int .i64 (r : Int), .fz 1 (ints [2, 3])]], .rows 4 []] (by simp [ints, mp]) (by simp [go_sem]) (by simp [go_sem]) (by simp [go_sem, ints, mp, cutR]) ?_
  refine IWp.loopI (α := Nat × List Em) (fun x => (⟨false, 223, 20, [21, 25, 36, 37, 54, 57, 88, 89, 90, 91, 94, 95, 97, 98, 137, 192, 220], glT, [(1, .int .i64 ((t : Int) + 2)), (2, .int .i64 (n : Int)), (3, .ptr 1 1 0 0), (4, .sl 2 x.2.length 0 x.2.length none), (36, .int .i64 (x.1 : Int))], []⟩, [.dead, .rows 4 [[.int .i64 ((t : Int) + 2), .int .i64 (1 + (r : Int)), .int .i64 (r : Int), .fz 1 (ints [2, 3])]], .rows 4 (ems x.2)]))
   (fun x => x.2.length = x.1 ∧ x.1 ≤ 6 ∧ okP9 p n (6 - x.1) x.1 x.2 = true) (fun x => 6 - x.1) (0, []) ⟨rfl, by omega, hplay⟩ (by simp [go_sem, ems]) ?_
  rintro ⟨k, l⟩ ⟨hkl, hk6, hok⟩
  simp only at hkl hk6 hok
  by_cases hk : k < 6
  case neg =>
   obtain rfl : k = 6 := by omega
   refine IWp.now ?_
   simp [go_sem, wn]
   exact ⟨n + 1, by omega, by omega, by omega⟩
  have hk' : (k : Int) < 6 := by omega
  have wk : IntKind.i64.wrap ((k : Int) + 1) = k + 1 := wrap64 (by omega) (by omega)
  have hA : ArgE p l := ⟨fun _ => by omega, by omega, by omega⟩
  rw [show 6 - k = (5 - k) + 1 by omega] at hok
  unfold okP9 at hok
  simp only [Bool.and_eq_true, Bool.or_eq_true, decide_eq_true_eq] at hok
  obtain ⟨hoe, hon⟩ := hok
  have ct := turned39_fun l (by omega)
  have co := refOpen39_fun p l hA
  have ctl := tells39_fun p l k
  have cr := round39_fun p l hA
  have hnx : nxS p n k l = ⟨rndE p l, ((openE p l).1.getD (k % (openE p l).1.length) (0, 0)).1, ((openE p l).1.getD (k % (openE p l).1.length) (0, 0)).2, mgS n k⟩ := rfl
  have hol := openE_len9 hA
  generalize nxS p n k l = nx at *
  generalize openE p l = q at *
  obtain ⟨O, e⟩ := q
  simp only at hoe hon hnx hol co
  subst hoe
  rw [hPv] at co ctl cr
  refine IWp.now ?_
  simp [go_sem, hk']
  refine Drawn.intro (fun k => if k = 2 then .fz 4 (ems l) else if k = 3 then .tup [.fz 2 (prs O), .int .i64 0] else .tup []) ?_
  have tke : (ems l).take l.length = ems l := List.take_of_length_le (by simp)
  simp [go_sem, ct, co, tke]
  refine ⟨of_eq_true ClR_ems, by decide +kernel, ?_⟩
  refine ctl.callF (by simp [go_sem, tke]) ?_
  rintro _ rfl
  by_cases hO : O.length = 0
  ·simp [go_sem, hO, wn]
   exact ⟨n + 1, by omega, by omega, by omega⟩
  have hO' : ¬ (O.length : Int) = 0 := by omega
  have hkm : Int.tmod (k : Int) (O.length : Int) = ((k % O.length : Nat) : Int) := by
   rw [Int.tmod_eq_emod_of_nonneg (by omega)]; exact (Int.natCast_emod k O.length).symm
  have hkl2 : k % O.length < O.length := Nat.mod_lt _ (by omega)
  have hon' := hon.resolve_left (by simpa using hO)
  have hgd : O.getD (k % O.length) (0, 0) = O[k % O.length] := by simp [hkl2]
  rw [hgd] at hnx
  generalize hK : k % O.length = K at *
  obtain ⟨X, hX⟩ : ∃ X, O[K] = X := ⟨_, rfl⟩
  rw [hX] at hnx
  have wK : IntKind.i64.wrap (K : Int) = K := wrap64 (by omega) (by omega)
  have hOn : ¬ O = [] := fun h => hO (by rw [h]; rfl)
  simp [go_sem, hO', hkm, wK, hkl2, hX, hOn]
  obtain ⟨D, hD⟩ : ∃ D, n / 5 = D := ⟨_, rfl⟩
  have hD5 : D < 5 := by omega
  have hd : Int.tdiv (n : Int) 5 = (D : Int) := by rw [Int.tdiv_eq_ediv_of_nonneg (by omega)]; omega
  have wD : IntKind.i64.wrap (D : Int) = D := wrap64 (by omega) (by omega)
  obtain ⟨M, hM⟩ : ∃ M, D * k = M := ⟨_, rfl⟩
  have hM30 : M ≤ 30 := by rw [← hM]; exact Nat.mul_le_mul (show D ≤ 5 by omega) (show k ≤ 6 by omega)
  have wM : IntKind.i64.wrap ((D : Int) * (k : Int)) = (M : Int) := by
   rw [show (D : Int) * (k : Int) = (M : Int) by rw [← hM]; exact (Int.natCast_mul D k).symm]; exact wrap64 (by omega) (by omega)
  obtain ⟨S, hS⟩ : ∃ S, n + M = S := ⟨_, rfl⟩
  have wS : IntKind.i64.wrap ((n : Int) + (M : Int)) = (S : Int) := by rw [wrap64 (by omega) (by omega)]; omega
  obtain ⟨J, hJ⟩ : ∃ J, S % 5 = J := ⟨_, rfl⟩
  have hJ5 : J < 5 := by omega
  have hj : Int.tmod (S : Int) 5 = (J : Int) := by rw [Int.tmod_eq_emod_of_nonneg (by omega)]; omega
  have wJ : IntKind.i64.wrap (J : Int) = J := wrap64 (by omega) (by omega)
  have hmg : mgS n k = [0, 2, -2, 5, -1].getD J 0 := by unfold mgS; rw [hD, hM, hS, hJ]
  rw [hmg] at hnx
  refine Drawn.intro (fun k => if k = 3 then .int .i64 (rndE p l) else .tup []) ?_
  rcases (by omega : J = 0 ∨ J = 1 ∨ J = 2 ∨ J = 3 ∨ J = 4) with rfl | rfl | rfl | rfl | rfl
  all_goals
   simp [go_sem, cr, hd, wD, wM, wS, hj, wJ, tke, wk]
   refine ⟨of_eq_true ClR_ems, by omega, by decide +kernel, k + 1, l ++ [nx], ⟨⟨by simp, by omega⟩, ?_⟩, ⟨by simp [hkl], by omega, ?_⟩, by omega⟩
   ·rw [ems_snoc, hnx]; rfl
   ·rw [show 6 - (k + 1) = 5 - k by omega]; exact hon'
 rintro _ _
 refine IWp.seqI ?_
 simp [go_sem]
 refine IWp.freeze 0 1 (ints numS) [(9, .fz 1 (ints numS))] [.dead] (by simp [ints, mp, numS]) (by simp [go_sem]) (by simp [go_sem, ints, mp, numS, cutR]) (by simp [go_sem]) ?_
 have hnl : numS.length = 18 := rfl
 have hnr : ∀ x ∈ numS, -2 ^ 63 ≤ x ∧ x < 2 ^ 63 := by decide
 generalize numS = NS at *
 refine IWp.seqT (α := Unit) (fun _ => (⟨false, 223, 20, [21, 25, 36, 37, 54, 57, 88, 89, 90, 91, 94, 95, 97, 98, 137, 192, 220], glT, [], []⟩, [.dead])) (fun _ => True) ?_ ?_
 have hxs : ints exP.s = [[.int .i64 1], [.int .i64 5]] := rfl
 have hxe : ems exE = [[.int .i64 0, .int .i64 1, .int .i64 2, .int .i64 4], [.int .i64 0, .int .i64 3, .int .i64 4, .int .i64 (-6)], [.int .i64 1, .int .i64 4, .int .i64 1, .int .i64 0], [.int .i64 1, .int .i64 2, .int .i64 3, .int .i64 10]] := rfl
 ·simp [go_sem, hnl]
  refine IWp.loopI (α := Nat) (fun j => (⟨false, 223, 20, [21, 25, 36, 37, 54, 57, 88, 89, 90, 91, 94, 95, 97, 98, 137, 192, 220], glT, [(88, .fz 1 (ints NS)), (89, .int .i64 18), (90, .int .i64 (j : Int))], []⟩, [.dead]))
   (fun j => j ≤ 18) (fun j => 18 - j) 0 (by omega) (by simp [go_sem]) ?_
  intro j hj
  refine IWp.shut fun Qj hQj => ?_
  by_cases h18 : j < 18
  case neg =>
   obtain rfl : j = 18 := by omega
   rw [hQj]
   refine IWp.now ?_
   simp [go_sem]
  have h18' : (j : Int) < 18 := by omega
  have wj : IntKind.i64.wrap ((j : Int) + 1) = j + 1 := wrap64 (by omega) (by omega)
  obtain ⟨x, hx⟩ : ∃ x, NS[j] = x := ⟨_, rfl⟩
  have hxr := hnr x (by rw [← hx]; exact List.getElem_mem _)
  have hjl : j < NS.length := by omega
  refine IWp.now ?_
  simp [go_sem, h18', hnl, hjl, hx, h18]
  refine IWp.loopI (α := Nat) (fun i => (⟨false, 223, 20, [21, 25, 36, 37, 54, 57, 88, 89, 90, 91, 94, 95, 97, 98, 137, 192, 220], glT, [(11, .int .i64 x), (88, .fz 1 (ints NS)), (89, .int .i64 18), (90, .int .i64 (j : Int)), (94, .int .i64 (i : Int))], []⟩, [.dead]))
   (fun i => i ≤ 4) (fun i => 4 - i) 0 (by omega) (by simp [go_sem]) ?_
  intro i hi
  refine IWp.shut fun Qi hQi => ?_
  by_cases h4 : i < 4
  case neg =>
   obtain rfl : i = 4 := by omega
   have c5 := carries39_fun exP exE x 2 ⟨1, 1⟩ 5 (by simp [FitF]) (by omega)
   have c6 := carries39_fun exP exE 1 x ⟨x, 7⟩ 5 (by simp only [FitF]; omega) (by omega)
   have c7 := carries39_fun exP exE 1 2 ⟨1, x⟩ 5 (by simp only [FitF]; omega) (by omega)
   simp [exP, exE, Pl.v, Frc.v, ems, mp, Em.c, ints] at c5 c6 c7
   rw [hQi]
   refine IWp.now ?_
   simp [go_sem]
   refine example_calls.at [] (by simp [go_sem]) ?_
   rintro _ _ ⟨rfl, rfl⟩
   simp [go_sem, hxs, hxe]
   refine c5.callF (by simp [go_sem]) ?_
   rintro _ rfl
   simp [go_sem]
   refine c6.callF (by simp [go_sem]) ?_
   rintro _ rfl
   simp [go_sem]
   refine c7.callF (by simp [go_sem]) ?_
   rintro _ rfl
   simp [go_sem, hQj, wj]
   exact ⟨j + 1, by omega, by omega, by omega⟩
  have h4' : (i : Int) < 4 := by omega
  have wi : IntKind.i64.wrap ((i : Int) + 1) = i + 1 := wrap64 (by omega) (by omega)
  refine IWp.now ?_
  simp [go_sem, h4']
  refine IWp.loopI (α := Nat) (fun k => (⟨false, 223, 20, [21, 25, 36, 37, 54, 57, 88, 89, 90, 91, 94, 95, 97, 98, 137, 192, 220], glT, [(11, .int .i64 x), (12, .int .i64 (i : Int)), (88, .fz 1 (ints NS)), (89, .int .i64 18), (90, .int .i64 (j : Int)), (94, .int .i64 (i : Int)), (97, .int .i64 (k : Int))], []⟩, [.dead]))
   (fun k => k ≤ 4) (fun k => 4 - k) 0 (by omega) (by simp [go_sem]) ?_
  intro k hk
  refine IWp.shut fun Qk hQk => ?_
  by_cases hk4 : k < 4
  case neg =>
   obtain rfl : k = 4 := by omega
   rw [hQk]
   have t1 := tells39_fun (plX i x) exE i
   have t2 := tells39_fun (plX i x) (exE.take i) i
   have t3 := tells39_fun (plX i x) (exE ++ [exE.getD i Em0]) 1
   have c4 := carries39_fun (plX i x) exE i (5 - i) ⟨i, 3⟩ x (by simp only [FitF]; omega) hxr
   have key : i = 0 ∨ i = 1 ∨ i = 2 ∨ i = 3 := by omega
   rcases key with rfl | rfl | rfl | rfl
   all_goals
    simp [plX, exP, exE, Pl.v, Frc.v, ems, mp, Em.c, ints] at t1 t2 t3 c4
    refine IWp.now ?_
    simp [go_sem]
    refine example_calls.at [] (by simp [go_sem]) ?_
    rintro _ _ ⟨rfl, rfl⟩
    simp [go_sem, hxs, hxe]
    refine Drawn.intro (fun k => if k = 3 then .bool true else if k = 11 then .bool true else if k = 23 then .bool true else if k = 35 then .bool true else .tup []) ?_
    simp [go_sem, t1, t2, t3, c4, show IntKind.i64.wrap 5 = 5 by decide +kernel, show IntKind.i64.wrap 4 = 4 by decide +kernel, show IntKind.i64.wrap 3 = 3 by decide +kernel, show IntKind.i64.wrap 2 = 2 by decide +kernel]
    refine ⟨by decide +kernel, ?_⟩
    simp [go_sem, hQi]
    first | exact ⟨1, by decide +kernel, by omega, by omega⟩ | exact ⟨2, by decide +kernel, by omega, by omega⟩ | exact ⟨3, by decide +kernel, by omega, by omega⟩ | exact ⟨4, by decide +kernel, by omega, by omega⟩
  have ctl := tells39_fun exP (exS i k x) x
  have ccr := carries39_fun exP (exS i k x) 4 1 ⟨1, 2⟩ 100000 (by simp [FitF]) (by omega)
  have key : i = 0 ∨ i = 1 ∨ i = 2 ∨ i = 3 := by omega
  have key2 : k = 0 ∨ k = 1 ∨ k = 2 ∨ k = 3 := by omega
  rcases key with rfl | rfl | rfl | rfl <;> rcases key2 with rfl | rfl | rfl | rfl
  all_goals
   simp [exS, exP, exE, Pl.v, Frc.v, ems, mp, Em.c, ints] at ctl ccr
   refine IWp.now ?_
   simp [go_sem]
   refine example_calls.at [] (by simp [go_sem]) ?_
   rintro _ _ ⟨rfl, rfl⟩
   simp [go_sem, hxs, hxe]
   refine ⟨by decide +kernel, ?_⟩
   refine ctl.callF (by simp [go_sem]) ?_
   rintro _ rfl
   simp [go_sem]
   refine ccr.callF (by simp [go_sem]) ?_
   rintro _ rfl
   simp [go_sem, hQk]
   first | exact ⟨1, by decide +kernel, by omega, by omega⟩ | exact ⟨2, by decide +kernel, by omega, by omega⟩ | exact ⟨3, by decide +kernel, by omega, by omega⟩ | exact ⟨4, by decide +kernel, by omega, by omega⟩
 rintro _ _
 refine IWp.seqI ?_
 simp [go_sem]
 refine awake39_fun.callF (by simp [go_sem]) ?_
 rintro _ rfl
 simp [go_sem]
 refine IWp.now ?_
 simp [go_sem]
 exact hR _ _ _ rfl (by simp [go_sem])
theorem eventSmall_law : FN 4 [] (fun v => v = .bool true) := eventSmall_fun
end Go.Idl
