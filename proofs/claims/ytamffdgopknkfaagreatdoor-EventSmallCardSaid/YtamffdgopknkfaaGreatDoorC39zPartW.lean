import Derived.Test.YtamffdgopknkfaaGreatDoorC39zPartV
set_option linter.all false
set_option maxHeartbeats 16000000
set_option maxRecDepth 40000
namespace Go.Idl
open Go.Proofs
def exP : Pl := ⟨4, 2, 3, [1, 5]⟩
def exE : List Em := [⟨0, 1, 2, 4⟩, ⟨0, 3, 4, -6⟩, ⟨1, 4, 1, 0⟩, ⟨1, 2, 3, 10⟩]
theorem example_fun : FN 11 [] (fun v => v = .tup [exP.v, .fz 4 (ems exE)]) := by
 refine IFun.of_bodyZ false 2 [] Tryz.func11 rfl Tryz.call11 rfl fun R hR => ?_
 simp [go_sem]
 exact hR _ _ _ rfl (by simp [go_sem, exP, exE, Pl.v, ems, mp, Em.c, ints, cutR])
theorem pairs39_fun (a b : List (Int × Int)) (ha : a.length ≤ 2 ^ 32) (hb : b.length ≤ 2 ^ 32) : FN 20 [.fz 2 (prs a), .fz 2 (prs b)] (fun v => v = .bool (decide (a = b))) := by
 refine IFun.of_bodyZ false 6 [10, 12, 13, 14, 24] Tryz.func20 rfl Tryz.call20 rfl fun R hR => ?_
 by_cases hl : a.length = b.length
 case neg =>
  have hne : a ≠ b := fun e => hl (by rw [e])
  have hl' : ((a.length : Int) != (b.length : Int)) = true := by rw [bne_iff_ne]; omega
  have hl2 : ¬ (a.length : Int) = b.length := by omega
  simp [go_sem, hl, hl', hl2]
  exact hR _ _ _ rfl (by simp [go_sem, hne])
 simp [go_sem, hl]
 refine IWp.loopT (α := Nat) (fun i => (⟨false, 26, 6, [10, 12, 13, 14, 24], glT, [(0, .fz 2 (prs a)), (1, .fz 2 (prs b)), (12, .int .i64 b.length), (13, .int .i64 (i : Int))], []⟩, []))
  (fun i => i ≤ b.length ∧ a.take i = b.take i) (fun i => b.length - i) 0 ⟨by omega, by simp⟩ (by simp [go_sem]) ?_
 rintro i ⟨hi, he⟩
 by_cases h : i < b.length
 ·have w1 : IntKind.i64.wrap ((i : Int) + 1) = i + 1 := wrap64 (by omega) (by omega)
  have hia : i < a.length := by omega
  obtain ⟨x, hx⟩ : ∃ x, a[i] = x := ⟨_, rfl⟩
  obtain ⟨y, hy⟩ : ∃ y, b[i] = y := ⟨_, rfl⟩
  obtain ⟨x1, x2⟩ := x
  obtain ⟨y1, y2⟩ := y
  by_cases hxy : x1 = y1 ∧ x2 = y2
  ·obtain ⟨rfl, rfl⟩ := hxy
   simp [go_sem, h, hia, hx, hy, w1]
   refine ⟨by decide +kernel, i + 1, by omega, ⟨by omega, ?_⟩, by omega⟩
   rw [List.take_succ_eq_append_getElem hia, List.take_succ_eq_append_getElem h, he, hx, hy]
  ·have hxy' : x1 = y1 → ¬ x2 = y2 := fun h1 h2 => hxy ⟨h1, h2⟩
   have hb2 : (x1 == y1 && x2 == y2) = false := by rw [← Bool.not_eq_true]; simpa using hxy'
   have hne : a ≠ b := fun e => by
    subst e
    rw [hx] at hy
    cases hy
    exact hxy ⟨rfl, rfl⟩
   simp [go_sem, h, hia, hx, hy, hb2, hxy']
   exact ⟨by decide +kernel, hR _ _ _ rfl (by simp [go_sem, hne])⟩
 ·obtain rfl : i = b.length := by omega
  rw [List.take_length, List.take_of_length_le (by omega)] at he
  simp [go_sem]
  exact hR _ _ _ rfl (by simp [go_sem, he])
theorem aw39_1 : drawE exP [⟨0, 1, 2, 4⟩, ⟨0, 3, 4, -6⟩] 1 = ([(4, 1), (2, 3)], 0, 0) := by decide +kernel
theorem aw39_2 : tableE exP [⟨0, 1, 2, 4⟩, ⟨0, 3, 4, -6⟩] = ([⟨4, 1, 1, 4, 6, false⟩, ⟨1, 2, 1, 3, 4, false⟩, ⟨2, 3, 1, 1, -4, false⟩, ⟨3, 4, 1, 0, -6, false⟩], 0) := by decide +kernel
theorem aw39_3 : chkR exP [⟨0, 1, 2, 4⟩, ⟨1, 4, 2, 0⟩, ⟨0, 3, 4, -6⟩] = (1, 390) := by decide +kernel
theorem aw39_4 : chkR exP [⟨1, 2, 3, 10⟩, ⟨0, 1, 2, 4⟩] = (0, 392) := by decide +kernel
theorem aw39_5 : qualE exP exE 4 = ([4, 2, 1, 3], 0) := by decide +kernel
theorem aw39_6 : overE exP exE = (true, 0) := by decide +kernel
theorem aw39_7 : tableE ⟨3, 2, 3, [1, 5]⟩ [⟨0, 1, 2, 4⟩] = ([⟨1, 1, 1, 3, 4, false⟩, ⟨3, 2, 0, 3, 0, true⟩, ⟨2, 3, 1, 1, -4, false⟩], 0) := by decide +kernel
end Go.Idl
namespace Go.Idl
open Go.Proofs
theorem awake39_fun : FN 6 [] (fun v => v = .bool true) := by
 refine IFun.of_bodyZ false 20 [126, 131, 132, 133, 134, 143] Tryz.func6 rfl Tryz.call6 rfl fun R hR => ?_
 have g (l : List Em) (h : l.length ≤ 4) : ArgE exP l := ⟨fun _ => by decide, by decide, by omega⟩
 have g3 (l : List Em) (h : l.length ≤ 4) : ArgE ⟨3, 2, 3, [1, 5]⟩ l := ⟨fun _ => by decide, by decide, by omega⟩
 have c1 := Draw9_fun exP [⟨0, 1, 2, 4⟩, ⟨0, 3, 4, -6⟩] 1 (g _ (by decide))
 have c2 := Table_fun exP [⟨0, 1, 2, 4⟩, ⟨0, 3, 4, -6⟩] (g _ (by decide))
 have c3 := Check_fun exP [⟨0, 1, 2, 4⟩, ⟨1, 4, 2, 0⟩, ⟨0, 3, 4, -6⟩] (g [] (by decide)).t (by decide) (by decide)
 have c4 := Check_fun exP [⟨1, 2, 3, 10⟩, ⟨0, 1, 2, 4⟩] (g [] (by decide)).t (by decide) (by decide)
 have c5 := Qualify_fun exP exE 4 (g _ (by decide))
 have c6 := Over_fun exP exE (g _ (by decide))
 have c7 := Table_fun ⟨3, 2, 3, [1, 5]⟩ [⟨0, 1, 2, 4⟩] (g3 _ (by decide))
 rw [aw39_1] at c1
 rw [aw39_2] at c2
 rw [aw39_3] at c3
 rw [aw39_4] at c4
 rw [aw39_5] at c5
 rw [aw39_6] at c6
 rw [aw39_7] at c7
 simp only [exP, exE, Pl.v, ems, mp, Em.c, ints, List.map_cons, List.map_nil, drawV, prs, lns, Ln.c] at c1 c2 c3 c4 c5 c6 c7
 have ce := example_fun
 simp only [exP, exE, Pl.v, ems, mp, Em.c, ints, List.map_cons, List.map_nil] at ce
 simp [go_sem]
 refine ce.callF (by simp [go_sem]) ?_
 rintro _ rfl
 simp [go_sem]
 refine Drawn.intro (fun k => if k = 3 then .tup [.fz 2 [[.int .i64 4, .int .i64 1], [.int .i64 2, .int .i64 3]], .int .i64 0, .int .i64 0] else .tup []) ?_
 simp [go_sem, c1]
 refine ⟨by decide +kernel, ?_⟩
 refine Drawn.intro (fun k => if k = 3 then .tup [.fz 6 [[.int .i64 4, .int .i64 1, .int .i64 1, .int .i64 4, .int .i64 6, .bool false], [.int .i64 1, .int .i64 2, .int .i64 1, .int .i64 3, .int .i64 4, .bool false], [.int .i64 2, .int .i64 3, .int .i64 1, .int .i64 1, .int .i64 (-4), .bool false], [.int .i64 3, .int .i64 4, .int .i64 1, .int .i64 0, .int .i64 (-6), .bool false]], .int .i64 0] else .tup []) ?_
 simp [go_sem, c2]
 refine ⟨by decide +kernel, ?_⟩
 refine Drawn.intro (fun k => if k = 9 then .tup [.int .i64 1, .int .i64 390] else .tup []) ?_
 simp [go_sem, c3]
 refine ⟨by decide +kernel, ?_⟩
 refine Drawn.intro (fun k => if k = 8 then .tup [.int .i64 0, .int .i64 392] else .tup []) ?_
 simp [go_sem, c4]
 refine ⟨by decide +kernel, ?_⟩
 refine c5.callF (by simp [go_sem]) ?_
 rintro _ rfl
 simp [go_sem]
 refine c6.callF (by simp [go_sem]) ?_
 rintro _ rfl
 simp [go_sem]
 have c8 := pairs39_fun [(4, 1), (2, 3)] [(4, 1), (2, 3)] (by decide) (by decide)
 have c9 := sameInts_fun [4, 2, 1, 3] [4, 2, 1, 3] (by decide)
 have w0 : IntKind.i64.wrap 0 = 0 := by decide
 simp only [prs, mp, ints, List.map_cons, List.map_nil] at c8 c9
 simp [go_sem, w0]
 refine c8.callF (by simp [go_sem]) ?_
 rintro _ rfl
 simp [go_sem, w0]
 refine c9.callF (by simp [go_sem]) ?_
 rintro _ rfl
 simp [go_sem, w0]
 refine IWp.loopT (α := Nat) (fun i => (⟨false, 167, 20, [126, 131, 132, 133, 134, 143], glT, [(1, .ptr 0 1 0 0), (2, .fz 4 [[.int .i64 0, .int .i64 1, .int .i64 2, .int .i64 4], [.int .i64 0, .int .i64 3, .int .i64 4, .int .i64 (-6)], [.int .i64 1, .int .i64 4, .int .i64 1, .int .i64 0], [.int .i64 1, .int .i64 2, .int .i64 3, .int .i64 10]]), (6, .fz 6 [[.int .i64 4, .int .i64 1, .int .i64 1, .int .i64 4, .int .i64 6, .bool false], [.int .i64 1, .int .i64 2, .int .i64 1, .int .i64 3, .int .i64 4, .bool false], [.int .i64 2, .int .i64 3, .int .i64 1, .int .i64 1, .int .i64 (-4), .bool false], [.int .i64 3, .int .i64 4, .int .i64 1, .int .i64 0, .int .i64 (-6), .bool false]]), (131, .sl 20 4 0 4 none), (132, .int .i64 4), (133, .int .i64 (i : Int))], []⟩, [.rows 4 [[.int .i64 4, .int .i64 2, .int .i64 3, .fz 1 [[.int .i64 1], [.int .i64 5]]]], .dead, .dead, .dead, .dead, .dead, .dead, .dead, .dead, .dead, .dead, .dead, .dead, .dead, .dead, .dead, .dead, .dead, .dead, .dead, .rows 6 [[.int .i64 4, .int .i64 1, .int .i64 1, .int .i64 4, .int .i64 6, .bool false], [.int .i64 1, .int .i64 2, .int .i64 1, .int .i64 3, .int .i64 4, .bool false], [.int .i64 2, .int .i64 3, .int .i64 1, .int .i64 1, .int .i64 (-4), .bool false], [.int .i64 3, .int .i64 4, .int .i64 1, .int .i64 0, .int .i64 (-6), .bool false]]]))
  (fun i => i ≤ 4) (fun i => 4 - i) 0 (by omega) (by simp [go_sem]) ?_
 intro i hi
 rcases (by omega : i = 0 ∨ i = 1 ∨ i = 2 ∨ i = 3 ∨ i = 4) with rfl | rfl | rfl | rfl | rfl
 ·simp [go_sem, w0]
  exact ⟨by decide +kernel, 1, by decide, by omega, by omega⟩
 ·simp [go_sem, w0]
  exact ⟨by decide +kernel, 2, by decide, by omega, by omega⟩
 ·simp [go_sem, w0]
  exact ⟨by decide +kernel, 3, by decide, by omega, by omega⟩
 ·simp [go_sem, w0]
  exact ⟨by decide +kernel, 4, by decide, by omega, by omega⟩
 simp [go_sem, w0]
 refine Drawn.intro (fun k => if k = 3 then .tup [.fz 6 [[.int .i64 1, .int .i64 1, .int .i64 1, .int .i64 3, .int .i64 4, .bool false], [.int .i64 3, .int .i64 2, .int .i64 0, .int .i64 3, .int .i64 0, .bool true], [.int .i64 2, .int .i64 3, .int .i64 1, .int .i64 1, .int .i64 (-4), .bool false]], .int .i64 0] else .tup []) ?_
 simp [go_sem, c7, w0]
 refine ⟨by decide +kernel, ?_⟩
 exact hR _ _ _ rfl (by simp [go_sem])
end Go.Idl
