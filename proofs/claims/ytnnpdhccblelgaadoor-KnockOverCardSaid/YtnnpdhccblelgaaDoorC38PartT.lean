/-
  Chapter 38: the examples: what they compute.
  Chapter 38: the examples.
-/
import Derived.Test.YtnnpdhccblelgaaDoorC38PartS
import Derived.Test.YtnnpdhccblelgaaDoorC38PartB
namespace Go.Idl
set_option linter.all false
open Go.Proofs
set_option maxHeartbeats 16000000
set_option maxRecDepth 40000

theorem equalMatches_fun (a b : List Mt) (ha : a.length ≤ 2 ^ 62) : FN 41 [.fz 4 (mts a), .fz 4 (mts b)] (fun v => v = .bool (decide (a = b))) := by
  refine IFun.of_bodyZ false 6 [10, 12, 13, 14, 24] Tryd.func41 rfl Tryd.call41 rfl fun R hR => ?_
  by_cases hlen : a.length = b.length
  case neg =>
    have hI : ¬ (a.length : Int) = b.length := by omega
    have e : ¬ a = b := fun e => hlen (by rw [e])
    simp [go_sem, hlen, hI]
    exact hR _ _ _ rfl (by simp [go_sem, e])
  simp [go_sem, hlen]
  refine IWp.loopT (α := Nat) (fun i => (⟨false, 26, 6, [10, 12, 13, 14, 24], glT, [(0, .fz 4 (mts a)), (1, .fz 4 (mts b)), (12, .int .i64 b.length), (13, .int .i64 (i : Int))], []⟩, []))
    (fun i => i ≤ a.length ∧ a.take i = b.take i) (fun i => a.length - i) 0 (by simp) (by simp [go_sem]) ?_
  rintro i ⟨hi, he⟩
  by_cases h : i < a.length
  · have h' : i < b.length := by omega
    have w1 : IntKind.i64.wrap ((i : Int) + 1) = i + 1 := wrap64 (by omega) (by omega)
    by_cases hxy : a[i] = b[i]
    · simp [go_sem, h, h', hxy, w1]
      exact ⟨by decide +kernel, i + 1, by omega, ⟨by omega, by rw [List.take_succ_eq_append_getElem h, List.take_succ_eq_append_getElem h', he, hxy]⟩, by omega⟩
    · have e : ¬ a = b := fun e => hxy (by subst e; rfl)
      have hx2 : ¬ (a[i].r = b[i].r ∧ a[i].i = b[i].i ∧ a[i].a = b[i].a ∧ a[i].b = b[i].b) := fun hh => hxy (by
        cases h1 : a[i]; cases h2 : b[i]; rw [h1, h2] at hh; simp at hh; simp [hh])
      have hx3 : ¬ a[i].r = b[i].r ∨ ¬ a[i].i = b[i].i ∨ ¬ a[i].a = b[i].a ∨ ¬ a[i].b = b[i].b := by omega
      simp [go_sem, h, h']
      refine ⟨by decide +kernel, ?_⟩
      rw [if_pos hx3]
      exact hR _ _ _ rfl (by simp [go_sem, e])
  · have e : a = b := by
      rw [List.take_of_length_le (by omega), List.take_of_length_le (by omega)] at he
      exact he
    have h' : ¬ i < b.length := by omega
    simp [go_sem, h, h']
    exact hR _ _ _ rfl (by simp [go_sem, e])
theorem ord_nil : OrdOf [] [] := ⟨.refl _, .nil⟩
theorem ord_one (x : Rs) : OrdOf [x] [0] := ⟨.refl _, by simp⟩
def one38 : Rs := ⟨0, 1, 30, 20, ⟨0, 1⟩⟩
def two38 : Rs := ⟨0, 1, 20, 30, ⟨10, 1⟩⟩
theorem a38_1 : rnd 5 = 3 ∧ seedsL 8 = [1, 8, 4, 5, 2, 7, 3, 6] ∧ seedsL 5 = [1, 0, 4, 5, 2, 0, 3, 0] ∧ brkL 5 = [⟨0, 0, 1, 0⟩, ⟨0, 1, 4, 5⟩, ⟨0, 2, 2, 0⟩, ⟨0, 3, 3, 0⟩] := by decide +kernel
theorem a38_2 : (plR (rnd 5) (seedsL 5) [] [] (beg 5)).2.1 = 0 ∧ opL (rnd 5) (seedsL 5) (plR (rnd 5) (seedsL 5) [] [] (beg 5)).2.2 (rnd 5) = [⟨0, 1, 4, 5⟩, ⟨1, 1, 2, 3⟩] := by decide +kernel
theorem a38_3 : (plR (rnd 5) (seedsL 5) [one38] [0] (beg 5)).2.1 = 0 ∧ opL (rnd 5) (seedsL 5) (plR (rnd 5) (seedsL 5) [one38] [0] (beg 5)).2.2 (rnd 5) = [⟨1, 0, 1, 4⟩, ⟨1, 1, 2, 3⟩] := by decide +kernel
theorem a38_4 : winV (plR (rnd 5) (seedsL 5) [one38] [0] (beg 5)).2.2 0 1 = (4, 0) := by decide +kernel
theorem a38_5 : (plR (rnd 5) (seedsL 5) [two38] [0] (beg 5)).2.1 = 0 ∧ winV (plR (rnd 5) (seedsL 5) [two38] [0] (beg 5)).2.2 0 1 = (4, 0) := by decide +kernel
theorem a38_6 : placesL (rnd 5) 5 (plR (rnd 5) (seedsL 5) [one38] [0] (beg 5)).2.2 = [0, 0, 0, 0, 5] := by decide +kernel
theorem a38_7 : LoseOK 5 (plR (rnd 5) (seedsL 5) [one38] [0] (beg 5)).2.2 := ⟨by decide +kernel, by decide +kernel⟩
theorem a38_8 : aget ((rnd 5 : Int) - 1, 0) (plR (rnd 5) (seedsL 5) [one38] [0] (beg 5)).2.2 = none := by decide +kernel
theorem a38_9 : pathL 5 5 = [⟨0, 1, 4, 5⟩] ∧ pathL 5 1 = [⟨1, 0, 1, 4⟩, ⟨2, 0, 1, 2⟩] := by decide +kernel
theorem a38_10 : carryF ⟨1, 2⟩ 10 15 = (⟨15, 2⟩, 0) ∧ carryF ⟨1, 2⟩ 7 15 = (⟨7, 1⟩, 0) ∧ carryF ⟨1, 3⟩ 100 (-10) = (⟨-10, 3⟩, 0) := by decide +kernel
end Go.Idl
namespace Go.Idl
set_option linter.all false
open Go.Proofs
set_option maxHeartbeats 16000000
set_option maxRecDepth 40000

theorem fit38 {x : Rs} (h : FitR x) : ∀ y ∈ [x], FitR y := fun y hy => by rw [List.mem_singleton.1 hy]; exact h
theorem awake38_fun : FN 11 [] (fun v => v = .bool true) := by
  refine IFun.of_bodyW false 21 [84, 139, 149, 150, 151, 152, 172] Tryd.func11 rfl Tryd.call11 rfl fun R hR => ?_
  obtain ⟨a1, a2, a3, a4⟩ := a38_1
  have cr := roundsY_fun 5 (by decide) (by decide)
  have cs8 := seeds_fun 8 (by decide) (by decide)
  have cs5 := seeds_fun 5 (by decide) (by decide)
  have cb := bracket_fun 5 (by decide) (by decide)
  have co := open_fun 5 (by decide) (by decide) [] (by decide) (fun x h => by cases h) [] ord_nil
  have f1 : FitR one38 := by unfold FitR FitF one38; decide
  have f2 : FitR two38 := by unfold FitR FitF two38; decide
  have cw1 := winner_fun 5 (by decide) (by decide) [one38] (by decide) (fit38 f1) [0] (ord_one _) 0 1
  have cw2 := winner_fun 5 (by decide) (by decide) [two38] (by decide) (fit38 f2) [0] (ord_one _) 0 1
  have co1 := open_fun 5 (by decide) (by decide) [one38] (by decide) (fit38 f1) [0] (ord_one _)
  have cp := places_fun 5 (by decide) (by decide) [one38] (by decide) (fit38 f1) [0] (ord_one _) (fun _ => ⟨a38_7, fun v hv => by rw [a38_8] at hv; cases hv⟩)
  rw [if_pos a38_2.1, a38_2.2] at co
  rw [if_pos a38_3.1, a38_3.2] at co1
  rw [if_pos a38_3.1, a38_4] at cw1
  rw [if_pos a38_5.1, a38_5.2] at cw2
  rw [if_pos a38_3.1, a38_6] at cp
  rw [a1] at cr
  rw [a2] at cs8
  rw [a3] at cs5
  rw [a4] at cb
  refine IWp.seqI ?_
  simp [go_sem]
  refine IWp.seqI ?_
  simp [go_sem]
  refine cr.callF (by simp [go_sem]) ?_
  rintro _ rfl
  simp [go_sem]
  refine IWp.seqI ?_
  simp [go_sem]
  refine cs8.callF (by simp [go_sem]) ?_
  rintro _ rfl
  simp [go_sem]
  refine IWp.seqI ?_
  simp [go_sem]
  refine cs5.callF (by simp [go_sem]) ?_
  rintro _ rfl
  simp [go_sem]
  refine IWp.seqI ?_
  simp [go_sem]
  refine cb.callF (by simp [go_sem]) ?_
  rintro _ rfl
  simp [go_sem]
  refine IWp.seqI ?_
  simp [go_sem]
  refine co.callF (by simp [go_sem]) ?_
  rintro _ rfl
  simp [go_sem]
  refine IWp.seqI ?_
  simp [go_sem]
  refine (equalInts_fun [1, 8, 4, 5, 2, 7, 3, 6] [1, 8, 4, 5, 2, 7, 3, 6] (by decide)).callF (by simp [go_sem, ints, mp]) ?_
  rintro _ rfl
  simp [go_sem]
  refine (equalInts_fun [1, 0, 4, 5, 2, 0, 3, 0] [1, 0, 4, 5, 2, 0, 3, 0] (by decide)).callF (by simp [go_sem, ints, mp]) ?_
  rintro _ rfl
  simp [go_sem]
  refine (equalMatches_fun [⟨0, 0, 1, 0⟩, ⟨0, 1, 4, 5⟩, ⟨0, 2, 2, 0⟩, ⟨0, 3, 3, 0⟩] [⟨0, 0, 1, 0⟩, ⟨0, 1, 4, 5⟩, ⟨0, 2, 2, 0⟩, ⟨0, 3, 3, 0⟩] (by decide)).callF (by simp [go_sem, mts, mp, Mt.c]) ?_
  rintro _ rfl
  simp [go_sem]
  refine (equalMatches_fun [⟨0, 1, 4, 5⟩, ⟨1, 1, 2, 3⟩] [⟨0, 1, 4, 5⟩, ⟨1, 1, 2, 3⟩] (by decide)).callF (by simp [go_sem, mts, mp, Mt.c]) ?_
  rintro _ rfl
  have z0 : IntKind.i64.wrap 0 = 0 := by decide
  simp [go_sem, z0]
  refine IWp.seqI ?_
  simp [go_sem]
  refine IWp.seqI ?_
  simp [go_sem]
  refine cw1.callF (by simp [go_sem, rss, mp, Rs.c, one38]) ?_
  rintro _ rfl
  simp [go_sem]
  refine IWp.seqI ?_
  simp [go_sem]
  refine co1.callF (by simp [go_sem, rss, mp, Rs.c, one38]) ?_
  rintro _ rfl
  simp [go_sem]
  refine IWp.seqI ?_
  simp [go_sem]
  refine cw2.callF (by simp [go_sem, rss, mp, Rs.c, two38]) ?_
  rintro _ rfl
  simp [go_sem]
  refine IWp.seqI ?_
  simp [go_sem]
  refine cp.callF (by simp [go_sem, rss, mp, Rs.c, one38]) ?_
  rintro _ rfl
  simp [go_sem]
  refine IWp.seqI ?_
  simp [go_sem]
  refine (equalMatches_fun [⟨1, 0, 1, 4⟩, ⟨1, 1, 2, 3⟩] [⟨1, 0, 1, 4⟩, ⟨1, 1, 2, 3⟩] (by decide)).callF (by simp [go_sem, mts, mp, Mt.c]) ?_
  rintro _ rfl
  simp [go_sem]
  refine (equalInts_fun [0, 0, 0, 0, 5] [0, 0, 0, 0, 5] (by decide)).callF (by simp [go_sem, ints, mp]) ?_
  rintro _ rfl
  simp [go_sem, z0]
  refine IWp.seqI ?_
  simp [go_sem]
  obtain ⟨b1, b2, b3⟩ := a38_10
  have cc1 := carry38_fun ⟨1, 2⟩ 10 15 (by unfold FitF; decide) (by decide) (by decide)
  have cc2 := carry38_fun ⟨1, 2⟩ 7 15 (by unfold FitF; decide) (by decide) (by decide)
  have cc3 := carry38_fun ⟨1, 3⟩ 100 (-10) (by unfold FitF; decide) (by decide) (by decide)
  rw [b1] at cc1
  rw [b2] at cc2
  rw [b3] at cc3
  simp only [Frc.v] at cc1 cc2 cc3
  have y5 := path_fun 5 5 (by decide) (by decide) (by decide)
  have y1 := path_fun 5 1 (by decide) (by decide) (by decide)
  rw [a38_9.1] at y5
  rw [a38_9.2] at y1
  refine IWp.loopT (α := Nat) (fun i => (⟨false, 199, 21, [84, 139, 149, 150, 151, 152, 172], glT, [(0, .bool false), (149, .sl 8 3 0 3 none), (150, .int .i64 3), (151, .int .i64 (i : Int))], []⟩, [.dead, .dead, .dead, .dead, .dead, .dead, .dead, .dead, .rows 6 [[.int .i64 1, .int .i64 2, .int .i64 10, .int .i64 15, .int .i64 15, .int .i64 2], [.int .i64 1, .int .i64 2, .int .i64 7, .int .i64 15, .int .i64 7, .int .i64 1], [.int .i64 1, .int .i64 3, .int .i64 100, .int .i64 (-10), .int .i64 (-10), .int .i64 3]]]))
    (fun i => i ≤ 3) (fun i => 3 - i) 0 (by decide) (by simp [go_sem]) ?_
  intro i hi
  rcases (by omega : i = 0 ∨ i = 1 ∨ i = 2 ∨ i = 3) with rfl | rfl | rfl | rfl
  · simp [go_sem]
    refine cc1.callF (by simp [go_sem]) ?_
    rintro _ rfl
    simp [go_sem]
    exact ⟨1, by decide, by decide, by decide⟩
  · simp [go_sem]
    refine cc2.callF (by simp [go_sem]) ?_
    rintro _ rfl
    simp [go_sem]
    exact ⟨2, by decide, by decide, by decide⟩
  · simp [go_sem]
    refine cc3.callF (by simp [go_sem]) ?_
    rintro _ rfl
    simp [go_sem]
    exact ⟨3, by decide, by decide, by decide⟩
  · simp [go_sem]
    refine IWp.seqI ?_
    simp [go_sem]
    refine y5.callF (by simp [go_sem]) ?_
    rintro _ rfl
    simp [go_sem]
    refine IWp.seqI ?_
    simp [go_sem]
    refine y1.callF (by simp [go_sem]) ?_
    rintro _ rfl
    simp [go_sem]
    refine IWp.now ?_
    simp [go_sem]
    refine (equalMatches_fun [⟨0, 1, 4, 5⟩] [⟨0, 1, 4, 5⟩] (by decide)).callF (by simp [go_sem, mts, mp, Mt.c]) ?_
    rintro _ rfl
    simp [go_sem]
    refine (equalMatches_fun [⟨1, 0, 1, 4⟩, ⟨2, 0, 1, 2⟩] [⟨1, 0, 1, 4⟩, ⟨2, 0, 1, 2⟩] (by decide)).callF (by simp [go_sem, mts, mp, Mt.c]) ?_
    rintro _ rfl
    simp [go_sem, z0]
    exact hR _ _ _ rfl (by simp [go_sem])
end Go.Idl
