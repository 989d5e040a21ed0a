/-
  Chapter 38: the reference's Carry; carries.
-/
import Derived.Test.YtnnpdhccblelgaaDoorC38PartK
namespace Go.Idl
set_option linter.all false
open Go.Proofs
set_option maxHeartbeats 8000000
set_option maxRecDepth 40000

theorem refWhole_fun (n : Int) : FN 67 [.int .i64 n] (fun v => v = (whF n).v) := by
  refine IFun.of_bodyZ false 3 [] Tryd.func67 rfl Tryd.call67 rfl fun R hR => ?_
  simp [go_sem]
  exact hR _ _ _ rfl (by simp [go_sem, Frc.v, whF])
theorem refWithin_fun (f : Frc) (lo hi : Int) (hf : FitF f) (hl : -2 ^ 63 ≤ lo ∧ lo < 2 ^ 63) (hh : -2 ^ 63 ≤ hi ∧ hi < 2 ^ 63) : FN 65 [f.v, .int .i64 lo, .int .i64 hi] (fun v => v = .bool (withinB f lo hi)) := by
  refine IFun.of_bodyW false 11 [13] Tryd.func65 rfl Tryd.call65 rfl fun R hR => ?_
  have cr := right01_fun f hf.1 hf.2
  have c1 := cmp01_fun f (whF lo) hf (whF_fit hl)
  have c2 := cmp01_fun f (whF hi) hf (whF_fit hh)
  have v1 := refWhole_fun lo
  have v2 := refWhole_fun hi
  by_cases r : rightB f = true
  case neg =>
    have e2 : withinB f lo hi = false := by unfold withinB; simp [r]
    rw [e2] at hR
    rw [Bool.not_eq_true] at r
    rw [r] at cr
    simp only [Frc.v, whF] at *
    refine IWp.seqI ?_
    simp [go_sem]
    refine IWp.seqI ?_
    simp [go_sem]
    refine cr.callF (by simp [go_sem]) ?_
    rintro _ rfl
    simp [go_sem]
    exact hR _ _ _ rfl (by simp [go_sem])
  have e : ∀ n, cmpR f (whF n) = (cmpI f (whF n), 0) := fun n => by unfold cmpR; rw [if_pos ⟨r, whF_right n⟩]
  have e2 : withinB f lo hi = (decide (lo * f.den ≤ f.num) && decide (f.num ≤ hi * f.den)) := by unfold withinB; rw [r]; simp
  rw [e] at c1 c2
  rw [e2] at hR
  rw [r] at cr
  have k1 := cmpI_whole f lo
  have k2 := cmpI_whole f hi
  generalize cmpI f (whF lo) = X at *
  generalize cmpI f (whF hi) = Y at *
  generalize lo * f.den = A at *
  generalize hi * f.den = B at *
  obtain ⟨u, w⟩ := f
  simp only [Frc.v, whF] at *
  have hX : (0 ≤ X) ↔ A ≤ u := by rw [k1]; split <;> (try split) <;> omega
  have hY : (Y ≤ 0) ↔ u ≤ B := by rw [k2]; split <;> (try split) <;> omega
  refine IWp.seqI ?_
  simp [go_sem]
  refine IWp.seqI ?_
  simp [go_sem]
  refine cr.callF (by simp [go_sem]) ?_
  rintro _ rfl
  simp [go_sem]
  refine IWp.seqI ?_
  refine Drawn.intro (fun k => if k = 2 then .agg [.int .i64 lo, .int .i64 1] else if k = 3 then .tup [.int .i64 X, .int .i64 0] else .tup []) ?_
  simp [go_sem, v1, c1]
  refine ⟨by decide +kernel, ?_⟩
  refine IWp.seqI ?_
  refine Drawn.intro (fun k => if k = 2 then .agg [.int .i64 hi, .int .i64 1] else if k = 3 then .tup [.int .i64 Y, .int .i64 0] else .tup []) ?_
  simp [go_sem, v2, c2]
  refine ⟨by decide +kernel, ?_⟩
  refine IWp.now ?_
  simp [go_sem]
  exact hR _ _ _ rfl (by simp [go_sem, hX, hY])
theorem mulF_zero {p : Frc} (h : rightB p = true) : mulF p (whF 0) = (⟨0, 1⟩, 0) := by
  obtain ⟨h1, h2⟩ := right_pos h
  unfold mulF redF
  rw [if_pos ⟨h, whF_right 0⟩]
  have e1 : p.num.natAbs * (whF 0).num.natAbs = 0 := by simp [whF]
  have e2 : p.den.natAbs * (whF 0).den.natAbs = p.den.natAbs := by simp [whF]
  rw [e1, e2, Nat.gcd_zero_left, Nat.zero_div, Nat.div_self (by omega)]
  unfold packF
  generalize (decide (p.num < 0) != decide ((whF 0).num < 0)) = m
  cases m <;> rfl
theorem refCarry_fun (p : Frc) (m d : Int) (hp : FitF p) (hm : -2 ^ 63 ≤ m ∧ m < 2 ^ 63) (hd : -2 ^ 63 ≤ d ∧ d < 2 ^ 63) : FN 38 [p.v, .int .i64 m, .int .i64 d] (fun v => v = .tup [(carryF p m d).1.v, .int .i64 (carryF p m d).2]) := by
  refine IFun.of_bodyW false 10 [28, 38, 46, 48] Tryd.func38 rfl Tryd.call38 rfl fun R hR => ?_
  have cw := refWithin_fun p 0 1 hp (by decide) (by decide)
  by_cases h1 : withinB p 0 1 = false ∨ m < 0 ∨ 100000 < m ∨ d < -100000 ∨ 100000 < d
  · have e : carryF p m d = (⟨0, 0⟩, 2) := by unfold carryF; rw [if_pos h1]
    rw [e] at hR
    generalize withinB p 0 1 = W at *
    simp only [Frc.v] at *
    refine IWp.seqI ?_
    simp [go_sem]
    refine IWp.seqI ?_
    simp [go_sem]
    refine cw.callF (by simp [go_sem]) ?_
    rintro _ rfl
    cases W with
    | false =>
      simp [go_sem]
      exact hR _ _ _ rfl (by simp [go_sem])
    | true =>
      by_cases a1 : m < 0
      · simp [go_sem, a1]
        exact hR _ _ _ rfl (by simp [go_sem])
      · by_cases a2 : 100000 < m
        · simp [go_sem, a1, a2]
          exact hR _ _ _ rfl (by simp [go_sem])
        · by_cases a3 : d < -100000
          · simp [go_sem, a1, a2, a3]
            exact hR _ _ _ rfl (by simp [go_sem])
          · have a4 : 100000 < d := by
              rcases h1 with h | h | h | h | h
              · cases h
              all_goals omega
            simp [go_sem, a1, a2, a3, a4]
            exact hR _ _ _ rfl (by simp [go_sem])
  have e : carryF p m d = if (mulF p (whF d)).2 ≠ 0 then (⟨0, 0⟩, 3) else if withinB (mulF p (whF d)).1 (-m) m = true then ((mulF p (whF d)).1, 0) else if d < 0 then (whF (-m), 0) else (whF m, 0) := by unfold carryF; rw [if_neg h1]
  have hW : withinB p 0 1 = true := by
    cases h : withinB p 0 1 with
    | true => rfl
    | false => exact absurd (.inl h) h1
  have hRt : rightB p = true := by
    cases h : rightB p with
    | true => rfl
    | false => unfold withinB at hW; rw [h] at hW; cases hW
  rw [hW] at cw
  have a1 : ¬ m < 0 := fun h => h1 (.inr (.inl h))
  have a2 : ¬ 100000 < m := fun h => h1 (.inr (.inr (.inl h)))
  have a3 : ¬ d < -100000 := fun h => h1 (.inr (.inr (.inr (.inl h))))
  have a4 : ¬ 100000 < d := fun h => h1 (.inr (.inr (.inr (.inr h))))
  have hz : d = 0 → withinB (mulF p (whF d)).1 (-m) m = true := fun h => by
    subst h
    rw [mulF_zero hRt]
    simp [withinB, rightB]
    omega
  have herr : (mulF p (whF d)).2 = 0 ∨ (mulF p (whF d)).2 = 3 := by
    unfold mulF redF
    rw [if_pos ⟨hRt, whF_right d⟩]
    exact packF_err _ _ _
  have cm := mul01F_fun p (whF d) hp (whF_fit hd)
  have c2 := refWithin_fun (mulF p (whF d)).1 (-m) m (mulF_fit _ _) (by omega) hm
  have v1 := refWhole_fun d
  have v2 := refWhole_fun m
  have v3 := refWhole_fun (-m)
  have wm : IntKind.i64.wrap (-m) = -m := wrap64 (by omega) (by omega)
  generalize withinB (mulF p (whF d)).1 (-m) m = W at *
  generalize mulF p (whF d) = F at *
  obtain ⟨⟨fn, fd⟩, fe⟩ := F
  simp only [Frc.v, whF] at *
  rw [e] at hR
  refine IWp.seqI ?_
  simp [go_sem]
  refine IWp.seqI ?_
  simp [go_sem]
  refine cw.callF (by simp [go_sem]) ?_
  rintro _ rfl
  simp [go_sem, a1, a2, a3, a4]
  refine IWp.seqI ?_
  refine Drawn.intro (fun k => if k = 2 then .agg [.int .i64 d, .int .i64 1] else if k = 3 then .tup [.agg [.int .i64 fn, .int .i64 fd], .int .i64 fe] else .tup []) ?_
  simp [go_sem, v1, cm]
  refine ⟨by decide +kernel, ?_⟩
  refine IWp.seqI ?_
  rcases herr with rfl | rfl
  case inr =>
    simp [go_sem]
    exact hR _ _ _ rfl (by simp [go_sem])
  rw [if_neg (by simp)] at hR
  simp [go_sem]
  refine IWp.seqI ?_
  simp [go_sem, wm]
  refine c2.callF (by simp [go_sem]) ?_
  rintro _ rfl
  cases W with
  | true =>
    simp [go_sem]
    refine IWp.now ?_
    simp [go_sem]
    exact hR _ _ _ rfl (by simp [go_sem])
  | false =>
    have hd0 : d ≠ 0 := fun h => by have := hz h; cases this
    by_cases hdn : d < 0
    · have hd1 : ¬ 0 < d := by omega
      rw [if_pos hdn] at hR
      simp [go_sem, hd1, wm]
      refine v3.callF (by simp [go_sem]) ?_
      rintro _ rfl
      simp [go_sem]
      exact hR _ _ _ rfl (by simp [go_sem])
    · have hd1 : 0 < d := by omega
      rw [if_neg hdn] at hR
      simp [go_sem, hd1]
      refine v2.callF (by simp [go_sem]) ?_
      rintro _ rfl
      simp [go_sem]
      exact hR _ _ _ rfl (by simp [go_sem])
theorem carries38_fun (p : Frc) (m d : Int) (hp : FitF p) (hm : -2 ^ 63 ≤ m ∧ m < 2 ^ 63) (hd : -2 ^ 63 ≤ d ∧ d < 2 ^ 63) : FN 10 [p.v, .int .i64 m, .int .i64 d] (fun v => v = .bool true) := by
  refine IFun.of_bodyZ false 11 [] Tryd.func10 rfl Tryd.call10 rfl fun R hR => ?_
  have c1 := carry38_fun p m d hp hm hd
  have c2 := refCarry_fun p m d hp hm hd
  generalize carryF p m d = F at *
  obtain ⟨⟨fn, fd⟩, fe⟩ := F
  simp only [Frc.v] at *
  simp [go_sem]
  refine c1.callF (by simp [go_sem]) ?_
  rintro _ rfl
  simp [go_sem]
  refine c2.callF (by simp [go_sem]) ?_
  rintro _ rfl
  simp [go_sem]
  exact hR _ _ _ rfl (by simp [go_sem])
end Go.Idl
