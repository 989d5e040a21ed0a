/-
  Chapter 38: whole, within, Carry; rounds.
-/
import Derived.Test.YtnnpdhccblelgaaDoorC38PartE
namespace Go.Idl
set_option linter.all false
open Go.Proofs
set_option maxHeartbeats 8000000
set_option maxRecDepth 40000

def whF (n : Int) : Frc := ⟨n, 1⟩
theorem whole38_fun (n : Int) : FN 56 [.int .i64 n] (fun v => v = (whF n).v) := by
  refine IFun.of_bodyZ false 3 [] Tryd.func56 rfl Tryd.call56 rfl fun R hR => ?_
  simp [go_sem]
  exact hR _ _ _ rfl (by simp [go_sem, Frc.v, whF])
theorem whF_right (n : Int) : rightB (whF n) = true := by simp [rightB, whF]
theorem whF_fit {n : Int} (h : -2 ^ 63 ≤ n ∧ n < 2 ^ 63) : FitF (whF n) := ⟨h, by simp [whF]⟩
def withinB (f : Frc) (lo hi : Int) : Bool := rightB f && decide (lo * f.den ≤ f.num) && decide (f.num ≤ hi * f.den)
theorem cmpI_whole (f : Frc) (n : Int) : cmpI f (whF n) = if f.num < n * f.den then -1 else if n * f.den < f.num then 1 else 0 := by simp [cmpI, whF]
theorem within38_fun (f : Frc) (lo hi : Int) (hf : FitF f) (hl : -2 ^ 63 ≤ lo ∧ lo < 2 ^ 63) (hh : -2 ^ 63 ≤ hi ∧ hi < 2 ^ 63) : FN 55 [f.v, .int .i64 lo, .int .i64 hi] (fun v => v = .bool (withinB f lo hi)) := by
  refine IFun.of_bodyW false 10 [22] Tryd.func55 rfl Tryd.call55 rfl fun R hR => ?_
  have c1 := cmpG_fun f (whF lo) hf (whF_fit hl)
  have c2 := cmpG_fun f (whF hi) hf (whF_fit hh)
  have v1 := whole38_fun lo
  have v2 := whole38_fun hi
  by_cases r : rightB f = true
  case neg =>
    have e : ∀ n, cmpR f (whF n) = (0, 2) := fun n => by unfold cmpR; rw [if_neg (fun h => r h.1)]
    have e2 : withinB f lo hi = false := by unfold withinB; simp [r]
    rw [e] at c1
    rw [e2] at hR
    simp only [Frc.v, whF] at *
    refine IWp.seqI ?_
    simp [go_sem]
    refine IWp.seqI ?_
    refine Drawn.intro (fun k => if k = 2 then .agg [.int .i64 lo, .int .i64 1] else if k = 3 then .tup [.int .i64 0, .int .i64 2] else .tup []) ?_
    simp [go_sem, v1, c1]
    refine ⟨by decide +kernel, ?_⟩
    refine IWp.seqI ?_
    simp [go_sem]
    exact hR _ _ _ rfl (by simp [go_sem])
  have e : ∀ n, cmpR f (whF n) = (cmpI f (whF n), 0) := fun n => by unfold cmpR; rw [if_pos ⟨r, whF_right n⟩]
  have e2 : withinB f lo hi = (decide (lo * f.den ≤ f.num) && decide (f.num ≤ hi * f.den)) := by unfold withinB; rw [r]; simp
  rw [e] at c1 c2
  rw [e2] at hR
  have k1 := cmpI_whole f lo
  have k2 := cmpI_whole f hi
  generalize cmpI f (whF lo) = X at *
  generalize cmpI f (whF hi) = Y at *
  generalize lo * f.den = A at *
  generalize hi * f.den = B at *
  obtain ⟨u, w⟩ := f
  simp only [Frc.v, whF] at *
  refine IWp.seqI ?_
  simp [go_sem]
  refine IWp.seqI ?_
  refine Drawn.intro (fun k => if k = 2 then .agg [.int .i64 lo, .int .i64 1] else if k = 3 then .tup [.int .i64 X, .int .i64 0] else .tup []) ?_
  simp [go_sem, v1, c1]
  refine ⟨by decide +kernel, ?_⟩
  by_cases h1 : A ≤ u
  · have hX : ¬ X < 0 := by rw [k1]; split <;> (try split) <;> omega
    refine IWp.seqI ?_
    simp [go_sem, hX]
    refine IWp.seqI ?_
    refine Drawn.intro (fun k => if k = 2 then .agg [.int .i64 hi, .int .i64 1] else if k = 3 then .tup [.int .i64 Y, .int .i64 0] else .tup []) ?_
    simp [go_sem, v2, c2]
    refine ⟨by decide +kernel, ?_⟩
    have hY : (Y ≤ 0) ↔ u ≤ B := by rw [k2]; split <;> (try split) <;> omega
    refine IWp.now ?_
    simp [go_sem]
    exact hR _ _ _ rfl (by simp [go_sem, h1, hY])
  · have hX : X < 0 := by rw [k1, if_pos (by omega)]; decide
    refine IWp.seqI ?_
    simp [go_sem, hX]
    exact hR _ _ _ rfl (by simp [go_sem, h1])
theorem packF_cases (m : Bool) (n d : Nat) : packF m n d = (⟨0, 0⟩, 3) ∨ (packF m n d = (⟨if m = true then -(n : Int) else n, d⟩, 0) ∧ (if m = true then n ≤ 9223372036854775808 else n ≤ 9223372036854775807) ∧ d ≤ 9223372036854775807) := by
  unfold packF
  by_cases h : (if m = true then 9223372036854775808 else 9223372036854775807) < n ∨ 9223372036854775807 < d
  · rw [if_pos h]; exact .inl rfl
  · rw [if_neg h]; refine .inr ⟨rfl, ?_, by omega⟩
    cases m <;> simp at h ⊢ <;> omega
theorem packF_fit (m : Bool) (n d : Nat) : FitF (packF m n d).1 := by
  rcases packF_cases m n d with h | ⟨h, h1, h2⟩
  · rw [h]; simp [FitF]
  · rw [h]; unfold FitF; cases m <;> simp at h1 ⊢ <;> omega
theorem packF_err (m : Bool) (n d : Nat) : (packF m n d).2 = 0 ∨ (packF m n d).2 = 3 := by
  rcases packF_cases m n d with h | ⟨h, -⟩ <;> rw [h] <;> simp
theorem mulF_fit (f g : Frc) : FitF (mulF f g).1 := by
  unfold mulF redF
  split
  · exact packF_fit _ _ _
  · simp [FitF]
/-- What is carried forward. -/
def carryF (p : Frc) (m d : Int) : Frc × Int :=
  if withinB p 0 1 = false ∨ m < 0 ∨ 100000 < m ∨ d < -100000 ∨ 100000 < d then (⟨0, 0⟩, 2)
  else if (mulF p (whF d)).2 ≠ 0 then (⟨0, 0⟩, 3)
  else if withinB (mulF p (whF d)).1 (-m) m = true then ((mulF p (whF d)).1, 0)
  else if d < 0 then (whF (-m), 0) else (whF m, 0)
theorem carry38_fun (p : Frc) (m d : Int) (hp : FitF p) (hm : -2 ^ 63 ≤ m ∧ m < 2 ^ 63) (hd : -2 ^ 63 ≤ d ∧ d < 2 ^ 63) : FN 17 [p.v, .int .i64 m, .int .i64 d] (fun v => v = .tup [(carryF p m d).1.v, .int .i64 (carryF p m d).2]) := by
  refine IFun.of_bodyW false 10 [33, 42, 46, 53] Tryd.func17 rfl Tryd.call17 rfl fun R hR => ?_
  have cr := right_fun p hp.1 hp.2
  have cw := within38_fun p 0 1 hp (by decide) (by decide)
  by_cases h1 : withinB p 0 1 = false ∨ m < 0 ∨ 100000 < m ∨ d < -100000 ∨ 100000 < d
  · have e : carryF p m d = (⟨0, 0⟩, 2) := by unfold carryF; rw [if_pos h1]
    rw [e] at hR
    have hrw : rightB p = false → withinB p 0 1 = false := fun h => by unfold withinB; rw [h]; rfl
    generalize withinB p 0 1 = W at *
    generalize rightB p = Rg at *
    simp only [Frc.v] at *
    refine IWp.seqI ?_
    simp [go_sem]
    refine IWp.seqI ?_
    simp [go_sem]
    refine cr.callF (by simp [go_sem]) ?_
    rintro _ rfl
    cases Rg with
    | false =>
      simp [go_sem]
      exact hR _ _ _ rfl (by simp [go_sem])
    | true =>
      simp [go_sem]
      refine cw.callF (by simp [go_sem]) ?_
      rintro _ rfl
      cases W with
      | false =>
        simp [go_sem]
        exact hR _ _ _ rfl (by simp [go_sem])
      | true =>
        by_cases a1 : m < 0
        · simp [go_sem, a1]
          exact hR _ _ _ rfl (by simp [go_sem])
        · by_cases a2 : 100000 < m
          · simp [go_sem, a1, a2]
            exact hR _ _ _ rfl (by simp [go_sem])
          · by_cases a3 : d < -100000
            · simp [go_sem, a1, a2, a3]
              exact hR _ _ _ rfl (by simp [go_sem])
            · have a4 : 100000 < d := by
                rcases h1 with h | h | h | h | h
                · cases h
                all_goals omega
              simp [go_sem, a1, a2, a3, a4]
              exact hR _ _ _ rfl (by simp [go_sem])
  have e : carryF p m d = if (mulF p (whF d)).2 ≠ 0 then (⟨0, 0⟩, 3) else if withinB (mulF p (whF d)).1 (-m) m = true then ((mulF p (whF d)).1, 0) else if d < 0 then (whF (-m), 0) else (whF m, 0) := by unfold carryF; rw [if_neg h1]
  have hW : withinB p 0 1 = true := by
    cases h : withinB p 0 1 with
    | true => rfl
    | false => exact absurd (.inl h) h1
  have hRt : rightB p = true := by
    cases h : rightB p with
    | true => rfl
    | false => unfold withinB at hW; rw [h] at hW; cases hW
  rw [hW] at cw
  rw [hRt] at cr
  have a1 : ¬ m < 0 := fun h => h1 (.inr (.inl h))
  have a2 : ¬ 100000 < m := fun h => h1 (.inr (.inr (.inl h)))
  have a3 : ¬ d < -100000 := fun h => h1 (.inr (.inr (.inr (.inl h))))
  have a4 : ¬ 100000 < d := fun h => h1 (.inr (.inr (.inr (.inr h))))
  have cm := mulF_fun p (whF d) hp (whF_fit hd)
  have c2 := within38_fun (mulF p (whF d)).1 (-m) m (mulF_fit _ _) (by omega) hm
  have v1 := whole38_fun d
  have v2 := whole38_fun m
  have v3 := whole38_fun (-m)
  have wm : IntKind.i64.wrap (-m) = -m := wrap64 (by omega) (by omega)
  generalize withinB (mulF p (whF d)).1 (-m) m = W at *
  generalize mulF p (whF d) = F at *
  obtain ⟨⟨fn, fd⟩, fe⟩ := F
  simp only [Frc.v, whF] at *
  rw [e] at hR
  refine IWp.seqI ?_
  simp [go_sem]
  refine IWp.seqI ?_
  simp [go_sem]
  refine cr.callF (by simp [go_sem]) ?_
  rintro _ rfl
  simp [go_sem]
  refine cw.callF (by simp [go_sem]) ?_
  rintro _ rfl
  simp [go_sem, a1, a2, a3, a4]
  refine IWp.seqI ?_
  refine Drawn.intro (fun k => if k = 2 then .agg [.int .i64 d, .int .i64 1] else if k = 3 then .tup [.agg [.int .i64 fn, .int .i64 fd], .int .i64 fe] else .tup []) ?_
  simp [go_sem, v1, cm]
  refine ⟨by decide +kernel, ?_⟩
  refine IWp.seqI ?_
  by_cases he : fe = 0
  case neg =>
    rw [if_pos he] at hR
    simp [go_sem, he]
    exact hR _ _ _ rfl (by simp [go_sem])
  rw [if_neg (by simp [he])] at hR
  subst he
  simp [go_sem, wm]
  refine c2.callF (by simp [go_sem]) ?_
  rintro _ rfl
  cases W with
  | true =>
    simp [go_sem]
    exact hR _ _ _ rfl (by simp [go_sem])
  | false =>
    by_cases hd0 : d < 0
    · rw [if_pos hd0] at hR
      simp [go_sem, hd0, wm]
      refine v3.callF (by simp [go_sem]) ?_
      rintro _ rfl
      simp [go_sem]
      exact hR _ _ _ rfl (by simp [go_sem])
    · rw [if_neg hd0] at hR
      simp [go_sem, hd0]
      refine IWp.now ?_
      simp [go_sem]
      refine v2.callF (by simp [go_sem]) ?_
      rintro _ rfl
      simp [go_sem]
      exact hR _ _ _ rfl (by simp [go_sem])
end Go.Idl
