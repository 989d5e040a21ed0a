import Derived.Test.YtamffdgopknkfaaGreatDoorC39zPartZC
import Derived.Test.YtamffdgopknkfaaGreatDoorC39zPartT
set_option linter.all false
set_option maxHeartbeats 16000000
set_option maxRecDepth 40000
namespace Go.Idl
open Go.Proofs
def whF (n : Int) : Frc := ⟨n, 1⟩
theorem whole38_fun (n : Int) : FN 53 [.int .i64 n] (fun v => v = (whF n).v) := by
 refine IFun.of_bodyZ false 3 [] Tryz.func53 rfl Tryz.call53 rfl fun R hR => ?_
 simp [go_sem]
 exact hR _ _ _ rfl (by simp [go_sem, Frc.v, whF])
theorem whF_right (n : Int) : rightB (whF n) = true := by simp [rightB, whF]
theorem whF_fit {n : Int} (h : -2 ^ 63 ≤ n ∧ n < 2 ^ 63) : FitF (whF n) := ⟨h, by simp [whF]⟩
def withinB (f : Frc) (lo hi : Int) : Bool := rightB f && decide (lo * f.den ≤ f.num) && decide (f.num ≤ hi * f.den)
theorem cmpI_whole (f : Frc) (n : Int) : cmpI f (whF n) = if f.num < n * f.den then -1 else if n * f.den < f.num then 1 else 0 := by simp [cmpI, whF]
theorem within38_fun (f : Frc) (lo hi : Int) (hf : FitF f) (hl : -2 ^ 63 ≤ lo ∧ lo < 2 ^ 63) (hh : -2 ^ 63 ≤ hi ∧ hi < 2 ^ 63) : FN 51 [f.v, .int .i64 lo, .int .i64 hi] (fun v => v = .bool (withinB f lo hi)) := by
 refine IFun.of_bodyW false 10 [22] Tryz.func51 rfl Tryz.call51 rfl fun R hR => ?_
 have c1 := cmpG_fun f (whF lo) hf (whF_fit hl)
 have c2 := cmpG_fun f (whF hi) hf (whF_fit hh)
 have v1 := whole38_fun lo
 have v2 := whole38_fun hi
 by_cases r : rightB f = true
 case neg =>
  have e : ∀ n, cmpR f (whF n) = (0, 2) := fun n => by unfold cmpR; rw [if_neg (fun h => r h.1)]
  have e2 : withinB f lo hi = false := by unfold withinB; simp [r]
  rw [e] at c1
  rw [e2] at hR
  simp only [Frc.v, whF] at *
  refine IWp.seqI ?_
  simp [go_sem]
  refine IWp.seqI ?_
  refine Drawn.intro (fun k => if k = 2 then .agg [.int .i64 lo, .int .i64 1] else if k = 3 then .tup [.int .i64 0, .int .i64 2] else .tup []) ?_
  simp [go_sem, v1, c1]
  refine ⟨by decide +kernel, ?_⟩
  refine IWp.seqI ?_
  simp [go_sem]
  exact hR _ _ _ rfl (by simp [go_sem])
 have e : ∀ n, cmpR f (whF n) = (cmpI f (whF n), 0) := fun n => by unfold cmpR; rw [if_pos ⟨r, whF_right n⟩]
 have e2 : withinB f lo hi = (decide (lo * f.den ≤ f.num) && decide (f.num ≤ hi * f.den)) := by unfold withinB; rw [r]; simp
 rw [e] at c1 c2
 rw [e2] at hR
 have k1 := cmpI_whole f lo
 have k2 := cmpI_whole f hi
 generalize cmpI f (whF lo) = X at *
 generalize cmpI f (whF hi) = Y at *
 generalize lo * f.den = A at *
 generalize hi * f.den = B at *
 obtain ⟨u, w⟩ := f
 simp only [Frc.v, whF] at *
 refine IWp.seqI ?_
 simp [go_sem]
 refine IWp.seqI ?_
 refine Drawn.intro (fun k => if k = 2 then .agg [.int .i64 lo, .int .i64 1] else if k = 3 then .tup [.int .i64 X, .int .i64 0] else .tup []) ?_
 simp [go_sem, v1, c1]
 refine ⟨by decide +kernel, ?_⟩
 by_cases h1 : A ≤ u
 ·have hX : ¬ X < 0 := by rw [k1]; split <;> (try split) <;> omega
  refine IWp.seqI ?_
  simp [go_sem, hX]
  refine IWp.seqI ?_
  refine Drawn.intro (fun k => if k = 2 then .agg [.int .i64 hi, .int .i64 1] else if k = 3 then .tup [.int .i64 Y, .int .i64 0] else .tup []) ?_
  simp [go_sem, v2, c2]
  refine ⟨by decide +kernel, ?_⟩
  have hY : (Y ≤ 0) ↔ u ≤ B := by rw [k2]; split <;> (try split) <;> omega
  refine IWp.now ?_
  simp [go_sem]
  exact hR _ _ _ rfl (by simp [go_sem, h1, hY])
 ·have hX : X < 0 := by rw [k1, if_pos (by omega)]; decide
  refine IWp.seqI ?_
  simp [go_sem, hX]
  exact hR _ _ _ rfl (by simp [go_sem, h1])
theorem packF_cases (m : Bool) (n d : Nat) : packF m n d = (⟨0, 0⟩, 3) ∨ (packF m n d = (⟨if m = true then -(n : Int) else n, d⟩, 0) ∧ (if m = true then n ≤ 9223372036854775808 else n ≤ 9223372036854775807) ∧ d ≤ 9223372036854775807) := by
 unfold packF
 by_cases h : (if m = true then 9223372036854775808 else 9223372036854775807) < n ∨ 9223372036854775807 < d
 ·rw [if_pos h]; exact .inl rfl
 ·rw [if_neg h]; refine .inr ⟨rfl, ?_, by omega⟩
  cases m <;> simp at h ⊢ <;> omega
theorem packF_fit (m : Bool) (n d : Nat) : FitF (packF m n d).1 := by
 rcases packF_cases m n d with h | ⟨h, h1, h2⟩
 ·rw [h]; simp [FitF]
 ·rw [h]; unfold FitF; cases m <;> simp at h1 ⊢ <;> omega
theorem packF_err (m : Bool) (n d : Nat) : (packF m n d).2 = 0 ∨ (packF m n d).2 = 3 := by
 rcases packF_cases m n d with h | ⟨h, -⟩ <;> rw [h] <;> simp
theorem mulF_fit (f g : Frc) : FitF (mulF f g).1 := by
 unfold mulF redF
 split
 ·exact packF_fit _ _ _
 ·simp [FitF]
def carryF (p : Frc) (m d : Int) : Frc × Int :=
 if withinB p 0 1 = false ∨ m < 0 ∨ 100000 < m ∨ d < -100000 ∨ 100000 < d then (⟨0, 0⟩, 2)
 else if (mulF p (whF d)).2 ≠ 0 then (⟨0, 0⟩, 3)
 else if withinB (mulF p (whF d)).1 (-m) m = true then ((mulF p (whF d)).1, 0)
 else if d < 0 then (whF (-m), 0) else (whF m, 0)
theorem carry38_fun (p : Frc) (m d : Int) (hp : FitF p) (hm : -2 ^ 63 ≤ m ∧ m < 2 ^ 63) (hd : -2 ^ 63 ≤ d ∧ d < 2 ^ 63) : FN 34 [p.v, .int .i64 m, .int .i64 d] (fun v => v = .tup [(carryF p m d).1.v, .int .i64 (carryF p m d).2]) := by
 refine IFun.of_bodyW false 10 [33, 42, 46, 53] Tryz.func34 rfl Tryz.call34 rfl fun R hR => ?_
 have cr := right_fun p hp.1 hp.2
 have cw := within38_fun p 0 1 hp (by decide) (by decide)
 by_cases h1 : withinB p 0 1 = false ∨ m < 0 ∨ 100000 < m ∨ d < -100000 ∨ 100000 < d
 ·have e : carryF p m d = (⟨0, 0⟩, 2) := by unfold carryF; rw [if_pos h1]
  rw [e] at hR
  have hrw : rightB p = false → withinB p 0 1 = false := fun h => by unfold withinB; rw [h]; rfl
  generalize withinB p 0 1 = W at *
  generalize rightB p = Rg at *
  simp only [Frc.v] at *
  refine IWp.seqI ?_
  simp [go_sem]
  refine IWp.seqI ?_
  simp [go_sem]
  refine cr.callF (by simp [go_sem]) ?_
  rintro _ rfl
  cases Rg with
  | false =>
   simp [go_sem]
   exact hR _ _ _ rfl (by simp [go_sem])
  | true =>
   simp [go_sem]
   refine cw.callF (by simp [go_sem]) ?_
   rintro _ rfl
   cases W with
   | false =>
    simp [go_sem]
    exact hR _ _ _ rfl (by simp [go_sem])
   | true =>
    by_cases a1 : m < 0
    ·simp [go_sem, a1]
     exact hR _ _ _ rfl (by simp [go_sem])
    ·by_cases a2 : 100000 < m
     ·simp [go_sem, a1, a2]
      exact hR _ _ _ rfl (by simp [go_sem])
     ·by_cases a3 : d < -100000
      ·simp [go_sem, a1, a2, a3]
       exact hR _ _ _ rfl (by simp [go_sem])
      ·have a4 : 100000 < d := by
        rcases h1 with h | h | h | h | h
        ·cases h
        all_goals omega
       simp [go_sem, a1, a2, a3, a4]
       exact hR _ _ _ rfl (by simp [go_sem])
 have e : carryF p m d = if (mulF p (whF d)).2 ≠ 0 then (⟨0, 0⟩, 3) else if withinB (mulF p (whF d)).1 (-m) m = true then ((mulF p (whF d)).1, 0) else if d < 0 then (whF (-m), 0) else (whF m, 0) := by unfold carryF; rw [if_neg h1]
 have hW : withinB p 0 1 = true := by
  cases h : withinB p 0 1 with
  | true => rfl
  | false => exact absurd (.inl h) h1
 have hRt : rightB p = true := by
  cases h : rightB p with
  | true => rfl
  | false => unfold withinB at hW; rw [h] at hW; cases hW
 rw [hW] at cw
 rw [hRt] at cr
 have a1 : ¬ m < 0 := fun h => h1 (.inr (.inl h))
 have a2 : ¬ 100000 < m := fun h => h1 (.inr (.inr (.inl h)))
 have a3 : ¬ d < -100000 := fun h => h1 (.inr (.inr (.inr (.inl h))))
 have a4 : ¬ 100000 < d := fun h => h1 (.inr (.inr (.inr (.inr h))))
 have cm := mulF_fun p (whF d) hp (whF_fit hd)
 have c2 := within38_fun (mulF p (whF d)).1 (-m) m (mulF_fit _ _) (by omega) hm
 have v1 := whole38_fun d
 have v2 := whole38_fun m
 have v3 := whole38_fun (-m)
 have wm : IntKind.i64.wrap (-m) = -m := wrap64 (by omega) (by omega)
 generalize withinB (mulF p (whF d)).1 (-m) m = W at *
 generalize mulF p (whF d) = F at *
 obtain ⟨⟨fn, fd⟩, fe⟩ := F
 simp only [Frc.v, whF] at *
 rw [e] at hR
 refine IWp.seqI ?_
 simp [go_sem]
 refine IWp.seqI ?_
 simp [go_sem]
 refine cr.callF (by simp [go_sem]) ?_
 rintro _ rfl
 simp [go_sem]
 refine cw.callF (by simp [go_sem]) ?_
 rintro _ rfl
 simp [go_sem, a1, a2, a3, a4]
 refine IWp.seqI ?_
 refine Drawn.intro (fun k => if k = 2 then .agg [.int .i64 d, .int .i64 1] else if k = 3 then .tup [.agg [.int .i64 fn, .int .i64 fd], .int .i64 fe] else .tup []) ?_
 simp [go_sem, v1, cm]
 refine ⟨by decide +kernel, ?_⟩
 refine IWp.seqI ?_
 by_cases he : fe = 0
 case neg =>
  rw [if_pos he] at hR
  simp [go_sem, he]
  exact hR _ _ _ rfl (by simp [go_sem])
 rw [if_neg (by simp [he])] at hR
 subst he
 simp [go_sem, wm]
 refine c2.callF (by simp [go_sem]) ?_
 rintro _ rfl
 cases W with
 | true =>
  simp [go_sem]
  exact hR _ _ _ rfl (by simp [go_sem])
 | false =>
  by_cases hd0 : d < 0
  ·rw [if_pos hd0] at hR
   simp [go_sem, hd0, wm]
   refine v3.callF (by simp [go_sem]) ?_
   rintro _ rfl
   simp [go_sem]
   exact hR _ _ _ rfl (by simp [go_sem])
  ·rw [if_neg hd0] at hR
   simp [go_sem, hd0]
   refine IWp.now ?_
   simp [go_sem]
   refine v2.callF (by simp [go_sem]) ?_
   rintro _ rfl
   simp [go_sem]
   exact hR _ _ _ rfl (by simp [go_sem])
end Go.Idl
namespace Go.Idl
open Go.Proofs
theorem refWhole_fun (n : Int) : FN 56 [.int .i64 n] (fun v => v = (whF n).v) := by
 refine IFun.of_bodyZ false 3 [] Tryz.func56 rfl Tryz.call56 rfl fun R hR => ?_
 simp [go_sem]
 exact hR _ _ _ rfl (by simp [go_sem, Frc.v, whF])
theorem refWithin_fun (f : Frc) (lo hi : Int) (hf : FitF f) (hl : -2 ^ 63 ≤ lo ∧ lo < 2 ^ 63) (hh : -2 ^ 63 ≤ hi ∧ hi < 2 ^ 63) : FN 54 [f.v, .int .i64 lo, .int .i64 hi] (fun v => v = .bool (withinB f lo hi)) := by
 refine IFun.of_bodyW false 11 [13] Tryz.func54 rfl Tryz.call54 rfl fun R hR => ?_
 have cr := right01_fun f hf.1 hf.2
 have c1 := cmp01_fun f (whF lo) hf (whF_fit hl)
 have c2 := cmp01_fun f (whF hi) hf (whF_fit hh)
 have v1 := refWhole_fun lo
 have v2 := refWhole_fun hi
 by_cases r : rightB f = true
 case neg =>
  have e2 : withinB f lo hi = false := by unfold withinB; simp [r]
  rw [e2] at hR
  rw [Bool.not_eq_true] at r
  rw [r] at cr
  simp only [Frc.v, whF] at *
  refine IWp.seqI ?_
  simp [go_sem]
  refine IWp.seqI ?_
  simp [go_sem]
  refine cr.callF (by simp [go_sem]) ?_
  rintro _ rfl
  simp [go_sem]
  exact hR _ _ _ rfl (by simp [go_sem])
 have e : ∀ n, cmpR f (whF n) = (cmpI f (whF n), 0) := fun n => by unfold cmpR; rw [if_pos ⟨r, whF_right n⟩]
 have e2 : withinB f lo hi = (decide (lo * f.den ≤ f.num) && decide (f.num ≤ hi * f.den)) := by unfold withinB; rw [r]; simp
 rw [e] at c1 c2
 rw [e2] at hR
 rw [r] at cr
 have k1 := cmpI_whole f lo
 have k2 := cmpI_whole f hi
 generalize cmpI f (whF lo) = X at *
 generalize cmpI f (whF hi) = Y at *
 generalize lo * f.den = A at *
 generalize hi * f.den = B at *
 obtain ⟨u, w⟩ := f
 simp only [Frc.v, whF] at *
 have hX : (0 ≤ X) ↔ A ≤ u := by rw [k1]; split <;> (try split) <;> omega
 have hY : (Y ≤ 0) ↔ u ≤ B := by rw [k2]; split <;> (try split) <;> omega
 refine IWp.seqI ?_
 simp [go_sem]
 refine IWp.seqI ?_
 simp [go_sem]
 refine cr.callF (by simp [go_sem]) ?_
 rintro _ rfl
 simp [go_sem]
 refine IWp.seqI ?_
 refine Drawn.intro (fun k => if k = 2 then .agg [.int .i64 lo, .int .i64 1] else if k = 3 then .tup [.int .i64 X, .int .i64 0] else .tup []) ?_
 simp [go_sem, v1, c1]
 refine ⟨by decide +kernel, ?_⟩
 refine IWp.seqI ?_
 refine Drawn.intro (fun k => if k = 2 then .agg [.int .i64 hi, .int .i64 1] else if k = 3 then .tup [.int .i64 Y, .int .i64 0] else .tup []) ?_
 simp [go_sem, v2, c2]
 refine ⟨by decide +kernel, ?_⟩
 refine IWp.now ?_
 simp [go_sem]
 exact hR _ _ _ rfl (by simp [go_sem, hX, hY])
theorem mulF_zero {p : Frc} (h : rightB p = true) : mulF p (whF 0) = (⟨0, 1⟩, 0) := by
 obtain ⟨h1, h2⟩ := right_pos h
 unfold mulF redF
 rw [if_pos ⟨h, whF_right 0⟩]
 have e1 : p.num.natAbs * (whF 0).num.natAbs = 0 := by simp [whF]
 have e2 : p.den.natAbs * (whF 0).den.natAbs = p.den.natAbs := by simp [whF]
 rw [e1, e2, Nat.gcd_zero_left, Nat.zero_div, Nat.div_self (by omega)]
 unfold packF
 generalize (decide (p.num < 0) != decide ((whF 0).num < 0)) = m
 cases m <;> rfl
theorem refCarry_fun (p : Frc) (m d : Int) (hp : FitF p) (hm : -2 ^ 63 ≤ m ∧ m < 2 ^ 63) (hd : -2 ^ 63 ≤ d ∧ d < 2 ^ 63) : FN 35 [p.v, .int .i64 m, .int .i64 d] (fun v => v = .tup [(carryF p m d).1.v, .int .i64 (carryF p m d).2]) := by
 refine IFun.of_bodyW false 10 [28, 38, 46, 48] Tryz.func35 rfl Tryz.call35 rfl fun R hR => ?_
 have cw := refWithin_fun p 0 1 hp (by decide) (by decide)
 by_cases h1 : withinB p 0 1 = false ∨ m < 0 ∨ 100000 < m ∨ d < -100000 ∨ 100000 < d
 ·have e : carryF p m d = (⟨0, 0⟩, 2) := by unfold carryF; rw [if_pos h1]
  rw [e] at hR
  generalize withinB p 0 1 = W at *
  simp only [Frc.v] at *
  refine IWp.seqI ?_
  simp [go_sem]
  refine IWp.seqI ?_
  simp [go_sem]
  refine cw.callF (by simp [go_sem]) ?_
  rintro _ rfl
  cases W with
  | false =>
   simp [go_sem]
   exact hR _ _ _ rfl (by simp [go_sem])
  | true =>
   by_cases a1 : m < 0
   ·simp [go_sem, a1]
    exact hR _ _ _ rfl (by simp [go_sem])
   ·by_cases a2 : 100000 < m
    ·simp [go_sem, a1, a2]
     exact hR _ _ _ rfl (by simp [go_sem])
    ·by_cases a3 : d < -100000
     ·simp [go_sem, a1, a2, a3]
      exact hR _ _ _ rfl (by simp [go_sem])
     ·have a4 : 100000 < d := by
       rcases h1 with h | h | h | h | h
       ·cases h
       all_goals omega
      simp [go_sem, a1, a2, a3, a4]
      exact hR _ _ _ rfl (by simp [go_sem])
 have e : carryF p m d = if (mulF p (whF d)).2 ≠ 0 then (⟨0, 0⟩, 3) else if withinB (mulF p (whF d)).1 (-m) m = true then ((mulF p (whF d)).1, 0) else if d < 0 then (whF (-m), 0) else (whF m, 0) := by unfold carryF; rw [if_neg h1]
 have hW : withinB p 0 1 = true := by
  cases h : withinB p 0 1 with
  | true => rfl
  | false => exact absurd (.inl h) h1
 have hRt : rightB p = true := by
  cases h : rightB p with
  | true => rfl
  | false => unfold withinB at hW; rw [h] at hW; cases hW
 rw [hW] at cw
 have a1 : ¬ m < 0 := fun h => h1 (.inr (.inl h))
 have a2 : ¬ 100000 < m := fun h => h1 (.inr (.inr (.inl h)))
 have a3 : ¬ d < -100000 := fun h => h1 (.inr (.inr (.inr (.inl h))))
 have a4 : ¬ 100000 < d := fun h => h1 (.inr (.inr (.inr (.inr h))))
 have hz : d = 0 → withinB (mulF p (whF d)).1 (-m) m = true := fun h => by
  subst h
  rw [mulF_zero hRt]
  simp [withinB, rightB]
  omega
 have herr : (mulF p (whF d)).2 = 0 ∨ (mulF p (whF d)).2 = 3 := by
  unfold mulF redF
  rw [if_pos ⟨hRt, whF_right d⟩]
  exact packF_err _ _ _
 have cm := mul01F_fun p (whF d) hp (whF_fit hd)
 have c2 := refWithin_fun (mulF p (whF d)).1 (-m) m (mulF_fit _ _) (by omega) hm
 have v1 := refWhole_fun d
 have v2 := refWhole_fun m
 have v3 := refWhole_fun (-m)
 have wm : IntKind.i64.wrap (-m) = -m := wrap64 (by omega) (by omega)
 generalize withinB (mulF p (whF d)).1 (-m) m = W at *
 generalize mulF p (whF d) = F at *
 obtain ⟨⟨fn, fd⟩, fe⟩ := F
 simp only [Frc.v, whF] at *
 rw [e] at hR
 refine IWp.seqI ?_
 simp [go_sem]
 refine IWp.seqI ?_
 simp [go_sem]
 refine cw.callF (by simp [go_sem]) ?_
 rintro _ rfl
 simp [go_sem, a1, a2, a3, a4]
 refine IWp.seqI ?_
 refine Drawn.intro (fun k => if k = 2 then .agg [.int .i64 d, .int .i64 1] else if k = 3 then .tup [.agg [.int .i64 fn, .int .i64 fd], .int .i64 fe] else .tup []) ?_
 simp [go_sem, v1, cm]
 refine ⟨by decide +kernel, ?_⟩
 refine IWp.seqI ?_
 rcases herr with rfl | rfl
 case inr =>
  simp [go_sem]
  exact hR _ _ _ rfl (by simp [go_sem])
 rw [if_neg (by simp)] at hR
 simp [go_sem]
 refine IWp.seqI ?_
 simp [go_sem, wm]
 refine c2.callF (by simp [go_sem]) ?_
 rintro _ rfl
 cases W with
 | true =>
  simp [go_sem]
  refine IWp.now ?_
  simp [go_sem]
  exact hR _ _ _ rfl (by simp [go_sem])
 | false =>
  have hd0 : d ≠ 0 := fun h => by have := hz h; cases this
  by_cases hdn : d < 0
  ·have hd1 : ¬ 0 < d := by omega
   rw [if_pos hdn] at hR
   simp [go_sem, hd1, wm]
   refine v3.callF (by simp [go_sem]) ?_
   rintro _ rfl
   simp [go_sem]
   exact hR _ _ _ rfl (by simp [go_sem])
  ·have hd1 : 0 < d := by omega
   rw [if_neg hdn] at hR
   simp [go_sem, hd1]
   refine v2.callF (by simp [go_sem]) ?_
   rintro _ rfl
   simp [go_sem]
   exact hR _ _ _ rfl (by simp [go_sem])
end Go.Idl
namespace Go.Idl
open Go.Proofs
def mgT1 (a b s : Int) (m : Em) : Int := if m.a = a ∧ m.b = b then m.m else if m.a = b ∧ m.b = a then -m.m else s
def mgT (a b : Int) (l : List Em) : Int := l.foldl (mgT1 a b) 0
theorem mgT_bd {a b N : Int} (hN : 0 ≤ N) : ∀ {l : List Em} {s : Int}, (∀ m ∈ l, -N ≤ m.m ∧ m.m ≤ N) → -N ≤ s ∧ s ≤ N → -N ≤ l.foldl (mgT1 a b) s ∧ l.foldl (mgT1 a b) s ≤ N
 | [], _, _, h => h
 | m :: l, s, h, hs => by
  rw [List.foldl_cons]
  have hm := h m (List.mem_cons_self ..)
  refine mgT_bd hN (fun x hx => h x (List.mem_cons_of_mem _ hx)) ?_
  unfold mgT1
  split
  ·exact hm
  ·split <;> omega
def clampM (d : Int) : Int := if 100000 < (if d < -100000 then -100000 else d) then 100000 else if d < -100000 then -100000 else d
def carE (p : Pl) (l : List Em) (a b : Int) (f : Frc) (n : Int) : Frc × Int :=
 if (chkR p l).2 ≠ 0 then (⟨0, 0⟩, (chkR p l).2)
 else if a < 1 ∨ p.t < a ∨ b < 1 ∨ p.t < b ∨ a = b then (⟨0, 0⟩, 2)
 else if (carryF f n (clampM (mgT a b l))).2 ≠ 0 then (⟨0, 0⟩, (carryF f n (clampM (mgT a b l))).2) else ((carryF f n (clampM (mgT a b l))).1, 0)
theorem evCarry_fun (p : Pl) (l : List Em) (a b : Int) (f : Frc) (n : Int) (h : ArgE p l) (hg : (chkR p l).2 = 0 → ∀ m ∈ l, -1000000 ≤ m.m ∧ m.m ≤ 1000000) (hf : FitF f) (hn : -2 ^ 63 ≤ n ∧ n < 2 ^ 63) :
  FN 13 [p.v, .fz 4 (ems l), .int .i64 a, .int .i64 b, f.v, .int .i64 n] (fun v => v = .tup [(carE p l a b f n).1.v, .int .i64 (carE p l a b f n).2]) := by
 refine IFun.of_bodyW false 21 [28, 53, 55, 56, 57, 58, 61, 74, 99] Tryz.func13 rfl Tryz.call13 rfl fun R hR => ?_
 have cc := Check_fun p l h.t h.s h.l
 have hll := h.l
 have fin : ∀ (r : IV) (σ : Heap) (q : Frc × Int), carE p l a b f n = q → frzOK false 4 σ r ∧ nz 4 (frzV 4 σ r) (.tup [q.1.v, .int .i64 q.2]) → R r σ := fun r σ q e h => hR r σ _ rfl (by rw [e]; exact h)
 clear hR
 by_cases he : (chkR p l).2 = 0
 case neg =>
  have hE : carE p l a b f n = (⟨0, 0⟩, (chkR p l).2) := by unfold carE; rw [if_pos he]
  simp only [Pl.v, Frc.v] at *
  refine IWp.now ?_
  simp [go_sem]
  refine cc.callF (by simp [go_sem]) ?_
  rintro _ rfl
  simp [go_sem, he]
  exact fin _ _ _ hE (by simp [go_sem])
 have hE : carE p l a b f n = if a < 1 ∨ p.t < a ∨ b < 1 ∨ p.t < b ∨ a = b then (⟨0, 0⟩, 2) else if (carryF f n (clampM (mgT a b l))).2 ≠ 0 then (⟨0, 0⟩, (carryF f n (clampM (mgT a b l))).2) else ((carryF f n (clampM (mgT a b l))).1, 0) := by unfold carE; rw [if_neg (by simp [he])]
 have hm := hg he
 have hmb := mgT_bd (a := a) (b := b) (N := 1000000) (by decide) (l := l) (s := 0) hm (by decide)
 have hcl : -100000 ≤ clampM (mgT a b l) ∧ clampM (mgT a b l) ≤ 100000 := by unfold clampM; split <;> (try split) <;> omega
 have ck := carry38_fun f n (clampM (mgT a b l)) hf hn (by omega)
 simp only [Pl.v, Frc.v] at *
 refine IWp.now ?_
 simp [go_sem]
 refine cc.callF (by simp [go_sem]) ?_
 rintro _ rfl
 by_cases hbad : a < 1 ∨ p.t < a ∨ b < 1 ∨ p.t < b ∨ a = b
 ·rw [if_pos hbad] at hE
  by_cases c1 : a < 1
  ·simp [go_sem, he, c1]
   exact fin _ _ _ hE (by simp [go_sem])
  by_cases c2 : p.t < a
  ·simp [go_sem, he, c1, c2]
   exact fin _ _ _ hE (by simp [go_sem])
  by_cases c3 : b < 1
  ·simp [go_sem, he, c1, c2, c3]
   exact fin _ _ _ hE (by simp [go_sem])
  by_cases c4 : p.t < b
  ·simp [go_sem, he, c1, c2, c3, c4]
   exact fin _ _ _ hE (by simp [go_sem])
  have c5 : a = b := by omega
  subst c5
  simp [go_sem, he, c1, c2]
  exact fin _ _ _ hE (by simp [go_sem])
 rw [if_neg hbad] at hE
 have c1 : ¬ a < 1 := by omega
 have c2 : ¬ p.t < a := by omega
 have c3 : ¬ b < 1 := by omega
 have c4 : ¬ p.t < b := by omega
 have c5 : ¬ a = b := by omega
 have c5' : (a == b) = false := by rw [beq_eq_false_iff_ne]; exact c5
 obtain ⟨F, hF⟩ : ∃ F : Nat → Int, ∀ i, F i = (l.take i).foldl (mgT1 a b) 0 := ⟨_, fun _ => rfl⟩
 have f0 : F 0 = 0 := by rw [hF]; rfl
 have fl : F l.length = mgT a b l := by rw [hF, List.take_length]; rfl
 have fs : ∀ i (hi : i < l.length), F (i + 1) = mgT1 a b (F i) l[i] := fun i hi => by rw [hF, hF, List.take_succ_eq_append_getElem hi, List.foldl_append]; rfl
 clear hF
 simp [go_sem, he, c1, c2, c3, c4, c5, c5']
 refine IWp.shut fun Q hQ => ?_
 refine IWp.loopI (α := Nat) (fun i => (⟨false, 103, 21, [28, 53, 55, 56, 57, 58, 61, 74, 99], glT, [(2, .int .i64 a), (3, .int .i64 b), (5, .int .i64 n), (10, .ptr 1 1 0 0), (12, .ptr 2 1 0 0), (16, .int .i64 (F i)), (55, .fz 4 (ems l)), (56, .int .i64 l.length), (57, .int .i64 (i : Int))], []⟩, [.dead, .rows 2 [[.int .i64 f.num, .int .i64 f.den]], .rows 2 [[.int .i64 0, .int .i64 0]]]))
  (fun i => i ≤ l.length) (fun i => l.length - i) 0 (by omega) (by simp [go_sem, f0]) ?_
 intro i hi
 by_cases hil : i < l.length
 ·have wi : IntKind.i64.wrap ((i : Int) + 1) = i + 1 := wrap64 (by omega) (by omega)
  have hmi := hm l[i] (List.getElem_mem hil)
  have hfs := fs i hil
  obtain ⟨m, hmm⟩ : ∃ m, l[i] = m := ⟨_, rfl⟩
  rw [hmm] at hmi hfs
  obtain ⟨m1, m2, m3, m4⟩ := m
  simp only [mgT1] at hmi hfs
  have wm : IntKind.i64.wrap (-m4) = -m4 := wrap64 (by omega) (by omega)
  refine IWp.now ?_
  by_cases d1 : m2 = a
  ·by_cases d2 : m3 = b
   ·rw [if_pos ⟨d1, d2⟩] at hfs
    simp [go_sem, hil, hmm, d1, d2, wi]
    exact ⟨i + 1, ⟨by rw [hfs], by omega⟩, by omega, by omega⟩
   ·have d3 : ¬ m2 = b := fun e => c5 (by rw [← d1, e])
    have d3' : ¬ a = b := c5
    rw [if_neg (fun h => d2 h.2), if_neg (fun h => d3 h.1)] at hfs
    simp [go_sem, hil, hmm, d1, d2, d3', wi]
    exact ⟨i + 1, ⟨by rw [hfs], by omega⟩, by omega, by omega⟩
  ·rw [if_neg (fun h => d1 h.1)] at hfs
   by_cases d3 : m2 = b
   ·by_cases d4 : m3 = a
    ·rw [if_pos ⟨d3, d4⟩] at hfs
     have d5 : ¬ b = a := fun e => c5 e.symm
     simp [go_sem, hil, hmm, d3, d4, d5, wi, wm]
     exact ⟨i + 1, ⟨by rw [hfs], by omega⟩, by omega, by omega⟩
    ·rw [if_neg (fun h => d4 h.2)] at hfs
     have d5 : ¬ b = a := fun e => c5 e.symm
     simp [go_sem, hil, hmm, d3, d4, d5, wi]
     exact ⟨i + 1, ⟨by rw [hfs], by omega⟩, by omega, by omega⟩
   ·rw [if_neg (fun h => d3 h.1)] at hfs
    simp [go_sem, hil, hmm, d1, d3, wi]
    exact ⟨i + 1, ⟨by rw [hfs], by omega⟩, by omega, by omega⟩
 obtain rfl : i = l.length := by omega
 rw [fl]
 have ecl : (if 100000 < (if mgT a b l < -100000 then -100000 else mgT a b l) then 100000 else if mgT a b l < -100000 then -100000 else mgT a b l) = clampM (mgT a b l) := rfl
 refine IWp.now ?_
 simp [go_sem]
 rw [hQ]
 simp [go_sem, ecl]
 generalize clampM (mgT a b l) = D at *
 generalize carryF f n D = q at *
 obtain ⟨⟨q1, q2⟩, q3⟩ := q
 simp only at hE ck
 refine ck.callF (by simp [go_sem]) ?_
 rintro _ rfl
 by_cases hq : q3 = 0
 ·rw [if_neg (by simp [hq])] at hE
  simp [go_sem, hq]
  exact fin _ _ _ hE (by simp [go_sem])
 ·rw [if_pos hq] at hE
  have hq2 : (q3 != 0) = true := by rw [bne_iff_ne]; exact hq
  simp [go_sem, hq, hq2]
  exact fin _ _ _ hE (by simp [go_sem])
end Go.Idl
