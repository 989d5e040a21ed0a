/-
  Package knock: whole, within, Carry.
  Package knock: what is carried forward of a small margin; frac.Add of small numbers.
-/
import Derived.Test.YtamffdgopknkfaaDoorC39PartZN
import Derived.Test.YtamffdgopknkfaaDoorC39PartZO
namespace Go.Idl
set_option linter.all false
open Go.Proofs
set_option maxHeartbeats 8000000
set_option maxRecDepth 40000

def whF (n : Int) : Frc := ⟨n, 1⟩
theorem whole38_fun (n : Int) : FN 78 [.int .i64 n] (fun v => v = (whF n).v) := by
  refine IFun.of_bodyZ false 3 [] Tryd.func78 rfl Tryd.call78 rfl fun R hR => ?_
  simp [go_sem]
  exact hR _ _ _ rfl (by simp [go_sem, Frc.v, whF])
theorem whF_right (n : Int) : rightB (whF n) = true := by simp [rightB, whF]
theorem whF_fit {n : Int} (h : -2 ^ 63 ≤ n ∧ n < 2 ^ 63) : FitF (whF n) := ⟨h, by simp [whF]⟩
def withinB (f : Frc) (lo hi : Int) : Bool := rightB f && decide (lo * f.den ≤ f.num) && decide (f.num ≤ hi * f.den)
theorem cmpI_whole (f : Frc) (n : Int) : cmpI f (whF n) = if f.num < n * f.den then -1 else if n * f.den < f.num then 1 else 0 := by simp [cmpI, whF]
theorem within38_fun (f : Frc) (lo hi : Int) (hf : FitF f) (hl : -2 ^ 63 ≤ lo ∧ lo < 2 ^ 63) (hh : -2 ^ 63 ≤ hi ∧ hi < 2 ^ 63) : FN 76 [f.v, .int .i64 lo, .int .i64 hi] (fun v => v = .bool (withinB f lo hi)) := by
  refine IFun.of_bodyW false 10 [22] Tryd.func76 rfl Tryd.call76 rfl fun R hR => ?_
  have c1 := cmpG_fun f (whF lo) hf (whF_fit hl)
  have c2 := cmpG_fun f (whF hi) hf (whF_fit hh)
  have v1 := whole38_fun lo
  have v2 := whole38_fun hi
  by_cases r : rightB f = true
  case neg =>
    have e : ∀ n, cmpR f (whF n) = (0, 2) := fun n => by unfold cmpR; rw [if_neg (fun h => r h.1)]
    have e2 : withinB f lo hi = false := by unfold withinB; simp [r]
    rw [e] at c1
    rw [e2] at hR
    simp only [Frc.v, whF] at *
    refine IWp.seqI ?_
    simp [go_sem]
    refine IWp.seqI ?_
    refine Drawn.intro (fun k => if k = 2 then .agg [.int .i64 lo, .int .i64 1] else if k = 3 then .tup [.int .i64 0, .int .i64 2] else .tup []) ?_
    simp [go_sem, v1, c1]
    refine ⟨by decide +kernel, ?_⟩
    refine IWp.seqI ?_
    simp [go_sem]
    exact hR _ _ _ rfl (by simp [go_sem])
  have e : ∀ n, cmpR f (whF n) = (cmpI f (whF n), 0) := fun n => by unfold cmpR; rw [if_pos ⟨r, whF_right n⟩]
  have e2 : withinB f lo hi = (decide (lo * f.den ≤ f.num) && decide (f.num ≤ hi * f.den)) := by unfold withinB; rw [r]; simp
  rw [e] at c1 c2
  rw [e2] at hR
  have k1 := cmpI_whole f lo
  have k2 := cmpI_whole f hi
  generalize cmpI f (whF lo) = X at *
  generalize cmpI f (whF hi) = Y at *
  generalize lo * f.den = A at *
  generalize hi * f.den = B at *
  obtain ⟨u, w⟩ := f
  simp only [Frc.v, whF] at *
  refine IWp.seqI ?_
  simp [go_sem]
  refine IWp.seqI ?_
  refine Drawn.intro (fun k => if k = 2 then .agg [.int .i64 lo, .int .i64 1] else if k = 3 then .tup [.int .i64 X, .int .i64 0] else .tup []) ?_
  simp [go_sem, v1, c1]
  refine ⟨by decide +kernel, ?_⟩
  by_cases h1 : A ≤ u
  · have hX : ¬ X < 0 := by rw [k1]; split <;> (try split) <;> omega
    refine IWp.seqI ?_
    simp [go_sem, hX]
    refine IWp.seqI ?_
    refine Drawn.intro (fun k => if k = 2 then .agg [.int .i64 hi, .int .i64 1] else if k = 3 then .tup [.int .i64 Y, .int .i64 0] else .tup []) ?_
    simp [go_sem, v2, c2]
    refine ⟨by decide +kernel, ?_⟩
    have hY : (Y ≤ 0) ↔ u ≤ B := by rw [k2]; split <;> (try split) <;> omega
    refine IWp.now ?_
    simp [go_sem]
    exact hR _ _ _ rfl (by simp [go_sem, h1, hY])
  · have hX : X < 0 := by rw [k1, if_pos (by omega)]; decide
    refine IWp.seqI ?_
    simp [go_sem, hX]
    exact hR _ _ _ rfl (by simp [go_sem, h1])
theorem packF_cases (m : Bool) (n d : Nat) : packF m n d = (⟨0, 0⟩, 3) ∨ (packF m n d = (⟨if m = true then -(n : Int) else n, d⟩, 0) ∧ (if m = true then n ≤ 9223372036854775808 else n ≤ 9223372036854775807) ∧ d ≤ 9223372036854775807) := by
  unfold packF
  by_cases h : (if m = true then 9223372036854775808 else 9223372036854775807) < n ∨ 9223372036854775807 < d
  · rw [if_pos h]; exact .inl rfl
  · rw [if_neg h]; refine .inr ⟨rfl, ?_, by omega⟩
    cases m <;> simp at h ⊢ <;> omega
theorem packF_fit (m : Bool) (n d : Nat) : FitF (packF m n d).1 := by
  rcases packF_cases m n d with h | ⟨h, h1, h2⟩
  · rw [h]; simp [FitF]
  · rw [h]; unfold FitF; cases m <;> simp at h1 ⊢ <;> omega
theorem mulF_fit (f g : Frc) : FitF (mulF f g).1 := by
  unfold mulF redF
  split
  · exact packF_fit _ _ _
  · simp [FitF]
/-- What is carried forward. -/
def carryF (p : Frc) (m d : Int) : Frc × Int :=
  if withinB p 0 1 = false ∨ m < 0 ∨ 100000 < m ∨ d < -100000 ∨ 100000 < d then (⟨0, 0⟩, 2)
  else if (mulF p (whF d)).2 ≠ 0 then (⟨0, 0⟩, 3)
  else if withinB (mulF p (whF d)).1 (-m) m = true then ((mulF p (whF d)).1, 0)
  else if d < 0 then (whF (-m), 0) else (whF m, 0)
theorem carry38_fun (p : Frc) (m d : Int) (hp : FitF p) (hm : -2 ^ 63 ≤ m ∧ m < 2 ^ 63) (hd : -2 ^ 63 ≤ d ∧ d < 2 ^ 63) : FN 59 [p.v, .int .i64 m, .int .i64 d] (fun v => v = .tup [(carryF p m d).1.v, .int .i64 (carryF p m d).2]) := by
  refine IFun.of_bodyW false 10 [33, 42, 46, 53] Tryd.func59 rfl Tryd.call59 rfl fun R hR => ?_
  have cr := right_fun p hp.1 hp.2
  have cw := within38_fun p 0 1 hp (by decide) (by decide)
  by_cases h1 : withinB p 0 1 = false ∨ m < 0 ∨ 100000 < m ∨ d < -100000 ∨ 100000 < d
  · have e : carryF p m d = (⟨0, 0⟩, 2) := by unfold carryF; rw [if_pos h1]
    rw [e] at hR
    have hrw : rightB p = false → withinB p 0 1 = false := fun h => by unfold withinB; rw [h]; rfl
    generalize withinB p 0 1 = W at *
    generalize rightB p = Rg at *
    simp only [Frc.v] at *
    refine IWp.seqI ?_
    simp [go_sem]
    refine IWp.seqI ?_
    simp [go_sem]
    refine cr.callF (by simp [go_sem]) ?_
    rintro _ rfl
    cases Rg with
    | false =>
      simp [go_sem]
      exact hR _ _ _ rfl (by simp [go_sem])
    | true =>
      simp [go_sem]
      refine cw.callF (by simp [go_sem]) ?_
      rintro _ rfl
      cases W with
      | false =>
        simp [go_sem]
        exact hR _ _ _ rfl (by simp [go_sem])
      | true =>
        by_cases a1 : m < 0
        · simp [go_sem, a1]
          exact hR _ _ _ rfl (by simp [go_sem])
        · by_cases a2 : 100000 < m
          · simp [go_sem, a1, a2]
            exact hR _ _ _ rfl (by simp [go_sem])
          · by_cases a3 : d < -100000
            · simp [go_sem, a1, a2, a3]
              exact hR _ _ _ rfl (by simp [go_sem])
            · have a4 : 100000 < d := by
                rcases h1 with h | h | h | h | h
                · cases h
                all_goals omega
              simp [go_sem, a1, a2, a3, a4]
              exact hR _ _ _ rfl (by simp [go_sem])
  have e : carryF p m d = if (mulF p (whF d)).2 ≠ 0 then (⟨0, 0⟩, 3) else if withinB (mulF p (whF d)).1 (-m) m = true then ((mulF p (whF d)).1, 0) else if d < 0 then (whF (-m), 0) else (whF m, 0) := by unfold carryF; rw [if_neg h1]
  have hW : withinB p 0 1 = true := by
    cases h : withinB p 0 1 with
    | true => rfl
    | false => exact absurd (.inl h) h1
  have hRt : rightB p = true := by
    cases h : rightB p with
    | true => rfl
    | false => unfold withinB at hW; rw [h] at hW; cases hW
  rw [hW] at cw
  rw [hRt] at cr
  have a1 : ¬ m < 0 := fun h => h1 (.inr (.inl h))
  have a2 : ¬ 100000 < m := fun h => h1 (.inr (.inr (.inl h)))
  have a3 : ¬ d < -100000 := fun h => h1 (.inr (.inr (.inr (.inl h))))
  have a4 : ¬ 100000 < d := fun h => h1 (.inr (.inr (.inr (.inr h))))
  have cm := mulF_fun p (whF d) hp (whF_fit hd)
  have c2 := within38_fun (mulF p (whF d)).1 (-m) m (mulF_fit _ _) (by omega) hm
  have v1 := whole38_fun d
  have v2 := whole38_fun m
  have v3 := whole38_fun (-m)
  have wm : IntKind.i64.wrap (-m) = -m := wrap64 (by omega) (by omega)
  generalize withinB (mulF p (whF d)).1 (-m) m = W at *
  generalize mulF p (whF d) = F at *
  obtain ⟨⟨fn, fd⟩, fe⟩ := F
  simp only [Frc.v, whF] at *
  rw [e] at hR
  refine IWp.seqI ?_
  simp [go_sem]
  refine IWp.seqI ?_
  simp [go_sem]
  refine cr.callF (by simp [go_sem]) ?_
  rintro _ rfl
  simp [go_sem]
  refine cw.callF (by simp [go_sem]) ?_
  rintro _ rfl
  simp [go_sem, a1, a2, a3, a4]
  refine IWp.seqI ?_
  refine Drawn.intro (fun k => if k = 2 then .agg [.int .i64 d, .int .i64 1] else if k = 3 then .tup [.agg [.int .i64 fn, .int .i64 fd], .int .i64 fe] else .tup []) ?_
  simp [go_sem, v1, cm]
  refine ⟨by decide +kernel, ?_⟩
  refine IWp.seqI ?_
  by_cases he : fe = 0
  case neg =>
    rw [if_pos he] at hR
    simp [go_sem, he]
    exact hR _ _ _ rfl (by simp [go_sem])
  rw [if_neg (by simp [he])] at hR
  subst he
  simp [go_sem, wm]
  refine c2.callF (by simp [go_sem]) ?_
  rintro _ rfl
  cases W with
  | true =>
    simp [go_sem]
    exact hR _ _ _ rfl (by simp [go_sem])
  | false =>
    by_cases hd0 : d < 0
    · rw [if_pos hd0] at hR
      simp [go_sem, hd0, wm]
      refine v3.callF (by simp [go_sem]) ?_
      rintro _ rfl
      simp [go_sem]
      exact hR _ _ _ rfl (by simp [go_sem])
    · rw [if_neg hd0] at hR
      simp [go_sem, hd0]
      refine IWp.now ?_
      simp [go_sem]
      refine v2.callF (by simp [go_sem]) ?_
      rintro _ rfl
      simp [go_sem]
      exact hR _ _ _ rfl (by simp [go_sem])
end Go.Idl
namespace Go.Idl
set_option linter.all false
open Go.Proofs
set_option maxHeartbeats 8000000
set_option maxRecDepth 40000

/-- A number of eighths, at most M. -/
def clM (M u : Int) : Int := if 8 * M < u then 8 * M else if u < -(8 * M) then -(8 * M) else u
theorem clM_neg {M u : Int} (h : 0 ≤ M) : clM M (-u) = -clM M u := by unfold clM; split <;> split <;> (try split) <;> omega
theorem clM_bd {M u : Int} (h : 0 ≤ M) : -(8 * M) ≤ clM M u ∧ clM M u ≤ 8 * M := by unfold clM; split <;> (try split) <;> omega
theorem whF_low (n : Int) : whF n = lowF (8 * n) 8 := (low_of (g := 8) (a := n) (b := 1) (by decide) (by decide) rfl rfl (by simp)).symm
theorem packF_zero (m m' : Bool) (D : Nat) : packF m 0 D = packF m' 0 D := by unfold packF; cases m <;> cases m' <;> simp
/-- A fraction in lowest terms of eighths: its place among whole numbers. -/
theorem low_cmp (u M : Int) : (M * (lowF u 8).den ≤ (lowF u 8).num ↔ 8 * M ≤ u) ∧ ((lowF u 8).num ≤ M * (lowF u 8).den ↔ u ≤ 8 * M) := by
  obtain ⟨g, a, b, h1, h2, h3, h4, h5, h6⟩ := low_ex u (d := 8) (by decide)
  rw [h6]
  simp only
  have e1 : 8 * M = (g : Int) * (M * b) := by
    rw [show (8 : Int) = ((8 : Nat) : Int) from rfl, h4, Int.natCast_mul, Int.mul_assoc]; congr 1; exact Int.mul_comm _ _
  have hg : (0 : Int) < g := by omega
  rw [e1, h3]
  exact ⟨⟨fun h => Int.mul_le_mul_of_nonneg_left h (by omega), fun h => Int.le_of_mul_le_mul_left h hg⟩, ⟨fun h => Int.mul_le_mul_of_nonneg_left h (by omega), fun h => Int.le_of_mul_le_mul_left h hg⟩⟩
theorem low_right (u : Int) : rightB (lowF u 8) = true := by
  obtain ⟨g, a, b, h1, h2, h3, h4, h5, h6⟩ := low_ex u (d := 8) (by decide)
  rw [h6]
  unfold rightB
  simp [h2, h5]
theorem low_within (u lo hi : Int) : withinB (lowF u 8) lo hi = (decide (8 * lo ≤ u) && decide (u ≤ 8 * hi)) := by
  unfold withinB
  rw [low_right, Bool.true_and]
  congr 1
  · exact decide_eq_decide.2 (low_cmp u lo).1
  · exact decide_eq_decide.2 (low_cmp u hi).2
theorem cmpI_low (u M : Int) : cmpI (lowF u 8) (whF M) = if u < 8 * M then -1 else if 8 * M < u then 1 else 0 := by
  have h := low_cmp u M
  rw [cmpI_whole]
  by_cases c1 : u < 8 * M
  · rw [if_pos c1, if_pos (by have := h.1; omega)]
  · rw [if_neg c1, if_neg (by have := h.1; omega)]
    by_cases c2 : 8 * M < u
    · rw [if_pos c2, if_pos (by have := h.2; omega)]
    · rw [if_neg c2, if_neg (by have := h.2; omega)]
theorem cmpR_low (u M : Int) : cmpR (lowF u 8) (whF M) = (if u < 8 * M then -1 else if 8 * M < u then 1 else 0, 0) := by
  unfold cmpR
  rw [if_pos ⟨low_right u, whF_right M⟩, cmpI_low]
theorem mulF_low (k d : Int) (hk : 0 ≤ k) (hb : -2 ^ 63 < k * d ∧ k * d < 2 ^ 63) : mulF (lowF k 8) (whF d) = (lowF (k * d) 8, 0) := by
  have hr := low_right k
  obtain ⟨g, a, b, h1, h2, h3, h4, h5, h6⟩ := low_ex k (d := 8) (by decide)
  have ha : 0 ≤ a := by
    apply Decidable.byContradiction
    intro hc
    have := Int.mul_neg_of_pos_of_neg (show (0 : Int) < g by omega) (show a < 0 by omega)
    omega
  unfold mulF
  rw [if_pos ⟨hr, whF_right d⟩]
  have e2 : k * d = (g : Int) * (a * d) := by rw [h3, Int.mul_assoc]
  have e1 : lowF (k * d) 8 = lowF (a * d) b := by
    rw [e2, show (8 : Nat) = g * b from h4, low_scale h1 h2]
  have hb2 : b ≤ 8 := by rw [h4]; exact Nat.le_mul_of_pos_left _ h1
  have hab : -2 ^ 63 < a * d ∧ a * d < 2 ^ 63 := by
    rw [e2] at hb
    generalize a * d = z at *
    have hg1 : (1 : Int) ≤ g := by omega
    rcases Int.le_total 0 z with hz | hz
    · have := Int.mul_le_mul_of_nonneg_right hg1 hz
      omega
    · have := Int.mul_le_mul_of_nonneg_right hg1 (show 0 ≤ -z by omega)
      simp only [Int.mul_neg, Int.one_mul] at this
      omega
  rw [e1, ← mk_low h2 (by omega) hab, h6]
  unfold mkF redF whF
  rw [if_neg (by omega)]
  simp only [Int.natAbs_natCast, Int.natAbs_one, Nat.mul_one, Int.natAbs_mul]
  have hd1 : decide (a < 0) = false := by simp; omega
  have hd2 : decide ((b : Int) < 0) = false := by simp
  rw [hd1, hd2]
  by_cases ha0 : a = 0
  · subst ha0
    simp only [Int.natAbs_zero, Nat.zero_mul, Nat.zero_div]
    exact packF_zero _ _ _
  · have hd3 : decide (d < 0) = decide (a * d < 0) := by
      apply decide_eq_decide.2
      have ha1 : 0 < a := by omega
      constructor
      · intro h; exact Int.mul_neg_of_pos_of_neg ha1 h
      · intro h
        apply Decidable.byContradiction
        intro hc
        have := Int.mul_nonneg ha (show 0 ≤ d by omega)
        omega
    rw [hd3]
    simp
theorem carryF_low (k M d : Int) (hk : 0 ≤ k ∧ k ≤ 8) (hM : 0 ≤ M ∧ M ≤ 100000) (hd : -100000 ≤ d ∧ d ≤ 100000) : carryF (lowF k 8) M d = (lowF (clM M (k * d)) 8, 0) := by
  have hkd : -800000 ≤ k * d ∧ k * d ≤ 800000 ∧ (0 < k * d → 0 < d) ∧ (k * d < 0 → d < 0) := by
    refine ⟨?_, ?_, fun h => ?_, fun h => ?_⟩
    · have h1 := Int.mul_le_mul_of_nonneg_left (a := -100000) (b := d) (c := k) hd.1 hk.1
      have h2 := Int.mul_le_mul_of_nonneg_right (a := k) (b := 8) (c := 100000) hk.2 (by decide)
      omega
    · have h1 := Int.mul_le_mul_of_nonneg_left (a := d) (b := 100000) (c := k) hd.2 hk.1
      omega
    · apply Decidable.byContradiction
      intro hc
      have := Int.mul_nonneg hk.1 (show 0 ≤ -d by omega)
      rw [Int.mul_neg] at this; omega
    · apply Decidable.byContradiction
      intro hc
      have := Int.mul_nonneg hk.1 (show 0 ≤ d by omega)
      omega
  unfold carryF
  have hw : withinB (lowF k 8) 0 1 = true := by rw [low_within]; simp; omega
  rw [if_neg (by rw [hw]; simp; omega), mulF_low k d hk.1 (by omega)]
  simp only
  rw [if_neg (by simp), low_within]
  generalize k * d = u at *
  unfold clM
  by_cases c1 : 8 * M < u
  · rw [if_neg (by simp; omega), if_neg (by omega), if_pos c1, whF_low]
  · by_cases c2 : u < -(8 * M)
    · rw [if_neg (by simp; omega), if_pos (by omega), if_neg c1, if_pos c2, whF_low, show 8 * -M = -(8 * M) by omega]
    · rw [if_pos (by simp; omega), if_neg c1, if_neg c2]
theorem addL_fun (a b : Int) (ha : -2 ^ 30 ≤ a ∧ a ≤ 2 ^ 30) (hb : -2 ^ 30 ≤ b ∧ b ≤ 2 ^ 30) : FN 28 [(lowF a 8).v, (lowF b 8).v] (fun v => v = .tup [(lowF (a + b) 8).v, .int .i64 0]) := by
  refine IFun.of_bodyZ false 6 [13] Tryd.func28 rfl Tryd.call28 rfl fun R hR => ?_
  have s1 := low_sml (u := a) (N := 8) (by decide) (by decide) ha
  have s2 := low_sml (u := b) (N := 8) (by decide) (by decide) hb
  have c1 := right_fun (lowF a 8) (by have := s1.1; omega) (by have := s1.2.1; omega)
  have c2 := right_fun (lowF b 8) (by have := s2.1; omega) (by have := s2.2.1; omega)
  have ca := add_lows (a := a) (b := b) (N := 8) (by decide) (by decide) ha hb
  rw [low_right] at c1 c2
  generalize lowF a 8 = f at *
  generalize lowF b 8 = g at *
  generalize lowF (a + b) 8 = s at *
  simp only [Frc.v] at *
  simp [go_sem]
  refine c1.callF (by simp [go_sem]) ?_
  rintro _ rfl
  simp [go_sem]
  refine c2.callF (by simp [go_sem]) ?_
  rintro _ rfl
  simp [go_sem]
  refine ca.callF (by simp [go_sem]) ?_
  rintro _ rfl
  simp [go_sem]
  exact hR _ _ _ rfl (by simp [go_sem])
end Go.Idl
