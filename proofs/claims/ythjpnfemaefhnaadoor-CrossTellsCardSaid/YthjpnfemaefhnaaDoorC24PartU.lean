/-
  Digits: common, make0; the reference's Right, Make.
  The reference's Add and Sub of small fractions.
-/
import Derived.Test.YthjpnfemaefhnaaDoorC24PartT
import Derived.Test.YthjpnfemaefhnaaDoorC24PartO
namespace Go.Idl
set_option linter.all false
open Go.Proofs
set_option maxHeartbeats 8000000
set_option maxRecDepth 40000

theorem cl_ints2 {l m : List Int} : ∀ c ∈ [IV.fz 1 (ints l), IV.fz 1 (ints m)], Cl c := by
  intro c hc
  simp at hc
  rcases hc with rfl | rfl <;> exact cl_ints
theorem dl_pos_iff {n : Nat} : 0 < dl n ↔ 0 < n := by rw [lt_dl, Nat.pow_zero]; exact Iff.rfl
theorem common_fun (a b : Nat) (ha : dl a < 2 ^ 20) (hb : dl b < 2 ^ 20) : ON 77 [.fz 1 (ints (dg a)), .fz 1 (ints (dg b))] (fun v => v = .fz 1 (ints (dg (Nat.gcd a b)))) := by
  refine IFun.of_bodyZ false 7 [9] Tryd.func77 rfl Tryd.call77 rfl fun R hR => ?_
  simp [go_sem]
  refine IWp.loopT (α := Nat × Nat) (fun x => (⟨false, 19, 7, [9], glT, [(0, .fz 1 (ints (dg x.1))), (1, .fz 1 (ints (dg x.2)))], []⟩, []))
    (fun x => dl x.1 < 2 ^ 20 ∧ dl x.2 < 2 ^ 20 ∧ Nat.gcd x.1 x.2 = Nat.gcd a b) (fun x => x.2) (a, b) ⟨ha, hb, rfl⟩ (by simp [go_sem]) ?_
  rintro ⟨x, y⟩ ⟨hx, hy, hg⟩
  simp only at hx hy hg
  have hly : (dg y).length = dl y := by simp
  by_cases h : y = 0
  · subst h
    rw [Nat.gcd_zero_right] at hg
    rw [← hg] at hR
    obtain ⟨X, hX⟩ : ∃ X, dg x = X := ⟨_, rfl⟩
    rw [hX] at hR
    simp only [hX, dg_zero]
    simp [go_sem]
    exact hR _ _ _ rfl (by simp [go_sem])
  · have hy0 : 0 < dl y := dl_pos_iff.2 (by omega)
    have cd := div01_fun x y (by omega) hx hy
    have hr := Nat.mod_lt x (show 0 < y by omega)
    have hrl : dl (x % y) < 2 ^ 20 := by have := dl_mono (Nat.le_of_lt hr); omega
    have hgz : Nat.gcd y (x % y) = Nat.gcd a b := by rw [gcd_step, hg]
    have hy0' : (0 : Int) < dl y := by omega
    obtain ⟨X, hX⟩ : ∃ X, dg x = X := ⟨_, rfl⟩
    obtain ⟨Y, hY⟩ : ∃ Y, dg y = Y := ⟨_, rfl⟩
    obtain ⟨Z, hZ⟩ : ∃ Z, dg (x % y) = Z := ⟨_, rfl⟩
    obtain ⟨W, hW⟩ : ∃ W, dg (x / y) = W := ⟨_, rfl⟩
    rw [hX, hY, hZ, hW] at cd
    rw [hY] at hly
    rw [hX, hY]
    simp [go_sem, hly, hy0, hy0']
    refine cd.callM cl_ints2 ?_
    rintro _ rfl
    simp [go_sem]
    exact ⟨y, x % y, ⟨by rw [hY], by rw [hZ]⟩, ⟨hy, hrl, hgz⟩, hr⟩
/-- A fraction in lowest terms, with a sign. -/
def redF (m : Bool) (N D : Nat) : Frc × Int := packF m (N / Nat.gcd N D) (D / Nat.gcd N D)
theorem pack_num (m : Bool) (a b : Nat) : packF m a b = if (numI (m && decide (0 < a)) a).2 = true ∧ (numI false b).2 = true then (⟨(numI (m && decide (0 < a)) a).1, (numI false b).1⟩, 0) else (⟨0, 0⟩, 3) := by
  unfold packF numI
  by_cases ha : 0 < a
  · cases m
    · simp only [ha, decide_true, Bool.and_true, Bool.false_eq_true, if_false, true_and]
      split <;> split <;> split <;> simp_all <;> omega
    · simp only [ha, decide_true, Bool.and_true, if_true, true_and, Bool.true_eq_false, false_and, or_false]
      split <;> split <;> split <;> simp_all <;> omega
  · have h0 : a = 0 := by omega
    subst h0
    cases m
    · simp; split <;> split <;> simp_all <;> omega
    · simp; split <;> split <;> simp_all <;> omega
theorem make0_fun (m : Bool) (N D : Nat) (hD : 0 < D) (hN : dl N < 2 ^ 20) (hDl : dl D < 2 ^ 20) : FN 58 [.bool m, .fz 1 (ints (dg N)), .fz 1 (ints (dg D))] (fun v => v = .tup [(redF m N D).1.v, .int .i64 (redF m N D).2]) := by
  refine IFun.of_bodyW false 17 [53] Tryd.func58 rfl Tryd.call58 rfl fun R hR => ?_
  have hg0 : 0 < Nat.gcd N D := Nat.gcd_pos_of_pos_right _ hD
  have hgD : Nat.gcd N D ≤ D := Nat.gcd_le_right _ hD
  have c1 := common_fun N D hN hDl
  have hgl : dl (Nat.gcd N D) < 2 ^ 20 := by have := dl_mono hgD; omega
  have c2 := div01_fun N (Nat.gcd N D) hg0 hN hgl
  have c3 := div01_fun D (Nat.gcd N D) hg0 hDl hgl
  have e : redF m N D = packF m (N / Nat.gcd N D) (D / Nat.gcd N D) := rfl
  have ha := Nat.div_le_self N (Nat.gcd N D)
  have hb := Nat.div_le_self D (Nat.gcd N D)
  rw [pack_num] at e
  rw [e] at hR
  obtain ⟨a, hae⟩ : ∃ a, N / Nat.gcd N D = a := ⟨_, rfl⟩
  obtain ⟨b, hbe⟩ : ∃ b, D / Nat.gcd N D = b := ⟨_, rfl⟩
  rw [hae] at ha c2 hR
  rw [hbe] at hb c3 hR
  generalize Nat.gcd N D = g at *
  have c4 := number_fun (m && decide (0 < a)) a (by have := dl_mono ha; omega)
  have c5 := number_fun false b (by have := dl_mono hb; omega)
  have hla : (dg a).length = dl a := by simp
  have hla2 : decide (0 < dl a) = decide (0 < a) := by rw [decide_eq_decide]; exact dl_pos_iff
  obtain ⟨LN, hLN⟩ : ∃ L, dg N = L := ⟨_, rfl⟩
  obtain ⟨LD, hLD⟩ : ∃ L, dg D = L := ⟨_, rfl⟩
  obtain ⟨LG, hLG⟩ : ∃ L, dg g = L := ⟨_, rfl⟩
  obtain ⟨LA, hLA⟩ : ∃ L, dg a = L := ⟨_, rfl⟩
  obtain ⟨LB, hLB⟩ : ∃ L, dg b = L := ⟨_, rfl⟩
  rw [hLN, hLD, hLG] at c1
  rw [hLN, hLG, hLA] at c2
  rw [hLD, hLG, hLB] at c3
  rw [hLA] at c4 hla
  rw [hLB] at c5
  rw [hLN, hLD]
  generalize dg (N % g) = R1 at *
  generalize dg (D % g) = R2 at *
  refine IWp.seqI ?_
  simp [go_sem]
  refine IWp.seqI ?_
  simp [go_sem]
  refine c1.callM cl_ints2 ?_
  rintro _ rfl
  simp [go_sem]
  refine IWp.seqI ?_
  simp [go_sem]
  refine c2.callM cl_ints2 ?_
  rintro _ rfl
  simp [go_sem]
  refine IWp.seqI ?_
  simp [go_sem]
  refine c3.callM cl_ints2 ?_
  rintro _ rfl
  simp [go_sem]
  generalize numI (m && decide (0 < a)) a = p at *
  generalize numI false b = q at *
  obtain ⟨p1, p2⟩ := p
  obtain ⟨q1, q2⟩ := q
  rw [← hla2] at c4
  refine IWp.seqI ?_
  simp [go_sem, hla]
  refine c4.callF (by simp [go_sem]) ?_
  rintro _ rfl
  simp [go_sem]
  refine IWp.seqI ?_
  simp [go_sem]
  refine c5.callF (by simp [go_sem]) ?_
  rintro _ rfl
  simp [go_sem]
  refine IWp.seqI ?_
  cases p2 with
  | false =>
    simp [go_sem]
    exact hR _ _ _ rfl (by simp [go_sem, Frc.v])
  | true =>
    cases q2 with
    | false =>
      simp [go_sem]
      exact hR _ _ _ rfl (by simp [go_sem, Frc.v])
    | true =>
      simp [go_sem]
      refine IWp.now ?_
      simp [go_sem]
      exact hR _ _ _ rfl (by simp [go_sem, Frc.v])
theorem right01_fun (f : Frc) (hn : -2 ^ 63 ≤ f.num ∧ f.num < 2 ^ 63) (hd : -2 ^ 63 ≤ f.den ∧ f.den < 2 ^ 63) : FN 61 [f.v] (fun v => v = .bool (rightB f)) := by
  refine IFun.of_bodyW false 4 [6] Tryd.func61 rfl Tryd.call61 rfl fun R hR => ?_
  by_cases h0 : f.den < 1
  · have e : rightB f = false := by unfold rightB; simp; omega
    rw [e] at hR
    simp only [Frc.v]
    refine IWp.seqI ?_
    simp [go_sem]
    refine IWp.seqI ?_
    simp [go_sem, h0]
    exact hR _ _ _ rfl (by simp [go_sem])
  have hl4 : ∀ x : Int, -2 ^ 63 ≤ x ∧ x < 2 ^ 63 → dl x.natAbs < 2 ^ 20 := fun x hx => by
    have : dl x.natAbs ≤ 4 := (dl_le _ 4).2 (by omega)
    omega
  have c1 := whole_fun f.num hn
  have c2 := whole_fun f.den hd
  have c3 := common_fun f.num.natAbs f.den.natAbs (hl4 _ hn) (hl4 _ hd)
  have hg0 : Nat.gcd f.num.natAbs f.den.natAbs ≠ 0 := by
    have := Nat.gcd_pos_of_pos_right f.num.natAbs (show 0 < f.den.natAbs by omega)
    omega
  have e : rightB f = (Nat.gcd f.num.natAbs f.den.natAbs == 1) := by unfold rightB; simp; omega
  rw [e] at hR
  rw [dg_cons hg0] at c3
  generalize Nat.gcd f.num.natAbs f.den.natAbs = g at *
  obtain ⟨n, d⟩ := f
  simp only [Frc.v] at *
  obtain ⟨LN, hLN⟩ : ∃ L, dg n.natAbs = L := ⟨_, rfl⟩
  obtain ⟨LD, hLD⟩ : ∃ L, dg d.natAbs = L := ⟨_, rfl⟩
  obtain ⟨LG, hLG⟩ : ∃ L, dg (g / 65536) = L := ⟨_, rfl⟩
  rw [hLN] at c1
  rw [hLD] at c2
  rw [hLN, hLD, hLG] at c3
  have hlG : LG.length = dl (g / 65536) := by rw [← hLG]; simp
  have hGe : (LG = [] ∧ ((g % 65536 : Nat) : Int) = 1) ↔ g = 1 := by
    constructor
    · rintro ⟨h1, h2⟩
      have : ¬ 0 < g / 65536 := fun h => by have := dl_pos_iff.2 h; rw [h1] at hlG; simp at hlG; omega
      omega
    · intro h
      subst h
      refine ⟨?_, by decide⟩
      rw [← hLG]; exact dg_zero
  obtain ⟨x, hx⟩ : ∃ x, ((g % 65536 : Nat) : Int) = x := ⟨_, rfl⟩
  rw [hx] at c3 hGe
  simp only [ints_cons] at c3
  refine IWp.seqI ?_
  simp [go_sem]
  refine IWp.seqI ?_
  simp [go_sem, h0]
  refine IWp.seqI ?_
  simp [go_sem]
  refine Drawn.intro (fun k => if k = 2 then .fz 1 (ints LN) else if k = 5 then .fz 1 (ints LD) else if k = 6 then .fz 1 ([.int .i64 x] :: ints LG) else .tup []) ?_
  simp [go_sem, c1, c2, c3]
  refine ⟨by decide +kernel, ?_⟩
  refine IWp.now ?_
  cases LG with
  | nil =>
    by_cases h1 : x = 1
    · have hg1 := hGe.1 ⟨rfl, h1⟩
      simp [go_sem, h1]
      exact hR _ _ _ rfl (by simp [go_sem, hg1])
    · have hg1 : ¬ g = 1 := fun h => h1 (hGe.2 h).2
      have bx : (x == 1) = false := by simpa using h1
      have bg : (g == 1) = false := by simpa using hg1
      simp [go_sem, h1]
      exact hR _ _ _ rfl (by simp [go_sem, bx, bg])
  | cons y L =>
    have hg1 : ¬ g = 1 := fun h => by have := (hGe.2 h).1; cases this
    have hl2 : ¬ (L.length : Int) + 1 + 1 = 1 := by omega
    have bl : ((L.length : Int) + 1 + 1 == 1) = false := by simpa using hl2
    have bg : (g == 1) = false := by simpa using hg1
    simp [go_sem, ints_cons, hl2]
    exact hR _ _ _ rfl (by simp [go_sem, bl, bg])
theorem redF_mk (n d : Int) (hd : d ≠ 0) : redF (decide (n < 0 ∧ 0 < d ∨ 0 < n ∧ d < 0)) n.natAbs d.natAbs = mkF n d := by
  unfold redF mkF
  rw [if_neg hd]
  by_cases hn : n = 0
  · subst hn
    simp
    unfold packF
    rcases Int.lt_or_le d 0 with h | h <;> simp [h]
    all_goals (have : ¬ d < 0 ∨ d < 0 := by omega); simp
  · congr 1
    rcases Int.lt_or_le d 0 with h | h <;> rcases Int.lt_or_le n 0 with h2 | h2
    · rw [decide_eq_false (show ¬ (n < 0 ∧ 0 < d ∨ 0 < n ∧ d < 0) by omega), decide_eq_true h, decide_eq_true h2]; rfl
    · rw [decide_eq_true (show (n < 0 ∧ 0 < d ∨ 0 < n ∧ d < 0) by omega), decide_eq_true h, decide_eq_false (show ¬ n < 0 by omega)]; rfl
    · rw [decide_eq_true (show (n < 0 ∧ 0 < d ∨ 0 < n ∧ d < 0) by omega), decide_eq_true h2, decide_eq_false (show ¬ d < 0 by omega)]; rfl
    · rw [decide_eq_false (show ¬ (n < 0 ∧ 0 < d ∨ 0 < n ∧ d < 0) by omega), decide_eq_false (show ¬ d < 0 by omega), decide_eq_false (show ¬ n < 0 by omega)]; rfl
theorem make01_fun (n d : Int) (hn : -2 ^ 63 ≤ n ∧ n < 2 ^ 63) (hd : -2 ^ 63 ≤ d ∧ d < 2 ^ 63) : FN 46 [.int .i64 n, .int .i64 d] (fun v => v = .tup [(mkF n d).1.v, .int .i64 (mkF n d).2]) := by
  refine IFun.of_bodyW false 6 [7] Tryd.func46 rfl Tryd.call46 rfl fun R hR => ?_
  have hl4 : ∀ x : Int, -2 ^ 63 ≤ x ∧ x < 2 ^ 63 → dl x.natAbs < 2 ^ 20 := fun x hx => by
    have : dl x.natAbs ≤ 4 := (dl_le _ 4).2 (by omega)
    omega
  by_cases h0 : d = 0
  · subst h0
    have e : mkF n 0 = (⟨0, 0⟩, 2) := by unfold mkF; rw [if_pos rfl]
    rw [e] at hR
    refine IWp.seqI ?_
    simp [go_sem]
    refine IWp.seqI ?_
    simp [go_sem]
    exact hR _ _ _ rfl (by simp [go_sem, Frc.v])
  have c1 := whole_fun n hn
  have c2 := whole_fun d hd
  have c3 := make0_fun (decide (n < 0 ∧ 0 < d ∨ 0 < n ∧ d < 0)) n.natAbs d.natAbs (by omega) (hl4 _ hn) (hl4 _ hd)
  rw [redF_mk n d h0, show decide (n < 0 ∧ 0 < d ∨ 0 < n ∧ d < 0) = (decide (n < 0) && decide (0 < d) || decide (0 < n) && decide (d < 0)) by simp] at c3
  generalize mkF n d = F at *
  obtain ⟨LN, hLN⟩ : ∃ L, dg n.natAbs = L := ⟨_, rfl⟩
  obtain ⟨LD, hLD⟩ : ∃ L, dg d.natAbs = L := ⟨_, rfl⟩
  rw [hLN] at c1 c3
  rw [hLD] at c2 c3
  refine IWp.seqI ?_
  simp [go_sem]
  refine IWp.seqI ?_
  simp [go_sem, h0]
  refine IWp.now ?_
  simp [go_sem]
  refine ⟨by omega, by omega, ?_⟩
  refine c1.callF (by simp [go_sem]) ?_
  rintro _ rfl
  simp [go_sem]
  refine c2.callF (by simp [go_sem]) ?_
  rintro _ rfl
  simp [go_sem]
  refine c3.callF (by simp [go_sem]) ?_
  rintro _ rfl
  simp [go_sem, Frc.v]
  exact hR _ _ _ rfl (by simp [go_sem, Frc.v])
end Go.Idl
namespace Go.Idl
set_option linter.all false
open Go.Proofs
set_option maxHeartbeats 8000000
set_option maxRecDepth 40000

theorem red_low (m : Bool) {N D : Nat} (hD : 0 < D) (hN : N < 2 ^ 62) (hD2 : D < 2 ^ 62) : redF m N D = (lowF (if m = true then -(N : Int) else N) D, 0) := by
  have hg0 : 0 < Nat.gcd N D := Nat.gcd_pos_of_pos_right _ hD
  have h1 := Nat.div_le_self N (Nat.gcd N D)
  have h2 := Nat.div_le_self D (Nat.gcd N D)
  obtain ⟨x, hx⟩ := Nat.gcd_dvd_left N D
  have e1 : (if m = true then -(N : Int) else N).natAbs = N := by split <;> omega
  unfold redF packF lowF
  rw [e1, if_neg (by split <;> omega)]
  have e2 : N / Nat.gcd N D = x := by
    conv => lhs; lhs; rw [hx]
    exact Nat.mul_div_cancel_left _ hg0
  have e3 : (if m = true then -(N : Int) else N) / (Nat.gcd N D : Nat) = if m = true then -(x : Int) else x := by
    have hxI : (N : Int) = (Nat.gcd N D : Nat) * (x : Int) := by rw [← Int.natCast_mul, ← hx]
    split
    · rw [hxI, ← Int.mul_neg, Int.mul_ediv_cancel_left _ (by omega)]
    · conv => lhs; lhs; rw [hxI]
      exact Int.mul_ediv_cancel_left _ (by omega)
  rw [e2, e3]
theorem dl_small {n : Nat} (h : n < 2 ^ 64) : dl n < 2 ^ 20 := by
  have : dl n ≤ 4 := (dl_le _ 4).2 (by omega)
  omega
theorem sum01_fun (f : Frc) (m : Bool) (s : Int) (q : Nat) (hf : Sml f) (hs : s.natAbs ≤ 2 ^ 30) (hq : 0 < q ∧ q ≤ 2 ^ 30) (hm : m = true → s ≤ 0) (hm' : m = false → 0 ≤ s) :
    FN 62 [f.v, .bool m, .fz 1 (ints (dg s.natAbs)), .fz 1 (ints (dg q))] (fun v => v = .tup [(lowF (f.num * q + s * f.den) (f.den.natAbs * q)).v, .int .i64 0]) := by
  refine IFun.of_bodyW false 13 [32, 43] Tryd.func62 rfl Tryd.call62 rfl fun R hR => ?_
  obtain ⟨hf1, hf2, hf3⟩ := hf
  obtain ⟨u, fd⟩ := f
  simp only at hf1 hf2
  obtain ⟨F, hF⟩ : ∃ F : Nat, fd = F := ⟨fd.natAbs, by omega⟩
  subst hF
  simp only [Int.natAbs_natCast] at hR
  have c1 := whole_fun u (by omega)
  have c2 := whole_fun F (by omega)
  rw [Int.natAbs_natCast] at c2
  have hX : u.natAbs * q ≤ 2 ^ 30 * 2 ^ 30 := Nat.mul_le_mul (by omega) (by omega)
  have hY : s.natAbs * F ≤ 2 ^ 30 * 2 ^ 30 := Nat.mul_le_mul (by omega) (by omega)
  have hZ : F * q ≤ 2 ^ 30 * 2 ^ 30 := Nat.mul_le_mul (by omega) (by omega)
  have hZ0 : 0 < F * q := Nat.mul_pos (by omega) (by omega)
  have m1 := mul01_fun u.natAbs q (dl_small (by omega)) (dl_small (by omega))
  have m2 := mul01_fun s.natAbs F (dl_small (by omega)) (dl_small (by omega))
  have m3 := mul01_fun F q (dl_small (by omega)) (dl_small (by omega))
  have tX : u * (q : Int) = if u < 0 then -((u.natAbs * q : Nat) : Int) else ((u.natAbs * q : Nat) : Int) := by
    rw [Int.natCast_mul]
    split
    · rw [show (u.natAbs : Int) = -u by omega, Int.neg_mul]; omega
    · rw [show (u.natAbs : Int) = u by omega]
  have tY : s * (F : Int) = if m = true then -((s.natAbs * F : Nat) : Int) else ((s.natAbs * F : Nat) : Int) := by
    rw [Int.natCast_mul]
    cases m with
    | true => rw [if_pos rfl, show (s.natAbs : Int) = -s by have := hm rfl; omega, Int.neg_mul]; omega
    | false => rw [if_neg (by simp), show (s.natAbs : Int) = s by have := hm' rfl; omega]
  rw [tX, tY] at hR
  generalize u.natAbs * q = X at *
  generalize s.natAbs * F = Y at *
  generalize F * q = Z at *
  have a1 := add01_fun X Y (by have := @dl_small X (by omega); omega) (by have := @dl_small Y (by omega); omega)
  have a2 := less_fun X Y (by have := @dl_small X (by omega); omega) (by have := @dl_small Y (by omega); omega)
  obtain ⟨LU, hLU⟩ : ∃ L, dg u.natAbs = L := ⟨_, rfl⟩
  obtain ⟨LF, hLF⟩ : ∃ L, dg F = L := ⟨_, rfl⟩
  obtain ⟨LQ, hLQ⟩ : ∃ L, dg q = L := ⟨_, rfl⟩
  obtain ⟨LP, hLP⟩ : ∃ L, dg s.natAbs = L := ⟨_, rfl⟩
  obtain ⟨LX, hLX⟩ : ∃ L, dg X = L := ⟨_, rfl⟩
  obtain ⟨LY, hLY⟩ : ∃ L, dg Y = L := ⟨_, rfl⟩
  obtain ⟨LZ, hLZ⟩ : ∃ L, dg Z = L := ⟨_, rfl⟩
  rw [hLU] at c1
  rw [hLF] at c2
  rw [hLU, hLQ, hLX] at m1
  rw [hLP, hLF, hLY] at m2
  rw [hLF, hLQ, hLZ] at m3
  rw [hLX, hLY] at a1 a2
  rw [hLP, hLQ]
  simp only [Frc.v]
  refine IWp.seqI ?_
  simp [go_sem]
  refine IWp.seqI ?_
  refine Drawn.intro (fun k => if k = 2 then .fz 1 (ints LU) else if k = 4 then .fz 1 (ints LX) else if k = 8 then .fz 1 (ints LF) else if k = 9 then .fz 1 (ints LY) else if k = 12 then .fz 1 (ints LF) else if k = 14 then .fz 1 (ints LZ) else .tup []) ?_
  simp [go_sem, c1, c2, m1, m2, m3]
  refine ⟨by decide +kernel, ?_⟩
  by_cases hsm : decide (u < 0) = m
  · have c5 := make0_fun m (X + Y) Z hZ0 (dl_small (by omega)) (dl_small (by omega))
    rw [red_low m hZ0 (by omega) (by omega), hLZ] at c5
    obtain ⟨LS, hLS⟩ : ∃ L, dg (X + Y) = L := ⟨_, rfl⟩
    rw [hLS] at a1 c5
    have hS : (if u < 0 then -(X : Int) else X) + (if m = true then -(Y : Int) else Y) = if m = true then -((X + Y : Nat) : Int) else ((X + Y : Nat) : Int) := by
      subst hsm
      by_cases h : u < 0 <;> simp [h] <;> omega
    rw [hS] at hR
    generalize lowF _ Z = E at *
    simp only [Frc.v] at c5
    refine IWp.seqI ?_
    simp [go_sem, hsm]
    refine a1.callF (by simp [go_sem]) ?_
    rintro _ rfl
    simp [go_sem]
    refine c5.callF (by simp [go_sem]) ?_
    rintro _ rfl
    simp [go_sem]
    exact hR _ _ _ rfl (by simp [go_sem, Frc.v])
  refine IWp.seqI ?_
  simp [go_sem, hsm]
  refine IWp.seqI ?_
  simp [go_sem]
  refine a2.callF (by simp [go_sem]) ?_
  rintro _ rfl
  by_cases hxy : X < Y
  · have a3 := sub01_fun Y X (by omega) (by have := @dl_small Y (by omega); omega)
    have c5 := make0_fun m (Y - X) Z hZ0 (dl_small (by omega)) (dl_small (by omega))
    rw [red_low m hZ0 (by omega) (by omega), hLZ] at c5
    obtain ⟨LS, hLS⟩ : ∃ L, dg (Y - X) = L := ⟨_, rfl⟩
    rw [hLX, hLY, hLS] at a3
    rw [hLS] at c5
    have hS : (if u < 0 then -(X : Int) else X) + (if m = true then -(Y : Int) else Y) = if m = true then -((Y - X : Nat) : Int) else ((Y - X : Nat) : Int) := by
      cases m <;> by_cases h : u < 0 <;> simp [h] at hsm ⊢ <;> omega
    rw [hS] at hR
    generalize lowF _ Z = E at *
    simp only [Frc.v] at c5
    simp [go_sem, hxy]
    refine a3.callF (by simp [go_sem]) ?_
    rintro _ rfl
    simp [go_sem]
    refine c5.callF (by simp [go_sem]) ?_
    rintro _ rfl
    simp [go_sem]
    exact hR _ _ _ rfl (by simp [go_sem, Frc.v])
  · have a3 := sub01_fun X Y (by omega) (by have := @dl_small X (by omega); omega)
    have c5 := make0_fun (decide (u < 0)) (X - Y) Z hZ0 (dl_small (by omega)) (dl_small (by omega))
    rw [red_low _ hZ0 (by omega) (by omega), hLZ] at c5
    obtain ⟨LS, hLS⟩ : ∃ L, dg (X - Y) = L := ⟨_, rfl⟩
    rw [hLX, hLY, hLS] at a3
    rw [hLS] at c5
    have hS : (if u < 0 then -(X : Int) else X) + (if m = true then -(Y : Int) else Y) = if decide (u < 0) = true then -((X - Y : Nat) : Int) else ((X - Y : Nat) : Int) := by
      cases m <;> by_cases h : u < 0 <;> simp [h] at hsm ⊢ <;> omega
    rw [hS] at hR
    generalize lowF _ Z = E at *
    simp only [Frc.v] at c5
    simp [go_sem, hxy]
    refine IWp.now ?_
    refine Drawn.intro (fun k => if k = 5 then .fz 1 (ints LS) else if k = 7 then .tup [.agg [.int .i64 E.num, .int .i64 E.den], .int .i64 0] else .tup []) ?_
    simp [go_sem, a3, c5]
    refine ⟨by decide +kernel, ?_⟩
    exact hR _ _ _ rfl (by simp [go_sem, Frc.v])
theorem add01F_fun (f g : Frc) (hf : Sml f) (hg : Sml g) : FN 48 [f.v, g.v] (fun v => v = .tup [(lowF (f.num * g.den + g.num * f.den) (f.den.natAbs * g.den.natAbs)).v, .int .i64 0]) := by
  refine IFun.of_bodyW false 6 [13] Tryd.func48 rfl Tryd.call48 rfl fun R hR => ?_
  have hf' := hf
  have hg' := hg
  obtain ⟨hf1, hf2, hf3⟩ := hf
  obtain ⟨hg1, hg2, hg3⟩ := hg
  have r1 := right01_fun f (by omega) (by omega)
  have r2 := right01_fun g (by omega) (by omega)
  rw [hf3] at r1
  rw [hg3] at r2
  have c1 := whole_fun g.num (by omega)
  have c2 := whole_fun g.den (by omega)
  have cs := sum01_fun f (decide (g.num < 0)) g.num g.den.natAbs hf' (by omega) (by omega) (fun h => by have := of_decide_eq_true h; omega) (fun h => by have := of_decide_eq_false h; omega)
  rw [show ((g.den.natAbs : Nat) : Int) = g.den by omega] at cs
  generalize lowF _ _ = E at *
  obtain ⟨LN, hLN⟩ : ∃ L, dg g.num.natAbs = L := ⟨_, rfl⟩
  obtain ⟨LD, hLD⟩ : ∃ L, dg g.den.natAbs = L := ⟨_, rfl⟩
  rw [hLN] at c1 cs
  rw [hLD] at c2 cs
  obtain ⟨u, fd⟩ := f
  obtain ⟨v, gd⟩ := g
  simp only [Frc.v] at *
  refine IWp.seqI ?_
  simp [go_sem]
  refine IWp.seqI ?_
  simp [go_sem]
  refine r1.callF (by simp [go_sem]) ?_
  rintro _ rfl
  simp [go_sem]
  refine r2.callF (by simp [go_sem]) ?_
  rintro _ rfl
  simp [go_sem]
  refine IWp.seqI ?_
  refine Drawn.intro (fun k => if k = 6 then .fz 1 (ints LN) else if k = 9 then .fz 1 (ints LD) else if k = 10 then .tup [.agg [.int .i64 E.num, .int .i64 E.den], .int .i64 0] else .tup []) ?_
  simp [go_sem, c1, c2, cs]
  refine ⟨by decide +kernel, ?_⟩
  refine IWp.now ?_
  simp [go_sem]
  exact hR _ _ _ rfl (by simp [go_sem, Frc.v])
theorem sub01F_fun (f g : Frc) (hf : Sml f) (hg : Sml g) : FN 49 [f.v, g.v] (fun v => v = .tup [(lowF (f.num * g.den + (-g.num) * f.den) (f.den.natAbs * g.den.natAbs)).v, .int .i64 0]) := by
  refine IFun.of_bodyW false 6 [13] Tryd.func49 rfl Tryd.call49 rfl fun R hR => ?_
  have hf' := hf
  have hg' := hg
  obtain ⟨hf1, hf2, hf3⟩ := hf
  obtain ⟨hg1, hg2, hg3⟩ := hg
  have r1 := right01_fun f (by omega) (by omega)
  have r2 := right01_fun g (by omega) (by omega)
  rw [hf3] at r1
  rw [hg3] at r2
  have c1 := whole_fun g.num (by omega)
  have c2 := whole_fun g.den (by omega)
  have cs := sum01_fun f (decide (0 < g.num)) (-g.num) g.den.natAbs hf' (by omega) (by omega) (fun h => by have := of_decide_eq_true h; omega) (fun h => by have := of_decide_eq_false h; omega)
  rw [show ((g.den.natAbs : Nat) : Int) = g.den by omega, show (-g.num).natAbs = g.num.natAbs by omega] at cs
  generalize lowF _ _ = E at *
  obtain ⟨LN, hLN⟩ : ∃ L, dg g.num.natAbs = L := ⟨_, rfl⟩
  obtain ⟨LD, hLD⟩ : ∃ L, dg g.den.natAbs = L := ⟨_, rfl⟩
  rw [hLN] at c1 cs
  rw [hLD] at c2 cs
  obtain ⟨u, fd⟩ := f
  obtain ⟨v, gd⟩ := g
  simp only [Frc.v] at *
  refine IWp.seqI ?_
  simp [go_sem]
  refine IWp.seqI ?_
  simp [go_sem]
  refine r1.callF (by simp [go_sem]) ?_
  rintro _ rfl
  simp [go_sem]
  refine r2.callF (by simp [go_sem]) ?_
  rintro _ rfl
  simp [go_sem]
  refine IWp.seqI ?_
  refine Drawn.intro (fun k => if k = 6 then .fz 1 (ints LN) else if k = 9 then .fz 1 (ints LD) else if k = 10 then .tup [.agg [.int .i64 E.num, .int .i64 E.den], .int .i64 0] else .tup []) ?_
  simp [go_sem, c1, c2, cs]
  refine ⟨by decide +kernel, ?_⟩
  refine IWp.now ?_
  simp [go_sem]
  exact hR _ _ _ rfl (by simp [go_sem, Frc.v])
end Go.Idl
