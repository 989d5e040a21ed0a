import Derived.Test.YtamffdgopknkfaaGreatDoorC39zPartZB
set_option linter.all false
set_option maxHeartbeats 8000000
set_option maxRecDepth 40000
namespace Go.Idl
open Go.Proofs
theorem cl_ints2 {l m : List Int} : ∀ c ∈ [IV.fz 1 (ints l), IV.fz 1 (ints m)], Cl c := by
 intro c hc
 simp at hc
 rcases hc with rfl | rfl <;> exact cl_ints
theorem dl_pos_iff {n : Nat} : 0 < dl n ↔ 0 < n := by rw [lt_dl, Nat.pow_zero]; exact Iff.rfl
theorem common_fun (a b : Nat) (ha : dl a < 2 ^ 20) (hb : dl b < 2 ^ 20) : ON 91 [.fz 1 (ints (dg a)), .fz 1 (ints (dg b))] (fun v => v = .fz 1 (ints (dg (Nat.gcd a b)))) := by
 refine IFun.of_bodyZ false 7 [9] Tryz.func91 rfl Tryz.call91 rfl fun R hR => ?_
 simp [go_sem]
 refine IWp.loopT (α := Nat × Nat) (fun x => (⟨false, 19, 7, [9], glT, [(0, .fz 1 (ints (dg x.1))), (1, .fz 1 (ints (dg x.2)))], []⟩, []))
  (fun x => dl x.1 < 2 ^ 20 ∧ dl x.2 < 2 ^ 20 ∧ Nat.gcd x.1 x.2 = Nat.gcd a b) (fun x => x.2) (a, b) ⟨ha, hb, rfl⟩ (by simp [go_sem]) ?_
 rintro ⟨x, y⟩ ⟨hx, hy, hg⟩
 simp only at hx hy hg
 have hly : (dg y).length = dl y := by simp
 by_cases h : y = 0
 ·subst h
  rw [Nat.gcd_zero_right] at hg
  rw [← hg] at hR
  obtain ⟨X, hX⟩ : ∃ X, dg x = X := ⟨_, rfl⟩
  rw [hX] at hR
  simp only [hX, dg_zero]
  simp [go_sem]
  exact hR _ _ _ rfl (by simp [go_sem])
 ·have hy0 : 0 < dl y := dl_pos_iff.2 (by omega)
  have cd := div01_fun x y (by omega) hx hy
  have hr := Nat.mod_lt x (show 0 < y by omega)
  have hrl : dl (x % y) < 2 ^ 20 := by have := dl_mono (Nat.le_of_lt hr); omega
  have hgz : Nat.gcd y (x % y) = Nat.gcd a b := by rw [gcd_step, hg]
  have hy0' : (0 : Int) < dl y := by omega
  obtain ⟨X, hX⟩ : ∃ X, dg x = X := ⟨_, rfl⟩
  obtain ⟨Y, hY⟩ : ∃ Y, dg y = Y := ⟨_, rfl⟩
  obtain ⟨Z, hZ⟩ : ∃ Z, dg (x % y) = Z := ⟨_, rfl⟩
  obtain ⟨W, hW⟩ : ∃ W, dg (x / y) = W := ⟨_, rfl⟩
  rw [hX, hY, hZ, hW] at cd
  rw [hY] at hly
  rw [hX, hY]
  simp [go_sem, hly, hy0, hy0']
  refine cd.callM cl_ints2 ?_
  rintro _ rfl
  simp [go_sem]
  exact ⟨y, x % y, ⟨by rw [hY], by rw [hZ]⟩, ⟨hy, hrl, hgz⟩, hr⟩
theorem pack_num (m : Bool) (a b : Nat) : packF m a b = if (numI (m && decide (0 < a)) a).2 = true ∧ (numI false b).2 = true then (⟨(numI (m && decide (0 < a)) a).1, (numI false b).1⟩, 0) else (⟨0, 0⟩, 3) := by
 unfold packF numI
 by_cases ha : 0 < a
 ·cases m
  ·simp only [ha, decide_true, Bool.and_true, Bool.false_eq_true, if_false, true_and]
   split <;> split <;> split <;> simp_all <;> omega
  ·simp only [ha, decide_true, Bool.and_true, if_true, true_and, Bool.true_eq_false, false_and, or_false]
   split <;> split <;> split <;> simp_all <;> omega
 ·have h0 : a = 0 := by omega
  subst h0
  cases m
  ·simp; split <;> split <;> simp_all <;> omega
  ·simp; split <;> split <;> simp_all <;> omega
theorem make0_fun (m : Bool) (N D : Nat) (hD : 0 < D) (hN : dl N < 2 ^ 20) (hDl : dl D < 2 ^ 20) : FN 74 [.bool m, .fz 1 (ints (dg N)), .fz 1 (ints (dg D))] (fun v => v = .tup [(redF m N D).1.v, .int .i64 (redF m N D).2]) := by
 refine IFun.of_bodyW false 17 [53] Tryz.func74 rfl Tryz.call74 rfl fun R hR => ?_
 have hg0 : 0 < Nat.gcd N D := Nat.gcd_pos_of_pos_right _ hD
 have hgD : Nat.gcd N D ≤ D := Nat.gcd_le_right _ hD
 have c1 := common_fun N D hN hDl
 have hgl : dl (Nat.gcd N D) < 2 ^ 20 := by have := dl_mono hgD; omega
 have c2 := div01_fun N (Nat.gcd N D) hg0 hN hgl
 have c3 := div01_fun D (Nat.gcd N D) hg0 hDl hgl
 have e : redF m N D = packF m (N / Nat.gcd N D) (D / Nat.gcd N D) := rfl
 have ha := Nat.div_le_self N (Nat.gcd N D)
 have hb := Nat.div_le_self D (Nat.gcd N D)
 rw [pack_num] at e
 rw [e] at hR
 obtain ⟨a, hae⟩ : ∃ a, N / Nat.gcd N D = a := ⟨_, rfl⟩
 obtain ⟨b, hbe⟩ : ∃ b, D / Nat.gcd N D = b := ⟨_, rfl⟩
 rw [hae] at ha c2 hR
 rw [hbe] at hb c3 hR
 generalize Nat.gcd N D = g at *
 have c4 := numberD_fun (m && decide (0 < a)) a (by have := dl_mono ha; omega)
 have c5 := numberD_fun false b (by have := dl_mono hb; omega)
 have hla : (dg a).length = dl a := by simp
 have hla2 : decide (0 < dl a) = decide (0 < a) := by rw [decide_eq_decide]; exact dl_pos_iff
 obtain ⟨LN, hLN⟩ : ∃ L, dg N = L := ⟨_, rfl⟩
 obtain ⟨LD, hLD⟩ : ∃ L, dg D = L := ⟨_, rfl⟩
 obtain ⟨LG, hLG⟩ : ∃ L, dg g = L := ⟨_, rfl⟩
 obtain ⟨LA, hLA⟩ : ∃ L, dg a = L := ⟨_, rfl⟩
 obtain ⟨LB, hLB⟩ : ∃ L, dg b = L := ⟨_, rfl⟩
 rw [hLN, hLD, hLG] at c1
 rw [hLN, hLG, hLA] at c2
 rw [hLD, hLG, hLB] at c3
 rw [hLA] at c4 hla
 rw [hLB] at c5
 rw [hLN, hLD]
 generalize dg (N % g) = R1 at *
 generalize dg (D % g) = R2 at *
 refine IWp.seqI ?_
 simp [go_sem]
 refine IWp.seqI ?_
 simp [go_sem]
 refine c1.callM cl_ints2 ?_
 rintro _ rfl
 simp [go_sem]
 refine IWp.seqI ?_
 simp [go_sem]
 refine c2.callM cl_ints2 ?_
 rintro _ rfl
 simp [go_sem]
 refine IWp.seqI ?_
 simp [go_sem]
 refine c3.callM cl_ints2 ?_
 rintro _ rfl
 simp [go_sem]
 generalize numI (m && decide (0 < a)) a = p at *
 generalize numI false b = q at *
 obtain ⟨p1, p2⟩ := p
 obtain ⟨q1, q2⟩ := q
 rw [← hla2] at c4
 refine IWp.seqI ?_
 simp [go_sem, hla]
 refine c4.callF (by simp [go_sem]) ?_
 rintro _ rfl
 simp [go_sem]
 refine IWp.seqI ?_
 simp [go_sem]
 refine c5.callF (by simp [go_sem]) ?_
 rintro _ rfl
 simp [go_sem]
 refine IWp.seqI ?_
 cases p2 with
 | false =>
  simp [go_sem]
  exact hR _ _ _ rfl (by simp [go_sem, Frc.v])
 | true =>
  cases q2 with
  | false =>
   simp [go_sem]
   exact hR _ _ _ rfl (by simp [go_sem, Frc.v])
  | true =>
   simp [go_sem]
   refine IWp.now ?_
   simp [go_sem]
   exact hR _ _ _ rfl (by simp [go_sem, Frc.v])
theorem right01_fun (f : Frc) (hn : -2 ^ 63 ≤ f.num ∧ f.num < 2 ^ 63) (hd : -2 ^ 63 ≤ f.den ∧ f.den < 2 ^ 63) : FN 72 [f.v] (fun v => v = .bool (rightB f)) := by
 refine IFun.of_bodyW false 4 [6] Tryz.func72 rfl Tryz.call72 rfl fun R hR => ?_
 by_cases h0 : f.den < 1
 ·have e : rightB f = false := by unfold rightB; simp; omega
  rw [e] at hR
  simp only [Frc.v]
  refine IWp.seqI ?_
  simp [go_sem]
  refine IWp.seqI ?_
  simp [go_sem, h0]
  exact hR _ _ _ rfl (by simp [go_sem])
 have hl4 : ∀ x : Int, -2 ^ 63 ≤ x ∧ x < 2 ^ 63 → dl x.natAbs < 2 ^ 20 := fun x hx => by
  have : dl x.natAbs ≤ 4 := (dl_le _ 4).2 (by omega)
  omega
 have c1 := whole_fun f.num hn
 have c2 := whole_fun f.den hd
 have c3 := common_fun f.num.natAbs f.den.natAbs (hl4 _ hn) (hl4 _ hd)
 have hg0 : Nat.gcd f.num.natAbs f.den.natAbs ≠ 0 := by
  have := Nat.gcd_pos_of_pos_right f.num.natAbs (show 0 < f.den.natAbs by omega)
  omega
 have e : rightB f = (Nat.gcd f.num.natAbs f.den.natAbs == 1) := by unfold rightB; simp; omega
 rw [e] at hR
 rw [dg_cons hg0] at c3
 generalize Nat.gcd f.num.natAbs f.den.natAbs = g at *
 obtain ⟨n, d⟩ := f
 simp only [Frc.v] at *
 obtain ⟨LN, hLN⟩ : ∃ L, dg n.natAbs = L := ⟨_, rfl⟩
 obtain ⟨LD, hLD⟩ : ∃ L, dg d.natAbs = L := ⟨_, rfl⟩
 obtain ⟨LG, hLG⟩ : ∃ L, dg (g / 65536) = L := ⟨_, rfl⟩
 rw [hLN] at c1
 rw [hLD] at c2
 rw [hLN, hLD, hLG] at c3
 have hlG : LG.length = dl (g / 65536) := by rw [← hLG]; simp
 have hGe : (LG = [] ∧ ((g % 65536 : Nat) : Int) = 1) ↔ g = 1 := by
  constructor
  ·rintro ⟨h1, h2⟩
   have : ¬ 0 < g / 65536 := fun h => by have := dl_pos_iff.2 h; rw [h1] at hlG; simp at hlG; omega
   omega
  ·intro h
   subst h
   refine ⟨?_, by decide⟩
   rw [← hLG]; exact dg_zero
 obtain ⟨x, hx⟩ : ∃ x, ((g % 65536 : Nat) : Int) = x := ⟨_, rfl⟩
 rw [hx] at c3 hGe
 simp only [ints_cons] at c3
 refine IWp.seqI ?_
 simp [go_sem]
 refine IWp.seqI ?_
 simp [go_sem, h0]
 refine IWp.seqI ?_
 simp [go_sem]
 refine Drawn.intro (fun k => if k = 2 then .fz 1 (ints LN) else if k = 5 then .fz 1 (ints LD) else if k = 6 then .fz 1 ([.int .i64 x] :: ints LG) else .tup []) ?_
 simp [go_sem, c1, c2, c3]
 refine ⟨by decide +kernel, ?_⟩
 refine IWp.now ?_
 cases LG with
 | nil =>
  by_cases h1 : x = 1
  ·have hg1 := hGe.1 ⟨rfl, h1⟩
   simp [go_sem, h1]
   exact hR _ _ _ rfl (by simp [go_sem, hg1])
  ·have hg1 : ¬ g = 1 := fun h => h1 (hGe.2 h).2
   have bx : (x == 1) = false := by simpa using h1
   have bg : (g == 1) = false := by simpa using hg1
   simp [go_sem, h1]
   exact hR _ _ _ rfl (by simp [go_sem, bx, bg])
 | cons y L =>
  have hg1 : ¬ g = 1 := fun h => by have := (hGe.2 h).1; cases this
  have hl2 : ¬ (L.length : Int) + 1 + 1 = 1 := by omega
  have bl : ((L.length : Int) + 1 + 1 == 1) = false := by simpa using hl2
  have bg : (g == 1) = false := by simpa using hg1
  simp [go_sem, ints_cons, hl2]
  exact hR _ _ _ rfl (by simp [go_sem, bl, bg])
end Go.Idl
namespace Go.Idl
open Go.Proofs
theorem dl_fit {x : Int} (h : -2 ^ 63 ≤ x ∧ x < 2 ^ 63) : dl x.natAbs ≤ 4 := (dl_le _ 4).2 (by omega)
theorem dl_mul {a b : Nat} (ha : dl a ≤ 4) (hb : dl b ≤ 4) : dl (a * b) < 2 ^ 20 := by
 have : dl (a * b) ≤ 8 := by
  rw [dl_le, show 65536 ^ 8 = 65536 ^ 4 * 65536 ^ 4 from rfl]
  exact Nat.mul_lt_mul'' ((dl_le a 4).1 ha) ((dl_le b 4).1 hb)
 omega
theorem mul01F_fun (f g : Frc) (hf : FitF f) (hg : FitF g) : FN 55 [f.v, g.v] (fun v => v = .tup [(mulF f g).1.v, .int .i64 (mulF f g).2]) := by
 refine IFun.of_bodyW false 6 [13] Tryz.func55 rfl Tryz.call55 rfl fun R hR => ?_
 have cf := right01_fun f hf.1 hf.2
 have cg := right01_fun g hg.1 hg.2
 by_cases r1 : rightB f = true
 case neg =>
  have e : mulF f g = (⟨0, 0⟩, 2) := by unfold mulF; rw [if_neg (fun h => r1 h.1)]
  rw [e] at hR
  rw [Bool.not_eq_true] at r1
  rw [r1] at cf
  simp only [Frc.v] at *
  refine IWp.seqI ?_
  simp [go_sem]
  refine IWp.seqI ?_
  simp [go_sem]
  refine cf.callF (by simp [go_sem]) ?_
  rintro _ rfl
  simp [go_sem]
  exact hR _ _ _ rfl (by simp [go_sem])
 by_cases r2 : rightB g = true
 case neg =>
  have e : mulF f g = (⟨0, 0⟩, 2) := by unfold mulF; rw [if_neg (fun h => r2 h.2)]
  rw [e] at hR
  rw [Bool.not_eq_true] at r2
  rw [r1] at cf
  rw [r2] at cg
  simp only [Frc.v] at *
  refine IWp.seqI ?_
  simp [go_sem]
  refine IWp.seqI ?_
  simp [go_sem]
  refine cf.callF (by simp [go_sem]) ?_
  rintro _ rfl
  simp [go_sem]
  refine cg.callF (by simp [go_sem]) ?_
  rintro _ rfl
  simp [go_sem]
  exact hR _ _ _ rfl (by simp [go_sem])
 have e : mulF f g = redF (decide (f.num < 0) != decide (g.num < 0)) (f.num.natAbs * g.num.natAbs) (f.den.natAbs * g.den.natAbs) := by unfold mulF; rw [if_pos ⟨r1, r2⟩]
 obtain ⟨d1, k1⟩ := right_pos r1
 obtain ⟨d2, k2⟩ := right_pos r2
 have l1 := dl_fit hf.1
 have l2 := dl_fit hf.2
 have l3 := dl_fit hg.1
 have l4 := dl_fit hg.2
 have s1 := whole_fun f.num hf.1
 have s2 := whole_fun f.den hf.2
 have s3 := whole_fun g.num hg.1
 have s4 := whole_fun g.den hg.2
 have m1 := mul01_fun f.num.natAbs g.num.natAbs (by omega) (by omega)
 have m2 := mul01_fun f.den.natAbs g.den.natAbs (by omega) (by omega)
 have ct := make0_fun (decide (f.num < 0) != decide (g.num < 0)) (f.num.natAbs * g.num.natAbs) (f.den.natAbs * g.den.natAbs) (Nat.mul_pos (by omega) (by omega)) (dl_mul l1 l3) (dl_mul l2 l4)
 rw [← e] at ct
 rw [r1] at cf
 rw [r2] at cg
 generalize mulF f g = E at *
 obtain ⟨a, b⟩ := f
 obtain ⟨c, d⟩ := g
 simp only [Frc.v] at *
 generalize dg a.natAbs = A at *
 generalize dg b.natAbs = B at *
 generalize dg c.natAbs = C at *
 generalize dg d.natAbs = D at *
 generalize dg (a.natAbs * c.natAbs) = X at *
 generalize dg (b.natAbs * d.natAbs) = Y at *
 refine IWp.seqI ?_
 simp [go_sem]
 refine IWp.seqI ?_
 simp [go_sem]
 refine cf.callF (by simp [go_sem]) ?_
 rintro _ rfl
 simp [go_sem]
 refine cg.callF (by simp [go_sem]) ?_
 rintro _ rfl
 simp [go_sem]
 refine IWp.seqI ?_
 refine Drawn.intro (fun k => if k = 9 then .fz 1 (ints A) else if k = 12 then .fz 1 (ints C) else if k = 13 then .fz 1 (ints X) else if k = 16 then .fz 1 (ints B) else if k = 19 then .fz 1 (ints D) else if k = 20 then .fz 1 (ints Y) else if k = 21 then .tup [.agg [.int .i64 E.1.num, .int .i64 E.1.den], .int .i64 E.2] else .tup []) ?_
 simp [go_sem, s1, s2, s3, s4, m1, m2, ct]
 refine ⟨by decide +kernel, ?_⟩
 refine IWp.now ?_
 simp [go_sem]
 exact hR _ _ _ rfl (by simp [go_sem])
theorem cmp01_fun (f g : Frc) (hf : FitF f) (hg : FitF g) : FN 73 [f.v, g.v] (fun v => v = .tup [.int .i64 (cmpR f g).1, .int .i64 (cmpR f g).2]) := by
 refine IFun.of_bodyW false 8 [15, 23, 31, 48, 53, 56] Tryz.func73 rfl Tryz.call73 rfl fun R hR => ?_
 have cf := right01_fun f hf.1 hf.2
 have cg := right01_fun g hg.1 hg.2
 by_cases r1 : rightB f = true
 case neg =>
  have e : cmpR f g = (0, 2) := by unfold cmpR; rw [if_neg (fun h => r1 h.1)]
  rw [e] at hR
  rw [Bool.not_eq_true] at r1
  rw [r1] at cf
  simp only [Frc.v] at *
  refine IWp.seqI ?_
  simp [go_sem]
  refine IWp.seqI ?_
  simp [go_sem]
  refine cf.callF (by simp [go_sem]) ?_
  rintro _ rfl
  simp [go_sem]
  exact hR _ _ _ rfl (by simp [go_sem])
 by_cases r2 : rightB g = true
 case neg =>
  have e : cmpR f g = (0, 2) := by unfold cmpR; rw [if_neg (fun h => r2 h.2)]
  rw [e] at hR
  rw [Bool.not_eq_true] at r2
  rw [r1] at cf
  rw [r2] at cg
  simp only [Frc.v] at *
  refine IWp.seqI ?_
  simp [go_sem]
  refine IWp.seqI ?_
  simp [go_sem]
  refine cf.callF (by simp [go_sem]) ?_
  rintro _ rfl
  simp [go_sem]
  refine cg.callF (by simp [go_sem]) ?_
  rintro _ rfl
  simp [go_sem]
  exact hR _ _ _ rfl (by simp [go_sem])
 have e : cmpR f g = (cmpI f g, 0) := by unfold cmpR; rw [if_pos ⟨r1, r2⟩]
 rw [e] at hR
 obtain ⟨d1, k1⟩ := right_pos r1
 obtain ⟨d2, k2⟩ := right_pos r2
 have l1 := dl_fit hf.1
 have l2 := dl_fit hf.2
 have l3 := dl_fit hg.1
 have l4 := dl_fit hg.2
 have s1 := whole_fun f.num hf.1
 have s2 := whole_fun f.den hf.2
 have s3 := whole_fun g.num hg.1
 have s4 := whole_fun g.den hg.2
 have m1 := mul01_fun f.num.natAbs g.den.natAbs (by omega) (by omega)
 have m2 := mul01_fun g.num.natAbs f.den.natAbs (by omega) (by omega)
 have b1 := dl_mul l1 l4
 have b2 := dl_mul l3 l2
 have c1 := less_fun (f.num.natAbs * g.den.natAbs) (g.num.natAbs * f.den.natAbs) (by omega) (by omega)
 have c2 := less_fun (g.num.natAbs * f.den.natAbs) (f.num.natAbs * g.den.natAbs) (by omega) (by omega)
 rw [r1] at cf
 rw [r2] at cg
 obtain ⟨a, b⟩ := f
 obtain ⟨c, d⟩ := g
 simp only [Frc.v] at *
 have hres : cmpI ⟨a, b⟩ ⟨c, d⟩ = if a * d < c * b then -1 else if c * b < a * d then 1 else 0 := rfl
 have sgn : ∀ x y : Int, 1 ≤ y → (x < 0 → x * y < 0) ∧ (0 ≤ x → 0 ≤ x * y) := fun x y hy => ⟨fun h => Int.mul_neg_of_neg_of_pos h (by omega), fun h => Int.mul_nonneg h (by omega)⟩
 have n1 := sgn a d (by omega)
 have n2 := sgn c b (by omega)
 have q1 : ((a.natAbs * d.natAbs : Nat) : Int) = if a < 0 then -(a * d) else a * d := by
  rw [Int.natCast_mul, show (d.natAbs : Int) = d by omega]
  split
  ·rw [show (a.natAbs : Int) = -a by omega, Int.neg_mul]
  ·rw [show (a.natAbs : Int) = a by omega]
 have q2 : ((c.natAbs * b.natAbs : Nat) : Int) = if c < 0 then -(c * b) else c * b := by
  rw [Int.natCast_mul, show (b.natAbs : Int) = b by omega]
  split
  ·rw [show (c.natAbs : Int) = -c by omega, Int.neg_mul]
  ·rw [show (c.natAbs : Int) = c by omega]
 generalize dg a.natAbs = A at *
 generalize dg b.natAbs = B at *
 generalize dg c.natAbs = C at *
 generalize dg d.natAbs = D at *
 generalize a.natAbs * d.natAbs = P1 at *
 generalize c.natAbs * b.natAbs = P2 at *
 generalize dg P1 = X at *
 generalize dg P2 = Y at *
 generalize a * d = U at *
 generalize c * b = V at *
 rw [hres] at hR
 refine IWp.seqI ?_
 simp [go_sem]
 refine IWp.seqI ?_
 simp [go_sem]
 refine cf.callF (by simp [go_sem]) ?_
 rintro _ rfl
 simp [go_sem]
 refine cg.callF (by simp [go_sem]) ?_
 rintro _ rfl
 simp [go_sem]
 refine IWp.seqI ?_
 by_cases ha : a < 0
 ·by_cases hc : c < 0
  ·have ha' : ¬ 0 ≤ a := by omega
   have hc2 : ¬ 0 ≤ c := by omega
   simp [go_sem, ha, hc, ha', hc2]
   refine IWp.seqI ?_
   simp [go_sem, ha, hc, ha', hc2]
   refine IWp.seqI ?_
   refine Drawn.intro (fun k => if k = 2 then .fz 1 (ints A) else if k = 5 then .fz 1 (ints D) else if k = 6 then .fz 1 (ints X) else if k = 9 then .fz 1 (ints C) else if k = 12 then .fz 1 (ints B) else if k = 13 then .fz 1 (ints Y) else .tup []) ?_
   simp [go_sem, s1, s2, s3, s4, m1, m2]
   refine ⟨by decide +kernel, ?_⟩
   refine IWp.seqI ?_
   simp [go_sem, ha]
   refine IWp.seqI ?_
   simp [go_sem]
   refine c2.callF (by simp [go_sem]) ?_
   rintro _ rfl
   by_cases h1 : P2 < P1
   ·rw [if_pos (by omega)] at hR
    simp [go_sem, h1]
    exact hR _ _ _ rfl (by simp [go_sem])
   ·simp [go_sem, h1]
    refine IWp.seqI ?_
    simp [go_sem]
    refine c1.callF (by simp [go_sem]) ?_
    rintro _ rfl
    by_cases h2 : P1 < P2
    ·rw [if_neg (by omega), if_pos (by omega)] at hR
     simp [go_sem, h2]
     exact hR _ _ _ rfl (by simp [go_sem])
    ·rw [if_neg (by omega), if_neg (by omega)] at hR
     simp [go_sem, h2]
     refine IWp.now ?_
     simp [go_sem]
     exact hR _ _ _ rfl (by simp [go_sem])
  ·have hc' : 0 ≤ c := by omega
   rw [if_pos (by omega)] at hR
   simp [go_sem, ha, hc']
   exact hR _ _ _ rfl (by simp [go_sem])
 ·by_cases hc : c < 0
  ·have ha' : 0 ≤ a := by omega
   rw [if_neg (by omega), if_pos (by omega)] at hR
   simp [go_sem, ha]
   refine IWp.seqI ?_
   simp [go_sem, hc, ha']
   exact hR _ _ _ rfl (by simp [go_sem])
  ·simp [go_sem, ha, hc]
   refine IWp.seqI ?_
   simp [go_sem, ha, hc]
   refine IWp.seqI ?_
   refine Drawn.intro (fun k => if k = 2 then .fz 1 (ints A) else if k = 5 then .fz 1 (ints D) else if k = 6 then .fz 1 (ints X) else if k = 9 then .fz 1 (ints C) else if k = 12 then .fz 1 (ints B) else if k = 13 then .fz 1 (ints Y) else .tup []) ?_
   simp [go_sem, s1, s2, s3, s4, m1, m2]
   refine ⟨by decide +kernel, ?_⟩
   refine IWp.seqI ?_
   simp [go_sem, ha]
   refine IWp.seqI ?_
   simp [go_sem]
   refine c1.callF (by simp [go_sem]) ?_
   rintro _ rfl
   by_cases h1 : P1 < P2
   ·rw [if_pos (by omega)] at hR
    simp [go_sem, h1]
    exact hR _ _ _ rfl (by simp [go_sem])
   ·simp [go_sem, h1]
    refine IWp.seqI ?_
    simp [go_sem]
    refine c2.callF (by simp [go_sem]) ?_
    rintro _ rfl
    by_cases h2 : P2 < P1
    ·rw [if_neg (by omega), if_pos (by omega)] at hR
     simp [go_sem, h2]
     exact hR _ _ _ rfl (by simp [go_sem])
    ·rw [if_neg (by omega), if_neg (by omega)] at hR
     simp [go_sem, h2]
     refine IWp.now ?_
     simp [go_sem]
     exact hR _ _ _ rfl (by simp [go_sem])
end Go.Idl
