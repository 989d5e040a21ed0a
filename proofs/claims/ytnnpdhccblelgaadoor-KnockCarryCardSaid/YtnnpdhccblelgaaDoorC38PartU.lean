/-
  Chapter 38: KnockCarry (plain).
-/
import Derived.Test.YtnnpdhccblelgaaDoorC38PartK
namespace Go.Idl
set_option linter.all false
open Go.Proofs
set_option maxHeartbeats 8000000
set_option maxRecDepth 40000

theorem parts38 : ∀ P, P < 101 → (mkF (P : Nat) 100).2 = 0 ∧ rightB (mkF (P : Nat) 100).1 = true ∧ withinB (mkF (P : Nat) 100).1 0 1 = true ∧ 0 ≤ (mkF (P : Nat) 100).1.num ∧ (mkF (P : Nat) 100).1.num ≤ 100 ∧ (mkF (P : Nat) 100).1.den ≤ 100 ∧ ((mkF (P : Nat) 100).1.num = 0 → P = 0) := by decide +kernel
theorem packF_ok {s : Bool} {n d : Nat} (h1 : n ≤ 9223372036854775807) (h2 : d ≤ 9223372036854775807) : packF s n d = (⟨if s = true then -(n : Int) else n, d⟩, 0) := by
  unfold packF
  rw [if_neg]
  split <;> omega
/-- The numerator of a product with a whole number, as a natural number; its denominator. -/
def mpA (p : Frc) (d : Nat) : Nat := p.num.natAbs * d / Nat.gcd (p.num.natAbs * d) p.den.natAbs
def mpB (p : Frc) (d : Nat) : Nat := p.den.natAbs / Nat.gcd (p.num.natAbs * d) p.den.natAbs
theorem mp_facts {p : Frc} (hp : rightB p = true) (hn : 0 ≤ p.num ∧ p.num ≤ 100) (hd : p.den ≤ 100) {d : Nat} (h : d ≤ 40000) :
    0 < mpB p d ∧ mpB p d ≤ 100 ∧ mpA p d ≤ 4000000 ∧ Nat.gcd (mpA p d) (mpB p d) = 1 ∧ (mpA p d = 0 → p.num = 0 ∨ d = 0) ∧ (d = 0 → mpA p d = 0) := by
  obtain ⟨q1, q2⟩ := right_pos hp
  have hD : 0 < p.den.natAbs := by omega
  have hg : 0 < Nat.gcd (p.num.natAbs * d) p.den.natAbs := Nat.gcd_pos_of_pos_right _ hD
  have hg1 := Nat.gcd_dvd_left (p.num.natAbs * d) p.den.natAbs
  have hg2 := Nat.gcd_dvd_right (p.num.natAbs * d) p.den.natAbs
  have hN : p.num.natAbs * d ≤ 100 * 40000 := Nat.mul_le_mul (by omega) h
  unfold mpA mpB
  refine ⟨Nat.div_pos (Nat.le_of_dvd hD hg2) hg, Nat.le_trans (Nat.div_le_self _ _) (by omega), Nat.le_trans (Nat.div_le_self _ _) (by omega), by rw [Nat.gcd_div hg1 hg2, Nat.div_self hg], fun h0 => ?_, fun h0 => by rw [h0]; simp⟩
  have h1 := Nat.div_mul_cancel hg1
  rw [h0, Nat.zero_mul] at h1
  rcases Nat.mul_eq_zero.1 h1.symm with h2 | h2
  · left; omega
  · exact .inr h2
theorem mulP_eq {p : Frc} (hp : rightB p = true) (hn : 0 ≤ p.num ∧ p.num ≤ 100) (hd : p.den ≤ 100) {d : Int} (h : d.natAbs ≤ 40000) :
    mulF p (whF d) = (⟨if d < 0 then -(mpA p d.natAbs : Int) else mpA p d.natAbs, mpB p d.natAbs⟩, 0) := by
  obtain ⟨m1, m2, m3, m4, m5, m6⟩ := mp_facts hp hn hd h
  unfold mulF
  rw [if_pos ⟨hp, whF_right _⟩]
  unfold redF
  have e : (decide (p.num < 0) != decide ((whF d).num < 0)) = decide (d < 0) := by
    rw [show decide (p.num < 0) = false by simp; omega]
    simp only [whF, decide_false, Bool.false_bne]
    congr
  have e2 : (whF d).num.natAbs = d.natAbs := rfl
  have e3 : p.den.natAbs * (whF d).den.natAbs = p.den.natAbs := by simp [whF]
  rw [e, e2, e3]
  have := packF_ok (s := decide (d < 0)) (n := mpA p d.natAbs) (d := mpB p d.natAbs) (by omega) (by omega)
  unfold mpA mpB at this ⊢
  rw [this]
  simp
theorem negF_ok {n : Int} {d : Nat} (h1 : 0 < d) (h2 : n.natAbs ≤ 9223372036854775807) (h3 : d ≤ 9223372036854775807) (hg : Nat.gcd n.natAbs d = 1) : negF ⟨n, d⟩ = (⟨-n, d⟩, 0) := by
  unfold negF
  have hr : rightB ⟨n, d⟩ = true := by simp [rightB, hg]; omega
  rw [if_pos hr]
  have := packF_ok (s := decide (0 < n)) (n := n.natAbs) (d := d) h2 h3
  simp only [Int.natAbs_natCast]
  rw [this]
  simp only [Prod.mk.injEq, Frc.mk.injEq, and_true, decide_eq_true_eq]
  split <;> omega
theorem carry_plain (P : Nat) (hP : P < 101) (m d : Int) (hm : 0 ≤ m ∧ m ≤ 65535) (hd : -32768 ≤ d ∧ d ≤ 32767) :
    ∃ (p a b x : Frc) (h l : Int), mkF (P : Nat) 100 = (p, 0) ∧ carryF p m d = (a, 0) ∧ carryF p m (-d) = (b, 0) ∧ negF b = (a, 0) ∧ mulF p (whF d) = (x, 0) ∧ rightB a = true ∧ cmpR x (whF m) = (h, 0) ∧ cmpR x (whF (-m)) = (l, 0) ∧ negF (whF m) = (whF (-m), 0) ∧
      FitF p ∧ FitF a ∧ FitF b ∧ FitF x ∧ (0 < h → a = whF m) ∧ (¬ 0 < h → l < 0 → a = whF (-m)) ∧ (¬ 0 < h → ¬ l < 0 → a = x ∧ (0 < a.num ∧ 0 < d ∨ a.num < 0 ∧ d < 0 ∨ a.num = 0 ∧ (d = 0 ∨ P = 0))) := by
  obtain ⟨p1, p2, p3, p4, p5, p6, p7⟩ := parts38 P hP
  generalize hmk : mkF (P : Nat) 100 = MK at *
  obtain ⟨p, pe⟩ := MK
  simp only at p1 p2 p3 p4 p5 p6 p7
  subst p1
  have hq1 := mulP_eq p2 ⟨p4, p5⟩ p6 (d := d) (by omega)
  have hq2 := mulP_eq p2 ⟨p4, p5⟩ p6 (d := -d) (by omega)
  rw [show (-d).natAbs = d.natAbs from Int.natAbs_neg d] at hq2
  obtain ⟨m1, m2, m3, m4, m5, m6⟩ := mp_facts p2 ⟨p4, p5⟩ p6 (d := d.natAbs) (by omega)
  have e1 : carryF p m d = if withinB (mulF p (whF d)).1 (-m) m = true then ((mulF p (whF d)).1, 0) else if d < 0 then (whF (-m), 0) else (whF m, 0) := by
    unfold carryF
    rw [if_neg (by rw [p3]; simp; omega), if_neg (by rw [hq1]; simp)]
  have e2 : carryF p m (-d) = if withinB (mulF p (whF (-d))).1 (-m) m = true then ((mulF p (whF (-d))).1, 0) else if -d < 0 then (whF (-m), 0) else (whF m, 0) := by
    unfold carryF
    rw [if_neg (by rw [p3]; simp; omega), if_neg (by rw [hq2]; simp)]
  rw [hq1] at e1
  rw [hq2] at e2
  simp only at e1 e2
  have pf : FitF p := by obtain ⟨r1, r2⟩ := right_pos p2; unfold FitF; omega
  generalize mpA p d.natAbs = A at *
  generalize mpB p d.natAbs = B at *
  have hwn : negF (whF m) = (whF (-m), 0) := negF_ok (d := 1) (by omega) (by omega) (by omega) (by simp)
  have hwn2 : negF (whF (-m)) = (whF m, 0) := by rw [show whF m = whF (- -m) by rw [Int.neg_neg]]; exact negF_ok (d := 1) (by omega) (by omega) (by omega) (by simp)
  have fw : ∀ k, -65535 ≤ k → k ≤ 65535 → FitF (whF k) := fun k h1 h2 => whF_fit (by omega)
  obtain ⟨X, hX⟩ : ∃ X : Int, (if d < 0 then -(A : Int) else A) = X := ⟨_, rfl⟩
  have hXa : X.natAbs = A := by rw [← hX]; split <;> omega
  have hX2 : (if -d < 0 then -(A : Int) else A) = -X := by
    rw [← hX]
    by_cases h0 : d = 0
    · rw [m6 (by omega)]; simp
    · split <;> split <;> omega
  rw [hX2] at hq2 e2
  rw [hX] at hq1 e1
  have rx : rightB ⟨X, B⟩ = true := by simp [rightB, hXa, m4]; omega
  have hcx : ∀ k, cmpR ⟨X, B⟩ (whF k) = (if X < k * B then -1 else if k * B < X then 1 else 0, 0) := fun k => by
    unfold cmpR
    rw [if_pos ⟨rx, whF_right _⟩, cmpI_whole]
  have hwi : withinB ⟨X, B⟩ (-m) m = (decide (-m * B ≤ X) && decide (X ≤ m * B)) := by unfold withinB; rw [rx]; rfl
  have hmB : 0 ≤ m * B := Int.mul_nonneg hm.1 (by omega)
  have hmB2 : -m * B = -(m * B) := Int.neg_mul ..
  rw [hmB2] at hwi
  have hwi2 : withinB ⟨-X, B⟩ (-m) m = (decide (-(m * B) ≤ -X) && decide (-X ≤ m * B)) := by
    have rx2 : rightB ⟨-X, B⟩ = true := by simp [rightB, hXa, m4]; omega
    unfold withinB
    rw [rx2]
    simp only [hmB2, Bool.true_and]
  have fx : FitF ⟨X, B⟩ := by unfold FitF; simp only; omega
  have fx2 : FitF ⟨-X, B⟩ := by unfold FitF; simp only; omega
  have hsd : (d < 0 → X ≤ 0) ∧ (0 ≤ d → 0 ≤ X) ∧ (d = 0 → X = 0) ∧ (X = 0 → P = 0 ∨ d = 0) := by
    refine ⟨fun h => by rw [← hX, if_pos h]; omega, fun h => by rw [← hX, if_neg (by omega)]; omega, fun h => ?_, fun h => ?_⟩
    · rw [← hX, if_neg (by omega), m6 (by omega)]; rfl
    · rcases m5 (by omega) with h1 | h1
      · exact .inl (p7 h1)
      · right; omega
  obtain ⟨s1, s2, s3, s4⟩ := hsd
  have c1 := hcx m
  have c2 := hcx (-m)
  rw [hmB2] at c2
  generalize m * B = M at *
  by_cases w1 : X ≤ M
  · by_cases w2 : -M ≤ X
    · rw [hwi, if_pos (by simp; omega)] at e1
      rw [hwi2, if_pos (by simp; omega)] at e2
      refine ⟨p, _, _, _, _, _, rfl, e1, e2, ?_, hq1, rx, c1, c2, hwn, pf, fx, fx2, fx, ?_, ?_, ?_⟩
      · have := negF_ok (n := -X) (d := B) m1 (by omega) (by omega) (by rw [Int.natAbs_neg, hXa]; exact m4)
        rw [Int.neg_neg] at this
        exact this
      · intro h; split at h
        · omega
        · split at h <;> omega
      · intro _ h; split at h
        · omega
        · split at h <;> omega
      · intro _ _
        refine ⟨rfl, ?_⟩
        simp only
        omega
    · rw [hwi, if_neg (by simp; omega), if_pos (by omega)] at e1
      rw [hwi2, if_neg (by simp; omega), if_neg (by omega)] at e2
      refine ⟨p, _, _, _, _, _, rfl, e1, e2, hwn, hq1, whF_right _, c1, c2, hwn, pf, fw _ (by omega) (by omega), fw _ (by omega) (by omega), fx, ?_, ?_, ?_⟩
      · intro h; split at h
        · omega
        · split at h <;> omega
      · intro _ h; rfl
      · intro _ h; rw [if_pos (by omega)] at h; omega
  · rw [hwi, if_neg (by simp; omega), if_neg (by omega)] at e1
    rw [hwi2, if_neg (by simp; omega), if_pos (by omega)] at e2
    refine ⟨p, _, _, _, _, _, rfl, e1, e2, hwn2, hq1, whF_right _, c1, c2, hwn, pf, fw _ (by omega) (by omega), fw _ (by omega) (by omega), fx, ?_, ?_, ?_⟩
    · intro h; rfl
    · intro h; rw [if_neg (by omega), if_pos (by omega)] at h; omega
    · intro h; rw [if_neg (by omega), if_pos (by omega)] at h; omega
end Go.Idl
