import Derived.Test.YtamffdgopknkfaaGreatDoorC39zPartZG
import Derived.Test.YtamffdgopknkfaaGreatDoorC39zPartZD
set_option linter.all false
set_option maxHeartbeats 16000000
set_option maxRecDepth 40000
namespace Go.Idl
open Go.Proofs
theorem carryF_err {p : Frc} {m d : Int} (h : (carryF p m d).2 ≠ 0) : (carryF p m d).1 = ⟨0, 0⟩ := by
 unfold carryF at h ⊢
 split
 ·rfl
 ·rename_i h1
  rw [if_neg h1] at h
  split
  ·rfl
  ·rename_i h2
   rw [if_neg h2] at h
   split
   ·rename_i h3; rw [if_pos h3] at h; exact absurd rfl h
   ·rename_i h3
    rw [if_neg h3] at h
    split at h <;> exact absurd rfl h
theorem refCarry39_fun (p : Pl) (l : List Em) (a b : Int) (f : Frc) (n : Int) (h : ArgE p l) (hg : (chkR p l).2 = 0 → ∀ m ∈ l, -1000000 ≤ m.m ∧ m.m ≤ 1000000) (hf : FitF f) (hn : -2 ^ 63 ≤ n ∧ n < 2 ^ 63) :
  FN 14 [p.v, .fz 4 (ems l), .int .i64 a, .int .i64 b, f.v, .int .i64 n] (fun v => v = .tup [(carE p l a b f n).1.v, .int .i64 (carE p l a b f n).2]) := by
 refine IFun.of_bodyW false 20 [27, 52, 57, 75, 96, 104, 106] Tryz.func14 rfl Tryz.call14 rfl fun R hR => ?_
 have cc := refCheck_fun p l h.t h.s h.l
 have hll := h.l
 have fin : ∀ (r : IV) (σ : Heap) (q : Frc × Int), carE p l a b f n = q → frzOK false 4 σ r ∧ nz 4 (frzV 4 σ r) (.tup [q.1.v, .int .i64 q.2]) → R r σ := fun r σ q e h => hR r σ _ rfl (by rw [e]; exact h)
 clear hR
 by_cases he : (chkR p l).2 = 0
 case neg =>
  have hE : carE p l a b f n = (⟨0, 0⟩, (chkR p l).2) := by unfold carE; rw [if_pos he]
  simp only [Pl.v, Frc.v] at *
  refine IWp.now ?_
  simp [go_sem]
  refine cc.callF (by simp [go_sem]) ?_
  rintro _ rfl
  simp [go_sem, he]
  exact fin _ _ _ hE (by simp [go_sem])
 have hE : carE p l a b f n = if a < 1 ∨ p.t < a ∨ b < 1 ∨ p.t < b ∨ a = b then (⟨0, 0⟩, 2) else if (carryF f n (clampM (mgT a b l))).2 ≠ 0 then (⟨0, 0⟩, (carryF f n (clampM (mgT a b l))).2) else ((carryF f n (clampM (mgT a b l))).1, 0) := by unfold carE; rw [if_neg (by simp [he])]
 have hm := hg he
 have hmb := mgT_bd (a := a) (b := b) (N := 1000000) (by decide) (l := l) (s := 0) hm (by decide)
 have hcl : -100000 ≤ clampM (mgT a b l) ∧ clampM (mgT a b l) ≤ 100000 := by unfold clampM; split <;> (try split) <;> omega
 have ck := refCarry_fun f n (clampM (mgT a b l)) hf hn (by omega)
 simp only [Pl.v, Frc.v] at *
 refine IWp.now ?_
 simp [go_sem]
 refine cc.callF (by simp [go_sem]) ?_
 rintro _ rfl
 by_cases hbad : a < 1 ∨ p.t < a ∨ b < 1 ∨ p.t < b ∨ a = b
 ·rw [if_pos hbad] at hE
  by_cases c1 : a < 1
  ·simp [go_sem, he, c1]
   exact fin _ _ _ hE (by simp [go_sem])
  by_cases c3 : b < 1
  ·simp [go_sem, he, c1, c3]
   exact fin _ _ _ hE (by simp [go_sem])
  by_cases c2 : p.t < a
  ·simp [go_sem, he, c1, c2, c3]
   exact fin _ _ _ hE (by simp [go_sem])
  by_cases c4 : p.t < b
  ·simp [go_sem, he, c1, c2, c3, c4]
   exact fin _ _ _ hE (by simp [go_sem])
  have c5 : a = b := by omega
  subst c5
  simp [go_sem, he, c1, c2]
  exact fin _ _ _ hE (by simp [go_sem])
 rw [if_neg hbad] at hE
 have c1 : ¬ a < 1 := by omega
 have c2 : ¬ p.t < a := by omega
 have c3 : ¬ b < 1 := by omega
 have c4 : ¬ p.t < b := by omega
 have c5 : ¬ a = b := by omega
 have c5' : (a == b) = false := by rw [beq_eq_false_iff_ne]; exact c5
 have c6 : ¬ b = a := fun e => c5 e.symm
 obtain ⟨F, hF⟩ : ∃ F : Nat → Int, ∀ i, F i = (l.take i).foldl (mgT1 a b) 0 := ⟨_, fun _ => rfl⟩
 have f0 : F 0 = 0 := by rw [hF]; rfl
 have fl : F l.length = mgT a b l := by rw [hF, List.take_length]; rfl
 have fs : ∀ i (hi : i < l.length), F (i + 1) = mgT1 a b (F i) l[i] := fun i hi => by rw [hF, hF, List.take_succ_eq_append_getElem hi, List.foldl_append]; rfl
 clear hF
 simp [go_sem, he, c1, c2, c3, c4, c5, c5']
 refine IWp.shut fun Q hQ => ?_
 refine IWp.loopI (α := Nat) (fun i => (⟨false, 116, 20, [27, 52, 57, 75, 96, 104, 106], glT, [(1, .fz 4 (ems l)), (2, .int .i64 a), (3, .int .i64 b), (5, .int .i64 n), (10, .ptr 1 1 0 0), (12, .ptr 2 1 0 0), (16, .int .i64 (F i)), (17, .int .i64 (i : Int))], []⟩, [.dead, .rows 2 [[.int .i64 f.num, .int .i64 f.den]], .rows 2 [[.int .i64 0, .int .i64 0]]]))
  (fun i => i ≤ l.length) (fun i => l.length - i) 0 (by omega) (by simp [go_sem, f0]) ?_
 intro i hi
 by_cases hil : i < l.length
 ·have wi : IntKind.i64.wrap ((i : Int) + 1) = i + 1 := wrap64 (by omega) (by omega)
  have hmi := hm l[i] (List.getElem_mem hil)
  have hfs := fs i hil
  obtain ⟨m, hmm⟩ : ∃ m, l[i] = m := ⟨_, rfl⟩
  have hq := ems_q hil hmm
  rw [hmm] at hmi hfs
  obtain ⟨m1, m2, m3, m4⟩ := m
  simp only [mgT1] at hmi hfs hq
  have wm : IntKind.i64.wrap (-m4) = -m4 := wrap64 (by omega) (by omega)
  have wm' : IntKind.i64.wrap (0 - m4) = -m4 := by rw [wrap64 (by omega) (by omega)]; omega
  refine IWp.now ?_
  by_cases d1 : m2 = a
  ·by_cases d2 : m3 = b
   ·rw [if_pos ⟨d1, d2⟩] at hfs
    simp [go_sem, hil, hmm, hq, d1, d2, c5, c5', wi]
    exact ⟨i + 1, ⟨by rw [hfs], by omega⟩, by omega, by omega⟩
   ·have d3 : ¬ m2 = b := fun e => c5 (by rw [← d1, e])
    rw [if_neg (fun h => d2 h.2), if_neg (fun h => d3 h.1)] at hfs
    simp [go_sem, hil, hmm, hq, d1, d2, c5, c5', wi]
    exact ⟨i + 1, ⟨by rw [hfs], by omega⟩, by omega, by omega⟩
  ·rw [if_neg (fun h => d1 h.1)] at hfs
   by_cases d3 : m2 = b
   ·by_cases d4 : m3 = a
    ·rw [if_pos ⟨d3, d4⟩] at hfs
     simp [go_sem, hil, hmm, hq, d3, d4, c6, wi, wm, wm']
     exact ⟨i + 1, ⟨by rw [hfs], by omega⟩, by omega, by omega⟩
    ·rw [if_neg (fun h => d4 h.2)] at hfs
     simp [go_sem, hil, hmm, hq, d3, d4, c6, wi]
     exact ⟨i + 1, ⟨by rw [hfs], by omega⟩, by omega, by omega⟩
   ·rw [if_neg (fun h => d3 h.1)] at hfs
    simp [go_sem, hil, hmm, hq, d1, d3, wi]
    exact ⟨i + 1, ⟨by rw [hfs], by omega⟩, by omega, by omega⟩
 obtain rfl : i = l.length := by omega
 rw [fl]
 have w9 : IntKind.i64.wrap (-100000) = -100000 := by decide
 have hcm : ∀ D, clampM D = if 100000 < D then 100000 else if D < -100000 then -100000 else D := fun D => by unfold clampM; split <;> split <;> (try split) <;> omega
 have hce := fun h => carryF_err (p := f) (m := n) (d := clampM (mgT a b l)) h
 have hcm2 := hcm (mgT a b l)
 generalize hD : clampM (mgT a b l) = D at *
 generalize mgT a b l = G at *
 generalize carryF f n D = q at *
 obtain ⟨⟨q1, q2⟩, q3⟩ := q
 simp only at hE ck hce
 have hE2 : carE p l a b f n = (⟨q1, q2⟩, q3) := by
  rw [hE]
  by_cases hq : q3 = 0
  ·rw [if_neg (by simp [hq]), hq]
  ·rw [if_pos hq, hce hq]
 refine IWp.now ?_
 simp [go_sem]
 rw [hQ]
 by_cases g1 : 100000 < G
 ·rw [if_pos g1] at hcm2
  subst hcm2
  simp [go_sem, g1]
  refine ck.callF (by simp [go_sem]) ?_
  rintro _ rfl
  simp [go_sem]
  exact fin _ _ _ hE2 (by simp [go_sem])
 ·rw [if_neg g1] at hcm2
  by_cases g2 : G < -100000
  ·rw [if_pos g2] at hcm2
   subst hcm2
   simp [go_sem, g1, g2, w9]
   refine ck.callF (by simp [go_sem]) ?_
   rintro _ rfl
   simp [go_sem]
   exact fin _ _ _ hE2 (by simp [go_sem])
  ·rw [if_neg g2] at hcm2
   subst hcm2
   simp [go_sem, g1, g2]
   refine ck.callF (by simp [go_sem]) ?_
   rintro _ rfl
   simp [go_sem]
   exact fin _ _ _ hE2 (by simp [go_sem])
end Go.Idl
