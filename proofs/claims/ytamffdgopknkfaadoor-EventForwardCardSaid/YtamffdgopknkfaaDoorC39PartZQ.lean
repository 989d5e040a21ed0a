/-
  Package event: Carry.
-/
import Derived.Test.YtamffdgopknkfaaDoorC39PartT
import Derived.Test.YtamffdgopknkfaaDoorC39PartZP
namespace Go.Idl
set_option linter.all false
open Go.Proofs
set_option maxHeartbeats 16000000
set_option maxRecDepth 40000

/-- The margin of two teams. -/
def mgT1 (a b s : Int) (m : Em) : Int := if m.a = a ∧ m.b = b then m.m else if m.a = b ∧ m.b = a then -m.m else s
def mgT (a b : Int) (l : List Em) : Int := l.foldl (mgT1 a b) 0
theorem mgT_neg {a b : Int} (h : a ≠ b) : ∀ (l : List Em) (s : Int), l.foldl (mgT1 b a) (-s) = -l.foldl (mgT1 a b) s
  | [], _ => rfl
  | m :: l, s => by
    rw [List.foldl_cons, List.foldl_cons]
    have e : mgT1 b a (-s) m = -mgT1 a b s m := by
      unfold mgT1
      by_cases h1 : m.a = b ∧ m.b = a
      · rw [if_pos h1, if_neg (fun h2 => h (h2.1.symm.trans h1.1)), if_pos h1]; omega
      · rw [if_neg h1]
        by_cases h2 : m.a = a ∧ m.b = b
        · rw [if_pos h2, if_pos h2]
        · rw [if_neg h2, if_neg h2, if_neg h1]
    rw [e]
    exact mgT_neg h l _
theorem mgT_bd {a b N : Int} (hN : 0 ≤ N) : ∀ {l : List Em} {s : Int}, (∀ m ∈ l, -N ≤ m.m ∧ m.m ≤ N) → -N ≤ s ∧ s ≤ N → -N ≤ l.foldl (mgT1 a b) s ∧ l.foldl (mgT1 a b) s ≤ N
  | [], _, _, h => h
  | m :: l, s, h, hs => by
    rw [List.foldl_cons]
    have hm := h m (List.mem_cons_self ..)
    refine mgT_bd hN (fun x hx => h x (List.mem_cons_of_mem _ hx)) ?_
    unfold mgT1
    split
    · exact hm
    · split <;> omega
def clampM (d : Int) : Int := if 100000 < (if d < -100000 then -100000 else d) then 100000 else if d < -100000 then -100000 else d
def carE (p : Pl) (l : List Em) (a b : Int) (f : Frc) (n : Int) : Frc × Int :=
  if (chkR p l).2 ≠ 0 then (⟨0, 0⟩, (chkR p l).2)
  else if a < 1 ∨ p.t < a ∨ b < 1 ∨ p.t < b ∨ a = b then (⟨0, 0⟩, 2)
  else if (carryF f n (clampM (mgT a b l))).2 ≠ 0 then (⟨0, 0⟩, (carryF f n (clampM (mgT a b l))).2) else ((carryF f n (clampM (mgT a b l))).1, 0)
theorem evCarry_fun (p : Pl) (l : List Em) (a b : Int) (f : Frc) (n : Int) (h : ArgE p l) (hg : (chkR p l).2 = 0 → ∀ m ∈ l, -1000000 ≤ m.m ∧ m.m ≤ 1000000) (hf : FitF f) (hn : -2 ^ 63 ≤ n ∧ n < 2 ^ 63) :
    FN 27 [p.v, .fz 4 (ems l), .int .i64 a, .int .i64 b, f.v, .int .i64 n] (fun v => v = .tup [(carE p l a b f n).1.v, .int .i64 (carE p l a b f n).2]) := by
  refine IFun.of_bodyW false 21 [28, 53, 55, 56, 57, 58, 61, 74, 99] Tryd.func27 rfl Tryd.call27 rfl fun R hR => ?_
  have cc := Check_fun p l h.t h.s h.l
  have hll := h.l
  have fin : ∀ (r : IV) (σ : Heap) (q : Frc × Int), carE p l a b f n = q → frzOK false 4 σ r ∧ nz 4 (frzV 4 σ r) (.tup [q.1.v, .int .i64 q.2]) → R r σ := fun r σ q e h => hR r σ _ rfl (by rw [e]; exact h)
  clear hR
  by_cases he : (chkR p l).2 = 0
  case neg =>
    have hE : carE p l a b f n = (⟨0, 0⟩, (chkR p l).2) := by unfold carE; rw [if_pos he]
    simp only [Pl.v, Frc.v] at *
    refine IWp.now ?_
    simp [go_sem]
    refine cc.callF (by simp [go_sem]) ?_
    rintro _ rfl
    simp [go_sem, he]
    exact fin _ _ _ hE (by simp [go_sem])
  have hE : carE p l a b f n = if a < 1 ∨ p.t < a ∨ b < 1 ∨ p.t < b ∨ a = b then (⟨0, 0⟩, 2) else if (carryF f n (clampM (mgT a b l))).2 ≠ 0 then (⟨0, 0⟩, (carryF f n (clampM (mgT a b l))).2) else ((carryF f n (clampM (mgT a b l))).1, 0) := by unfold carE; rw [if_neg (by simp [he])]
  have hm := hg he
  have hmb := mgT_bd (a := a) (b := b) (N := 1000000) (by decide) (l := l) (s := 0) hm (by decide)
  have hcl : -100000 ≤ clampM (mgT a b l) ∧ clampM (mgT a b l) ≤ 100000 := by unfold clampM; split <;> (try split) <;> omega
  have ck := carry38_fun f n (clampM (mgT a b l)) hf hn (by omega)
  simp only [Pl.v, Frc.v] at *
  refine IWp.now ?_
  simp [go_sem]
  refine cc.callF (by simp [go_sem]) ?_
  rintro _ rfl
  by_cases hbad : a < 1 ∨ p.t < a ∨ b < 1 ∨ p.t < b ∨ a = b
  · rw [if_pos hbad] at hE
    by_cases c1 : a < 1
    · simp [go_sem, he, c1]
      exact fin _ _ _ hE (by simp [go_sem])
    by_cases c2 : p.t < a
    · simp [go_sem, he, c1, c2]
      exact fin _ _ _ hE (by simp [go_sem])
    by_cases c3 : b < 1
    · simp [go_sem, he, c1, c2, c3]
      exact fin _ _ _ hE (by simp [go_sem])
    by_cases c4 : p.t < b
    · simp [go_sem, he, c1, c2, c3, c4]
      exact fin _ _ _ hE (by simp [go_sem])
    have c5 : a = b := by omega
    subst c5
    simp [go_sem, he, c1, c2]
    exact fin _ _ _ hE (by simp [go_sem])
  rw [if_neg hbad] at hE
  have c1 : ¬ a < 1 := by omega
  have c2 : ¬ p.t < a := by omega
  have c3 : ¬ b < 1 := by omega
  have c4 : ¬ p.t < b := by omega
  have c5 : ¬ a = b := by omega
  have c5' : (a == b) = false := by rw [beq_eq_false_iff_ne]; exact c5
  obtain ⟨F, hF⟩ : ∃ F : Nat → Int, ∀ i, F i = (l.take i).foldl (mgT1 a b) 0 := ⟨_, fun _ => rfl⟩
  have f0 : F 0 = 0 := by rw [hF]; rfl
  have fl : F l.length = mgT a b l := by rw [hF, List.take_length]; rfl
  have fs : ∀ i (hi : i < l.length), F (i + 1) = mgT1 a b (F i) l[i] := fun i hi => by rw [hF, hF, List.take_succ_eq_append_getElem hi, List.foldl_append]; rfl
  clear hF
  simp [go_sem, he, c1, c2, c3, c4, c5, c5']
  refine IWp.shut fun Q hQ => ?_
  refine IWp.loopI (α := Nat) (fun i => (⟨false, 103, 21, [28, 53, 55, 56, 57, 58, 61, 74, 99], glT, [(2, .int .i64 a), (3, .int .i64 b), (5, .int .i64 n), (10, .ptr 1 1 0 0), (12, .ptr 2 1 0 0), (16, .int .i64 (F i)), (55, .fz 4 (ems l)), (56, .int .i64 l.length), (57, .int .i64 (i : Int))], []⟩, [.dead, .rows 2 [[.int .i64 f.num, .int .i64 f.den]], .rows 2 [[.int .i64 0, .int .i64 0]]]))
    (fun i => i ≤ l.length) (fun i => l.length - i) 0 (by omega) (by simp [go_sem, f0]) ?_
  intro i hi
  by_cases hil : i < l.length
  · have wi : IntKind.i64.wrap ((i : Int) + 1) = i + 1 := wrap64 (by omega) (by omega)
    have hmi := hm l[i] (List.getElem_mem hil)
    have hfs := fs i hil
    obtain ⟨m, hmm⟩ : ∃ m, l[i] = m := ⟨_, rfl⟩
    rw [hmm] at hmi hfs
    obtain ⟨m1, m2, m3, m4⟩ := m
    simp only [mgT1] at hmi hfs
    have wm : IntKind.i64.wrap (-m4) = -m4 := wrap64 (by omega) (by omega)
    refine IWp.now ?_
    by_cases d1 : m2 = a
    · by_cases d2 : m3 = b
      · rw [if_pos ⟨d1, d2⟩] at hfs
        simp [go_sem, hil, hmm, d1, d2, wi]
        exact ⟨i + 1, ⟨by rw [hfs], by omega⟩, by omega, by omega⟩
      · have d3 : ¬ m2 = b := fun e => c5 (by rw [← d1, e])
        have d3' : ¬ a = b := c5
        rw [if_neg (fun h => d2 h.2), if_neg (fun h => d3 h.1)] at hfs
        simp [go_sem, hil, hmm, d1, d2, d3', wi]
        exact ⟨i + 1, ⟨by rw [hfs], by omega⟩, by omega, by omega⟩
    · rw [if_neg (fun h => d1 h.1)] at hfs
      by_cases d3 : m2 = b
      · by_cases d4 : m3 = a
        · rw [if_pos ⟨d3, d4⟩] at hfs
          have d5 : ¬ b = a := fun e => c5 e.symm
          simp [go_sem, hil, hmm, d3, d4, d5, wi, wm]
          exact ⟨i + 1, ⟨by rw [hfs], by omega⟩, by omega, by omega⟩
        · rw [if_neg (fun h => d4 h.2)] at hfs
          have d5 : ¬ b = a := fun e => c5 e.symm
          simp [go_sem, hil, hmm, d3, d4, d5, wi]
          exact ⟨i + 1, ⟨by rw [hfs], by omega⟩, by omega, by omega⟩
      · rw [if_neg (fun h => d3 h.1)] at hfs
        simp [go_sem, hil, hmm, d1, d3, wi]
        exact ⟨i + 1, ⟨by rw [hfs], by omega⟩, by omega, by omega⟩
  obtain rfl : i = l.length := by omega
  rw [fl]
  have ecl : (if 100000 < (if mgT a b l < -100000 then -100000 else mgT a b l) then 100000 else if mgT a b l < -100000 then -100000 else mgT a b l) = clampM (mgT a b l) := rfl
  refine IWp.now ?_
  simp [go_sem]
  rw [hQ]
  simp [go_sem, ecl]
  generalize clampM (mgT a b l) = D at *
  generalize carryF f n D = q at *
  obtain ⟨⟨q1, q2⟩, q3⟩ := q
  simp only at hE ck
  refine ck.callF (by simp [go_sem]) ?_
  rintro _ rfl
  by_cases hq : q3 = 0
  · rw [if_neg (by simp [hq])] at hE
    simp [go_sem, hq]
    exact fin _ _ _ hE (by simp [go_sem])
  · rw [if_pos hq] at hE
    have hq2 : (q3 != 0) = true := by rw [bne_iff_ne]; exact hq
    simp [go_sem, hq, hq2]
    exact fin _ _ _ hE (by simp [go_sem])
end Go.Idl
