import Derived.Test.YtamffdgopknkfaaGreatDoorC39zPartZI
import Derived.Test.YtamffdgopknkfaaGreatDoorC39zPartZJ
set_option linter.all false
set_option maxHeartbeats 16000000
set_option maxRecDepth 40000
namespace Go.Idl
open Go.Proofs
theorem carries39_fun (p : Pl) (l : List Em) (a b : Int) (f : Frc) (n : Int) (hf : FitF f) (hn : -2 ^ 63 ≤ n ∧ n < 2 ^ 63) :
  FN 5 [p.v, .fz 4 (ems l), .int .i64 a, .int .i64 b, f.v, .int .i64 n] (fun v => v = .bool true) := by
 refine IFun.of_bodyW false 20 [23, 24, 25, 26, 27] Tryz.func5 rfl Tryz.call5 rfl fun R hR => ?_
 have cf := few39_fun p l
 cases hfw : fewB p l with
 | false =>
  rw [hfw] at cf
  simp only [Pl.v, Frc.v] at *
  refine IWp.now ?_
  simp [go_sem]
  refine cf.callF (by simp [go_sem]) ?_
  rintro _ rfl
  simp [go_sem]
  exact hR _ _ _ rfl (by simp [go_sem])
 | true =>
 rw [hfw] at cf
 have hsl : p.s.length ≤ 60 ∧ l.length ≤ 40 := by
  unfold fewB at hfw
  simp only [Bool.and_eq_true, Bool.or_eq_true, decide_eq_true_eq] at hfw
  omega
 have hA : ArgE p l := by
  unfold fewB at hfw
  simp only [Bool.and_eq_true, Bool.or_eq_true, decide_eq_true_eq] at hfw
  refine ⟨fun hp => ?_, by omega, by omega⟩
  unfold plB at hp
  simp only [Bool.and_eq_true, decide_eq_true_eq] at hp
  omega
 have hg : (chkR p l).2 = 0 → ∀ m ∈ l, -1000000 ≤ m.m ∧ m.m ≤ 1000000 := fun he m hm => by
  have := (StM.of_chk he).good.mr m hm
  simpa [mrB] using this
 have k1 := evCarry_fun p l a b f n hA hg hf hn
 have r1 := refCarry39_fun p l a b f n hA hg hf hn
 generalize carE p l a b f n = q at *
 obtain ⟨⟨q1, q2⟩, q3⟩ := q
 simp only [Pl.v, Frc.v] at *
 refine IWp.seqI ?_
 simp [go_sem]
 refine IWp.seqI ?_
 simp [go_sem]
 refine cf.callF (by simp [go_sem]) ?_
 rintro _ rfl
 simp [go_sem]
 refine IWp.seqI ?_
 simp [go_sem]
 refine IWp.ownNilS 4 13 (by decide) (by simp [go_sem]) ?_
 simp [go_sem]
 refine IWp.seqT (α := Unit) (fun _ => (⟨false, 63, 20, [23, 24, 25, 26, 27], glT, [(1, .fz 4 (ems l)), (2, .int .i64 a), (3, .int .i64 b), (5, .int .i64 n), (6, .ptr 0 1 0 0), (10, .ptr 1 1 0 0), (13, .sl 2 l.length 0 l.length none)], []⟩, [.rows 4 [[.int .i64 p.t, .int .i64 p.r, .int .i64 p.b, .fz 1 (ints p.s)]], .rows 2 [[.int .i64 f.num, .int .i64 f.den]], .rows 4 (ems l)])) (fun _ => True) ?_ ?_
 ·simp [go_sem]
  refine IWp.loopT (α := Nat) (fun i => (⟨false, 63, 20, [23, 24, 25, 26, 27], glT, [(1, .fz 4 (ems l)), (2, .int .i64 a), (3, .int .i64 b), (5, .int .i64 n), (6, .ptr 0 1 0 0), (10, .ptr 1 1 0 0), (13, .sl 2 (l.take i).length 0 (l.take i).length none), (24, .fz 4 (ems l)), (25, .int .i64 l.length), (26, .int .i64 (i : Int))], []⟩, [.rows 4 [[.int .i64 p.t, .int .i64 p.r, .int .i64 p.b, .fz 1 (ints p.s)]], .rows 2 [[.int .i64 f.num, .int .i64 f.den]], .rows 4 (ems (l.take i))]))
   (fun i => i ≤ l.length) (fun i => l.length - i) 0 (by omega) (by simp [go_sem]) ?_
  intro i hi
  by_cases hil : i < l.length
  ·have wi : IntKind.i64.wrap ((i : Int) + 1) = i + 1 := wrap64 (by omega) (by omega)
   have hmn : min i l.length = i := by omega
   have hmn1 : min (i + 1) l.length = i + 1 := by omega
   have hsn : ems (l.take (i + 1)) = ems (l.take i) ++ [[.int .i64 l[i].r, .int .i64 l[i].a, .int .i64 l[i].b, .int .i64 l[i].m]] := by
    rw [List.take_succ_eq_append_getElem hil, ems_snoc]
   simp [go_sem, hil, wi, hmn]
   exact ⟨by omega, i + 1, ⟨⟨hmn1.symm, by omega⟩, hsn⟩, by omega, by omega⟩
  ·obtain rfl : i = l.length := by omega
   rw [List.take_length]
   simp [go_sem]
 rintro _ _
 refine IWp.seqI ?_
 simp [go_sem]
 refine k1.callF (by simp [go_sem]) ?_
 rintro _ rfl
 simp [go_sem]
 refine IWp.seqI ?_
 simp [go_sem]
 refine r1.callF (by simp [go_sem]) ?_
 rintro _ rfl
 simp [go_sem]
 refine IWp.now ?_
 simp [go_sem]
 exact hR _ _ _ rfl (by simp [go_sem])
open Go.RowKit in
theorem fit_frc39 {cs : List IV} (h : fitL [.int .i64, .int .i64] cs) : ∃ q : {f : Frc // FitF f}, cs = [.int .i64 q.1.num, .int .i64 q.1.den] := by
 obtain ⟨a, r1, rfl, w1, h1⟩ := fitL_int h
 obtain ⟨b, r2, rfl, w2, h2⟩ := fitL_int h1
 obtain rfl := fitL_nil h2
 exact ⟨⟨⟨a, b⟩, wf64 w1, wf64 w2⟩, rfl⟩
end Go.Idl
