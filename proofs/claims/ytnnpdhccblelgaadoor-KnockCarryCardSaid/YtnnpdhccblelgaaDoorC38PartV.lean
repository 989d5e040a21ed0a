/-
  Chapter 38: KnockCarry: walk and law.
-/
import Derived.Test.YtnnpdhccblelgaaDoorC38PartR
import Derived.Test.YtnnpdhccblelgaaDoorC38PartU
import Derived.Test.YtnnpdhccblelgaaDoorC38PartB
namespace Go.Idl
set_option linter.all false
open Go.Proofs
set_option maxHeartbeats 16000000
set_option maxRecDepth 40000

theorem knockCarry_fun (P : Int) (m d : Int) (hP : 0 ≤ P ∧ P < 256) (hm : 0 ≤ m ∧ m ≤ 65535) (hd : -32768 ≤ d ∧ d ≤ 32767) : FN 6 [.int .u8 P, .int .u16 m, .int .i16 d] (fun v => v = .bool true) := by
  refine IFun.of_bodyW false 24 [25, 84, 105, 111] Tryd.func6 rfl Tryd.call6 rfl fun R hR => ?_
  have hPm : P.tmod 101 = ((P.tmod 101).toNat : Nat) := by rw [Int.tmod_eq_emod_of_nonneg (by omega)]; omega
  have hPl : (P.tmod 101).toNat < 101 := by rw [Int.tmod_eq_emod_of_nonneg (by omega)]; omega
  obtain ⟨p, a, b, x, h, l, e1, e2, e3, e4, e5, e6, e7, e8, e9, fp, fa, fb, fx, k1, k2, k3⟩ := carry_plain _ hPl m d hm hd
  have c1 := makeF_fun ((P.tmod 101).toNat : Nat) 100 (by omega) (by decide)
  have c2 := carry38_fun p m d fp (by omega) (by omega)
  have c3 := carry38_fun p m (-d) fp (by omega) (by omega)
  have c4 := neg_fun b fb
  have c5 := mulF_fun p (whF d) fp (whF_fit (by omega))
  have c6 := right_fun a fa.1 fa.2
  have c7 := cmpG_fun x (whF m) fx (whF_fit (by omega))
  have c8 := neg_fun (whF m) (whF_fit (by omega))
  have c9 := cmpG_fun x (whF (-m)) fx (whF_fit (by omega))
  rw [e1] at c1
  rw [e2] at c2
  rw [e3] at c3
  rw [e4] at c4
  rw [e5] at c5
  rw [e6] at c6
  rw [e7] at c7
  rw [e9] at c8
  rw [e8] at c9
  clear e1 e2 e3 e4 e5 e6 e7 e8 e9
  generalize (P.tmod 101).toNat = Q at *
  obtain ⟨pn, pd⟩ := p
  obtain ⟨an, ad⟩ := a
  obtain ⟨bn, bd⟩ := b
  obtain ⟨xn, xd⟩ := x
  simp only [Frc.v, whF, Frc.mk.injEq] at *
  have w1 : IntKind.i64.wrap P = P := wrap64 (by omega) (by omega)
  have w2 : IntKind.i64.wrap m = m := wrap64 (by omega) (by omega)
  have w3 : IntKind.i64.wrap d = d := wrap64 (by omega) (by omega)
  have w4 : IntKind.i64.wrap (-d) = -d := wrap64 (by omega) (by omega)
  have w5 : IntKind.i64.wrap (Q : Int) = Q := wrap64 (by omega) (by omega)
  have w6 : IntKind.u8.wrap (Q : Int) = Q := by simp [IntKind.wrap, IntKind.bits, IntKind.signed]; omega
  have z0 : IntKind.i64.wrap 0 = 0 := by decide
  refine IWp.seqI ?_
  simp [go_sem]
  refine IWp.seqI ?_
  simp [go_sem]
  refine awake38_fun.callF (by simp [go_sem]) ?_
  rintro _ rfl
  simp [go_sem]
  refine IWp.seqI ?_
  simp [go_sem, w1, w2, w3, w4, w5, hPm, z0]
  refine c1.callF (by simp [go_sem]) ?_
  rintro _ rfl
  simp [go_sem]
  refine IWp.seqI ?_
  simp [go_sem, w1, w2, w3, w4, w5, hPm, z0]
  refine c2.callF (by simp [go_sem]) ?_
  rintro _ rfl
  simp [go_sem]
  refine IWp.seqI ?_
  simp [go_sem, w1, w2, w3, w4, w5, hPm, z0]
  refine c3.callF (by simp [go_sem]) ?_
  rintro _ rfl
  simp [go_sem]
  refine IWp.seqI ?_
  simp [go_sem, w1, w2, w3, w4, w5, hPm, z0]
  refine c4.callF (by simp [go_sem]) ?_
  rintro _ rfl
  simp [go_sem]
  refine IWp.seqI ?_
  simp [go_sem, w1, w2, w3, w4, w5, hPm, z0]
  refine c5.callF (by simp [go_sem]) ?_
  rintro _ rfl
  simp [go_sem]
  refine IWp.seqI ?_
  simp [go_sem, w1, w2, w3, w4, w5, hPm, z0]
  refine c6.callF (by simp [go_sem]) ?_
  rintro _ rfl
  simp [go_sem]
  refine IWp.seqI ?_
  simp [go_sem, w1, w2, w3, w4, w5, hPm, z0]
  refine IWp.seqI ?_
  simp [go_sem, w1, w2, w3, w4, w5, hPm, z0]
  refine c7.callF (by simp [go_sem]) ?_
  rintro _ rfl
  simp [go_sem]
  refine IWp.seqI ?_
  simp [go_sem, w1, w2, w3, w4, w5, hPm, z0]
  refine c8.callF (by simp [go_sem]) ?_
  rintro _ rfl
  simp [go_sem]
  refine IWp.seqI ?_
  simp [go_sem, w1, w2, w3, w4, w5, hPm, z0]
  refine c9.callF (by simp [go_sem]) ?_
  rintro _ rfl
  simp [go_sem]
  by_cases hh : 0 < h
  · obtain ⟨q1, q2⟩ := k1 hh
    subst q1
    subst q2
    refine IWp.seqI ?_
    simp [go_sem, hh]
    exact hR _ _ _ rfl (by simp [go_sem])
  · by_cases hl : l < 0
    · obtain ⟨q1, q2⟩ := k2 hh hl
      subst q1
      subst q2
      refine IWp.seqI ?_
      simp [go_sem, hh, hl]
      exact hR _ _ _ rfl (by simp [go_sem])
    · obtain ⟨⟨q1, q2⟩, k4⟩ := k3 hh hl
      subst q1
      subst q2
      refine IWp.seqI ?_
      simp [go_sem, hh, hl]
      refine IWp.seqI ?_
      rcases k4 with ⟨r1, r2⟩ | ⟨r1, r2⟩ | ⟨r1, r2⟩
      · simp [go_sem, r1, r2]
        refine IWp.now ?_
        simp [go_sem]
        exact hR _ _ _ rfl (by simp [go_sem])
      · have r3 : ¬ 0 < an := by omega
        simp [go_sem, r1, r2, r3]
        refine IWp.now ?_
        simp [go_sem]
        exact hR _ _ _ rfl (by simp [go_sem])
      · subst r1
        by_cases hd0 : d = 0
        · subst hd0
          simp [go_sem]
          refine IWp.now ?_
          simp [go_sem]
          exact hR _ _ _ rfl (by simp [go_sem])
        · obtain rfl : Q = 0 := by omega
          simp [go_sem, hd0, hPm]
          refine IWp.now ?_
          simp [go_sem]
          exact hR _ _ _ rfl (by simp [go_sem])
theorem knockCarry_law (P m d : Int) (hP : (Lit.int .u8 P).wf = true) (hm : (Lit.int .u16 m).wf = true) (hd : (Lit.int .i16 d).wf = true) : FN 6 [.int .u8 P, .int .u16 m, .int .i16 d] (fun v => v = .bool true) :=
  knockCarry_fun P m d (wf8 hP) (by have := bounds_u16 hm; omega) (bounds_i16 hd)
end Go.Idl
