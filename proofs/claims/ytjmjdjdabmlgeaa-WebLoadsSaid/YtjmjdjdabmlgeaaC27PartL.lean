/-
  Chapter 27: awake.
-/
import Derived.Test.YtjmjdjdabmlgeaaC27PartK
namespace Go.Idl
set_option linter.all false
open Go.Proofs
set_option maxHeartbeats 16000000
set_option maxRecDepth 40000

theorem awake27_fun : FN 12 [] (fun v => v = .bool true) := by
  refine IFun.of_bodyW false 10 [57, 98, 152] Try.func12 rfl Try.call12 rfl fun R hR => ?_
  have mA := wmake_fun 6 3 1 (by decide)
  have mB := wmake_fun 4 2 1 (by decide)
  have mC := wmake_fun 4 2 2 (by decide)
  have mD := wmake_fun 3 3 3 (by decide)
  obtain ⟨⟨a1, a2⟩, a3, a4, a5⟩ := w27_1
  obtain ⟨⟨b1, b2⟩, b3, b4⟩ := w27_2
  obtain ⟨c1, c2, c3, c4⟩ := w27_3
  obtain ⟨⟨d1, d2⟩, d3, d4⟩ := w27_5
  have c5 := w27_4
  rw [a1] at mA
  rw [b1] at mB
  rw [ex_make.1, ex_make.2] at mC
  rw [d1] at mD
  have sA0 := sets27_fun (Web.makeM 1 6 3) 0 (by rw [a2]; decide)
  have sA1 := sets27_fun (Web.makeM 1 6 3) 1 (by rw [a2]; decide)
  have sB0 := sets27_fun (Web.makeM 1 4 2) 0 (by rw [b2]; decide)
  have sB1 := sets27_fun (Web.makeM 1 4 2) 1 (by rw [b2]; decide)
  have sC1 := sets27_fun exM 1 (by rw [c1]; decide)
  have sD2 := sets27_fun (Web.makeM 3 3 3) 2 (by rw [d2]; decide)
  have lC := loads_fun exM 1 (by rw [c1]; decide)
  have hC := shared1_fun
  have fC := feeds_fun exM 1 0 (by rw [c1]; decide) (by decide)
  have iC := idle_fun exM 1 (by rw [c1]; decide)
  have gD := copies_fun (Web.makeM 3 3 3) (by rw [d2]; decide)
  have iD := idle_fun (Web.makeM 3 3 3) 2 (by rw [d2]; decide)
  rw [a3] at sA0
  rw [a4] at sA1
  rw [b3] at sB0
  rw [b4] at sB1
  rw [c2] at sC1
  rw [c3] at lC
  rw [c5] at fC
  rw [c4] at iC
  rw [d3] at sD2
  rw [d4] at iD
  have a5 : ∃ h : 6 < (Web.makeM 1 6 3).rows.length, ((Web.makeM 1 6 3).rows[6]).ew = 12 := by
    rw [Option.map_eq_some_iff] at a5
    obtain ⟨x, hx, e⟩ := a5
    obtain ⟨h, e2⟩ := List.getElem?_eq_some_iff.1 hx
    exact ⟨h, by rw [e2]; exact e⟩
  clear a1 a3 a4 b1 b3 b4 c2 c3 c4 c5 d1 d3 d4
  generalize hA : Web.makeM 1 6 3 = A at *
  generalize hB : Web.makeM 1 4 2 = B at *
  generalize hCe : exM = C at *
  have hm : MaxL (Web.makeM 3 3 3).rows 3 := ⟨by decide +kernel, .inr (by decide +kernel)⟩
  generalize hD : Web.makeM 3 3 3 = D at *
  clear hA hB hCe hD
  obtain ⟨A1, A2, A3, A4, A5, AL⟩ := A
  obtain ⟨B1, B2, B3, B4, B5, BL⟩ := B
  obtain ⟨C1, C2, C3, C4, C5, CL⟩ := C
  obtain ⟨D1, D2, D3, D4, D5, DL⟩ := D
  simp only [Mv.v] at *
  refine IWp.seqI ?_
  simp [go_sem]
  refine IWp.seqI ?_
  simp [go_sem]
  refine mA.callF (by simp [go_sem]) ?_
  rintro _ rfl
  simp [go_sem]
  refine IWp.seqI ?_
  simp [go_sem]
  refine mB.callF (by simp [go_sem]) ?_
  rintro _ rfl
  simp [go_sem]
  refine IWp.seqI ?_
  simp [go_sem]
  refine mC.callF (by simp [go_sem]) ?_
  rintro _ rfl
  simp [go_sem]
  refine IWp.seqI ?_
  simp [go_sem]
  refine mD.callF (by simp [go_sem]) ?_
  rintro _ rfl
  simp [go_sem]
  refine IWp.seqI ?_
  simp [go_sem, a2, b2, c1, d2]
  obtain ⟨h6, a6⟩ := a5
  refine IWp.seqI ?_
  simp [go_sem]
  refine sA0.callF (by simp [go_sem]) ?_
  rintro _ rfl
  simp [go_sem]
  refine (equalInts_fun [0, 1, 2, 0, 1, 2] [0, 1, 2, 0, 1, 2] (by decide)).callF (by simp [go_sem, ints, mp]) ?_
  rintro _ rfl
  simp [go_sem]
  refine sA1.callF (by simp [go_sem]) ?_
  rintro _ rfl
  simp [go_sem]
  refine (equalInts_fun [1, 2, 0, 1, 2, 0] [1, 2, 0, 1, 2, 0] (by decide)).callF (by simp [go_sem, ints, mp]) ?_
  rintro _ rfl
  have x6 : (6 : Int).toNat = 6 := rfl
  simp [go_sem, h6, a6, x6]
  refine ⟨by omega, ?_⟩
  refine sB0.callF (by simp [go_sem]) ?_
  rintro _ rfl
  simp [go_sem]
  refine (equalInts_fun [0, 1, 2, 0] [0, 1, 2, 0] (by decide)).callF (by simp [go_sem, ints, mp]) ?_
  rintro _ rfl
  simp [go_sem]
  refine sB1.callF (by simp [go_sem]) ?_
  rintro _ rfl
  simp [go_sem]
  refine (equalInts_fun [1, 2, 0, 1] [1, 2, 0, 1] (by decide)).callF (by simp [go_sem, ints, mp]) ?_
  rintro _ rfl
  simp [go_sem]
  refine sC1.callF (by simp [go_sem]) ?_
  rintro _ rfl
  simp [go_sem]
  refine (equalInts_fun [1, 2, 0, 1] [1, 2, 0, 1] (by decide)).callF (by simp [go_sem, ints, mp]) ?_
  rintro _ rfl
  simp [go_sem]
  have o1 := wmost_fun 4 2 (by decide)
  have o2 := wmost_fun 2 2 (by decide)
  have o3 := wmost_fun 5 1 (by decide)
  rw [show (if Web.findE 4 2 = 0 then Web.most 4 2 else 0) = 2 by decide, show Web.findE 4 2 = 0 by decide] at o1
  rw [show (if Web.findE 2 2 = 0 then Web.most 2 2 else 0) = 0 by decide, show Web.findE 2 2 = 6 by decide] at o2
  rw [show (if Web.findE 5 1 = 0 then Web.most 5 1 else 0) = 0 by decide, show Web.findE 5 1 = 6 by decide] at o3
  have z0 : IntKind.i64.wrap 0 = 0 := by decide
  simp only [z0]
  refine IWp.seqI ?_
  simp [go_sem]
  refine o1.callF (by simp [go_sem]) ?_
  rintro _ rfl
  simp [go_sem]
  refine IWp.seqI ?_
  simp [go_sem]
  refine o2.callF (by simp [go_sem]) ?_
  rintro _ rfl
  simp [go_sem]
  refine IWp.seqI ?_
  simp [go_sem]
  refine o3.callF (by simp [go_sem]) ?_
  rintro _ rfl
  simp [go_sem]
  refine IWp.seqI ?_
  simp [go_sem]
  refine lC.callF (by simp [go_sem]) ?_
  rintro _ rfl
  simp [go_sem]
  refine (equalInts_fun [1, 2, 1] [1, 2, 1] (by decide)).callF (by simp [go_sem, ints, mp]) ?_
  rintro _ rfl
  simp [go_sem]
  refine hC.callF (by simp [go_sem]) ?_
  rintro _ rfl
  simp [go_sem]
  refine (equalP1_fun 0 3).callF (by simp [go_sem]) ?_
  rintro _ rfl
  simp [go_sem]
  refine fC.callF (by simp [go_sem]) ?_
  rintro _ rfl
  simp [go_sem]
  refine (equalInts_fun [1] [1] (by decide)).callF (by simp [go_sem, ints, mp]) ?_
  rintro _ rfl
  simp [go_sem]
  refine iC.callF (by simp [go_sem]) ?_
  rintro _ rfl
  simp [go_sem]
  refine IWp.seqI ?_
  simp [go_sem]
  refine sD2.callF (by simp [go_sem]) ?_
  rintro _ rfl
  simp [go_sem]
  refine (equalInts_fun [2, 2, 2] [2, 2, 2] (by decide)).callF (by simp [go_sem, ints, mp]) ?_
  rintro _ rfl
  simp [go_sem]
  refine gD.callF (by simp [go_sem]) ?_
  rintro _ ⟨g, rfl, hg⟩
  obtain rfl := hg.eq hm
  simp [go_sem]
  refine iD.callF (by simp [go_sem]) ?_
  rintro _ rfl
  simp [go_sem]
  refine (equalInts_fun [0, 1] [0, 1] (by decide)).callF (by simp [go_sem, ints, mp]) ?_
  rintro _ rfl
  simp [go_sem]
  refine IWp.now ?_
  simp [go_sem]
  exact hR _ _ _ rfl (by simp [go_sem])
end Go.Idl
