/-
  Chapter 25: MitchellMakes, MitchellTells.
  Chapter 25: MitchellSmall.
-/
import Derived.Test.YtjdcaidcheodpaaC25PartK
import Derived.Test.YtjdcaidcheodpaaC25PartC
namespace Go.Idl
set_option linter.all false
open Go.Proofs
set_option maxHeartbeats 4000000
set_option maxRecDepth 40000

theorem mitchellMakes_law (T n k : Int) (hk : (Lit.int .u8 k).wf = true) : FN 3 [.int .i64 T, .int .i64 n, .int .u8 k] (fun v => v = .bool true) := by
  refine IFun.of_bodyZ false 7 [] Try.func3 rfl Try.call3 rfl fun R hR => ?_
  simp [go_sem]
  refine (makes_fun T n k (wf8 hk)).callF (by simp [go_sem]) ?_
  rintro _ rfl
  simp [go_sem]
  refine awake_fun25.callF (by simp [go_sem]) ?_
  rintro _ rfl
  simp [go_sem]
  exact hR _ _ _ rfl (by simp [go_sem])
theorem mitchellTells_law (m : Mv) (rd p : Int) : FN 5 [.agg m.cells, .int .i64 rd, .int .i64 p] (fun v => v = .bool true) := by
  refine IFun.of_bodyZ false 7 [] Try.func5 rfl Try.call5 rfl fun R hR => ?_
  by_cases hl : 700 < m.rows.length
  · have hl' : (700 : Int) < m.rows.length := by omega
    simp [go_sem, Mv.cells, hl']
    refine awake_fun25.callF (by simp [go_sem]) ?_
    rintro _ rfl
    simp [go_sem]
    exact hR _ _ _ rfl (by simp [go_sem])
  · have hl' : ¬ (700 : Int) < m.rows.length := by omega
    simp [go_sem, Mv.cells, hl']
    refine (tells_fun25 m rd p (by omega)).callF (by simp [go_sem, Mv.v]) ?_
    rintro _ rfl
    simp [go_sem]
    refine awake_fun25.callF (by simp [go_sem]) ?_
    rintro _ rfl
    simp [go_sem]
    exact hR _ _ _ rfl (by simp [go_sem])
end Go.Idl
namespace Go.Idl
set_option linter.all false
open Go.Proofs
set_option maxHeartbeats 8000000
set_option maxRecDepth 40000

def oddR : List Rw := [⟨1, 0, 3, 3, 0⟩, ⟨1, 0, 3, 0, 0⟩, ⟨0, 0, -5, 4, 0⟩, ⟨1, 0, 0, 9, 0⟩, ⟨7, 0, 0, 0, 0⟩, ⟨0, 0, 8, 3, -9⟩]
theorem mitchellSmall_law : FN 6 [] (fun v => v = .bool true) := by
  refine IFun.of_bodyZ false 12 [13, 17, 27, 28, 29, 30, 37, 52, 57, 62, 69, 79, 83, 90] Try.func6 rfl Try.call6 rfl fun R hR => ?_
  simp [go_sem]
  refine IWp.loopT (α := Nat) (fun i => (⟨false, 105, 12, [13, 17, 27, 28, 29, 30, 37, 52, 57, 62, 69, 79, 83, 90], [], [(1, .int .i64 ((i : Int) - 1))], []⟩, []))
    (fun i => i ≤ 28) (fun i => 28 - i) 0 (by simp) (by simp [go_sem]) ?_
  intro i hi
  obtain ⟨T, hT⟩ : ∃ T : Int, (i : Int) - 1 = T := ⟨_, rfl⟩
  simp only [hT]
  by_cases h : T < 27
  · have wT : IntKind.i64.wrap (T + 1) = T + 1 := wrap64 (by omega) (by omega)
    have wT1 : IntKind.i64.wrap (T - 1) = T - 1 := wrap64 (by omega) (by omega)
    have wT2 : IntKind.i64.wrap (T - 2) = T - 2 := wrap64 (by omega) (by omega)
    simp [go_sem, h]
    refine IWp.loopT (α := Nat) (fun j => (⟨false, 105, 12, [13, 17, 27, 28, 29, 30, 37, 52, 57, 62, 69, 79, 83, 90], [], [(1, .int .i64 T), (2, .int .u8 (j : Int))], []⟩, []))
      (fun j => j ≤ 5) (fun j => 5 - j) 0 (by simp) (by simp [go_sem]) ?_
    intro j hj
    by_cases h2 : j < 5
    · have wj : IntKind.u8.wrap ((j : Int) + 1) = j + 1 := by rw [IntKind.wrap_u8]; omega
      have hjI : (j : Int) < 5 := by omega
      simp [go_sem, h2, hjI, wT, wT1, wT2]
      refine IWp.loopT (α := Nat) (fun q => (⟨false, 105, 12, [13, 17, 27, 28, 29, 30, 37, 52, 57, 62, 69, 79, 83, 90], [], [(1, .int .i64 T), (2, .int .u8 (j : Int)), (27, .sl 0 8 0 8 none), (28, .int .i64 8), (29, .int .i64 (q : Int))], []⟩, [.rows 1 (ints [-1, 0, 1, 2, T - 2, T - 1, T, T + 1])]))
        (fun q => q ≤ 8) (fun q => 8 - q) 0 (by simp) (by simp [go_sem, ints_cons]) ?_
      intro q hq
      have hlen : [-1, 0, 1, 2, T - 2, T - 1, T, T + 1].length = 8 := rfl
      generalize [-1, 0, 1, 2, T - 2, T - 1, T, T + 1] = L at *
      by_cases h3 : q < 8
      · have wq : IntKind.i64.wrap ((q : Int) + 1) = q + 1 := wrap64 (by omega) (by omega)
        have hqI : (q : Int) < 8 := by omega
        simp [go_sem, h3, hqI, hlen]
        refine (makes_fun T L[q] j (by omega)).callF (by simp [go_sem]) ?_
        rintro _ rfl
        simp [go_sem, wq]
        exact ⟨q + 1, by simp, by omega, by omega⟩
      · have hqI : ¬ (q : Int) < 8 := by omega
        simp [go_sem, h3, hqI, wT1]
        refine (refMake_fun T (T - 1) j (by omega)).callF (by simp [go_sem]) ?_
        rintro _ rfl
        by_cases h4 : makeE j T (T - 1) = 0
        case neg =>
          simp [go_sem, h4, Mv.v, wj]
          exact ⟨j + 1, by simp, by omega, by omega⟩
        by_cases h5 : 6 < T
        · simp [go_sem, h4, h5, Mv.v, wj]
          exact ⟨j + 1, by simp, by omega, by omega⟩
        have hz := makeE_zero h4
        have hf := findE_zero hz.1
        have hml : (makeM j T (T - 1)).rows.length ≤ 700 := by
          unfold makeM
          rw [if_pos h4]
          show (rowsX j T (T - 1).toNat).length ≤ _
          rw [rowsX_length]
          have : (T - 1).toNat * T.toNat ≤ 24 * 24 := Nat.mul_le_mul (by omega) (by omega)
          omega
        have wT3 : IntKind.i64.wrap (2 * T) = 2 * T := wrap64 (by omega) (by omega)
        have wT4 : IntKind.i64.wrap (2 * T + 3) = 2 * T + 3 := wrap64 (by omega) (by omega)
        have tf := fun rd p => tells_fun25 (makeM j T (T - 1)) rd p hml
        generalize makeM j T (T - 1) = X at *
        simp only [Mv.v] at tf
        simp [go_sem, h4, h5, Mv.v, wj]
        refine IWp.loopT (α := Nat) (fun p => (⟨false, 105, 12, [13, 17, 27, 28, 29, 30, 37, 52, 57, 62, 69, 79, 83, 90], [], [(1, .int .i64 T), (2, .int .u8 (j : Int)), (5, .ptr 1 1 0 0), (7, .int .i64 ((p : Int) - 1))], []⟩, [.dead, .rows 6 [[.int .i64 X.tables, .int .i64 X.rounds, .int .i64 X.sets, .int .i64 X.copies, .int .i64 X.winners, .fz 5 (rws X.rows)]]]))
          (fun p => p ≤ 100) (fun p => 100 - p) 0 (by simp) (by simp [go_sem]) ?_
        intro p hp
        obtain ⟨P, hP⟩ : ∃ P : Int, (p : Int) - 1 = P := ⟨_, rfl⟩
        simp only [hP]
        have wP : IntKind.i64.wrap (P + 1) = P + 1 := wrap64 (by omega) (by omega)
        by_cases h6 : P < 2 * T + 3
        · simp [go_sem, wT3, wT4, h6]
          refine IWp.loopT (α := Nat) (fun r => (⟨false, 105, 12, [13, 17, 27, 28, 29, 30, 37, 52, 57, 62, 69, 79, 83, 90], [], [(1, .int .i64 T), (2, .int .u8 (j : Int)), (5, .ptr 1 1 0 0), (7, .int .i64 P), (8, .int .i64 ((r : Int) - 1))], []⟩, [.dead, .rows 6 [[.int .i64 X.tables, .int .i64 X.rounds, .int .i64 X.sets, .int .i64 X.copies, .int .i64 X.winners, .fz 5 (rws X.rows)]]]))
            (fun r => r ≤ 100) (fun r => 100 - r) 0 (by simp) (by simp [go_sem]) ?_
          intro r hr
          obtain ⟨r', hr'⟩ : ∃ r' : Int, (r : Int) - 1 = r' := ⟨_, rfl⟩
          simp only [hr']
          have wr : IntKind.i64.wrap (r' + 1) = r' + 1 := wrap64 (by omega) (by omega)
          by_cases h7 : r' ≤ T
          · simp [go_sem, h7]
            refine (tf r' P).callF (by simp [go_sem]) ?_
            rintro _ rfl
            simp [go_sem, wr]
            exact ⟨r + 1, by omega, by omega, by omega⟩
          · simp [go_sem, h7, wP]
            exact ⟨p + 1, by omega, by omega, by omega⟩
        · simp [go_sem, wT3, wT4, h6, wj]
          exact ⟨j + 1, by simp, by omega, by omega⟩
    · have hjI : ¬ (j : Int) < 5 := by omega
      simp [go_sem, h2, hjI, wT]
      exact ⟨i + 1, by omega, by omega, by omega⟩
  · simp [go_sem, h]
    refine IWp.loopT (α := Nat) (fun r => (⟨false, 105, 12, [13, 17, 27, 28, 29, 30, 37, 52, 57, 62, 69, 79, 83, 90], [], [(9, .ptr 1 1 0 0), (10, .int .i64 ((r : Int) - 1))], []⟩, [.rows 5 (rws oddR), .rows 6 [[.int .i64 (-1), .int .i64 0, .int .i64 0, .int .i64 0, .int .i64 0, .sl 0 6 0 6 none]]]))
      (fun r => r ≤ 10) (fun r => 10 - r) 0 (by simp) (by simp [go_sem, oddR, rws_cons]) ?_
    intro r hr
    obtain ⟨r', hr'⟩ : ∃ r' : Int, (r : Int) - 1 = r' := ⟨_, rfl⟩
    simp only [hr']
    have wr : IntKind.i64.wrap (r' + 1) = r' + 1 := wrap64 (by omega) (by omega)
    have ol : oddR.length = 6 := rfl
    by_cases h1 : r' < 9
    · simp [go_sem, h1]
      refine IWp.loopT (α := Nat) (fun p => (⟨false, 105, 12, [13, 17, 27, 28, 29, 30, 37, 52, 57, 62, 69, 79, 83, 90], [], [(9, .ptr 1 1 0 0), (10, .int .i64 r'), (11, .int .i64 ((p : Int) - 6))], []⟩, [.rows 5 (rws oddR), .rows 6 [[.int .i64 (-1), .int .i64 0, .int .i64 0, .int .i64 0, .int .i64 0, .sl 0 6 0 6 none]]]))
        (fun p => p ≤ 17) (fun p => 17 - p) 0 (by simp) (by simp [go_sem]) ?_
      intro p hp
      obtain ⟨P, hP⟩ : ∃ P : Int, (p : Int) - 6 = P := ⟨_, rfl⟩
      simp only [hP]
      have wP : IntKind.i64.wrap (P + 1) = P + 1 := wrap64 (by omega) (by omega)
      by_cases h6 : P < 11
      · simp [go_sem, h6]
        refine (tells_fun25 ⟨-1, 0, 0, 0, 0, oddR⟩ r' P (by decide)).callF (by simp [go_sem, Mv.v, ol]) ?_
        rintro _ rfl
        simp [go_sem, wP]
        exact ⟨p + 1, by omega, by omega, by omega⟩
      · simp [go_sem, h6, wr]
        exact ⟨r + 1, by omega, by omega, by omega⟩
    · simp [go_sem, h1]
      refine (tells_fun25 ⟨0, 0, 0, 0, 0, []⟩ 0 0 (by decide)).callF (by simp [go_sem, Mv.v]) ?_
      rintro _ rfl
      simp [go_sem]
      refine (makes_fun 4611686018427387904 1 1 (by omega)).callF (by simp [go_sem]) ?_
      rintro _ rfl
      simp [go_sem]
      refine (makes_fun 5 (-9223372036854775808) 1 (by omega)).callF (by simp [go_sem]) ?_
      rintro _ rfl
      simp [go_sem]
      refine (makes_fun 5 9223372036854775807 255 (by omega)).callF (by simp [go_sem]) ?_
      rintro _ rfl
      simp [go_sem]
      refine awake_fun25.callF (by simp [go_sem]) ?_
      rintro _ rfl
      simp [go_sem]
      exact hR _ _ _ rfl (by simp [go_sem])
end Go.Idl
