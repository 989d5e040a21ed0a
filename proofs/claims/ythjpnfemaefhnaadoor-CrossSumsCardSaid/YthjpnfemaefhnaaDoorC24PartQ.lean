/-
  Chapter 24: CrossSums.
-/
import Derived.Test.YthjpnfemaefhnaaDoorC24PartH
import Derived.Test.YthjpnfemaefhnaaDoorC24PartP
import Derived.Test.YthjpnfemaefhnaaDoorC24PartI
namespace Go.Idl
set_option linter.all false
open Go.Proofs Go.RowKit
set_option maxHeartbeats 16000000
set_option maxRecDepth 40000

theorem total_fun (vals : List Int) (N : Nat) (hN : 0 < N) (hN2 : N ≤ 2 ^ 30) (hl : vals.length ≤ 64) (hb : ∀ x ∈ vals, -2 ^ 24 ≤ x ∧ x ≤ 2 ^ 24) (h0 : vals.sum = 0) :
    FN 18 [.fz 2 (frs (vals.map fun a => lowF a N))] (fun v => v = .tup [.agg [.int .i64 0, .int .i64 1], .bool true]) := by
  refine IFun.of_bodyZ false 6 [] Tryd.func18 rfl Tryd.call18 rfl fun R hR => ?_
  have c := sum_fun vals N hN hN2 hl hb
  rw [h0, lowF_zero hN] at c
  simp only [Frc.v] at c
  generalize (vals.map fun a => lowF a N) = L at *
  simp [go_sem]
  refine c.callF (by simp [go_sem]) ?_
  rintro _ rfl
  simp [go_sem]
  exact hR _ _ _ rfl (by simp [go_sem])
theorem crossSums_fun (l : List Int) (hl : l.length < 2 ^ 63) (hb : ∀ x ∈ l, -32768 ≤ x ∧ x ≤ 32767) : FN 9 [.fz 1 (bys .i16 l)] (fun v => v = .bool true) := by
  refine IFun.of_bodyW false 13 [44, 71, 101] Tryd.func9 rfl Tryd.call9 rfl fun R hR => ?_
  have cs := scores_fun l hl hb
  have hSl := scrL_len l
  have hSb := scrL_rng l
  rw [show (l.take 24).map scoreI = scrL l from rfl] at cs
  generalize scrL l = S at *
  have eS := exE_of hSl hSb
  have cC := cross_fun S (by omega)
  have cP := plain_fun S (by omega)
  rw [eS, show crossR S = crossL S by unfold crossR; rw [if_pos eS]] at cC
  rw [eS, show plainR S = plainL S S.sum by unfold plainR; rw [if_pos eS]] at cP
  have t1 := total_fun (S.map (vI S)) (if S.length ≤ 1 then 1 else S.length - 1) (by split <;> omega) (by split <;> omega) (by simp; omega) (cross_in hSl) (cross_total S)
  have t2 := total_fun (S.map fun x => (S.length : Int) * x - S.sum) (if S.length = 0 then 1 else S.length) (by split <;> omega) (by split <;> omega) (by simp; omega) (plain_in2 hSl hSb) (plain_total S)
  rw [← crossL_low hSl] at t1
  rw [← plainL_low hSl hSb] at t2
  have hA1 : S.length = 1 → ∀ h : 0 < (crossL S).length, (crossL S)[0] = ⟨0, 1⟩ := fun e h => by
    rw [crossL_at (by omega)]; unfold fS; rw [if_pos e]
  have hA2 : ∀ (h2 : S.length = 2) (h : 0 < (crossL S).length), (crossL S)[0] = ⟨impI (S[0] - S[1]), 1⟩ := fun e h => by
    rw [crossL_at (by omega)]; unfold fS; rw [if_neg (by omega)]
    match S, e with
    | [x, y], _ =>
      have hv : vI [x, y] x = impI (x - y) := by simp [vI, impI_zero]
      simp only [List.getElem_cons_zero, List.getElem_cons_succ, List.length_cons, List.length_nil]
      have hbd := impI_bd (x - y)
      rw [show (((0 + 1 + 1 : Nat) : Int) - 1) = ((1 : Nat) : Int) by omega, mk_low (by omega) (by omega) (by rw [hv]; omega), hv, low_one]
  have hAl : (crossL S).length = S.length := by simp
  have hPl : (plainL S S.sum).length = S.length := by simp
  obtain ⟨n, hn⟩ : ∃ n, S.length = n := ⟨_, rfl⟩
  rw [hn] at hAl hPl hA1 hSl
  generalize crossL S = A at *
  generalize plainL S S.sum = P at *
  refine IWp.seqI ?_
  simp [go_sem]
  refine IWp.seqI ?_
  simp [go_sem]
  refine cs.callF (by simp [go_sem]) ?_
  rintro _ rfl
  simp [go_sem]
  refine IWp.seqI ?_
  simp [go_sem]
  refine cC.callF (by simp [go_sem]) ?_
  rintro _ rfl
  simp [go_sem]
  refine IWp.seqI ?_
  simp [go_sem]
  refine cP.callF (by simp [go_sem]) ?_
  rintro _ rfl
  simp [go_sem]
  refine IWp.seqI ?_
  simp [go_sem, hn, hAl, hPl]
  refine IWp.seqI ?_
  simp [go_sem]
  refine t1.callF (by simp [go_sem]) ?_
  rintro _ rfl
  simp [go_sem]
  refine IWp.seqI ?_
  simp [go_sem]
  refine t2.callF (by simp [go_sem]) ?_
  rintro _ rfl
  simp [go_sem]
  refine IWp.seqI ?_
  simp [go_sem]
  refine IWp.seqI ?_
  simp [go_sem]
  refine IWp.seqI ?_
  refine yC_shut fun Q hQ => ?_
  have key : Q .normal ⟨false, 103, 13, [44, 71, 101], glT, [(0, .fz 1 (bys .i16 l)), (2, .bool false), (3, .fz 1 (ints S)), (4, .fz 2 (frs A)), (5, .int .i64 0), (6, .fz 2 (frs P)), (7, .int .i64 0), (44, .bool false), (8, .ptr 0 1 0 0), (9, .bool true), (10, .ptr 1 1 0 0), (11, .bool true), (12, .ptr 2 1 0 0), (71, .bool false), (101, .bool false)], []⟩
      [.rows 2 [[.int .i64 0, .int .i64 1]], .rows 2 [[.int .i64 0, .int .i64 1]], .rows 2 [[.int .i64 0, .int .i64 1]]] := by
    rw [hQ]
    simp only [thenQ_normal]
    refine IWp.now ?_
    simp [go_sem]
    refine awake24_fun.callF (by simp [go_sem]) ?_
    rintro _ rfl
    simp [go_sem]
    exact hR _ _ _ rfl (by simp [go_sem])
  by_cases h1 : n = 1
  · have a1 := hA1 h1 (by omega)
    have h1' : (n : Int) = 1 := by omega
    have h0A : 0 < A.length := by omega
    simp [go_sem]
    refine Drawn.intro (fun k => .tup []) ?_
    simp [go_sem, hn, h1, h1', h0A, hAl, a1]
    refine ⟨by decide +kernel, ?_⟩
    exact key
  · have h1' : ¬ (n : Int) = 1 := by omega
    by_cases h2 : n = 2
    · have a2 := hA2 (by omega) (by omega)
      have h2' : (n : Int) = 2 := by omega
      have h0A : 0 < A.length := by omega
      have h0S : 0 < S.length := by omega
      have h1S : 1 < S.length := by omega
      have b0 := hSb S[0] (List.getElem_mem h0S)
      have b1 := hSb S[1] (List.getElem_mem h1S)
      have w : IntKind.i64.wrap (S[0] - S[1]) = S[0] - S[1] := wrap64 (by omega) (by omega)
      have cI := imp_fun (S[0] - S[1]) (by omega)
      obtain ⟨z0, hz0⟩ : ∃ z, S[0] = z := ⟨_, rfl⟩
      obtain ⟨z1, hz1⟩ : ∃ z, S[1] = z := ⟨_, rfl⟩
      rw [hz0, hz1] at a2 w cI
      generalize impI (z0 - z1) = I at *
      simp [go_sem]
      refine Drawn.intro (fun k => if k = 25 then .int .i64 I else .tup []) ?_
      simp [go_sem, hn, h2, h2', h0A, h0S, h1S, hAl, a2, hz0, hz1, w, cI]
      refine ⟨by decide +kernel, ?_⟩
      exact key
    · have h2' : ¬ (n : Int) = 2 := by omega
      simp [go_sem]
      refine Drawn.intro (fun k => .tup []) ?_
      cases A with
      | nil =>
        have hS0 : S = [] := List.length_eq_zero_iff.1 (by rw [hn, ← hAl]; rfl)
        subst hS0
        simp [go_sem, hn, h1, h1', h2, h2']
        refine ⟨by decide +kernel, ?_⟩
        exact key
      | cons a A =>
        have b1 : ((n : Int) == 1) = false := by simpa using h1'
        have b2 : ((n : Int) == 2) = false := by simpa using h2'
        have hAl2 : A.length + 1 = n := by simpa using hAl
        match S, hn with
        | [], hn => exact absurd hn.symm (by simp; omega)
        | [x], hn => exact absurd hn.symm (by simpa using h1)
        | x :: y :: S, hn =>
        simp only [frs_cons, ints_cons] at key ⊢
        have hSl2 : (S.length : Int) + 1 + 1 = n := by have := hn; simp at this; omega
        simp [go_sem, hn, h1, h1', h2, h2', b1, b2, hSl2]
        refine ⟨by decide +kernel, ?_⟩
        exact key
theorem crossSums_law (l : List Int) (h0 : ∀ x ∈ l, (Lit.int .i16 x).wf = true) (h1 : l.length ≤ maxLen) : FN 9 [.fz 1 (bys .i16 l)] (fun v => v = .bool true) :=
  crossSums_fun l (by unfold maxLen at h1; omega) (fun x hx => bounds_i16 (h0 x hx))
end Go.Idl
