/-
  Chapter 24: CrossWrong.
-/
import Derived.Test.YthjpnfemaefhnaaDoorIdlPartL
import Derived.Test.YthjpnfemaefhnaaDoorC24PartI
import Derived.Test.YthjpnfemaefhnaaDoorC24PartC
namespace Go.Idl
set_option linter.all false
open Go.Proofs Go.RowKit
set_option maxHeartbeats 16000000
set_option maxRecDepth 40000

theorem datE_bad {l : List Int} {d : Int} (h : exE l = 0) (hd : d < 0 ∨ ((l.length : Int) - 1) / 2 < d) : datE l d = 2 ∧ datI l d = 0 ∧ butR l d = [] := by
  have e1 : datE l d = 2 := by
    unfold datE
    rw [if_neg (by simp [h]), if_pos]
    rcases hd with h1 | h1
    · exact .inl h1
    · exact .inr (.inr h1)
  refine ⟨e1, ?_, ?_⟩
  · unfold datI; rw [if_neg (by omega)]
  · unfold butR; rw [if_neg (by omega)]
theorem crossWrong_fun (l : List Int) (t n : Int) (low : Bool) (hl : l.length < 2 ^ 63) (hb : ∀ x ∈ l, -32768 ≤ x ∧ x ≤ 32767) (ht : 0 ≤ t ∧ t < 256) (hn : -2 ^ 63 ≤ n ∧ n < 2 ^ 63) : FN 7 [.fz 1 (bys .i16 l), .int .u8 t, .int .i64 n, .bool low] (fun v => v = .bool true) := by
  refine IFun.of_bodyZ false 28 [38, 39, 40, 41, 70, 90, 107, 108, 109, 110, 175] Tryd.func7 rfl Tryd.call7 rfl fun R hR => ?_
  have cs := scores_fun l hl hb
  have hSl := scrL_len l
  have hSb := scrL_rng l
  rw [show (l.take 24).map scoreI = scrL l from rfl] at cs
  generalize scrL l = S at *
  have eS := exE_of hSl hSb
  have w2 : IntKind.i64.wrap ((S.length : Int) + 1) = S.length + 1 := wrap64 (by omega) (by omega)
  have d1 : ((S.length : Int) + 1).tdiv 2 = (S.length + 1) / 2 := Int.tdiv_eq_ediv_of_nonneg (by omega)
  obtain ⟨q, hq⟩ : ∃ q : Nat, ((S.length : Int) + 1) / 2 = q := ⟨(S.length + 1) / 2, by omega⟩
  have w3 : IntKind.i64.wrap (q : Int) = q := wrap64 (by omega) (by omega)
  simp [go_sem]
  refine cs.callF (by simp [go_sem]) ?_
  rintro _ rfl
  simp [go_sem, w2, d1, hq, w3]
  obtain ⟨p0, hp0⟩ : ∃ p : Int, (if -1 < n then -1 else n) = p := ⟨_, rfl⟩
  obtain ⟨p1, hp1⟩ : ∃ p : Int, (if n < (q : Int) then (q : Int) else n) = p := ⟨_, rfl⟩
  rw [hp0, hp1]
  have hd0 : p0 < 0 := by split at hp0 <;> omega
  have hd1 : ((S.length : Int) - 1) / 2 < p1 := by split at hp1 <;> omega
  clear hp0 hp1
  have hall : ∀ p ∈ [p0, p1], datE S p = 2 ∧ datI S p = 0 ∧ butR S p = [] := by
    intro p hp
    simp at hp
    rcases hp with rfl | rfl
    · exact datE_bad eS (.inl hd0)
    · exact datE_bad eS (.inr hd1)
  rw [show [[IV.int .i64 p0], [IV.int .i64 p1]] = ints [p0, p1] from rfl]
  have hL : [p0, p1].length = 2 := rfl
  generalize [p0, p1] = L at *
  refine IWp.shut fun Q hQ => ?_
  refine IWp.loopT (α := Nat) (fun i => (⟨false, 178, 28, [38, 39, 40, 41, 70, 90, 107, 108, 109, 110, 175], glT, [(1, .int .u8 t), (2, .int .i64 n), (3, .bool low), (9, .fz 1 (ints S)), (38, .sl 0 2 0 2 none), (39, .int .i64 2), (40, .int .i64 (i : Int))], []⟩, [.rows 1 (ints L)]))
    (fun i => i ≤ 2) (fun i => 2 - i) 0 (by simp) (by simp [go_sem]) ?_
  intro i hi
  by_cases h : i < 2
  · have v1 : IntKind.i64.wrap ((i : Int) + 1) = i + 1 := wrap64 (by omega) (by omega)
    have hiL : i < L.length := by omega
    have e1 := ints_at' (l := L) (i := i) hiL
    obtain ⟨a1, a2, a3⟩ := hall L[i] (List.getElem_mem hiL)
    have cD := datum_fun S L[i] (by omega)
    have cB := butler_fun S L[i] (by omega)
    rw [a1, a2] at cD
    rw [a1, a3] at cB
    have h' : (i : Int) < 2 := by omega
    obtain ⟨d, hd⟩ : ∃ d, L[i] = d := ⟨_, rfl⟩
    have hg : L.getD i 0 = d := by rw [← hd]; simp [hiL]
    rw [hg] at e1
    rw [hd] at cD cB
    simp [go_sem, hL, h, h', v1, e1, hd]
    refine cD.callF (by simp [go_sem]) ?_
    rintro _ rfl
    simp [go_sem]
    refine cB.callF (by simp [go_sem]) ?_
    rintro _ rfl
    simp [go_sem, v1]
    exact ⟨i + 1, by omega, by omega, by omega⟩
  · obtain rfl : i = 2 := by omega
    simp [go_sem]
    rw [hQ]
    simp only [blockQ_exit, if_pos, thenQ_normal, yC_seq, yC_region]
    refine yOps_shut fun K2 hK2 => ?_
    obtain ⟨K, hK, hK1, hK2'⟩ : ∃ K : Nat, (if (23 : Int) < S.length then (23 : Int) else S.length) = K ∧ K ≤ S.length ∧ K ≤ 23 := by
      by_cases h : (23 : Int) < S.length
      · exact ⟨23, by rw [if_pos h]; rfl, by omega, by omega⟩
      · exact ⟨S.length, by rw [if_neg h], by omega, by omega⟩
    have hT : (ints S).take K = ints (S.take K) := by simp [ints, mp, List.map_take]
    have hTl : (S.take K).length = K := by simp; omega
    simp [go_sem, hK, hT, hTl, hK1]
    refine ⟨⟨by omega, ints_one⟩, by omega, ?_⟩
    rw [show ints (S.take K) ++ [[IV.int .i64 0]] = ints (S.take K ++ [0]) from ints_snoc.symm, hK2]
    simp only [yC_seq]
    refine yC_shut fun Q2 hQ2 => ?_
    have hBl : (S.take K ++ [0]).length = K + 1 := by simp; omega
    have u1 : IntKind.i64.wrap t = t := wrap64 (by omega) (by omega)
    have hk0 : ¬ ((K : Int) + 1) = 0 := by omega
    have d2 : t.tmod ((K : Int) + 1) = t % ((K : Int) + 1) := Int.tmod_eq_emod_of_nonneg (by omega)
    have m1 := Int.emod_nonneg t hk0
    have m2 := Int.emod_lt_of_pos t (show (0 : Int) < (K : Int) + 1 by omega)
    obtain ⟨r, hr⟩ : ∃ r : Nat, t % ((K : Int) + 1) = r := ⟨(t % ((K : Int) + 1)).toNat, by omega⟩
    rw [hr] at m2 d2
    have hrK : r < K + 1 := by omega
    have hrK' : r ≤ K := by omega
    obtain ⟨x1, hx1⟩ : ∃ x : Int, (if n < 7601 then 7601 else n) = x := ⟨_, rfl⟩
    obtain ⟨x2, hx2⟩ : ∃ x : Int, (if -7601 < n then -7601 else n) = x := ⟨_, rfl⟩
    have hb1 : 7600 < x1 := by split at hx1 <;> omega
    have hb2 : x2 < -7600 := by split at hx2 <;> omega
    generalize S.take K ++ [0] = B0 at *
    have u2 : IntKind.i64.wrap ((K : Int) + 1) = K + 1 := wrap64 (by omega) (by omega)
    simp [go_sem, hBl, u1, u2, hk0, d2, hrK, hrK', hx1]
    refine ⟨by omega, ?_⟩
    rw [← ints_set, hQ2]
    simp only [thenQ_normal, yC_seq]
    refine yC_shut fun Q3 hQ3 => ?_
    simp [go_sem]
    rw [hQ3]
    simp only [thenQ_normal]
    refine yC_shut fun Q4 hQ4 => ?_
    have key : ∀ B : List Int, B.length = K + 1 → B.any badS = true → Q4 .normal ⟨false, 178, 28, [38, 39, 40, 41, 70, 90, 107, 108, 109, 110, 175], glT, [(1, .int .u8 t), (2, .int .i64 n), (3, .bool low), (9, .fz 1 (ints S)), (38, .sl 0 2 0 2 none), (39, .int .i64 2), (40, .int .i64 2), (41, .bool false), (16, .sl 1 (K + 1) 0 (K + 1) none), (90, .bool low)], []⟩ [.rows 1 (ints L), .rows 1 (ints B), .rows 1 [[.int .i64 0]]] := by
      intro B hB hBb
      rw [hQ4]
      have hTB : (ints B).take (K + 1) = ints B := List.take_of_length_le (by simp [hB])
      obtain ⟨M, hM⟩ : ∃ M, List.replicate 24 0 ++ B = M := ⟨_, rfl⟩
      have hMl : M.length = K + 25 := by rw [← hM]; simp [hB]
      have hMi : [IV.int .i64 0] :: [IV.int .i64 0] :: [IV.int .i64 0] :: [IV.int .i64 0] :: [IV.int .i64 0] :: [IV.int .i64 0] :: [IV.int .i64 0] :: [IV.int .i64 0] :: [IV.int .i64 0] :: [IV.int .i64 0] :: [IV.int .i64 0] :: [IV.int .i64 0] :: [IV.int .i64 0] :: [IV.int .i64 0] :: [IV.int .i64 0] :: [IV.int .i64 0] :: [IV.int .i64 0] :: [IV.int .i64 0] :: [IV.int .i64 0] :: [IV.int .i64 0] :: [IV.int .i64 0] :: [IV.int .i64 0] :: [IV.int .i64 0] :: [IV.int .i64 0] :: ints B = ints M := by rw [← hM]; rfl
      simp [go_sem, hB, hTB]
      refine ⟨⟨by omega, ints_one⟩, ?_⟩
      rw [hMi, show 24 + (K + 1) = K + 25 by omega]
      refine IWp.freeze 1 1 (ints B) [(1, .int .u8 t), (2, .int .i64 n), (3, .bool low), (9, .fz 1 (ints S)), (38, .sl 0 2 0 2 none), (39, .int .i64 2), (40, .int .i64 2), (41, .bool false), (16, .fz 1 (ints B)), (90, .bool low), (17, .sl 3 (K + 25) 0 (K + 25) none), (107, .sl 4 2 0 2 none), (108, .int .i64 2), (109, .int .i64 0)] [.rows 1 (ints L), .dead, .rows 1 [[.int .i64 0]], .rows 1 (ints M), .rows 2 [[.fz 1 (ints B), .int .i64 240], [.sl 3 (K + 25) 0 (K + 25) none, .int .i64 5]]] (by simp) (by simp [go_sem]) (by simp [go_sem, hB]; exact hTB.symm) (by simp [go_sem, hB]; exact hTB.symm) ?_
      have hTM : (ints M).take (K + 25) = ints M := List.take_of_length_le (by simp [hMl])
      refine IWp.freeze 3 1 (ints M) [(1, .int .u8 t), (2, .int .i64 n), (3, .bool low), (9, .fz 1 (ints S)), (38, .sl 0 2 0 2 none), (39, .int .i64 2), (40, .int .i64 2), (41, .bool false), (16, .fz 1 (ints B)), (90, .bool low), (17, .fz 1 (ints M)), (107, .sl 4 2 0 2 none), (108, .int .i64 2), (109, .int .i64 0)] [.rows 1 (ints L), .dead, .rows 1 [[.int .i64 0]], .dead, .rows 2 [[.fz 1 (ints B), .int .i64 240], [.fz 1 (ints M), .int .i64 5]]] (by simp) (by simp [go_sem]) (by simp [go_sem, hMl]; exact hTM.symm) (by simp [go_sem, hMl]; exact hTM.symm) ?_
      have eB : exE B = 240 := by unfold exE; rw [if_neg (by omega), if_pos hBb]
      have eM : exE M = 5 := by unfold exE; rw [if_pos (by omega)]
      obtain ⟨C, hC⟩ : ∃ C, [[IV.fz 1 (ints B), .int .i64 240], [IV.fz 1 (ints M), .int .i64 5]] = C := ⟨_, rfl⟩
      have hCl : C.length = 2 := by rw [← hC]; rfl
      have hCg : ∀ i, i < 2 → ∃ (X : List Int) (e : Int), C[i]?.getD [] = [IV.fz 1 (ints X), .int .i64 e] ∧ exE X = e ∧ e ≠ 0 ∧ X.length < 2 ^ 63 := fun i hi => by
        rcases (by omega : i = 0 ∨ i = 1) with rfl | rfl
        · exact ⟨B, 240, by rw [← hC]; rfl, eB, by decide, by omega⟩
        · exact ⟨M, 5, by rw [← hC]; rfl, eM, by decide, by omega⟩
      have hCc : ClR C := by rw [← hC]; simp [go_sem]
      have hCb : BlR 5 C := by rw [← hC]; simp [go_sem]
      rw [hC]
      clear hC
      refine IWp.shut fun Q5 hQ5 => ?_
      refine IWp.loopT (α := Nat) (fun i => (⟨false, 178, 28, [38, 39, 40, 41, 70, 90, 107, 108, 109, 110, 175], glT, [(2, .int .i64 n), (107, .sl 4 2 0 2 none), (108, .int .i64 2), (109, .int .i64 (i : Int))], []⟩, [.rows 1 (ints L), .dead, .rows 1 [[.int .i64 0]], .dead, .rows 2 C]))
        (fun i => i ≤ 2) (fun i => 2 - i) 0 (by simp) (by simp [go_sem, hCb]) ?_
      intro i hi
      by_cases h : i < 2
      · have v1 : IntKind.i64.wrap ((i : Int) + 1) = i + 1 := wrap64 (by omega) (by omega)
        obtain ⟨X, e, hXe, hX1, he, hXl⟩ := hCg i h
        have h' : (i : Int) < 2 := by omega
        have hne : exE X ≠ 0 := by rw [hX1]; exact he
        have c1 := cross_fun X hXl
        have c2 := plain_fun X hXl
        have c3 := datum_fun X n hXl
        have c4 := butler_fun X n hXl
        have z1 : crossR X = [] := by unfold crossR; rw [if_neg hne]
        have z2 : plainR X = [] := by unfold plainR; rw [if_neg hne]
        have z3 : datE X n = e := by unfold datE; rw [if_pos hne, hX1]
        have z4 : datI X n = 0 := by unfold datI; rw [z3, if_neg he]
        have z5 : butR X n = [] := by unfold butR; rw [z3, if_neg he]
        rw [z1, hX1] at c1
        rw [z2, hX1] at c2
        rw [z3, z4] at c3
        rw [z3, z5] at c4
        have hiC : i < C.length := by omega
        have hXg : C[i] = [IV.fz 1 (ints X), .int .i64 e] := by rw [← hXe]; simp [hiC]
        simp [go_sem, hCl, h, h', v1, hXe, hXg]
        refine c1.callF (by simp [go_sem]) ?_
        rintro _ rfl
        simp [go_sem]
        refine c2.callF (by simp [go_sem]) ?_
        rintro _ rfl
        simp [go_sem]
        refine c3.callF (by simp [go_sem]) ?_
        rintro _ rfl
        simp [go_sem]
        refine c4.callF (by simp [go_sem]) ?_
        rintro _ rfl
        simp [go_sem, v1]
        rw [if_pos (by decide)]
        exact ⟨i + 1, ⟨by omega, hCb⟩, by omega, by omega⟩
      · obtain rfl : i = 2 := by omega
        simp [go_sem]
        rw [hQ5]
        simp [go_sem]
        refine awake24_fun.callF (by simp [go_sem]) ?_
        rintro _ rfl
        simp [go_sem]
        exact hR _ _ _ rfl (by simp [go_sem])
    have hany : ∀ (B : List Int) (x : Int), r < B.length → badS x = true → (B.set r x).any badS = true := fun B x h1 h2 => by
      rw [List.any_eq_true]
      exact ⟨x, List.mem_set h1 x, h2⟩
    have g1 : badS x1 = true := by simp [badS]; omega
    have g2 : badS x2 = true := by simp [badS]; omega
    cases low with
    | false =>
      have k1 := key (B0.set r x1) (by simp [hBl]) (hany _ _ (by omega) g1)
      simp [go_sem]
      exact k1
    | true =>
      have k2 := key ((B0.set r x1).set r x2) (by simp [hBl]) (hany _ _ (by simp; omega) g2)
      simp [go_sem, hBl, u1, u2, hk0, d2, hrK, hrK', hx2]
      refine ⟨by omega, ?_⟩
      rw [← ints_set]
      exact k2
theorem crossWrong_law (l : List Int) (t n : Int) (low : Bool) (h0 : ∀ x ∈ l, (Lit.int .i16 x).wf = true) (h1 : l.length ≤ maxLen) (h2 : (Lit.int .u8 t).wf = true) (h3 : (Lit.int .i64 n).wf = true) : FN 7 [.fz 1 (bys .i16 l), .int .u8 t, .int .i64 n, .bool low] (fun v => v = .bool true) :=
  crossWrong_fun l t n low (by unfold maxLen at h1; omega) (fun x hx => bounds_i16 (h0 x hx)) (wf8 h2) (by have := bounds_i64 h3; omega)
end Go.Idl
