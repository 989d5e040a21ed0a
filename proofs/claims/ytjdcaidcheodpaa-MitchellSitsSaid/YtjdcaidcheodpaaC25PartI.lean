/-
  Chapter 25: the reference's Most, mod, row.
  Chapter 25: the reference's Make.
  Chapter 25: the reference's Rover.
-/
import Derived.Test.YtjdcaidcheodpaaC25PartE
import Derived.Test.YtjdcaidcheodpaaC25PartF
namespace Go.Idl
set_option linter.all false
open Go.Proofs
set_option maxHeartbeats 4000000
set_option maxRecDepth 40000

theorem refMost_fun (T k : Int) (hk : 0 ≤ k ∧ k < 256) : FN 27 [.int .i64 T, .int .u8 k] (fun v => v = .tup [.int .i64 (mostK T k), .int .i64 (findE T k)]) := by
  refine IFun.of_bodyZ false 6 [19, 35, 37] Try.func27 rfl Try.call27 rfl fun R hR => ?_
  by_cases h1 : T < 2
  · have he : findE T k = 2 := by unfold findE; rw [if_pos (.inl h1)]
    simp [go_sem, h1]
    exact hR _ _ _ rfl (by simp [go_sem, he, mostK])
  by_cases h2 : 24 < T
  · have he : findE T k = 2 := by unfold findE; rw [if_pos (.inr (.inl h2))]
    simp [go_sem, h1, h2]
    exact hR _ _ _ rfl (by simp [go_sem, he, mostK])
  by_cases h3 : k < 1
  · have he : findE T k = 2 := by unfold findE; rw [if_pos (.inr (.inr (.inl (by omega))))]
    simp [go_sem, h1, h2, h3]
    exact hR _ _ _ rfl (by simp [go_sem, he, mostK])
  by_cases h4 : 3 < k
  · have he : findE T k = 2 := by unfold findE; rw [if_pos (.inr (.inr (.inr (by omega))))]
    simp [go_sem, h1, h2, h3, h4]
    exact hR _ _ _ rfl (by simp [go_sem, he, mostK])
  have ht := rem2 (T := T) (by omega)
  have hb : T % 2 = 0 ∨ T % 2 = 1 := by omega
  have w1 : IntKind.i64.wrap (T - 1) = T - 1 := wrap64 (by omega) (by omega)
  rcases (by omega : k = 1 ∨ k = 2 ∨ k = 3) with rfl | rfl | rfl
  all_goals
    rcases hb with hb | hb
    · simp [go_sem, h1, h2, ht, hb, w1]
      exact hR _ _ _ rfl (by simp [go_sem, mostK, fewK, findE, h1, h2, hb, evenK])
    · simp [go_sem, h1, h2, ht, hb, w1]
      exact hR _ _ _ rfl (by simp [go_sem, mostK, fewK, findE, h1, h2, hb, evenK])
theorem refMod_fun (x n : Int) (hn : 1 ≤ n ∧ n ≤ 1000) (hx : -1000000 ≤ x ∧ x ≤ 1000000) : FN 47 [.int .i64 x, .int .i64 n] (fun v => v = .int .i64 (x % n)) := by
  refine IFun.of_bodyZ false 5 [6] Try.func47 rfl Try.call47 rfl fun R hR => ?_
  simp [go_sem]
  refine IWp.loopT (α := Int) (fun y => (⟨false, 13, 5, [6], [], [(0, .int .i64 y), (1, .int .i64 n)], []⟩, []))
    (fun y => y % n = x % n ∧ -1000000 ≤ y ∧ y ≤ 1000000) (fun y => (-y).toNat) x ⟨rfl, hx⟩ (by simp [go_sem]) ?_
  rintro y ⟨h1, h2⟩
  by_cases h : y < 0
  · have w1 : IntKind.i64.wrap (y + n) = y + n := wrap64 (by omega) (by omega)
    simp [go_sem, h, w1]
    exact ⟨⟨h1, by omega, by omega⟩, by omega⟩
  · have hn0 : ¬ n = 0 := by omega
    have e : y.tmod n = x % n := by rw [Int.tmod_eq_emod_of_nonneg (by omega), h1]
    simp [go_sem, h, hn0, e]
    exact hR _ _ _ rfl (by simp [go_sem])
theorem refRow_fun (k T r t : Int) (hk : k = 1 ∨ k = 2 ∨ k = 3) (hT : 1 ≤ T ∧ T ≤ 24) (hr : 0 ≤ r ∧ r ≤ 100) (ht : 0 ≤ t ∧ t ≤ 100) : FN 43 [.int .i64 T, .int .i64 r, .int .i64 t, .int .u8 k] (fun v => v = (rowX k T r t).v) := by
  refine IFun.of_bodyZ false 11 [28, 42] Try.func43 rfl Try.call43 rfl fun R hR => ?_
  have hq : T.tdiv 2 = T / 2 := Int.tdiv_eq_ediv_of_nonneg (by omega)
  have wq : IntKind.i64.wrap (T / 2) = T / 2 := wrap64 (by omega) (by omega)
  have w1 : IntKind.i64.wrap (t - r) = t - r := wrap64 (by omega) (by omega)
  have w2 : IntKind.i64.wrap (t - r - 1) = t - r - 1 := wrap64 (by omega) (by omega)
  have w3 : IntKind.i64.wrap (t + r) = t + r := wrap64 (by omega) (by omega)
  have w4 : IntKind.i64.wrap (t + r + 1) = t + r + 1 := wrap64 (by omega) (by omega)
  have w5 : IntKind.i64.wrap (t + 1) = t + 1 := wrap64 (by omega) (by omega)
  have w6 : IntKind.i64.wrap (T + 1) = T + 1 := wrap64 (by omega) (by omega)
  have m : ∀ z : Int, IntKind.i64.wrap (T + 1 + z % T) = T + 1 + z % T := fun z => by
    have h0 := Int.emod_nonneg z (b := T) (by omega)
    have h1 := Int.emod_lt_of_pos z (b := T) (by omega)
    exact wrap64 (by omega) (by omega)
  simp [go_sem, w1]
  refine (refMod_fun (t - r) T (by omega) (by omega)).callF (by simp [go_sem]) ?_
  rintro _ rfl
  simp [go_sem, w3]
  refine (refMod_fun (t + r) T (by omega) (by omega)).callF (by simp [go_sem]) ?_
  rintro _ rfl
  rcases hk with rfl | rfl | rfl
  · simp [go_sem, w5, w6, m]
    exact hR _ _ _ rfl (by simp [go_sem, rowX, Rw.v, movX, setX])
  · by_cases h : r < T / 2
    · have h' : ¬ T / 2 ≤ r := by omega
      simp [go_sem, hq, wq, h, h', w5, w6, m]
      exact hR _ _ _ rfl (by simp [go_sem, rowX, Rw.v, movX, setX, h, h'])
    · have h' : T / 2 ≤ r := by omega
      simp [go_sem, hq, wq, h, h', w1, w2]
      refine (refMod_fun (t - r - 1) T (by omega) (by omega)).callF (by simp [go_sem]) ?_
      rintro _ rfl
      simp [go_sem, w5, w6, m]
      exact hR _ _ _ rfl (by simp [go_sem, rowX, Rw.v, movX, setX, h, h'])
  · by_cases h : t < T / 2
    · have h' : ¬ T / 2 ≤ t := by omega
      simp [go_sem, hq, wq, h, h', w5, w6, m]
      exact hR _ _ _ rfl (by simp [go_sem, rowX, Rw.v, movX, setX, h, h'])
    · have h' : T / 2 ≤ t := by omega
      simp [go_sem, hq, wq, h, h', w3, w4]
      refine (refMod_fun (t + r + 1) T (by omega) (by omega)).callF (by simp [go_sem]) ?_
      rintro _ rfl
      simp [go_sem, w5, w6, m]
      exact hR _ _ _ rfl (by simp [go_sem, rowX, Rw.v, movX, setX, h, h'])
end Go.Idl
namespace Go.Idl
set_option linter.all false
open Go.Proofs
set_option maxHeartbeats 4000000
set_option maxRecDepth 40000

def rowsP (k T : Int) (i j : Nat) : List Rw := rowsX k T i ++ rowL k T i j
theorem rowsP_zero {k T : Int} {i : Nat} : rowsP k T i 0 = rowsX k T i := by simp [rowsP, rowL]
theorem rowsP_succ {k T : Int} {i j : Nat} : rowsP k T i (j + 1) = rowsP k T i j ++ [rowX k T i j] := by simp [rowsP, rowL_succ]
theorem rowsP_T {k : Int} {i T : Nat} : rowsP k T i T = rowsX k T (i + 1) := by simp [rowsP, rowsX_succ]
theorem rowsX_zero {k T : Int} : rowsX k T 0 = [] := by simp [rowsX]
theorem rowsP_length {k : Int} {i j T : Nat} : (rowsP k T i j).length = i * T + j := by simp [rowsP, rowsX_length]
theorem refMake_fun (T n k : Int) (hk : 0 ≤ k ∧ k < 256) : FN 19 [.int .i64 T, .int .i64 n, .int .u8 k] (fun v => v = .tup [(makeM k T n).v, .int .i64 (makeE k T n)]) := by
  refine IFun.of_bodyZ false 13 [20, 24, 28, 35, 39, 44] Try.func19 rfl Try.call19 rfl fun R hR => ?_
  simp [go_sem]
  refine (refMost_fun T k hk).callF (by simp [go_sem]) ?_
  rintro _ rfl
  by_cases he : findE T k = 0
  case neg =>
    have h0 : makeE k T n = findE T k := by unfold makeE; rw [if_pos he]
    have hm : makeM k T n = mvZ := by unfold makeM; rw [if_neg (by rw [h0]; exact he)]
    simp [go_sem, he]
    exact hR _ _ _ rfl (by simp [go_sem, hm, h0, mvZ, Mv.v])
  have h := findE_zero he
  have hf : fewK k = 0 ∨ fewK k = 1 := by unfold fewK; split <;> simp
  have hmo : mostK T k = T - fewK k := by unfold mostK; rw [if_pos he]
  by_cases hn : n < 1
  · have h0 : makeE k T n = 2 := by unfold makeE; rw [if_neg (by simp [he]), if_pos hn]
    have hm : makeM k T n = mvZ := by unfold makeM; rw [if_neg (by rw [h0]; decide)]
    simp [go_sem, he, hn]
    exact hR _ _ _ rfl (by simp [go_sem, hm, h0, mvZ, Mv.v])
  by_cases hm : T - fewK k < n
  · have h0 : makeE k T n = 5 := by unfold makeE; rw [if_neg (by simp [he]), if_neg hn, if_pos hm]
    have hmm : makeM k T n = mvZ := by unfold makeM; rw [if_neg (by rw [h0]; decide)]
    simp [go_sem, he, hn, hmo, hm]
    exact hR _ _ _ rfl (by simp [go_sem, hmm, h0, mvZ, Mv.v])
  have h0 : makeE k T n = 0 := by unfold makeE; rw [if_neg (by simp [he]), if_neg hn, if_neg hm]
  have hmm : makeM k T n = mvX k T n := by unfold makeM; rw [if_pos h0]
  obtain ⟨t, rfl⟩ : ∃ t : Nat, T = t := ⟨T.toNat, by omega⟩
  obtain ⟨m, rfl⟩ : ∃ m : Nat, n = m := ⟨n.toNat, by omega⟩
  have hk' : k = 1 ∨ k = 2 ∨ k = 3 := by omega
  have hr1 : ∀ i j : Nat, i < m → j < t → FN 43 [.int .i64 t, .int .i64 i, .int .i64 j, .int .u8 k] (fun v => v = (rowX k t i j).v) := fun i j hi hj => refRow_fun k t i j hk' (by omega) (by omega) (by omega)
  obtain ⟨c, hc⟩ : ∃ c, copK k = c := ⟨_, rfl⟩
  have hkc : k = 3 ∧ c = 2 ∨ k ≠ 3 ∧ c = 1 := by unfold copK at hc; split at hc <;> omega
  have hfin : IV.tup [.agg [.int .i64 t, .int .i64 m, .int .i64 t, .int .i64 c, .int .i64 2, .fz 5 (rws (rowsX k t m))], .int .i64 0] = .tup [(makeM k t m).v, .int .i64 (makeE k t m)] := by rw [h0, hmm]; simp [mvX, Mv.v, hc]
  have w1 : ∀ i : Nat, i < m → IntKind.i64.wrap ((i : Int) + 1) = i + 1 := fun i hi => wrap64 (by omega) (by omega)
  have w2 : ∀ i : Nat, i < t → IntKind.i64.wrap ((i : Int) + 1) = i + 1 := fun i hi => wrap64 (by omega) (by omega)
  rcases hkc with ⟨hk3, hc2⟩ | ⟨hk3, hc2⟩
  · subst hk3
    simp [go_sem, he, hn, hmo, hm]
    refine IWp.ownNil 5 _ [.rows 6 [[.int .i64 0, .int .i64 0, .int .i64 0, .int .i64 0, .int .i64 0, .nils]], .rows 6 [[.int .i64 t, .int .i64 m, .int .i64 t, .int .i64 c, .int .i64 2, .sl 2 0 0 0 none]]] (by decide) (nlL_refl _) (by rw [hc2]; simp [go_sem]) ?_
    simp only [List.cons_append, List.nil_append]
    refine IWp.loopT (α := Nat) (fun i => (⟨false, 58, 13, [20, 24, 28, 35, 39, 44], [], [(0, .int .i64 t), (1, .int .i64 m), (2, .int .u8 3), (6, .ptr 0 1 0 0), (10, .ptr 1 1 0 0), (11, .int .i64 (i : Int))], []⟩, [.rows 6 [[.int .i64 0, .int .i64 0, .int .i64 0, .int .i64 0, .int .i64 0, .nils]], .rows 6 [[.int .i64 t, .int .i64 m, .int .i64 t, .int .i64 c, .int .i64 2, .sl 2 (rowsX 3 t i).length 0 (rowsX 3 t i).length none]], .rows 5 (rws (rowsX 3 t i))]))
      (fun i => i ≤ m) (fun i => m - i) 0 (by simp) (by simp [go_sem, rowsX_zero]) ?_
    intro i hi
    by_cases him : i < m
    · simp [go_sem, him]
      refine IWp.loopT (α := Nat) (fun j => (⟨false, 58, 13, [20, 24, 28, 35, 39, 44], [], [(0, .int .i64 t), (1, .int .i64 m), (2, .int .u8 3), (6, .ptr 0 1 0 0), (10, .ptr 1 1 0 0), (11, .int .i64 (i : Int)), (12, .int .i64 (j : Int))], []⟩, [.rows 6 [[.int .i64 0, .int .i64 0, .int .i64 0, .int .i64 0, .int .i64 0, .nils]], .rows 6 [[.int .i64 t, .int .i64 m, .int .i64 t, .int .i64 c, .int .i64 2, .sl 2 (rowsP 3 t i j).length 0 (rowsP 3 t i j).length none]], .rows 5 (rws (rowsP 3 t i j))]))
        (fun j => j ≤ t) (fun j => t - j) 0 (by simp) (by simp [go_sem, rowsP_zero]) ?_
      intro j hj
      by_cases h' : j < t
      · have hs : rowsP 3 t i (j + 1) = rowsP 3 t i j ++ [rowX 3 t i j] := rowsP_succ
        have hlen : (rowsP 3 t i j).length ≤ 2 ^ 20 := by
          rw [rowsP_length]
          have : i * t ≤ 24 * 24 := Nat.mul_le_mul (by omega) (by omega)
          omega
        have c1 := hr1 i j him h'
        generalize rowX 3 t i j = x at *
        generalize rowsP 3 t i j = L at *
        simp only [Rw.v] at c1
        simp [go_sem, h']
        refine Drawn.intro (fun k => if k = 6 then x.v else .tup []) ?_
        simp [go_sem, c1, Rw.v]
        exact ⟨by omega, by decide +kernel, j + 1, ⟨by rw [w2 j h']; simp, by rw [hs]; simp, by rw [hs, rws_snoc]⟩, by omega, by omega⟩
      · have : j = t := by omega
        subst this
        have w1i := w1 i him
        simp [go_sem, w1i, rowsP_T]
        exact ⟨i + 1, ⟨by simp, rfl, rfl⟩, by omega, by omega⟩
    · have : i = m := by omega
      subst this
      simp [go_sem]
      exact hR _ _ _ rfl (by simp [go_sem, ← hfin])
  · simp [go_sem, he, hn, hmo, hm, hk3]
    refine IWp.ownNil 5 _ [.rows 6 [[.int .i64 0, .int .i64 0, .int .i64 0, .int .i64 0, .int .i64 0, .nils]], .rows 6 [[.int .i64 t, .int .i64 m, .int .i64 t, .int .i64 c, .int .i64 2, .sl 2 0 0 0 none]]] (by decide) (nlL_refl _) (by rw [hc2]; simp [go_sem]) ?_
    simp only [List.cons_append, List.nil_append]
    refine IWp.loopT (α := Nat) (fun i => (⟨false, 58, 13, [20, 24, 28, 35, 39, 44], [], [(0, .int .i64 t), (1, .int .i64 m), (2, .int .u8 k), (6, .ptr 0 1 0 0), (10, .ptr 1 1 0 0), (11, .int .i64 (i : Int))], []⟩, [.rows 6 [[.int .i64 0, .int .i64 0, .int .i64 0, .int .i64 0, .int .i64 0, .nils]], .rows 6 [[.int .i64 t, .int .i64 m, .int .i64 t, .int .i64 c, .int .i64 2, .sl 2 (rowsX k t i).length 0 (rowsX k t i).length none]], .rows 5 (rws (rowsX k t i))]))
      (fun i => i ≤ m) (fun i => m - i) 0 (by simp) (by simp [go_sem, rowsX_zero]) ?_
    intro i hi
    by_cases him : i < m
    · simp [go_sem, him]
      refine IWp.loopT (α := Nat) (fun j => (⟨false, 58, 13, [20, 24, 28, 35, 39, 44], [], [(0, .int .i64 t), (1, .int .i64 m), (2, .int .u8 k), (6, .ptr 0 1 0 0), (10, .ptr 1 1 0 0), (11, .int .i64 (i : Int)), (12, .int .i64 (j : Int))], []⟩, [.rows 6 [[.int .i64 0, .int .i64 0, .int .i64 0, .int .i64 0, .int .i64 0, .nils]], .rows 6 [[.int .i64 t, .int .i64 m, .int .i64 t, .int .i64 c, .int .i64 2, .sl 2 (rowsP k t i j).length 0 (rowsP k t i j).length none]], .rows 5 (rws (rowsP k t i j))]))
        (fun j => j ≤ t) (fun j => t - j) 0 (by simp) (by simp [go_sem, rowsP_zero]) ?_
      intro j hj
      by_cases h' : j < t
      · have hs : rowsP k t i (j + 1) = rowsP k t i j ++ [rowX k t i j] := rowsP_succ
        have hlen : (rowsP k t i j).length ≤ 2 ^ 20 := by
          rw [rowsP_length]
          have : i * t ≤ 24 * 24 := Nat.mul_le_mul (by omega) (by omega)
          omega
        have c1 := hr1 i j him h'
        generalize rowX k t i j = x at *
        generalize rowsP k t i j = L at *
        simp only [Rw.v] at c1
        simp [go_sem, h']
        refine Drawn.intro (fun q => if q = 6 then x.v else .tup []) ?_
        simp [go_sem, c1, Rw.v]
        exact ⟨by omega, by decide +kernel, j + 1, ⟨by rw [w2 j h']; simp, by rw [hs]; simp, by rw [hs, rws_snoc]⟩, by omega, by omega⟩
      · have : j = t := by omega
        subst this
        have w1i := w1 i him
        simp [go_sem, w1i, rowsP_T]
        exact ⟨i + 1, ⟨by simp, rfl, rfl⟩, by omega, by omega⟩
    · have : i = m := by omega
      subst this
      simp [go_sem]
      exact hR _ _ _ rfl (by simp [go_sem, ← hfin])
end Go.Idl
namespace Go.Idl
set_option linter.all false
open Go.Proofs
set_option maxHeartbeats 4000000
set_option maxRecDepth 40000

theorem refRover_fun (T n : Int) : FN 28 [.int .i64 T, .int .i64 n] (fun v => v = .tup [(roverM T n).v, .int .i64 (roverE T n)]) := by
  refine IFun.of_bodyZ false 10 [16, 21, 30, 35] Try.func28 rfl Try.call28 rfl fun R hR => ?_
  simp [go_sem]
  refine (refMost_fun T 1 (by omega)).callF (by simp [go_sem]) ?_
  rintro _ rfl
  by_cases he : findE T 1 = 0
  case neg =>
    have h0 : roverE T n = findE T 1 := by unfold roverE; rw [if_pos he]
    have hm : roverM T n = mvZ := by unfold roverM; rw [if_neg (by rw [h0]; exact he)]
    simp [go_sem, he]
    exact hR _ _ _ rfl (by simp [go_sem, hm, h0, mvZ, Mv.v])
  have hz := findE_zero he
  have ht := rem3 (T := T) (by omega)
  by_cases h3 : T % 3 = 0
  · have h0 : roverE T n = 6 := by unfold roverE; rw [if_neg (by simp [he]), if_pos h3]
    have hm : roverM T n = mvZ := by unfold roverM; rw [if_neg (by rw [h0]; decide)]
    simp [go_sem, he, ht, h3]
    exact hR _ _ _ rfl (by simp [go_sem, hm, h0, mvZ, Mv.v])
  have h0 : roverE T n = makeE 1 T n := by unfold roverE; rw [if_neg (by simp [he]), if_neg h3]
  simp [go_sem, he, ht, h3]
  by_cases hk : makeE 1 T n = 0
  case neg =>
    have hm : roverM T n = mvZ := by unfold roverM; rw [if_neg (by rw [h0]; exact hk)]
    refine (refMake_fun T n 1 (by omega)).callF (by simp [go_sem]) ?_
    rintro _ rfl
    have hmm : makeM 1 T n = mvZ := by unfold makeM; rw [if_neg hk]
    simp [go_sem, hk, hmm, mvZ, Mv.v]
    exact hR _ _ _ rfl (by simp [go_sem, hm, h0, mvZ, Mv.v])
  have hz2 := makeE_zero hk
  have hm : roverM T n = { mvX 1 T n with rows := (rowsX 1 T n.toNat).map (rovF T) } := by unfold roverM; rw [if_pos (by rw [h0]; exact hk)]
  have hmm : makeM 1 T n = mvX 1 T n := by unfold makeM; rw [if_pos hk]
  refine (refMake_fun T n 1 (by omega)).callOF (by simp [go_sem]) ?_
  rintro _ rfl
  rw [hk, hmm]
  obtain ⟨t, rfl⟩ : ∃ t : Nat, T = t := ⟨T.toNat, by omega⟩
  obtain ⟨m, rfl⟩ : ∃ m : Nat, n = m := ⟨n.toNat, by omega⟩
  refine ⟨fun v => .tup ([] ++ .agg ([.int .i64 t, .int .i64 m, .int .i64 t, .int .i64 1, .int .i64 2] ++ v :: []) :: [.int .i64 0]), 5, rws (rowsX 1 t m), .tup [] [.int .i64 0] _ (by simp) (by simp [scal]) (.agg [.int .i64 t, .int .i64 m, .int .i64 t, .int .i64 1, .int .i64 2] [] _ (by simp [scal]) (by simp) .here), by decide, rfl, by simp [go_sem], ?_⟩
  simp [go_sem]
  have hl : (rowsX 1 t m).length = m * t := by rw [rowsX_length]; simp
  have hfin : IV.tup [.agg [.int .i64 t, .int .i64 m, .int .i64 t, .int .i64 1, .int .i64 2, .fz 5 (rws ((rowsX 1 t m).map (rovF t)))], .int .i64 0] = .tup [(roverM t m).v, .int .i64 (roverE t m)] := by rw [hm, h0, hk]; simp [mvX, Mv.v, copK]
  have hround : ∀ r : Nat, r < m → ∃ h : r * t + 2 * r % t < (rowsX 1 t m).length, rovR t (rowsX 1 t m) ((r + 1) * t) = (rovR t (rowsX 1 t m) (r * t)).set (r * t + 2 * r % t) (rovF t (rowsX 1 t m)[r * t + 2 * r % t]) ∧ rovF t (rowsX 1 t m)[r * t + 2 * r % t] = { (rowsX 1 t m)[r * t + 2 * r % t] with ns := 2 * t + 1 } := fun r hr => rovR_round (by omega) hr
  have hall := rovR_all (T := t) (L := rowsX 1 t m)
  have hm24 : m ≤ 24 := by have := hz2.2.2; simp [fewK] at this; omega
  have hmt : m * t ≤ 24 * 24 := Nat.mul_le_mul hm24 (by omega)
  rw [hl] at hall
  generalize rowsX 1 t m = L at *
  refine IWp.loopT (α := Nat) (fun r => (⟨false, 54, 10, [16, 21, 30, 35], [], [(0, .int .i64 t), (1, .int .i64 m), (4, .ptr 0 1 0 0), (8, .ptr 2 1 0 0), (9, .int .i64 (r : Int))], []⟩, [.rows 6 [[.int .i64 0, .int .i64 0, .int .i64 0, .int .i64 0, .int .i64 0, .nils]], .rows 5 (rws (rovR t L (r * t))), .rows 6 [[.int .i64 t, .int .i64 m, .int .i64 t, .int .i64 1, .int .i64 2, .sl 1 L.length 0 L.length none]]]))
    (fun r => r ≤ m) (fun r => m - r) 0 (by simp) (by simp [go_sem, rovR_zero]) ?_
  intro r hr
  by_cases h : r < m
  · obtain ⟨hlt, he1, he2⟩ := hround r h
    have hrt : r * t ≤ 24 * 24 := Nat.mul_le_mul (by omega) (by omega)
    have c1 := refMod_fun (2 * (r : Int)) t (by omega) (by omega)
    have hzI : 2 * (r : Int) % t = ((2 * r % t : Nat) : Int) := by push_cast; rfl
    have hpI : (r : Int) * t = ((r * t : Nat) : Int) := by push_cast; rfl
    have w1 : IntKind.i64.wrap ((r : Int) + 1) = r + 1 := wrap64 (by omega) (by omega)
    have w2 : IntKind.i64.wrap (2 * (r : Int)) = 2 * r := wrap64 (by omega) (by omega)
    have w3 : IntKind.i64.wrap ((r : Int) * t) = ((r * t : Nat) : Int) := by rw [hpI]; exact wrap64 (by omega) (by omega)
    have w4 : IntKind.i64.wrap (((r * t : Nat) : Int) + 2 * (r : Int) % t) = ((r * t + 2 * r % t : Nat) : Int) := by rw [hzI, ← Int.natCast_add]; exact wrap64 (by omega) (by omega)
    have w5 : IntKind.i64.wrap (2 * (t : Int)) = 2 * t := wrap64 (by omega) (by omega)
    have w6 : IntKind.i64.wrap (2 * (t : Int) + 1) = 2 * t + 1 := wrap64 (by omega) (by omega)
    have hlt' : r * t + 2 * r % t < (rovR t L (r * t)).length := by simpa using hlt
    have hget : (rovR t L (r * t))[r * t + 2 * r % t] = L[r * t + 2 * r % t] := by rw [rovR_get, if_neg (by omega)]
    generalize 2 * (r : Int) % t = z at *
    generalize hP : ((r * t : Nat) : Int) = P at *
    generalize hM : rovR t L (r * t) = M at *
    have hML : M.length = L.length := by rw [← hM]; simp
    generalize r * t + 2 * r % t = J at *
    generalize L[J] = x at *
    simp [go_sem, h]
    refine Drawn.intro (fun q => if q = 8 then .int .i64 z else .tup []) ?_
    simp [go_sem, w1, w2, w3, w4, w5, w6, c1, hlt, hlt', hget, hML]
    exact ⟨by decide +kernel, r + 1, ⟨by simp, by rw [he1, he2, rws_set]; rfl⟩, by omega, by omega⟩
  · have : r = m := by omega
    subst this
    simp [go_sem, hall]
    exact hR _ _ _ rfl (by simp [go_sem, ← hfin, hl, hall])
end Go.Idl
