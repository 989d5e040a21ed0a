/-
  Chapter 27: the reference's Most, sets, Make.
  Chapter 27: the reference's Make.
  Chapter 27: WebMakes.
-/
import Derived.Test.YtjmjdjdabmlgeaaC27PartL
import Derived.Test.YtjmjdjdabmlgeaaC27PartB
import Derived.Test.YtjmjdjdabmlgeaaC27PartO
namespace Go.Idl
set_option linter.all false
open Go.Proofs
set_option maxHeartbeats 8000000
set_option maxRecDepth 40000

theorem rmost27_fun (T k : Int) (hk : 0 ≤ k ∧ k < 256) (hT : -2 ^ 63 ≤ T ∧ T < 2 ^ 63) : FN 27 [.int .i64 T, .int .u8 k] (fun v => v = .tup [.int .i64 (if Web.findE T k = 0 then Web.most T k else 0), .int .i64 (Web.findE T k)]) := by
  refine IFun.of_bodyZ false 6 [19, 21, 33] Try.func27 rfl Try.call27 rfl fun R hR => ?_
  by_cases h1 : T < 2
  · have e : Web.findE T k = 2 := by unfold Web.findE; rw [if_pos (by omega)]
    simp [go_sem, h1]
    exact hR _ _ _ rfl (by simp [go_sem, e])
  by_cases h2 : 24 < T
  · have e : Web.findE T k = 2 := by unfold Web.findE; rw [if_pos (by omega)]
    simp [go_sem, h1, h2]
    exact hR _ _ _ rfl (by simp [go_sem, e])
  by_cases h3 : k < 1
  · have e : Web.findE T k = 2 := by unfold Web.findE; rw [if_neg (by omega), if_neg (by omega), if_neg (by omega), if_neg (by omega)]
    simp [go_sem, h1, h2, h3]
    exact hR _ _ _ rfl (by simp [go_sem, e])
  by_cases h4 : 3 < k
  · have e : Web.findE T k = 2 := by unfold Web.findE; rw [if_neg (by omega), if_neg (by omega), if_neg (by omega), if_neg (by omega)]
    simp [go_sem, h1, h2, h3, h4]
    exact hR _ _ _ rfl (by simp [go_sem, e])
  have e1 : T.tmod 2 = T % 2 := Int.tmod_eq_emod_of_nonneg (by omega)
  have e2 : T.tdiv 2 = T / 2 := Int.tdiv_eq_ediv_of_nonneg (by omega)
  have w1 : IntKind.i64.wrap (T % 2) = T % 2 := wrap64 (by omega) (by omega)
  have w2 : IntKind.i64.wrap (T / 2) = T / 2 := wrap64 (by omega) (by omega)
  have hr : ¬ (T < 2 ∨ 24 < T) := by omega
  have hK : k = 1 ∨ k = 2 ∨ k = 3 := by omega
  rcases hK with rfl | rfl | rfl
  · by_cases h5 : T % 2 = 1
    · have e : Web.findE T 1 = 6 := by unfold Web.findE; simp [hr, h5]
      simp [go_sem, h1, h2, e1, w1, h5]
      exact hR _ _ _ rfl (by simp [go_sem, e])
    · have e : Web.findE T 1 = 0 := by unfold Web.findE; simp [hr]; omega
      simp [go_sem, h1, h2, e1, w1, h5, e2, w2]
      exact hR _ _ _ rfl (by simp [go_sem, e, Web.most])
  · by_cases h5 : T % 2 = 1
    · have e : Web.findE T 2 = 6 := by unfold Web.findE; simp [hr, h5]
      simp [go_sem, h1, h2, e1, w1, h5]
      exact hR _ _ _ rfl (by simp [go_sem, e])
    · by_cases h6 : T < 4
      · have e : Web.findE T 2 = 6 := by unfold Web.findE; simp [hr]; omega
        simp [go_sem, h1, h2, e1, w1, h5, h6]
        exact hR _ _ _ rfl (by simp [go_sem, e])
      · have e : Web.findE T 2 = 0 := by unfold Web.findE; simp [hr]; omega
        simp [go_sem, h1, h2, e1, w1, h5, h6, e2, w2]
        exact hR _ _ _ rfl (by simp [go_sem, e, Web.most])
  · have e : Web.findE T 3 = 0 := by unfold Web.findE; simp [hr]
    simp [go_sem, h1, h2]
    exact hR _ _ _ rfl (by simp [go_sem, e, Web.most])
theorem rsets27_fun (T k : Int) (hk : k = 1 ∨ k = 2 ∨ k = 3) (hT : 2 ≤ T ∧ T ≤ 24) : FN 40 [.int .i64 T, .int .u8 k] (fun v => v = .int .i64 (Web.sets T k)) := by
  refine IFun.of_bodyZ false 5 [6, 9, 15] Try.func40 rfl Try.call40 rfl fun R hR => ?_
  have e2 : T.tdiv 2 = T / 2 := Int.tdiv_eq_ediv_of_nonneg (by omega)
  have e3 : (T / 2).tmod 2 = T / 2 % 2 := Int.tmod_eq_emod_of_nonneg (by omega)
  have w1 : IntKind.i64.wrap (T - 1) = T - 1 := wrap64 (by omega) (by omega)
  have w2 : IntKind.i64.wrap (T / 2) = T / 2 := wrap64 (by omega) (by omega)
  have w3 : IntKind.i64.wrap (T / 2 % 2) = T / 2 % 2 := wrap64 (by omega) (by omega)
  have w4 : IntKind.i64.wrap (T / 2 + 1) = T / 2 + 1 := wrap64 (by omega) (by omega)
  rcases hk with rfl | rfl | rfl
  · by_cases h : T / 2 % 2 = 1
    · have e : Web.sets T 1 = T / 2 := by unfold Web.sets; simp; omega
      simp [go_sem, e2, e3, w2, w3, h]
      exact hR _ _ _ rfl (by simp [go_sem, e])
    · have e : Web.sets T 1 = T / 2 + 1 := by unfold Web.sets; simp; omega
      simp [go_sem, e2, e3, w2, w3, w4, h]
      exact hR _ _ _ rfl (by simp [go_sem, e])
  · simp [go_sem, w1]
    exact hR _ _ _ rfl (by simp [go_sem, Web.sets])
  · simp [go_sem]
    exact hR _ _ _ rfl (by simp [go_sem, Web.sets])
end Go.Idl
namespace Go.Idl
set_option linter.all false
open Go.Proofs
set_option maxHeartbeats 8000000
set_option maxRecDepth 40000

def rmH (T n S C : Int) (L : List Rw) : Heap := if L = [] then [.rows 6 [[.int .i64 0, .int .i64 0, .int .i64 0, .int .i64 0, .int .i64 0, .nils]], .rows 6 [[.int .i64 T, .int .i64 n, .int .i64 S, .int .i64 C, .int .i64 2, .nils]]]
  else [.rows 6 [[.int .i64 0, .int .i64 0, .int .i64 0, .int .i64 0, .int .i64 0, .nils]], .rows 6 [[.int .i64 T, .int .i64 n, .int .i64 S, .int .i64 C, .int .i64 2, .sl 3 L.length 0 L.length none]], .dead, .rows 5 (rws L)]
theorem rmH_nil {T n S C : Int} : rmH T n S C [] = [.rows 6 [[.int .i64 0, .int .i64 0, .int .i64 0, .int .i64 0, .int .i64 0, .nils]], .rows 6 [[.int .i64 T, .int .i64 n, .int .i64 S, .int .i64 C, .int .i64 2, .nils]]] := rfl
theorem rmH_pos {T n S C : Int} {L : List Rw} (h : L ≠ []) : rmH T n S C L = [.rows 6 [[.int .i64 0, .int .i64 0, .int .i64 0, .int .i64 0, .int .i64 0, .nils]], .rows 6 [[.int .i64 T, .int .i64 n, .int .i64 S, .int .i64 C, .int .i64 2, .sl 3 L.length 0 L.length none]], .dead, .rows 5 (rws L)] := if_neg h
theorem rmake27_fun (T n k : Int) (hk : 0 ≤ k ∧ k < 256) (hT0 : -2 ^ 63 ≤ T ∧ T < 2 ^ 63) : FN 14 [.int .i64 T, .int .i64 n, .int .u8 k] (fun v => v = .tup [(Web.makeM k T n).v, .int .i64 (Web.makeE k T n)]) := by
  refine IFun.of_bodyZ false 15 [22, 26, 30, 39, 44, 49, 56, 62] Try.func14 rfl Try.call14 rfl fun R hR => ?_
  simp [go_sem]
  refine (rmost27_fun T k hk hT0).callF (by simp [go_sem]) ?_
  rintro _ rfl
  by_cases h : Web.findE T k = 0
  case neg =>
    have e1 : Web.makeE k T n = Web.findE T k := by unfold Web.makeE; rw [if_pos h]
    have e2 : Web.makeM k T n = ⟨0, 0, 0, 0, 0, []⟩ := by unfold Web.makeM; rw [if_neg (by rw [e1]; exact h)]
    simp [go_sem, h]
    exact hR _ _ _ rfl (by simp [go_sem, e1, e2, Mv.v])
  have e0 : Web.makeE k T n = if n < 1 then 2 else if Web.most T k < n then 5 else 0 := by unfold Web.makeE; rw [if_neg (by simpa using h)]
  by_cases h1 : n < 1
  · have e1 : Web.makeE k T n = 2 := by rw [e0, if_pos h1]
    have e2 : Web.makeM k T n = ⟨0, 0, 0, 0, 0, []⟩ := by unfold Web.makeM; rw [if_neg (by rw [e1]; decide)]
    simp [go_sem, h, h1]
    exact hR _ _ _ rfl (by simp [go_sem, e1, e2, Mv.v])
  by_cases h2 : Web.most T k < n
  · have e1 : Web.makeE k T n = 5 := by rw [e0, if_neg h1, if_pos h2]
    have e2 : Web.makeM k T n = ⟨0, 0, 0, 0, 0, []⟩ := by unfold Web.makeM; rw [if_neg (by rw [e1]; decide)]
    simp [go_sem, h, h1, h2]
    exact hR _ _ _ rfl (by simp [go_sem, e1, e2, Mv.v])
  have e1 : Web.makeE k T n = 0 := by rw [e0, if_neg h1, if_neg h2]
  have hT : 2 ≤ T ∧ T ≤ 24 := by
    unfold Web.findE at h
    by_cases hx : T < 2 ∨ 24 < T
    · rw [if_pos hx] at h; cases h
    · omega
  have hK : k = 1 ∨ k = 2 ∨ k = 3 := by
    unfold Web.findE at h
    rw [if_neg (by omega)] at h
    by_cases a : k = 1
    · omega
    · by_cases b : k = 2
      · omega
      · by_cases c : k = 3
        · omega
        · rw [if_neg a, if_neg b, if_neg c] at h; cases h
  have hm : Web.most T k ≤ 24 := by unfold Web.most; split <;> omega
  have hs : 1 ≤ Web.sets T k ∧ Web.sets T k ≤ 24 := by
    unfold Web.sets
    split
    · omega
    · split <;> omega
  have e2 : Web.makeM k T n = ⟨T, n, Web.sets T k, Web.cops T k, 2, Web.rowsX k T.toNat n.toNat⟩ := by unfold Web.makeM; rw [if_pos e1]
  obtain ⟨t, rfl⟩ := Int.eq_ofNat_of_zero_le (show 0 ≤ T by omega)
  obtain ⟨N, rfl⟩ := Int.eq_ofNat_of_zero_le (show 0 ≤ n by omega)
  simp only [Int.toNat_natCast] at e2
  have h1' : ¬ (N : Int) < 1 := h1
  have h1n : ¬ N = 0 := by omega
  have cs := rsets27_fun t k hK (by omega)
  simp [go_sem, h, h1, h2, h1n]
  refine cs.callF (by simp [go_sem]) ?_
  rintro _ rfl
  have hcops : Web.cops (t : Int) k = if k = 3 then (t : Int) else 2 := rfl
  obtain ⟨S, hS⟩ : ∃ S, Web.sets (t : Int) k = S := ⟨_, rfl⟩
  rw [hS] at hs e2 ⊢
  obtain ⟨C, hC⟩ : ∃ C, Web.cops (t : Int) k = C := ⟨_, rfl⟩
  rw [hC] at e2 hcops
  have hmT : Web.most t k ≤ t := by unfold Web.most; split <;> omega
  simp [go_sem]
  split
  · rename_i h3
    subst h3
    have hC' := hcops
    simp only [if_true] at hC'
    refine IWp.loopT (α := Nat) (fun i => (⟨false, 85, 15, [22, 26, 30, 39, 44, 49, 56, 62], [], [(0, .int .i64 (t : Int)), (1, .int .i64 (N : Int)), (2, .int .u8 3), (6, .ptr 0 1 0 0), (10, .ptr 1 1 0 0), (11, .int .i64 (i : Int))], []⟩, rmH t N S C (Web.rowsX 3 t i)))
      (fun i => i ≤ N) (fun i => N - i) 0 (by simp) (by simp [go_sem, Web.rowsX, rmH_nil, hC']) ?_
    clear hC'
    intro i hi
    obtain ⟨L0, hL0⟩ : ∃ L, Web.rowsX 3 t i = L := ⟨_, rfl⟩
    have hl0 : L0.length = i * t := by rw [← hL0]; simp
    by_cases hiN : i < N
    case neg =>
      have : i = N := by omega
      subst this
      have hne : Web.rowsX 3 t i ≠ [] := fun e => by
        have := congrArg List.length e
        rw [Web.rowsX_length, List.length_nil, Nat.mul_eq_zero] at this; omega
      rw [rmH_pos hne]
      obtain ⟨q, hq⟩ : ∃ q, (Web.rowsX 3 t i).length = q := ⟨_, rfl⟩
      simp [go_sem, hq]
      exact hR _ _ _ rfl (by simp [go_sem, e1, e2, Mv.v, hq])
    have w1 : IntKind.i64.wrap ((i : Int) + 1) = i + 1 := wrap64 (by omega) (by omega)
    have hiN' : (i : Int) < N := by omega
    rw [hL0]
    simp [go_sem, hiN', hiN]
    refine IWp.loopT (α := Nat) (fun j => (⟨false, 85, 15, [22, 26, 30, 39, 44, 49, 56, 62], [], [(0, .int .i64 (t : Int)), (1, .int .i64 (N : Int)), (2, .int .u8 3), (6, .ptr 0 1 0 0), (10, .ptr 1 1 0 0), (11, .int .i64 (i : Int)), (12, .int .i64 (j : Int))], []⟩, rmH t N S C (L0 ++ Web.rowL 3 t i j)))
      (fun j => j ≤ t) (fun j => t - j) 0 (by simp) (by cases L0 <;> simp [go_sem, Web.rowL, rmH]) ?_
    intro j hj
    by_cases hjt : j < t
    · have hjt' : (j : Int) < t := by omega
      obtain ⟨e, he⟩ : ∃ e, ((j : Int) - i + t) % t = e := ⟨_, rfl⟩
      obtain ⟨u, hu⟩ : ∃ u, ((j : Int) + i) % S = u := ⟨_, rfl⟩
      have hb : 0 ≤ e ∧ e < t := by rw [← he]; exact ⟨Int.emod_nonneg _ (by omega), Int.emod_lt_of_pos _ (by omega)⟩
      have hub : 0 ≤ u ∧ u < S := by rw [← hu]; exact ⟨Int.emod_nonneg _ (by omega), Int.emod_lt_of_pos _ (by omega)⟩
      have d2 : ((j : Int) + i).tmod S = u := by rw [Int.tmod_eq_emod_of_nonneg (by omega), hu]
      have v1 : IntKind.i64.wrap ((j : Int) - i) = j - i := wrap64 (by omega) (by omega)
      have v2 : IntKind.i64.wrap ((j : Int) - i + t) = j - i + t := wrap64 (by omega) (by omega)
      have v3 : IntKind.i64.wrap e = e := wrap64 (by omega) (by omega)
      have hge : ¬ e < 0 := by omega
      have v4 : IntKind.i64.wrap ((j : Int) + i) = j + i := wrap64 (by omega) (by omega)
      have v5 : IntKind.i64.wrap u = u := wrap64 (by omega) (by omega)
      have v6 : IntKind.i64.wrap ((j : Int) + 1) = j + 1 := wrap64 (by omega) (by omega)
      have v7 : IntKind.i64.wrap ((t : Int) + 1) = t + 1 := wrap64 (by omega) (by omega)
      have v8 : IntKind.i64.wrap ((t : Int) + 1 + e) = t + 1 + e := wrap64 (by omega) (by omega)
      have hz2 : ¬ S = 0 := by omega
      have hji : ((j : Int) - i < 0 ∧ (j : Int) - i + t = e) ∨ (¬ (j : Int) - i < 0 ∧ (j : Int) - i = e) := by
        by_cases h0 : (j : Int) - i < 0
        · exact .inl ⟨h0, by rw [← he, Int.emod_eq_of_lt (by omega) (by omega)]⟩
        · exact .inr ⟨h0, by rw [← he, Int.add_emod_right, Int.emod_eq_of_lt (by omega) (by omega)]⟩
      have hrow : Web.row 3 t i j = ⟨i, j, (j : Int) + 1, t + 1 + e, if (3 : Int) = 3 then (i : Int) else u⟩ := by
        simp only [Web.row, he, hS, hu]
      obtain ⟨L, hL⟩ : ∃ L, L0 ++ Web.rowL 3 t i j = L := ⟨_, rfl⟩
      rw [hL]
      have hne : L0 ++ Web.rowL 3 t i (j + 1) ≠ [] := by rw [Web.rowL_succ]; simp
      have hsn : L0 ++ Web.rowL 3 t i (j + 1) = L ++ [Web.row 3 t i j] := by rw [Web.rowL_succ, ← List.append_assoc, hL]
      have hll : L.length ≤ 10000 := by
        have : i * t ≤ 24 * 24 := Nat.mul_le_mul (by omega) (by omega)
        rw [← hL]; simp; omega
      rw [hrow] at hsn
      have hlen0 : (rmH t N S C L0).length ≤ 4 := by unfold rmH; split <;> simp
      by_cases hn : L = []
      · rw [hn, rmH_nil]
        rcases hji with ⟨g1, g2⟩ | ⟨g1, g2⟩
        all_goals
          simp [go_sem, hjt, hjt', v1, v2, g1, g2, v3, hge, d2, v4, v5, v6, v7, v8, hz2]
          refine ⟨j + 1, ⟨by omega, ?_⟩, by omega, by omega⟩
          rw [rmH_pos hne, hsn, hn]
          simp [go_sem, rws_cons, hlen0]
      · rw [rmH_pos hn]
        obtain ⟨q, hq⟩ : ∃ q, L.length = q := ⟨_, rfl⟩
        rcases hji with ⟨g1, g2⟩ | ⟨g1, g2⟩
        all_goals
          simp [go_sem, hjt, hjt', v1, v2, g1, g2, v3, hge, d2, v4, v5, v6, v7, v8, hz2, hq]
          refine ⟨by omega, j + 1, ⟨by omega, ?_⟩, by omega, by omega⟩
          rw [rmH_pos hne, hsn]
          simp [go_sem, rws_snoc, hlen0, hq]
    · obtain rfl : j = t := by omega
      have hh : L0 ++ Web.rowL 3 j i j = Web.rowsX 3 j (i + 1) := by rw [← hL0]; rfl
      have hne : Web.rowsX 3 j (i + 1) ≠ [] := fun e => by
        have := congrArg List.length e
        rw [Web.rowsX_length, List.length_nil, Nat.mul_eq_zero] at this; omega
      rw [hh]
      simp [go_sem, w1]
      refine ⟨i + 1, ⟨by omega, ?_⟩, by omega, by omega⟩
      rw [rmH_pos hne]
      simp [go_sem]
  · rename_i h3
    have hC' := hcops
    simp only [h3, if_false] at hC'
    refine IWp.loopT (α := Nat) (fun i => (⟨false, 85, 15, [22, 26, 30, 39, 44, 49, 56, 62], [], [(0, .int .i64 (t : Int)), (1, .int .i64 (N : Int)), (2, .int .u8 k), (6, .ptr 0 1 0 0), (10, .ptr 1 1 0 0), (11, .int .i64 (i : Int))], []⟩, rmH t N S C (Web.rowsX k t i)))
      (fun i => i ≤ N) (fun i => N - i) 0 (by simp) (by simp [go_sem, Web.rowsX, rmH_nil, hC']) ?_
    clear hC'
    intro i hi
    obtain ⟨L0, hL0⟩ : ∃ L, Web.rowsX k t i = L := ⟨_, rfl⟩
    have hl0 : L0.length = i * t := by rw [← hL0]; simp
    by_cases hiN : i < N
    case neg =>
      have : i = N := by omega
      subst this
      have hne : Web.rowsX k t i ≠ [] := fun e => by
        have := congrArg List.length e
        rw [Web.rowsX_length, List.length_nil, Nat.mul_eq_zero] at this; omega
      rw [rmH_pos hne]
      obtain ⟨q, hq⟩ : ∃ q, (Web.rowsX k t i).length = q := ⟨_, rfl⟩
      simp [go_sem, hq]
      exact hR _ _ _ rfl (by simp [go_sem, e1, e2, Mv.v, hq])
    have w1 : IntKind.i64.wrap ((i : Int) + 1) = i + 1 := wrap64 (by omega) (by omega)
    have hiN' : (i : Int) < N := by omega
    rw [hL0]
    simp [go_sem, hiN', hiN]
    refine IWp.loopT (α := Nat) (fun j => (⟨false, 85, 15, [22, 26, 30, 39, 44, 49, 56, 62], [], [(0, .int .i64 (t : Int)), (1, .int .i64 (N : Int)), (2, .int .u8 k), (6, .ptr 0 1 0 0), (10, .ptr 1 1 0 0), (11, .int .i64 (i : Int)), (12, .int .i64 (j : Int))], []⟩, rmH t N S C (L0 ++ Web.rowL k t i j)))
      (fun j => j ≤ t) (fun j => t - j) 0 (by simp) (by cases L0 <;> simp [go_sem, Web.rowL, rmH]) ?_
    intro j hj
    by_cases hjt : j < t
    · have hjt' : (j : Int) < t := by omega
      obtain ⟨e, he⟩ : ∃ e, ((j : Int) - i + t) % t = e := ⟨_, rfl⟩
      obtain ⟨u, hu⟩ : ∃ u, ((j : Int) + i) % S = u := ⟨_, rfl⟩
      have hb : 0 ≤ e ∧ e < t := by rw [← he]; exact ⟨Int.emod_nonneg _ (by omega), Int.emod_lt_of_pos _ (by omega)⟩
      have hub : 0 ≤ u ∧ u < S := by rw [← hu]; exact ⟨Int.emod_nonneg _ (by omega), Int.emod_lt_of_pos _ (by omega)⟩
      have d2 : ((j : Int) + i).tmod S = u := by rw [Int.tmod_eq_emod_of_nonneg (by omega), hu]
      have v1 : IntKind.i64.wrap ((j : Int) - i) = j - i := wrap64 (by omega) (by omega)
      have v2 : IntKind.i64.wrap ((j : Int) - i + t) = j - i + t := wrap64 (by omega) (by omega)
      have v3 : IntKind.i64.wrap e = e := wrap64 (by omega) (by omega)
      have hge : ¬ e < 0 := by omega
      have v4 : IntKind.i64.wrap ((j : Int) + i) = j + i := wrap64 (by omega) (by omega)
      have v5 : IntKind.i64.wrap u = u := wrap64 (by omega) (by omega)
      have v6 : IntKind.i64.wrap ((j : Int) + 1) = j + 1 := wrap64 (by omega) (by omega)
      have v7 : IntKind.i64.wrap ((t : Int) + 1) = t + 1 := wrap64 (by omega) (by omega)
      have v8 : IntKind.i64.wrap ((t : Int) + 1 + e) = t + 1 + e := wrap64 (by omega) (by omega)
      have hz2 : ¬ S = 0 := by omega
      have hji : ((j : Int) - i < 0 ∧ (j : Int) - i + t = e) ∨ (¬ (j : Int) - i < 0 ∧ (j : Int) - i = e) := by
        by_cases h0 : (j : Int) - i < 0
        · exact .inl ⟨h0, by rw [← he, Int.emod_eq_of_lt (by omega) (by omega)]⟩
        · exact .inr ⟨h0, by rw [← he, Int.add_emod_right, Int.emod_eq_of_lt (by omega) (by omega)]⟩
      have hrow : Web.row k t i j = ⟨i, j, (j : Int) + 1, t + 1 + e, if k = 3 then (i : Int) else u⟩ := by
        simp only [Web.row, he, hS, hu]
      obtain ⟨L, hL⟩ : ∃ L, L0 ++ Web.rowL k t i j = L := ⟨_, rfl⟩
      rw [hL]
      have hne : L0 ++ Web.rowL k t i (j + 1) ≠ [] := by rw [Web.rowL_succ]; simp
      have hsn : L0 ++ Web.rowL k t i (j + 1) = L ++ [Web.row k t i j] := by rw [Web.rowL_succ, ← List.append_assoc, hL]
      have hll : L.length ≤ 10000 := by
        have : i * t ≤ 24 * 24 := Nat.mul_le_mul (by omega) (by omega)
        rw [← hL]; simp; omega
      rw [hrow] at hsn
      have hlen0 : (rmH t N S C L0).length ≤ 4 := by unfold rmH; split <;> simp
      by_cases hn : L = []
      · rw [hn, rmH_nil]
        rcases hji with ⟨g1, g2⟩ | ⟨g1, g2⟩
        all_goals
          simp [go_sem, hjt, hjt', v1, v2, g1, g2, h3, v3, hge, d2, v4, v5, v6, v7, v8, hz2]
          refine ⟨j + 1, ⟨by omega, ?_⟩, by omega, by omega⟩
          rw [rmH_pos hne, hsn, hn]
          simp [go_sem, rws_cons, hlen0, h3]
      · rw [rmH_pos hn]
        obtain ⟨q, hq⟩ : ∃ q, L.length = q := ⟨_, rfl⟩
        rcases hji with ⟨g1, g2⟩ | ⟨g1, g2⟩
        all_goals
          simp [go_sem, hjt, hjt', v1, v2, g1, g2, h3, v3, hge, d2, v4, v5, v6, v7, v8, hz2, hq]
          refine ⟨by omega, j + 1, ⟨by omega, ?_⟩, by omega, by omega⟩
          rw [rmH_pos hne, hsn]
          simp [go_sem, rws_snoc, hlen0, hq, h3]
    · obtain rfl : j = t := by omega
      have hh : L0 ++ Web.rowL k j i j = Web.rowsX k j (i + 1) := by rw [← hL0]; rfl
      have hne : Web.rowsX k j (i + 1) ≠ [] := fun e => by
        have := congrArg List.length e
        rw [Web.rowsX_length, List.length_nil, Nat.mul_eq_zero] at this; omega
      rw [hh]
      simp [go_sem, w1]
      refine ⟨i + 1, ⟨by omega, ?_⟩, by omega, by omega⟩
      rw [rmH_pos hne]
      simp [go_sem]
end Go.Idl
namespace Go.Idl
set_option linter.all false
open Go.Proofs
set_option maxHeartbeats 8000000
set_option maxRecDepth 40000

theorem makeM_len (k T n : Int) : (Web.makeM k T n).rows.length ≤ 2 ^ 62 := by
  unfold Web.makeM
  split
  · rename_i h
    have hT : T ≤ 24 ∧ n ≤ 24 := by
      unfold Web.makeE at h
      by_cases hf : Web.findE T k = 0
      · rw [if_neg (by simpa using hf)] at h
        have h24 : 2 ≤ T ∧ T ≤ 24 := by
          unfold Web.findE at hf
          by_cases hx : T < 2 ∨ 24 < T
          · rw [if_pos hx] at hf; cases hf
          · omega
        have hm : Web.most T k ≤ 24 := by unfold Web.most; split <;> omega
        by_cases h1 : n < 1
        · rw [if_pos h1] at h; cases h
        · rw [if_neg h1] at h
          by_cases h2 : Web.most T k < n
          · rw [if_pos h2] at h; cases h
          · omega
      · rw [if_pos hf] at h; exact absurd h hf
    simp only [Web.rowsX_length]
    have : n.toNat * T.toNat ≤ 24 * 24 := Nat.mul_le_mul (by omega) (by omega)
    omega
  · decide
theorem makes27_fun (T n k : Int) (hk : 0 ≤ k ∧ k < 256) (hT : -2 ^ 63 ≤ T ∧ T < 2 ^ 63) : FN 11 [.int .i64 T, .int .i64 n, .int .u8 k] (fun v => v = .bool true) := by
  refine IFun.of_bodyW false 15 [] Try.func11 rfl Try.call11 rfl fun R hR => ?_
  have c1 := wmost_fun T k hk
  have c2 := rmost27_fun T k hk hT
  have c3 := wmake_fun T n k hk
  have c4 := rmake27_fun T n k hk hT
  have c5 := sameMovement_fun (Web.makeM k T n) (Web.makeM k T n) (makeM_len k T n)
  generalize Web.makeM k T n = M at *
  generalize Web.makeE k T n = E at *
  generalize (if Web.findE T k = 0 then Web.most T k else 0) = A at *
  generalize Web.findE T k = F at *
  obtain ⟨a, b, c, d, e, L⟩ := M
  simp only [Mv.v, decide_true] at *
  refine IWp.seqI ?_
  simp [go_sem]
  refine IWp.seqI ?_
  simp [go_sem]
  refine c1.callF (by simp [go_sem]) ?_
  rintro _ rfl
  simp [go_sem]
  refine IWp.seqI ?_
  simp [go_sem]
  refine c2.callF (by simp [go_sem]) ?_
  rintro _ rfl
  simp [go_sem]
  refine IWp.seqI ?_
  simp [go_sem]
  refine c3.callF (by simp [go_sem]) ?_
  rintro _ rfl
  simp [go_sem]
  refine IWp.seqI ?_
  simp [go_sem]
  refine c4.callF (by simp [go_sem]) ?_
  rintro _ rfl
  simp [go_sem]
  refine IWp.now ?_
  simp [go_sem]
  refine c5.callF (by simp [go_sem]) ?_
  rintro _ rfl
  simp [go_sem]
  exact hR _ _ _ rfl (by simp [go_sem])
theorem webMakes_law (T n k : Int) (h0 : (Lit.int .i64 T).wf = true) (h1 : (Lit.int .i64 n).wf = true) (h2 : (Lit.int .u8 k).wf = true) : FN 3 [.int .i64 T, .int .i64 n, .int .u8 k] (fun v => v = .bool true) := by
  refine IFun.of_bodyZ false 7 [] Try.func3 rfl Try.call3 rfl fun R hR => ?_
  simp [go_sem]
  refine (makes27_fun T n k (wf8 h2) (wf64 h0)).callF (by simp [go_sem]) ?_
  rintro _ rfl
  simp [go_sem]
  refine awake27_fun.callF (by simp [go_sem]) ?_
  rintro _ rfl
  simp [go_sem]
  exact hR _ _ _ rfl (by simp [go_sem])
end Go.Idl
