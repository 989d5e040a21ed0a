/-
  Package web: find, Most.
  Package web: Make.
  Chapter 27's Made.
-/
import Derived.Test.YteedopeniojppaaGreatCtopmPartB
namespace Go.Idl
set_option linter.all false
open Go.Proofs
set_option maxHeartbeats 4000000
set_option maxRecDepth 40000

namespace Web
def findE (T k : Int) : Int := if T < 2 ∨ 24 < T then 2 else if k = 1 then (if T % 2 = 0 then 0 else 6) else if k = 2 then (if T % 2 = 0 ∧ 4 ≤ T then 0 else 6) else if k = 3 then 0 else 2
def sets (T k : Int) : Int := if k = 1 then T / 2 + 1 - T / 2 % 2 else if k = 2 then T - 1 else T
def most (T k : Int) : Int := if k = 3 then T else T / 2
def cops (T k : Int) : Int := if k = 3 then T else 2
def planV (T k : Int) : List IV := if findE T k = 0 then [.int .i64 (sets T k), .int .i64 (most T k), .int .i64 (cops T k), .bool (decide (k = 3))] else [.int .i64 0, .int .i64 0, .int .i64 0, .bool false]
end Web
open Web in
theorem wfind_fun (T k : Int) (hk : 0 ≤ k ∧ k < 256) : FN 25 [.int .i64 T, .int .u8 k] (fun v => v = .tup [.agg (planV T k), .int .i64 (Web.findE T k)]) := by
  refine IFun.of_bodyZ false 7 [12, 19, 20, 22, 24, 44] Tryz.func25 rfl Tryz.call25 rfl fun R hR => ?_
  by_cases h1 : T < 2
  · simp [go_sem, h1]
    exact hR _ _ _ rfl (by simp [go_sem, Web.findE, planV, h1])
  by_cases h2 : 24 < T
  · simp [go_sem, h1, h2]
    exact hR _ _ _ rfl (by simp [go_sem, Web.findE, planV, h1, h2])
  have d1 : T.tdiv 2 = T / 2 := Int.tdiv_eq_ediv_of_nonneg (by omega)
  have d2 : T.tmod 2 = T % 2 := Int.tmod_eq_emod_of_nonneg (by omega)
  obtain ⟨q, hq⟩ : ∃ q, T / 2 = q := ⟨_, rfl⟩
  have d3 : q.tmod 2 = q % 2 := Int.tmod_eq_emod_of_nonneg (by omega)
  have w1 : IntKind.i64.wrap (T - 1) = T - 1 := wrap64 (by omega) (by omega)
  have w2 : IntKind.i64.wrap q = q := wrap64 (by omega) (by omega)
  have w3 : IntKind.i64.wrap (q + 1) = q + 1 := wrap64 (by omega) (by omega)
  have w4 : IntKind.i64.wrap (q + 1 - q % 2) = q + 1 - q % 2 := wrap64 (by omega) (by omega)
  have hb : T % 2 = 0 ∨ T % 2 = 1 := by omega
  by_cases k1 : k = 1
  · subst k1
    rcases hb with hb | hb
    all_goals
      simp [go_sem, h1, h2, d1, d2, d3, w1, w2, w3, w4, hq, hb]
      exact hR _ _ _ rfl (by simp [go_sem, Web.findE, planV, sets, most, cops, h1, h2, hb, hq])
  by_cases k2 : k = 2
  · subst k2
    rcases hb with hb | hb
    · by_cases h4 : T < 4
      · have h4' : ¬ 4 ≤ T := by omega
        simp [go_sem, h1, h2, d1, d2, d3, w1, w2, w3, w4, hq, hb, h4]
        exact hR _ _ _ rfl (by simp [go_sem, Web.findE, planV, sets, most, cops, h1, h2, hb, hq, h4, h4'])
      · have h4' : 4 ≤ T := by omega
        simp [go_sem, h1, h2, d1, d2, d3, w1, w2, w3, w4, hq, hb, h4]
        exact hR _ _ _ rfl (by simp [go_sem, Web.findE, planV, sets, most, cops, h1, h2, hb, hq, h4, h4'])
    · simp [go_sem, h1, h2, d1, d2, d3, w1, w2, w3, w4, hq, hb]
      exact hR _ _ _ rfl (by simp [go_sem, Web.findE, planV, sets, most, cops, h1, h2, hb, hq])
  by_cases k3 : k = 3
  · subst k3
    simp [go_sem, h1, h2, d1, d2, d3, w1, w2, w3, w4, hq]
    exact hR _ _ _ rfl (by simp [go_sem, Web.findE, planV, sets, most, cops, h1, h2, hq])
  simp [go_sem, h1, h2, d1, d2, d3, w1, w2, w3, w4, hq, k1, k2, k3]
  exact hR _ _ _ rfl (by simp [go_sem, Web.findE, planV, sets, most, cops, h1, h2, hq, k1, k2, k3])
end Go.Idl
namespace Go.Idl
set_option linter.all false
open Go.Proofs
set_option maxHeartbeats 8000000
set_option maxRecDepth 40000

namespace Web
def row (k : Int) (T i j : Nat) : Rw := ⟨i, j, (j : Int) + 1, T + 1 + ((j : Int) - i + T) % T, if k = 3 then (i : Int) else ((j : Int) + i) % sets T k⟩
def rowL (k : Int) (T i j : Nat) : List Rw := (List.range j).map (row k T i)
def rowsX (k : Int) (T : Nat) : Nat → List Rw
  | 0 => []
  | n + 1 => rowsX k T n ++ rowL k T n T
theorem rowL_succ {k : Int} {T i j : Nat} : rowL k T i (j + 1) = rowL k T i j ++ [row k T i j] := by simp [rowL, List.range_succ]
@[simp] theorem rowL_length {k : Int} {T i j : Nat} : (rowL k T i j).length = j := by simp [rowL]
@[simp] theorem rowsX_length {k : Int} {T : Nat} : ∀ n, (rowsX k T n).length = n * T
  | 0 => by simp [rowsX]
  | n + 1 => by simp [rowsX, rowsX_length n, Nat.succ_mul]
def makeE (k T n : Int) : Int := if findE T k ≠ 0 then findE T k else if n < 1 then 2 else if most T k < n then 5 else 0
def makeM (k T n : Int) : Mv := if makeE k T n = 0 then ⟨T, n, sets T k, cops T k, 2, rowsX k T.toNat n.toNat⟩ else ⟨0, 0, 0, 0, 0, []⟩
def mkH (k : Int) (T n : Int) (L : List Rw) : Heap := if L = [] then [.rows 6 [[.int .i64 0, .int .i64 0, .int .i64 0, .int .i64 0, .int .i64 0, .nils]], .rows 4 [planV T k], .rows 6 [[.int .i64 T, .int .i64 n, .int .i64 (sets T k), .int .i64 (cops T k), .int .i64 2, .nils]]]
  else [.rows 6 [[.int .i64 0, .int .i64 0, .int .i64 0, .int .i64 0, .int .i64 0, .nils]], .rows 4 [planV T k], .rows 6 [[.int .i64 T, .int .i64 n, .int .i64 (sets T k), .int .i64 (cops T k), .int .i64 2, .sl 4 L.length 0 L.length none]], .dead, .rows 5 (rws L)]
theorem mkH_nil {k T n : Int} : mkH k T n [] = [.rows 6 [[.int .i64 0, .int .i64 0, .int .i64 0, .int .i64 0, .int .i64 0, .nils]], .rows 4 [planV T k], .rows 6 [[.int .i64 T, .int .i64 n, .int .i64 (sets T k), .int .i64 (cops T k), .int .i64 2, .nils]]] := rfl
theorem mkH_pos {k T n : Int} {L : List Rw} (h : L ≠ []) : mkH k T n L = [.rows 6 [[.int .i64 0, .int .i64 0, .int .i64 0, .int .i64 0, .int .i64 0, .nils]], .rows 4 [planV T k], .rows 6 [[.int .i64 T, .int .i64 n, .int .i64 (sets T k), .int .i64 (cops T k), .int .i64 2, .sl 4 L.length 0 L.length none]], .dead, .rows 5 (rws L)] := if_neg h
end Web
theorem wmost_fun (T k : Int) (hk : 0 ≤ k ∧ k < 256) : FN 10 [.int .i64 T, .int .u8 k] (fun v => v = .tup [.int .i64 (if Web.findE T k = 0 then Web.most T k else 0), .int .i64 (Web.findE T k)]) := by
  refine IFun.of_bodyZ false 8 [15] Tryz.func10 rfl Tryz.call10 rfl fun R hR => ?_
  simp [go_sem]
  refine (wfind_fun T k hk).callF (by simp [go_sem]) ?_
  rintro _ rfl
  by_cases h : Web.findE T k = 0
  · simp [go_sem, h, Web.planV]
    exact hR _ _ _ rfl (by simp [go_sem, h])
  · simp [go_sem, h, Web.planV]
    exact hR _ _ _ rfl (by simp [go_sem, h])
theorem wmake_fun (T n k : Int) (hk : 0 ≤ k ∧ k < 256) : FN 12 [.int .i64 T, .int .i64 n, .int .u8 k] (fun v => v = .tup [(Web.makeM k T n).v, .int .i64 (Web.makeE k T n)]) := by
  refine IFun.of_bodyZ false 15 [22, 26, 31, 40, 41, 42, 44, 45, 46, 62] Tryz.func12 rfl Tryz.call12 rfl fun R hR => ?_
  simp [go_sem]
  refine (wfind_fun T k hk).callF (by simp [go_sem]) ?_
  rintro _ rfl
  by_cases h : Web.findE T k = 0
  case neg =>
    have e1 : Web.makeE k T n = Web.findE T k := by unfold Web.makeE; rw [if_pos h]
    have e2 : Web.makeM k T n = ⟨0, 0, 0, 0, 0, []⟩ := by unfold Web.makeM; rw [if_neg (by rw [e1]; exact h)]
    simp [go_sem, h, Web.planV]
    exact hR _ _ _ rfl (by simp [go_sem, e1, e2, Mv.v])
  have e0 : Web.makeE k T n = if n < 1 then 2 else if Web.most T k < n then 5 else 0 := by unfold Web.makeE; rw [if_neg (by simpa using h)]
  by_cases h1 : n < 1
  · have e1 : Web.makeE k T n = 2 := by rw [e0, if_pos h1]
    have e2 : Web.makeM k T n = ⟨0, 0, 0, 0, 0, []⟩ := by unfold Web.makeM; rw [if_neg (by rw [e1]; decide)]
    simp [go_sem, h, h1, Web.planV]
    exact hR _ _ _ rfl (by simp [go_sem, e1, e2, Mv.v])
  by_cases h2 : Web.most T k < n
  · have e1 : Web.makeE k T n = 5 := by rw [e0, if_neg h1, if_pos h2]
    have e2 : Web.makeM k T n = ⟨0, 0, 0, 0, 0, []⟩ := by unfold Web.makeM; rw [if_neg (by rw [e1]; decide)]
    simp [go_sem, h, h1, h2, Web.planV]
    exact hR _ _ _ rfl (by simp [go_sem, e1, e2, Mv.v])
  have e1 : Web.makeE k T n = 0 := by rw [e0, if_neg h1, if_neg h2]
  have hT : 2 ≤ T ∧ T ≤ 24 := by
    unfold Web.findE at h
    by_cases hx : T < 2 ∨ 24 < T
    · rw [if_pos hx] at h; cases h
    · omega
  have hm : Web.most T k ≤ 24 := by unfold Web.most; split <;> omega
  have hs : 1 ≤ Web.sets T k ∧ Web.sets T k ≤ 24 := by
    unfold Web.sets
    split
    · omega
    · split <;> omega
  have e2 : Web.makeM k T n = ⟨T, n, Web.sets T k, Web.cops T k, 2, Web.rowsX k T.toNat n.toNat⟩ := by unfold Web.makeM; rw [if_pos e1]
  obtain ⟨t, rfl⟩ := Int.eq_ofNat_of_zero_le (show 0 ≤ T by omega)
  obtain ⟨N, rfl⟩ := Int.eq_ofNat_of_zero_le (show 0 ≤ n by omega)
  simp only [Int.toNat_natCast] at e2
  have hp : Web.planV (t : Int) k = [.int .i64 (Web.sets t k), .int .i64 (Web.most t k), .int .i64 (Web.cops t k), .bool (decide (k = 3))] := by unfold Web.planV; rw [if_pos h]
  have h1' : ¬ (N : Int) < 1 := h1
  simp [go_sem, h, h1, h2, hp]
  refine IWp.loopT (α := Nat) (fun i => (⟨false, 82, 15, [22, 26, 31, 40, 41, 42, 44, 45, 46, 62], [], [(0, .int .i64 (t : Int)), (6, .ptr 0 1 0 0), (7, .int .i64 0), (8, .ptr 1 1 0 0), (10, .ptr 2 1 0 0), (40, .int .i64 (N : Int)), (41, .int .i64 (i : Int))], []⟩, Web.mkH k t N (Web.rowsX k t i)))
    (fun i => i ≤ N) (fun i => N - i) 0 (by simp) (by simp [go_sem, Web.rowsX, Web.mkH_nil, hp]) ?_
  intro i hi
  obtain ⟨L0, hL0⟩ : ∃ L, Web.rowsX k t i = L := ⟨_, rfl⟩
  have hl0 : L0.length = i * t := by rw [← hL0]; simp
  by_cases hiN : i < N
  case neg =>
    have : i = N := by omega
    subst this
    have hne : Web.rowsX k t i ≠ [] := fun e => by
      have := congrArg List.length e
      rw [Web.rowsX_length, List.length_nil, Nat.mul_eq_zero] at this; omega
    rw [Web.mkH_pos hne]
    have hlen : (Web.rowsX k t i).length = i * t := by simp
    obtain ⟨q, hq⟩ : ∃ q, (Web.rowsX k t i).length = q := ⟨_, rfl⟩
    simp [go_sem, hq]
    exact hR _ _ _ rfl (by simp [go_sem, e1, e2, Mv.v, hq])
  have w1 : IntKind.i64.wrap ((i : Int) + 1) = i + 1 := wrap64 (by omega) (by omega)
  have hiN' : (i : Int) < N := by omega
  have hx : ∃ B, Web.mkH k t N (Web.rowsX k t i) = Web.mkH k t N B ∧ B = Web.rowsX k t i ++ Web.rowL k t i 0 := ⟨_, rfl, by simp [Web.rowL]⟩
  rw [hL0]
  simp [go_sem, hiN', hiN]
  refine IWp.loopT (α := Nat) (fun j => (⟨false, 82, 15, [22, 26, 31, 40, 41, 42, 44, 45, 46, 62], [], [(0, .int .i64 (t : Int)), (6, .ptr 0 1 0 0), (7, .int .i64 0), (8, .ptr 1 1 0 0), (10, .ptr 2 1 0 0), (11, .int .i64 (i : Int)), (40, .int .i64 (N : Int)), (41, .int .i64 (i : Int)), (44, .int .i64 (t : Int)), (45, .int .i64 (j : Int))], []⟩, Web.mkH k t N (L0 ++ Web.rowL k t i j)))
    (fun j => j ≤ t) (fun j => t - j) 0 (by simp) (by cases L0 <;> simp [go_sem, Web.rowL, Web.mkH, hp]) ?_
  intro j hj
  have hmT : Web.most t k ≤ t := by unfold Web.most; split <;> omega
  by_cases hjt : j < t
  · have hjt' : (j : Int) < t := by omega
    obtain ⟨e, he⟩ : ∃ e, ((j : Int) - i + t) % t = e := ⟨_, rfl⟩
    obtain ⟨u, hu⟩ : ∃ u, ((j : Int) + i) % Web.sets t k = u := ⟨_, rfl⟩
    have hb : 0 ≤ e ∧ e < t := by rw [← he]; exact ⟨Int.emod_nonneg _ (by omega), Int.emod_lt_of_pos _ (by omega)⟩
    have hub : 0 ≤ u ∧ u < Web.sets t k := by rw [← hu]; exact ⟨Int.emod_nonneg _ (by omega), Int.emod_lt_of_pos _ (by omega)⟩
    have d1 : ((j : Int) - i + t).tmod t = e := by rw [Int.tmod_eq_emod_of_nonneg (by omega), he]
    have d2 : ((j : Int) + i).tmod (Web.sets t k) = u := by rw [Int.tmod_eq_emod_of_nonneg (by omega), hu]
    have v1 : IntKind.i64.wrap ((j : Int) - i) = j - i := wrap64 (by omega) (by omega)
    have v2 : IntKind.i64.wrap ((j : Int) - i + t) = j - i + t := wrap64 (by omega) (by omega)
    have v3 : IntKind.i64.wrap e = e := wrap64 (by omega) (by omega)
    have v4 : IntKind.i64.wrap ((j : Int) + i) = j + i := wrap64 (by omega) (by omega)
    have v5 : IntKind.i64.wrap u = u := wrap64 (by omega) (by omega)
    have v6 : IntKind.i64.wrap ((j : Int) + 1) = j + 1 := wrap64 (by omega) (by omega)
    have v7 : IntKind.i64.wrap ((t : Int) + 1) = t + 1 := wrap64 (by omega) (by omega)
    have v8 : IntKind.i64.wrap ((t : Int) + 1 + e) = t + 1 + e := wrap64 (by omega) (by omega)
    have hz1 : ¬ (t : Int) = 0 := by omega
    have hz2 : ¬ Web.sets t k = 0 := by omega
    obtain ⟨L, hL⟩ : ∃ L, L0 ++ Web.rowL k t i j = L := ⟨_, rfl⟩
    rw [hL]
    obtain ⟨S, hS⟩ : ∃ S, Web.sets t k = S := ⟨_, rfl⟩
    rw [hS] at d2 hz2
    have hrow : ∀ b, decide (k = 3) = b → Web.row k t i j = ⟨i, j, (j : Int) + 1, t + 1 + e, if b = true then (i : Int) else u⟩ := fun b h3 => by
      subst h3
      simp only [Web.row, he, hu, decide_eq_true_eq]
    have hne : L0 ++ Web.rowL k t i (j + 1) ≠ [] := by rw [Web.rowL_succ]; simp
    have hsn : L0 ++ Web.rowL k t i (j + 1) = L ++ [Web.row k t i j] := by rw [Web.rowL_succ, ← List.append_assoc, hL]
    have hll : L.length ≤ 10000 := by
      have : i * t ≤ 24 * 24 := Nat.mul_le_mul (by omega) (by omega)
      rw [← hL]; simp; omega
    have hlen0 : (Web.mkH k t N L0).length ≤ 5 := by unfold Web.mkH; split <;> simp
    by_cases hn : L = []
    · rw [hn, Web.mkH_nil, hp, hS]
      cases hb3 : decide (k = 3)
      all_goals
        simp [go_sem, hjt, hjt', d1, d2, v1, v2, v3, v4, v5, v6, v7, v8, hz1, hz2]
        refine ⟨by omega, j + 1, ⟨by omega, ?_⟩, by omega, by omega⟩
        rw [Web.mkH_pos hne, hsn, hn, hrow _ hb3, hp, hS]
        simp [go_sem, rws_cons, hlen0, hb3]
    · rw [Web.mkH_pos hn, hp, hS]
      obtain ⟨q, hq⟩ : ∃ q, L.length = q := ⟨_, rfl⟩
      cases hb3 : decide (k = 3)
      all_goals
        simp [go_sem, hjt, hjt', d1, d2, v1, v2, v3, v4, v5, v6, v7, v8, hz1, hz2, hq]
        refine ⟨by omega, by omega, j + 1, ⟨by omega, ?_⟩, by omega, by omega⟩
        rw [Web.mkH_pos hne, hsn, hrow _ hb3, hp, hS]
        simp [go_sem, rws_snoc, hlen0, hb3, hq]
  · have : j = t := by omega
    subst this
    have hne : L0 ++ Web.rowL k j i j ≠ [] := fun e => by
      have := congrArg List.length e
      simp at this; omega
    have hrx : Web.rowsX k j (i + 1) = L0 ++ Web.rowL k j i j := by rw [← hL0]; rfl
    rw [Web.mkH_pos hne]
    simp [go_sem, w1]
    refine ⟨i + 1, ⟨by omega, ?_⟩, by omega, by omega⟩
    rw [hrx, Web.mkH_pos hne]
    simp [go_sem, hp]
end Go.Idl
namespace Go.Idl
set_option linter.all false
open Go.Proofs
set_option maxHeartbeats 4000000
set_option maxRecDepth 40000

namespace Web
def mK (k : Int) : Int := 1 + k % 3
def mT (t k : Int) : Int := if mK k = 3 then mdT0 t else if mK k = 2 then max (mdT0 t - mdT0 t % 2) 4 else mdT0 t - mdT0 t % 2
def mN (t r k : Int) : Int := 1 + r % most (mT t k) (mK k)
def mM (t r k : Int) : Mv := makeM (mK k) (mT t k) (mN t r k)
theorem mT_ok {t k : Int} (_ht : 0 ≤ t) (hk : 0 ≤ k) : 2 ≤ mT t k ∧ mT t k ≤ 24 ∧ findE (mT t k) (mK k) = 0 ∧ 1 ≤ most (mT t k) (mK k) := by
  have h0 : 2 ≤ mdT0 t ∧ mdT0 t ≤ 24 := by unfold mdT0; omega
  have hk3 : mK k = 1 ∨ mK k = 2 ∨ mK k = 3 := by unfold mK; omega
  unfold mT findE most
  rcases hk3 with h | h | h <;> simp [h] <;> omega
end Web
end Go.Idl
