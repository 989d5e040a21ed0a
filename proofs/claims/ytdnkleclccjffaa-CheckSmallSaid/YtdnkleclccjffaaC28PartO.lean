/-
  Chapter 28: movements with one row changed.
  Chapter 28: sets with as many results as there may be.
  Chapter 28: CheckSmall.
-/
import Derived.Test.YtdnkleclccjffaaC28PartL
import Derived.Test.YtdnkleclccjffaaC28PartB
import Derived.Test.YtdnkleclccjffaaC28PartN
import Derived.Test.YtdnkleclccjffaaC28PartM
namespace Go.Idl
set_option linter.all false
open Go.Proofs
set_option maxHeartbeats 16000000
set_option maxRecDepth 40000

theorem set_rws {l : List Rw} {i : Nat} {a b c d e : Int} : (rws l).set i [.int .i64 a, .int .i64 b, .int .i64 c, .int .i64 d, .int .i64 e] = rws (l.set i ⟨a, b, c, d, e⟩) := (rws_set (x := ⟨a, b, c, d, e⟩)).symm
theorem changed_fun (g : Mv) (hg : g.rows.length ≤ 200) : FN 14 [g.v] (fun v => v = .bool true) := by
  refine IFun.of_bodyZ false 7 [9, 10, 11, 13, 14, 25, 33, 45, 57, 68, 79, 90, 106, 115, 120, 134] Try.func14 rfl Try.call14 rfl fun R hR => ?_
  obtain ⟨tb, ro, se, co, wi, L⟩ := g
  simp only at hg
  simp [go_sem, Mv.v]
  refine IWp.loopT (α := Nat) (fun i => (⟨false, 137, 7, [9, 10, 11, 13, 14, 25, 33, 45, 57, 68, 79, 90, 106, 115, 120, 134], [], [(1, .ptr 0 1 0 0), (9, .int .i64 L.length), (10, .int .i64 (i : Int))], []⟩, [.rows 6 [[.int .i64 tb, .int .i64 ro, .int .i64 se, .int .i64 co, .int .i64 wi, .fz 5 (rws L)]]]))
    (fun i => i ≤ L.length) (fun i => L.length - i) 0 (by simp) (by simp [go_sem]) ?_
  intro i hi
  by_cases h : i < L.length
  case neg =>
    simp [go_sem, h]
    exact hR _ _ _ rfl (by simp [go_sem])
  have w1 : IntKind.i64.wrap ((i : Int) + 1) = i + 1 := wrap64 (by omega) (by omega)
  have w3 : IntKind.i64.wrap ((i : Int).tmod 10) = (i : Int).tmod 10 := by
    rw [Int.tmod_eq_emod_of_nonneg (by omega)]; exact wrap64 (by omega) (by omega)
  simp [go_sem, h]
  refine IWp.loopT (α := Nat) (fun k => (⟨false, 137, 7, [9, 10, 11, 13, 14, 25, 33, 45, 57, 68, 79, 90, 106, 115, 120, 134], [], [(1, .ptr 0 1 0 0), (3, .int .i64 (i : Int)), (9, .int .i64 L.length), (10, .int .i64 (i : Int)), (13, .int .i64 (k : Int))], []⟩, [.rows 6 [[.int .i64 tb, .int .i64 ro, .int .i64 se, .int .i64 co, .int .i64 wi, .fz 5 (rws L)]]]))
    (fun k => k ≤ 10) (fun k => 10 - k) 0 (by simp) (by simp [go_sem]) ?_
  intro k hk
  by_cases h2 : k < 10
  case neg =>
    have h3 : ¬ (k : Int) < 10 := by omega
    simp [go_sem, h3, w1]
    exact ⟨i + 1, by omega, by omega, by omega⟩
  have w2 : IntKind.i64.wrap ((k : Int) + 1) = k + 1 := wrap64 (by omega) (by omega)
  have hkI : (k : Int) < 10 := by omega
  simp [go_sem, h2, hkI]
  refine (cloneRows_fun L (by omega)).callOF (by simp [go_sem]) ?_
  rintro _ rfl
  refine ⟨fun v => v, 5, _, .here, by decide, rfl, by simp [go_sem], ?_⟩
  simp [go_sem, h]
  have vn : ∀ n : Int, 0 ≤ n → n ≤ 20 → IntKind.i64.wrap n = n := fun n h1 h2 => wrap64 (by omega) (by omega)
  have v1 : IntKind.i64.wrap 1 = 1 := wrap64 (by omega) (by omega)
  have v2 : IntKind.i64.wrap 2 = 2 := wrap64 (by omega) (by omega)
  rcases (by omega : k = 0 ∨ k = 1 ∨ k = 2 ∨ k = 3 ∨ k = 4 ∨ k = 5 ∨ k = 6 ∨ k = 7 ∨ k = 8 ∨ k = 9) with rfl | rfl | rfl | rfl | rfl | rfl | rfl | rfl | rfl | rfl
  · simp [go_sem, h, set_rws, v1, v2]
    try refine ⟨by decide +kernel, ?_⟩
    generalize hL : List.set L i _ = L'
    have hl' : L'.length ≤ 200 := by rw [← hL]; simpa using hg
    have hl2 : L'.length = L.length := by rw [← hL]; simp
    generalize IntKind.i64.wrap (1 + (i : Int).tmod 10) = A
    refine (tells_fun ⟨tb, ro, se, co, wi, L'⟩ 3 1 A 6 hl' (by omega)).callF (by simp [go_sem, sesV, hl2]) ?_
    rintro _ rfl
    simp [go_sem, vn]
    exact ⟨1, by omega, by omega, by omega⟩
  · simp [go_sem, h, set_rws, v1, v2]
    try refine ⟨by decide +kernel, ?_⟩
    generalize hL : List.set L i _ = L'
    have hl' : L'.length ≤ 200 := by rw [← hL]; simpa using hg
    have hl2 : L'.length = L.length := by rw [← hL]; simp
    generalize IntKind.i64.wrap (1 + (i : Int).tmod 10) = A
    refine (tells_fun ⟨tb, ro, se, co, wi, L'⟩ 3 2 A 6 hl' (by omega)).callF (by simp [go_sem, sesV, hl2]) ?_
    rintro _ rfl
    simp [go_sem, vn]
    exact ⟨2, by omega, by omega, by omega⟩
  · simp [go_sem, h, set_rws, v1, v2]
    try refine ⟨by decide +kernel, ?_⟩
    generalize hL : List.set L i _ = L'
    have hl' : L'.length ≤ 200 := by rw [← hL]; simpa using hg
    have hl2 : L'.length = L.length := by rw [← hL]; simp
    generalize IntKind.i64.wrap (1 + (i : Int).tmod 10) = A
    refine (tells_fun ⟨tb, ro, se, co, wi, L'⟩ 3 1 A 6 hl' (by omega)).callF (by simp [go_sem, sesV, hl2]) ?_
    rintro _ rfl
    simp [go_sem, vn]
    exact ⟨3, by omega, by omega, by omega⟩
  · simp [go_sem, h, set_rws, v1, v2]
    try refine ⟨by decide +kernel, ?_⟩
    generalize hL : List.set L i _ = L'
    have hl' : L'.length ≤ 200 := by rw [← hL]; simpa using hg
    have hl2 : L'.length = L.length := by rw [← hL]; simp
    generalize IntKind.i64.wrap (1 + (i : Int).tmod 10) = A
    refine (tells_fun ⟨tb, ro, se, co, wi, L'⟩ 3 2 A 6 hl' (by omega)).callF (by simp [go_sem, sesV, hl2]) ?_
    rintro _ rfl
    simp [go_sem, vn]
    exact ⟨4, by omega, by omega, by omega⟩
  · simp [go_sem, h, set_rws, v1, v2]
    try refine ⟨by decide +kernel, ?_⟩
    generalize hL : List.set L i _ = L'
    have hl' : L'.length ≤ 200 := by rw [← hL]; simpa using hg
    have hl2 : L'.length = L.length := by rw [← hL]; simp
    generalize IntKind.i64.wrap (1 + (i : Int).tmod 10) = A
    refine (tells_fun ⟨tb, ro, se, co, wi, L'⟩ 3 1 A 6 hl' (by omega)).callF (by simp [go_sem, sesV, hl2]) ?_
    rintro _ rfl
    simp [go_sem, vn]
    exact ⟨5, by omega, by omega, by omega⟩
  · simp [go_sem, h, set_rws, v1, v2]
    try refine ⟨by decide +kernel, ?_⟩
    generalize hL : List.set L i _ = L'
    have hl' : L'.length ≤ 200 := by rw [← hL]; simpa using hg
    have hl2 : L'.length = L.length := by rw [← hL]; simp
    generalize IntKind.i64.wrap (1 + (i : Int).tmod 10) = A
    refine (tells_fun ⟨tb, ro, se, co, wi, L'⟩ 3 2 A 6 hl' (by omega)).callF (by simp [go_sem, sesV, hl2]) ?_
    rintro _ rfl
    simp [go_sem, vn]
    exact ⟨6, by omega, by omega, by omega⟩
  · simp [go_sem, h, set_rws, v1, v2]
    try refine ⟨by decide +kernel, ?_⟩
    generalize hL : List.set L i _ = L'
    have hl' : L'.length ≤ 200 := by rw [← hL]; simpa using hg
    have hl2 : L'.length = L.length := by rw [← hL]; simp
    generalize IntKind.i64.wrap (1 + (i : Int).tmod 10) = A
    refine (tells_fun ⟨tb, ro, se, co, wi, L'⟩ 3 1 A 6 hl' (by omega)).callF (by simp [go_sem, sesV, hl2]) ?_
    rintro _ rfl
    simp [go_sem, vn]
    exact ⟨7, by omega, by omega, by omega⟩
  · simp [go_sem, h, set_rws, v1, v2]
    try refine ⟨by decide +kernel, ?_⟩
    generalize hL : List.set L i _ = L'
    have hl' : L'.length ≤ 200 := by rw [← hL]; simpa using hg
    have hl2 : L'.length = L.length := by rw [← hL]; simp
    generalize IntKind.i64.wrap (1 + (i : Int).tmod 10) = A
    refine (tells_fun ⟨tb, ro, se, co, wi, L'⟩ 3 2 A 6 hl' (by omega)).callF (by simp [go_sem, sesV, hl2]) ?_
    rintro _ rfl
    simp [go_sem, vn]
    exact ⟨8, by omega, by omega, by omega⟩
  · simp [go_sem, h, set_rws, v1, v2]
    try refine ⟨by decide +kernel, ?_⟩
    generalize hL : List.set L i _ = L'
    have hl' : L'.length ≤ 200 := by rw [← hL]; simpa using hg
    have hl2 : L'.length = L.length := by rw [← hL]; simp
    generalize IntKind.i64.wrap (1 + (i : Int).tmod 10) = A
    refine (tells_fun ⟨tb, ro, se, co, wi, L'⟩ 3 1 A 6 hl' (by omega)).callF (by simp [go_sem, sesV, hl2]) ?_
    rintro _ rfl
    simp [go_sem, vn]
    exact ⟨9, by omega, by omega, by omega⟩
  · have hi2 : (i : Int) < L.length := by omega
    simp [go_sem, h, w1, v1, v2]
    refine ((deleteRows_none L i h (by omega)).at [2] (by simp [go_sem])) ?_
    rintro _ _ ⟨rest, rfl, rfl⟩
    have hlen : (L.eraseIdx i).length = L.length - 1 := by simp [List.length_eraseIdx, h]
    have htk : List.take (L.length - 1) (rws (L.eraseIdx i) ++ [.int .i64 0, .int .i64 0, .int .i64 0, .int .i64 0, .int .i64 0] :: rest) = rws (L.eraseIdx i) := by
      rw [List.take_append_of_le_length (by simp; omega), List.take_of_length_le (by simp; omega)]
    have hl3 : L.length + rest.length = L.length - 1 + (rest.length + 1) := by omega
    generalize L.eraseIdx i = E at *
    simp [go_sem, hlen]
    generalize IntKind.i64.wrap (1 + (i : Int).tmod 10) = A
    refine (tells_fun ⟨tb, ro, se, co, wi, E⟩ 3 2 A 6 (by simp only; omega) (by omega)).callF (by simp [go_sem, sesV, hlen, htk, hl3, v2, renLL_length]) ?_
    rintro _ rfl
    simp [go_sem, vn]
    exact ⟨10, by omega, by omega, by omega⟩
end Go.Idl
namespace Go.Idl
set_option linter.all false
open Go.Proofs
set_option maxHeartbeats 16000000
set_option maxRecDepth 40000

def resR (i : Nat) : Rw := ⟨((i / 24 : Nat) : Int), ((i % 24 : Nat) : Int), 2 * (i : Int) + 1, 2 * (i : Int) + 2, 1⟩
def resL (i : Nat) : List Rw := (List.range i).map resR
theorem resL_succ (i : Nat) : resL (i + 1) = resL i ++ [resR i] := by simp [resL, List.range_succ]
@[simp] theorem resL_length (i : Nat) : (resL i).length = i := by simp [resL]
def resH (i : Nat) : Heap := if i = 0 then [.rows 6 [[.int .i64 24, .int .i64 2, .int .i64 3, .int .i64 30, .int .i64 1, .nils]]] else [.rows 6 [[.int .i64 24, .int .i64 2, .int .i64 3, .int .i64 30, .int .i64 1, .sl 2 i 0 i none]], .dead, .rows 5 (rws (resL i))]
theorem resH_zero : resH 0 = [.rows 6 [[.int .i64 24, .int .i64 2, .int .i64 3, .int .i64 30, .int .i64 1, .nils]]] := rfl
theorem resH_pos {i : Nat} (h : 0 < i) : resH i = [.rows 6 [[.int .i64 24, .int .i64 2, .int .i64 3, .int .i64 30, .int .i64 1, .sl 2 i 0 i none]], .dead, .rows 5 (rws (resL i))] := if_neg (by omega)
theorem results_fun : FN 15 [] (fun v => v = .bool true) := by
  refine IFun.of_bodyZ false 4 [5, 9, 10, 11, 39] Try.func15 rfl Try.call15 rfl fun R hR => ?_
  simp [go_sem]
  refine IWp.loopT (α := Nat) (fun n => (⟨false, 40, 4, [5, 9, 10, 11, 39], [], [(1, .int .i64 (n : Int))], []⟩, []))
    (fun n => 23 ≤ n ∧ n ≤ 27) (fun n => 27 - n) 23 (by simp) (by simp [go_sem]) ?_
  rintro n ⟨hn1, hn2⟩
  by_cases h : n < 27
  case neg =>
    have h' : ¬ (n : Int) < 27 := by omega
    simp [go_sem, h']
    exact hR _ _ _ rfl (by simp [go_sem])
  have h' : (n : Int) < 27 := by omega
  have w1 : IntKind.i64.wrap ((n : Int) + 1) = n + 1 := wrap64 (by omega) (by omega)
  simp [go_sem, h']
  refine IWp.loopT (α := Nat) (fun i => (⟨false, 40, 4, [5, 9, 10, 11, 39], [], [(1, .int .i64 (n : Int)), (2, .ptr 0 1 0 0), (9, .int .i64 (n : Int)), (10, .int .i64 (i : Int))], []⟩, resH i))
    (fun i => i ≤ n) (fun i => n - i) 0 (by simp) (by simp [go_sem, resH_zero]) ?_
  intro i hi
  by_cases h2 : i < n
  · have w2 : IntKind.i64.wrap ((i : Int) + 1) = i + 1 := wrap64 (by omega) (by omega)
    have w3 : IntKind.i64.wrap (2 * (i : Int)) = 2 * i := wrap64 (by omega) (by omega)
    have w4 : IntKind.i64.wrap (2 * (i : Int) + 1) = 2 * i + 1 := wrap64 (by omega) (by omega)
    have w5 : IntKind.i64.wrap (2 * (i : Int) + 2) = 2 * i + 2 := wrap64 (by omega) (by omega)
    have d1 : (i : Int).tdiv 24 = ((i / 24 : Nat) : Int) := by rw [Int.tdiv_eq_ediv_of_nonneg (by omega)]; omega
    have d2 : (i : Int).tmod 24 = ((i % 24 : Nat) : Int) := by rw [Int.tmod_eq_emod_of_nonneg (by omega)]; omega
    have w6 : IntKind.i64.wrap ((i / 24 : Nat) : Int) = ((i / 24 : Nat) : Int) := wrap64 (by omega) (by omega)
    have w7 : IntKind.i64.wrap ((i % 24 : Nat) : Int) = ((i % 24 : Nat) : Int) := wrap64 (by omega) (by omega)
    obtain ⟨q1, hq1⟩ : ∃ q, i / 24 = q := ⟨_, rfl⟩
    obtain ⟨q2, hq2⟩ : ∃ q, i % 24 = q := ⟨_, rfl⟩
    rw [hq1] at d1 w6
    rw [hq2] at d2 w7
    have hr : resR i = ⟨q1, q2, 2 * (i : Int) + 1, 2 * (i : Int) + 2, 1⟩ := by simp only [resR, hq1, hq2]
    rcases Nat.eq_zero_or_pos i with rfl | hp
    · rw [resH_zero]
      have vn : ∀ n : Int, 0 ≤ n → n ≤ 20 → IntKind.i64.wrap n = n := fun n h1 h2 => wrap64 (by omega) (by omega)
      simp [go_sem, h2, vn]
      refine ⟨1, ⟨by omega, ?_⟩, by omega, by omega⟩
      rw [resH_pos (by omega)]
      simp [go_sem, resL, resR, rws_cons]
    · rw [resH_pos hp]
      have h3 : (i : Int) < n := by omega
      simp [go_sem, h2, h3, w2, w3, w4, w5, w6, w7, d1, d2]
      refine ⟨by omega, i + 1, ⟨by omega, ?_⟩, by omega, by omega⟩
      rw [resH_pos (by omega), resL_succ, rws_snoc, hr]
      simp [go_sem]
  · obtain rfl : i = n := by omega
    have hr : resH i = [.rows 6 [[.int .i64 24, .int .i64 2, .int .i64 3, .int .i64 30, .int .i64 1, .sl 2 i 0 i none]], .dead, .rows 5 (rws (resL i))] := resH_pos (by omega)
    rw [hr]
    simp [go_sem]
    refine (tells_fun ⟨24, 2, 3, 30, 1, resL i⟩ 42 1 1 2 (by simp; omega) (by omega)).callF (by simp [go_sem, sesV]) ?_
    rintro _ rfl
    simp [go_sem]
    refine (tells_fun ⟨24, 2, 3, 30, 1, resL i⟩ 43 1 1 2 (by simp; omega) (by omega)).callF (by simp [go_sem, sesV]) ?_
    rintro _ rfl
    simp [go_sem, w1]
    exact ⟨i + 1, by omega, by omega, by omega⟩
end Go.Idl
namespace Go.Idl
set_option linter.all false
open Go.Proofs
set_option maxHeartbeats 16000000
set_option maxRecDepth 40000

def S11 : List Rw := [⟨0, 0, 1, 2, 0⟩, ⟨0, 1, 3, 4, 0⟩, ⟨0, 1, 1, 3, 1⟩, ⟨1, 0, 1, 2, 1⟩, ⟨1, 0, 2, 1, 0⟩, ⟨1, 1, 5, 5, 0⟩, ⟨1, 1, 1, 0, 0⟩, ⟨2, 0, 7, 8, 0⟩, ⟨0, 2, 7, 8, 0⟩, ⟨1, 0, 7, 8, 2⟩, ⟨1, 1, -1, 8, 0⟩]
def V18 : List Int := [-9223372036854775808, -1, 0, 1, 2, 3, 4, 5, 23, 24, 25, 26, 47, 48, 127, 128, 129, 9223372036854775807]
theorem V18_wf : ∀ z ∈ V18, -2 ^ 63 ≤ z ∧ z < 2 ^ 63 := by decide
theorem M25 : (makeM 1 5 5).rows.length = 25 ∧ makeE 1 5 5 = 0 := by decide +kernel
theorem checkSmall_fun : FN 4 [] (fun v => v = .bool true) := by
  refine IFun.of_bodyZ false 12 [25, 58, 70, 71, 72, 73, 74, 77, 78, 82, 84, 89, 94, 99, 104, 109, 113, 121] Try.func4 rfl Try.call4 rfl fun R hR => ?_
  have vn : ∀ n : Int, 0 ≤ n → n ≤ 20 → IntKind.i64.wrap n = n := fun n h1 h2 => wrap64 (by omega) (by omega)
  simp [go_sem, vn]
  refine IWp.loopT (α := Nat) (fun n => (⟨false, 132, 12, [25, 58, 70, 71, 72, 73, 74, 77, 78, 82, 84, 89, 94, 99, 104, 109, 113, 121], [], [(1, .sl 0 11 0 11 none), (2, .int .i64 (n : Int))], []⟩, [.rows 5 (rws S11)]))
    (fun n => n ≤ 1331) (fun n => 1331 - n) 0 (by simp) (by simp [go_sem, S11, rws_cons]) ?_
  intro n hn
  have e11 : S11.length = 11 := rfl
  by_cases h : n < 1331
  · have h' : (n : Int) < 1331 := by omega
    have w1 : IntKind.i64.wrap ((n : Int) + 1) = n + 1 := wrap64 (by omega) (by omega)
    obtain ⟨j1, hj1⟩ : ∃ j, n % 11 = j := ⟨_, rfl⟩
    obtain ⟨q, hq⟩ : ∃ j, n / 11 = j := ⟨_, rfl⟩
    obtain ⟨j2, hj2⟩ : ∃ j, q % 11 = j := ⟨_, rfl⟩
    obtain ⟨j3, hj3⟩ : ∃ j, n / 121 = j := ⟨_, rfl⟩
    have d1 : (n : Int).tmod 11 = (j1 : Int) := by rw [Int.tmod_eq_emod_of_nonneg (by omega)]; omega
    have d2 : (n : Int).tdiv 11 = (q : Int) := by rw [Int.tdiv_eq_ediv_of_nonneg (by omega)]; omega
    have d3 : (q : Int).tmod 11 = (j2 : Int) := by rw [Int.tmod_eq_emod_of_nonneg (by omega)]; omega
    have d4 : (n : Int).tdiv 121 = (j3 : Int) := by rw [Int.tdiv_eq_ediv_of_nonneg (by omega)]; omega
    have b1 : j1 < 11 := by omega
    have b2 : j2 < 11 := by omega
    have b3 : j3 < 11 := by omega
    have w2 : IntKind.i64.wrap (q : Int) = q := wrap64 (by omega) (by omega)
    have w3 : IntKind.i64.wrap (j3 : Int) = j3 := wrap64 (by omega) (by omega)
    have w4 : IntKind.i64.wrap (j1 : Int) = j1 := wrap64 (by omega) (by omega)
    have w5 : IntKind.i64.wrap (j2 : Int) = j2 := wrap64 (by omega) (by omega)
    simp [go_sem, h', d1, d2, d3, d4, w2, w3, w4, w5, b1, b2, b3, e11]
    refine ⟨by omega, by omega, by omega, by decide +kernel, ?_⟩
    have c1 : j1 < S11.length := b1
    have c2 : j2 < S11.length := b2
    have c3 : j3 < S11.length := b3
    generalize IntKind.i64.wrap (1 + (n : Int).tmod 2) = A
    generalize IntKind.i64.wrap (1 + (n : Int).tmod 3) = B
    refine (tells_fun ⟨2, 2, 2, A, 1, [S11[j1]'c1, S11[j2]'c2, S11[j3]'c3]⟩ B A 1 2 (by simp) (by omega)).callF (by simp [go_sem, sesV, rws_cons]) ?_
    rintro _ rfl
    simp [go_sem, w1]
    exact ⟨n + 1, by omega, by omega, by omega⟩
  · have h' : ¬ (n : Int) < 1331 := by omega
    simp [go_sem, h']
    refine (make_fun 5 5 1 (by omega)).callF (by simp [go_sem]) ?_
    rintro _ rfl
    obtain ⟨m5, hm5⟩ : ∃ m, makeM 1 5 5 = m := ⟨_, rfl⟩
    have hl := M25
    rw [hm5] at hl
    rw [hm5, hl.2]
    obtain ⟨tb, ro, se, co, wi, L⟩ := m5
    have hL : L.length = 25 := hl.1
    simp [go_sem, Mv.v, hL]
    refine IWp.loopT (α := Nat) (fun i => (⟨false, 132, 12, [25, 58, 70, 71, 72, 73, 74, 77, 78, 82, 84, 89, 94, 99, 104, 109, 113, 121], [], [(4, .ptr 1 1 0 0), (71, .sl 2 18 0 18 none), (72, .int .i64 18), (73, .int .i64 (i : Int))], []⟩, [.dead, .rows 6 [[.int .i64 tb, .int .i64 ro, .int .i64 se, .int .i64 co, .int .i64 wi, .fz 5 (rws L)]], .rows 1 (ints V18)]))
      (fun i => i ≤ 18) (fun i => 18 - i) 0 (by simp) (by simp [go_sem, V18, ints_cons]) ?_
    intro i hi
    have e18 : V18.length = 18 := rfl
    by_cases h2 : i < 18
    · have h2' : (i : Int) < 18 := by omega
      have w1 : IntKind.i64.wrap ((i : Int) + 1) = i + 1 := wrap64 (by omega) (by omega)
      obtain ⟨z, hz⟩ : ∃ z, V18[i]'(show i < V18.length from h2) = z := ⟨_, rfl⟩
      have hzw : -2 ^ 63 ≤ z ∧ z < 2 ^ 63 := V18_wf z (by rw [← hz]; exact List.getElem_mem _)
      simp [go_sem, h2, h2', e18, hz]
      refine IWp.loopT (α := Nat) (fun k => (⟨false, 132, 12, [25, 58, 70, 71, 72, 73, 74, 77, 78, 82, 84, 89, 94, 99, 104, 109, 113, 121], [], [(4, .ptr 1 1 0 0), (7, .int .i64 z), (71, .sl 2 18 0 18 none), (72, .int .i64 18), (73, .int .i64 (i : Int)), (77, .int .i64 (k : Int))], []⟩, [.dead, .rows 6 [[.int .i64 tb, .int .i64 ro, .int .i64 se, .int .i64 co, .int .i64 wi, .fz 5 (rws L)]], .rows 1 (ints V18)]))
        (fun k => k ≤ 8) (fun k => 8 - k) 0 (by simp) (by simp [go_sem]) ?_
      intro k hk
      by_cases h3 : k < 8
      · rcases (by omega : k = 0 ∨ k = 1 ∨ k = 2 ∨ k = 3 ∨ k = 4 ∨ k = 5 ∨ k = 6 ∨ k = 7) with rfl | rfl | rfl | rfl | rfl | rfl | rfl | rfl
        all_goals simp [go_sem, vn]
        · refine (tells_fun ⟨z, ro, se, co, wi, L⟩ 2 1 z 3 (by simp only; omega) (by omega)).callF (by simp [go_sem, sesV]) ?_
          rintro _ rfl
          simp [go_sem, vn]
          exact ⟨1, by omega, by omega, by omega⟩
        · refine (tells_fun ⟨tb, z, se, co, wi, L⟩ 2 1 z 3 (by simp only; omega) (by omega)).callF (by simp [go_sem, sesV]) ?_
          rintro _ rfl
          simp [go_sem, vn]
          exact ⟨2, by omega, by omega, by omega⟩
        · refine (tells_fun ⟨tb, ro, z, co, wi, L⟩ 2 1 z 3 (by simp only; omega) (by omega)).callF (by simp [go_sem, sesV]) ?_
          rintro _ rfl
          simp [go_sem, vn]
          exact ⟨3, by omega, by omega, by omega⟩
        · refine (tells_fun ⟨tb, ro, se, z, wi, L⟩ 2 1 z 3 (by simp only; omega) (by omega)).callF (by simp [go_sem, sesV]) ?_
          rintro _ rfl
          simp [go_sem, vn]
          exact ⟨4, by omega, by omega, by omega⟩
        · refine (tells_fun ⟨tb, ro, se, co, z, L⟩ 2 1 z 3 (by simp only; omega) (by omega)).callF (by simp [go_sem, sesV]) ?_
          rintro _ rfl
          simp [go_sem, vn]
          exact ⟨5, by omega, by omega, by omega⟩
        · refine (tells_fun ⟨tb, ro, se, co, wi, L⟩ z 1 z 3 (by simp only; omega) (by omega)).callF (by simp [go_sem, sesV]) ?_
          rintro _ rfl
          simp [go_sem, vn]
          exact ⟨6, by omega, by omega, by omega⟩
        · refine (tells_fun ⟨tb, ro, se, co, wi, L⟩ 2 z z 3 (by simp only; omega) (by omega)).callF (by simp [go_sem, sesV]) ?_
          rintro _ rfl
          simp [go_sem, vn]
          exact ⟨7, by omega, by omega, by omega⟩
        · refine (tells_fun ⟨tb, ro, se, co, wi, L⟩ 2 1 z z (by simp only; omega) (by omega)).callF (by simp [go_sem, sesV]) ?_
          rintro _ rfl
          simp [go_sem, vn]
          exact ⟨8, by omega, by omega, by omega⟩
      · have h3' : ¬ (k : Int) < 8 := by omega
        simp [go_sem, h3', w1]
        exact ⟨i + 1, by omega, by omega, by omega⟩
    · have h2' : ¬ (i : Int) < 18 := by omega
      simp [go_sem, h2']
      refine (changed_fun ⟨tb, ro, se, co, wi, L⟩ (by simp only; omega)).callF (by simp [go_sem, Mv.v]) ?_
      rintro _ rfl
      simp [go_sem]
      refine results_fun.callF (by simp [go_sem]) ?_
      rintro _ rfl
      simp [go_sem]
      refine awake_fun.callF (by simp [go_sem]) ?_
      rintro _ rfl
      simp [go_sem]
      exact hR _ _ _ rfl (by simp [go_sem])
end Go.Idl
