/-
  Chapter 27: the sort of one pair; Shared at the example.
  Chapter 27: the sets of a round; slices.Equal at pairs.
-/
import Derived.Test.YtjmjdjdabmlgeaaC27PartG
import Derived.Test.YtjmjdjdabmlgeaaC27PartB
namespace Go.Idl
set_option linter.all false
open Go.Proofs
set_option maxHeartbeats 16000000
set_option maxRecDepth 40000

def oneH (a b : Int) : Heap := [.rows 2 [[.int .i64 a, .int .i64 b]]]
def cmpV27 : IV := .func (.func 46) [] []
theorem insertP_calls (a b : Int) : ICalls Try.prog [] 66 [.sl 0 1 0 1 none, .int .i64 0, .int .i64 1, cmpV27] (oneH a b) fun _ σ => σ = oneH a b := by
  refine ICalls.forget (ICalls.of_bodyE false 10 [14, 34] Try.func66 rfl Try.call66 rfl fun R hR => ?_)
  unfold oneH cmpV27 at *
  have z1 : IntKind.i64.wrap 1 = 1 := by decide
  simp [go_sem, z1]
  refine IWp.loopT (α := Unit) (fun p => (⟨false, 53, 10, [14, 34], [], [(0, .sl 0 1 0 1 none), (1, .int .i64 0), (2, .int .i64 1), (3, .func (.func 46) [] []), (8, .int .i64 1)], []⟩, [.rows 2 [[.int .i64 a, .int .i64 b]]]))
    (fun p => True) (fun p => 0) () trivial (by simp [go_sem]) ?_
  rintro _ _
  simp [go_sem]
  exact hR _ _ ⟨_, by simp [go_sem], rfl⟩
theorem pdqP_calls (a b lim : Int) : ICalls Try.prog [] 60 [.sl 0 1 0 1 none, .int .i64 0, .int .i64 1, .int .i64 lim, cmpV27] (oneH a b) fun _ σ => σ = oneH a b := by
  refine ICalls.forget (ICalls.of_bodyE false 21 [25, 32, 39, 56, 75, 80, 97, 125] Try.func60 rfl Try.call60 rfl fun R hR => ?_)
  have ci := insertP_calls a b
  unfold oneH cmpV27 at *
  simp [go_sem]
  refine IWp.loopT (α := Unit) (fun p => (⟨false, 148, 21, [25, 32, 39, 56, 75, 80, 97, 125], [], [(0, .sl 0 1 0 1 none), (1, .int .i64 0), (2, .int .i64 1), (3, .int .i64 lim), (4, .func (.func 46) [] []), (10, .bool true), (11, .bool true)], []⟩, [.rows 2 [[.int .i64 a, .int .i64 b]]]))
    (fun p => True) (fun p => 0) () trivial (by simp [go_sem]) ?_
  rintro _ _
  have z1 : IntKind.i64.wrap 1 = 1 := by decide
  simp [go_sem, z1]
  refine ci.at [0] (by simp [go_sem]) ?_
  rintro _ _ rfl
  simp [go_sem]
  exact hR _ _ ⟨_, by simp [go_sem], rfl⟩
theorem sortP_calls (a b : Int) : ICalls Try.prog [] 45 [.sl 0 1 0 1 none, cmpV27] (oneH a b) fun _ σ => σ = oneH a b := by
  refine ICalls.forget (ICalls.of_bodyE false 5 [] Try.func45 rfl Try.call45 rfl fun R hR => ?_)
  have cl := len_fun 1 (by omega)
  have ci := pdqP_calls a b (Lib.bitLen 1)
  unfold oneH cmpV27 at *
  have z1 : IntKind.u64.wrap 1 = 1 := by decide
  simp [go_sem, z1]
  refine cl.callF (by simp [go_sem]) ?_
  rintro _ rfl
  simp [go_sem]
  refine ci.at [0] (by simp [go_sem]) ?_
  rintro _ _ rfl
  simp [go_sem]
  exact hR _ _ ⟨_, by simp [go_sem], rfl⟩
theorem shared1_fun : FN 23 [exM.v, .int .i64 1] (fun v => v = .fz 2 [[.int .i64 0, .int .i64 3]]) := by
  refine IFun.of_bodyZ false 8 [11, 12, 16] Try.func23 rfl Try.call23 rfl fun R hR => ?_
  have ct := together_fun exM 1
  have cs := sortP_calls 0 3
  have h3 := together1_calls
  simp only [Mv.v, exM] at *
  simp [go_sem]
  refine ct.callM (by simp [go_sem]) ?_
  rintro _ rfl
  simp [go_sem, togV]
  refine IWp.forget (e0 := ⟨false, 26, 8, [11, 12, 16], [], [(4, .nils), (5, .ptr 2 1 0 0), (6, .ptr 3 1 0 0), (11, togV exM 1)], []⟩) (σ0 := [.dead, .map [], .rows 1 [[.map 1]], .rows 1 [[.nils]]]) (by simp [go_sem, togV, exM]) (by simp [go_sem]) (by simp) (by simp [go_sem, togV, exM]) ?_
  refine IWp.ownNil 2 [(4, .nils), (5, .ptr 2 1 0 0), (6, .ptr 3 1 0 0), (11, togV exM 1)] [.dead, .map [], .rows 1 [[.map 1]], .rows 1 [[.sl 4 0 0 0 none]]] (by decide) (by simp [go_sem, togV, exM]) (by simp [go_sem]) ?_
  refine IWp.rangeFunc (g := 58) (cap := [.fptr 6 [[.int .i64 4, .int .i64 2, .int .i64 3, .int .i64 2, .int .i64 2, .fz 5 (rws exL)]] 0 0, .fptr 1 [[.int .i64 1]] 0 0]) (by simp [go_sem, togV, exM]) (by simp [go_sem, togV, exM]) fun l r h1 h2 h3 h4 h5 => ?_
  obtain ⟨e, he⟩ : ∃ e : Env, e = ⟨false, 26, 8, [11, 12, 16], [], [(4, .nils), (5, .ptr 2 1 0 0), (6, .ptr 3 1 0 0), (11, togV exM 1)], []⟩ := ⟨_, rfl⟩
  rw [← he, show e.gl = [] by rw [he]]
  have hbe : ∀ n, 6 ≤ n → ObBl n (.yrec l r e) := by
    intro n hn
    subst he
    simp [ObBl, go_sem, togV, exM]
    omega
  have key := together1_calls l (.yrec l r e) hbe rfl fun K => ?_
  · refine key.mono ?_
    rintro _ _ rfl
    unfold fullH
    simp [go_sem, sm, sn, sb, he, h2, h1]
    refine cs.at [4] (by simp [go_sem, oneH, cmpV27]) ?_
    rintro _ _ rfl
    simp [go_sem, oneH]
    exact hR _ _ _ rfl (by simp [go_sem])
  · refine YCalls.roundE 5 h1 h2 h3 h4 h5 rfl rfl ?_
    rw [he]
    unfold fullH
    have mg : mget (.agg [.int .i64 0, .int .i64 3]) [] = none := rfl
    have ms : mset (.agg [.int .i64 0, .int .i64 3]) (.bool true) [] = [(.agg [.int .i64 0, .int .i64 3], .bool true)] := rfl
    simp [go_sem, sm, sn, sb, ex3s, exI, mg, ms]
end Go.Idl
namespace Go.Idl
set_option linter.all false
open Go.Proofs
set_option maxHeartbeats 8000000
set_option maxRecDepth 40000

theorem equalP1_fun (a b : Int) : FN 30 [.fz 2 [[.int .i64 a, .int .i64 b]], .fz 2 [[.int .i64 a, .int .i64 b]]] (fun v => v = .bool true) := by
  refine IFun.of_bodyZ false 6 [10, 12, 13, 14, 24] Try.func30 rfl Try.call30 rfl fun R hR => ?_
  simp [go_sem]
  refine IWp.loopT (α := Nat) (fun i => (⟨false, 26, 6, [10, 12, 13, 14, 24], [], [(0, .fz 2 [[.int .i64 a, .int .i64 b]]), (1, .fz 2 [[.int .i64 a, .int .i64 b]]), (12, .int .i64 1), (13, .int .i64 (i : Int))], []⟩, []))
    (fun i => i ≤ 1) (fun i => 1 - i) 0 (by simp) (by simp [go_sem]) ?_
  intro i hi
  rcases (by omega : i = 0 ∨ i = 1) with rfl | rfl
  · simp [go_sem]
    exact ⟨by decide +kernel, 1, by decide, by decide, by decide⟩
  · simp [go_sem]
    exact hR _ _ _ rfl (by simp [go_sem])
/-- The sets of a round, in the order of the rows. -/
def setsL (l : List Rw) (r : Int) : List Int := (l.filter fun x => decide (x.r = r)).map fun x => x.s
theorem setsL_succ {l : List Rw} {r : Int} {i : Nat} (h : i < l.length) : setsL (l.take (i + 1)) r = setsL (l.take i) r ++ (if l[i].r = r then [l[i].s] else []) := by
  unfold setsL
  rw [List.take_succ_eq_append_getElem h, List.filter_append, List.map_append]
  by_cases hr : l[i].r = r
  · rw [if_pos hr, List.filter_cons_of_pos (by simpa using hr)]; rfl
  · rw [if_neg hr, List.filter_cons_of_neg (by simpa using hr)]; rfl
theorem setsL_len {l : List Rw} {r : Int} : (setsL l r).length ≤ l.length := by
  unfold setsL
  rw [List.length_map]
  exact List.length_filter_le ..
theorem sets27_fun (m : Mv) (r : Int) (hl : m.rows.length ≤ 2 ^ 30) : FN 29 [m.v, .int .i64 r] (fun v => v = .fz 1 (ints (setsL m.rows r))) := by
  refine IFun.of_bodyW false 8 [9, 10, 11, 12, 18] Try.func29 rfl Try.call29 rfl fun R hR => ?_
  obtain ⟨tb, ro, se, co, wi, L⟩ := m
  simp only [Mv.v] at *
  refine IWp.seqI ?_
  simp [go_sem]
  refine IWp.seqI ?_
  simp [go_sem]
  refine IWp.ownNilS 1 5 (by decide) rfl ?_
  refine IWp.now ?_
  simp [go_sem]
  refine IWp.loopT (α := Nat) (fun i => (⟨false, 26, 8, [9, 10, 11, 12, 18], [], [(1, .int .i64 r), (5, .sl 1 (setsL (L.take i) r).length 0 (setsL (L.take i) r).length none), (9, .fz 5 (rws L)), (10, .int .i64 L.length), (11, .int .i64 (i : Int))], []⟩, [.dead, .rows 1 (ints (setsL (L.take i) r))]))
    (fun i => i ≤ L.length) (fun i => L.length - i) 0 (by simp) (by simp [go_sem, setsL]) ?_
  intro i hi
  by_cases h : i < L.length
  · have v1 : IntKind.i64.wrap ((i : Int) + 1) = ((i + 1 : Nat) : Int) := by rw [wrap64 (by omega) (by omega)]; omega
    have hil : (setsL (L.take i) r).length ≤ i := Nat.le_trans setsL_len (by simp; omega)
    have hs := setsL_succ (r := r) h
    by_cases hr : L[i].r = r
    · rw [if_pos hr] at hs
      have hs2 : ints (setsL (L.take (i + 1)) r) = ints (setsL (L.take i) r) ++ [[.int .i64 L[i].s]] := by rw [hs, ints_snoc]
      have hsl : (setsL (L.take (i + 1)) r).length = (setsL (L.take i) r).length + 1 := by rw [hs]; simp
      simp [go_sem, h, hr]
      exact ⟨by omega, i + 1, ⟨⟨hsl.symm, v1⟩, hs2⟩, by omega, by omega⟩
    · rw [if_neg hr, List.append_nil] at hs
      simp [go_sem, h, hr]
      exact ⟨i + 1, ⟨⟨by rw [hs], v1⟩, by rw [hs]⟩, by omega, by omega⟩
  · obtain rfl : i = L.length := by omega
    simp [go_sem]
    exact hR _ _ _ rfl (by simp [go_sem])
/-! ### the examples -/
theorem w27_1 : (Web.makeE 1 6 3 = 0 ∧ (Web.makeM 1 6 3).rows.length = 18) ∧ setsL (Web.makeM 1 6 3).rows 0 = [0, 1, 2, 0, 1, 2] ∧ setsL (Web.makeM 1 6 3).rows 1 = [1, 2, 0, 1, 2, 0] ∧ (Web.makeM 1 6 3).rows[6]?.map (fun x => x.ew) = some 12 := by decide +kernel
theorem w27_2 : (Web.makeE 1 4 2 = 0 ∧ (Web.makeM 1 4 2).rows.length = 8) ∧ setsL (Web.makeM 1 4 2).rows 0 = [0, 1, 2, 0] ∧ setsL (Web.makeM 1 4 2).rows 1 = [1, 2, 0, 1] := by decide +kernel
theorem w27_3 : exM.rows.length = 8 ∧ setsL exM.rows 1 = [1, 2, 0, 1] ∧ loadsL exM 1 = [1, 2, 1] ∧ idleL exM 1 = [] := by decide +kernel
theorem w27_4 : feedsL exM 1 0 = [1] := by
  unfold feedsL
  rw [if_neg (by decide)]
  rw [show (exM.rows.filter (fedB exM.rows 1 0)).map (fun x => x.t) = [1] by decide +kernel]
  exact srt_eq (by simp [Inc]) (by simp)
theorem w27_5 : (Web.makeE 3 3 3 = 0 ∧ (Web.makeM 3 3 3).rows.length = 9) ∧ setsL (Web.makeM 3 3 3).rows 2 = [2, 2, 2] ∧ idleL (Web.makeM 3 3 3) 2 = [0, 1] := by decide +kernel
end Go.Idl
