/-
  Chapter 27: the chapter's example.
  Chapter 27: the sets of a round; slices.Equal at pairs.
-/
import Derived.Test.YtjmjdjdabmlgeaaC27PartB
import Derived.Test.YtjmjdjdabmlgeaaC27PartE
import Derived.Test.YtjmjdjdabmlgeaaC27PartJ
namespace Go.Idl
set_option linter.all false
open Go.Proofs
set_option maxHeartbeats 16000000
set_option maxRecDepth 40000

/-- The rows of the example: the appendix movement of four tables. -/
def exL : List Rw := [⟨0, 0, 1, 5, 0⟩, ⟨0, 1, 2, 6, 1⟩, ⟨0, 2, 3, 7, 2⟩, ⟨0, 3, 4, 8, 0⟩, ⟨1, 0, 1, 8, 1⟩, ⟨1, 1, 2, 5, 2⟩, ⟨1, 2, 3, 6, 0⟩, ⟨1, 3, 4, 7, 1⟩]
def exM : Mv := ⟨4, 2, 3, 2, 2, exL⟩
theorem ex_make : Web.makeM 2 4 2 = exM ∧ Web.makeE 2 4 2 = 0 := by decide +kernel
end Go.Idl
namespace Go.Idl
set_option linter.all false
open Go.Proofs
set_option maxHeartbeats 8000000
set_option maxRecDepth 40000

theorem equalPP_fun (a : List (Int × Int)) (hl : a.length ≤ 2 ^ 40) : FN 30 [.fz 2 (prR a), .fz 2 (prR a)] (fun v => v = .bool true) := by
  refine IFun.of_bodyZ false 6 [10, 12, 13, 14, 24] Try.func30 rfl Try.call30 rfl fun R hR => ?_
  simp [go_sem]
  refine IWp.loopT (α := Nat) (fun i => (⟨false, 26, 6, [10, 12, 13, 14, 24], [], [(0, .fz 2 (prR a)), (1, .fz 2 (prR a)), (12, .int .i64 a.length), (13, .int .i64 (i : Int))], []⟩, []))
    (fun i => i ≤ a.length) (fun i => a.length - i) 0 (by simp) (by simp [go_sem]) ?_
  intro i hi
  by_cases h : i < a.length
  · have v1 : IntKind.i64.wrap ((i : Int) + 1) = ((i + 1 : Nat) : Int) := by rw [wrap64 (by omega) (by omega)]; omega
    obtain ⟨x, hx⟩ : ∃ x, a[i] = x := ⟨_, rfl⟩
    have q1 : (prR a)[i]? = some [.int .i64 x.1, .int .i64 x.2] := by simp [prR, mp, rowI, ecP, h, hx]
    have q2 : (prR a)[i]'(by simpa using h) = [.int .i64 x.1, .int .i64 x.2] := by simp [prR, mp, rowI, ecP, hx]
    simp [go_sem, h, q1, q2]
    refine ⟨by decide +kernel, i + 1, v1, by omega, by omega⟩
  · obtain rfl : i = a.length := by omega
    simp [go_sem]
    exact hR _ _ _ rfl (by simp [go_sem])
theorem equalP1_fun (a b : Int) : FN 30 [.fz 2 [[.int .i64 a, .int .i64 b]], .fz 2 [[.int .i64 a, .int .i64 b]]] (fun v => v = .bool true) := equalPP_fun [(a, b)] (by simp)
theorem sharedEx : sharedL exM 1 = [(0, 3)] := by
  have h : tabsL exM.rows = [0, 1, 2, 3] := srt_eq (by simp [Inc]) fun x => by simp [exM, exL]; omega
  unfold sharedL
  rw [h]
  decide
theorem shared1_fun : FN 23 [exM.v, .int .i64 1] (fun v => v = .fz 2 [[.int .i64 0, .int .i64 3]]) := by
  have := shared_fun exM 1 (by decide)
  rw [sharedEx] at this
  exact this
/-- The sets of a round, in the order of the rows. -/
def setsL (l : List Rw) (r : Int) : List Int := (l.filter fun x => decide (x.r = r)).map fun x => x.s
theorem setsL_succ {l : List Rw} {r : Int} {i : Nat} (h : i < l.length) : setsL (l.take (i + 1)) r = setsL (l.take i) r ++ (if l[i].r = r then [l[i].s] else []) := by
  unfold setsL
  rw [List.take_succ_eq_append_getElem h, List.filter_append, List.map_append]
  by_cases hr : l[i].r = r
  · rw [if_pos hr, List.filter_cons_of_pos (by simpa using hr)]; rfl
  · rw [if_neg hr, List.filter_cons_of_neg (by simpa using hr)]; rfl
theorem setsL_len {l : List Rw} {r : Int} : (setsL l r).length ≤ l.length := by
  unfold setsL
  rw [List.length_map]
  exact List.length_filter_le ..
theorem sets27_fun (m : Mv) (r : Int) (hl : m.rows.length ≤ 2 ^ 30) : FN 29 [m.v, .int .i64 r] (fun v => v = .fz 1 (ints (setsL m.rows r))) := by
  refine IFun.of_bodyW false 8 [9, 10, 11, 12, 18] Try.func29 rfl Try.call29 rfl fun R hR => ?_
  obtain ⟨tb, ro, se, co, wi, L⟩ := m
  simp only [Mv.v] at *
  refine IWp.seqI ?_
  simp [go_sem]
  refine IWp.seqI ?_
  simp [go_sem]
  refine IWp.ownNilS 1 5 (by decide) rfl ?_
  refine IWp.now ?_
  simp [go_sem]
  refine IWp.loopT (α := Nat) (fun i => (⟨false, 26, 8, [9, 10, 11, 12, 18], [], [(1, .int .i64 r), (5, .sl 1 (setsL (L.take i) r).length 0 (setsL (L.take i) r).length none), (9, .fz 5 (rws L)), (10, .int .i64 L.length), (11, .int .i64 (i : Int))], []⟩, [.dead, .rows 1 (ints (setsL (L.take i) r))]))
    (fun i => i ≤ L.length) (fun i => L.length - i) 0 (by simp) (by simp [go_sem, setsL]) ?_
  intro i hi
  by_cases h : i < L.length
  · have v1 : IntKind.i64.wrap ((i : Int) + 1) = ((i + 1 : Nat) : Int) := by rw [wrap64 (by omega) (by omega)]; omega
    have hil : (setsL (L.take i) r).length ≤ i := Nat.le_trans setsL_len (by simp; omega)
    have hs := setsL_succ (r := r) h
    by_cases hr : L[i].r = r
    · rw [if_pos hr] at hs
      have hs2 : ints (setsL (L.take (i + 1)) r) = ints (setsL (L.take i) r) ++ [[.int .i64 L[i].s]] := by rw [hs, ints_snoc]
      have hsl : (setsL (L.take (i + 1)) r).length = (setsL (L.take i) r).length + 1 := by rw [hs]; simp
      simp [go_sem, h, hr]
      exact ⟨by omega, i + 1, ⟨⟨hsl.symm, v1⟩, hs2⟩, by omega, by omega⟩
    · rw [if_neg hr, List.append_nil] at hs
      simp [go_sem, h, hr]
      exact ⟨i + 1, ⟨⟨by rw [hs], v1⟩, by rw [hs]⟩, by omega, by omega⟩
  · obtain rfl : i = L.length := by omega
    simp [go_sem]
    exact hR _ _ _ rfl (by simp [go_sem])
/-! ### the examples -/
theorem w27_1 : (Web.makeE 1 6 3 = 0 ∧ (Web.makeM 1 6 3).rows.length = 18) ∧ setsL (Web.makeM 1 6 3).rows 0 = [0, 1, 2, 0, 1, 2] ∧ setsL (Web.makeM 1 6 3).rows 1 = [1, 2, 0, 1, 2, 0] ∧ (Web.makeM 1 6 3).rows[6]?.map (fun x => x.ew) = some 12 := by decide +kernel
theorem w27_2 : (Web.makeE 1 4 2 = 0 ∧ (Web.makeM 1 4 2).rows.length = 8) ∧ setsL (Web.makeM 1 4 2).rows 0 = [0, 1, 2, 0] ∧ setsL (Web.makeM 1 4 2).rows 1 = [1, 2, 0, 1] := by decide +kernel
theorem w27_3 : exM.rows.length = 8 ∧ setsL exM.rows 1 = [1, 2, 0, 1] ∧ loadsL exM 1 = [1, 2, 1] ∧ idleL exM 1 = [] := by decide +kernel
theorem w27_4 : feedsL exM 1 0 = [1] := by
  unfold feedsL
  rw [if_neg (by decide)]
  rw [show (exM.rows.filter (fedB exM.rows 1 0)).map (fun x => x.t) = [1] by decide +kernel]
  exact srt_eq (by simp [Inc]) (by simp)
theorem w27_5 : (Web.makeE 3 3 3 = 0 ∧ (Web.makeM 3 3 3).rows.length = 9) ∧ setsL (Web.makeM 3 3 3).rows 2 = [2, 2, 2] ∧ idleL (Web.makeM 3 3 3) 2 = [0, 1] := by decide +kernel
end Go.Idl
