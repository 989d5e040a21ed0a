/-
  Package finessetop: the closures of made.
  Package finessetop: made.
-/
import Derived.Test.YteedopeniojppaaGreatCtopmPartR
import Derived.Test.YteedopeniojppaaGreatCtopmPartS
import Derived.Test.YteedopeniojppaaGreatCtopmPartT
import Derived.Test.YteedopeniojppaaGreatCtopmPartE
import Derived.Test.YteedopeniojppaaGreatIdlPartM
namespace Go.Idl
set_option linter.all false
open Go.Proofs
set_option maxHeartbeats 16000000
set_option maxRecDepth 40000

theorem mades1 (k T n : Int) (hk : 0 ≤ k ∧ k < 3) : ICalls Tryz.prog [] 8 [.int .i64 T, .int .i64 n, .ptr 0 1 0 0] [.rows 1 [[.int .u8 k]]] (fun v σ => v = .tup [(makeM (k + 1) T n).v, .int .i64 (makeE (k + 1) T n)] ∧ σ = [.rows 1 [[.int .u8 k]]]) := by
  refine ICalls.forget (ICalls.of_bodyE false 7 [] Tryz.func8 rfl Tryz.call8 rfl fun R hR => ?_)
  have cs := make_fun T n (k + 1) (by omega)
  have w : IntKind.u8.wrap (k + 1) = k + 1 := by simp [IntKind.wrap, IntKind.bits, IntKind.signed]; omega
  generalize makeM (k + 1) T n = M at *
  obtain ⟨tb, ro, se, co, wi, L⟩ := M
  simp only [Mv.v] at *
  simp [go_sem, w]
  refine cs.callF (by simp [go_sem]) ?_
  rintro _ rfl
  simp [go_sem]
  exact hR _ _ ⟨_, by simp [go_sem], rfl, rfl⟩
theorem mades2 (k T n : Int) (hk : 3 ≤ k ∧ k < 6) : ICalls Tryz.prog [] 11 [.int .i64 T, .int .i64 n, .ptr 0 1 0 0] [.rows 1 [[.int .u8 k]]] (fun v σ => v = .tup [(Web.makeM (k - 2) T n).v, .int .i64 (Web.makeE (k - 2) T n)] ∧ σ = [.rows 1 [[.int .u8 k]]]) := by
  refine ICalls.forget (ICalls.of_bodyE false 7 [] Tryz.func11 rfl Tryz.call11 rfl fun R hR => ?_)
  have cs := wmake_fun T n (k - 2) (by omega)
  have w : IntKind.u8.wrap (k - 2) = k - 2 := by simp [IntKind.wrap, IntKind.bits, IntKind.signed]; omega
  generalize Web.makeM (k - 2) T n = M at *
  obtain ⟨tb, ro, se, co, wi, L⟩ := M
  simp only [Mv.v] at *
  simp [go_sem, w]
  refine cs.callF (by simp [go_sem]) ?_
  rintro _ rfl
  simp [go_sem]
  exact hR _ _ ⟨_, by simp [go_sem], rfl, rfl⟩
end Go.Idl
namespace Go.Idl
set_option linter.all false
open Go.Proofs
set_option maxHeartbeats 16000000
set_option maxRecDepth 40000

def shpV (ki ta ro ou bo sw : Int) : IV := .agg [.int .u8 ki, .int .u8 ta, .int .u8 ro, .int .u8 ou, .int .u8 bo, .int .u16 sw]
theorem tm8 {x : Int} (h : 0 ≤ x) (n : Int) : x.tmod n = x % n := Int.tmod_eq_emod_of_nonneg h
def fvK (k : Int) : IV := if k < 3 then .func (.func 8) [] [.ptr 2 1 0 0] else if k < 6 then .func (.func 11) [] [.ptr 2 1 0 0] else if k = 6 then .func (.func 13) [] [] else .func (.func 14) [] []
theorem tmade_fun (ki ta ro ou bo sw : Int) (hki : 0 ≤ ki ∧ ki < 256) (hta : 0 ≤ ta ∧ ta < 256) (hro : 0 ≤ ro ∧ ro < 256) (hou : 0 ≤ ou ∧ ou < 256) (hbo : 0 ≤ bo ∧ bo < 256) (hsw : 0 ≤ sw ∧ sw < 65536) :
    ON 4 [shpV ki ta ro ou bo sw, .int .i64 9] (fun v => (∃ M B, TopM M ∧ 1 ≤ B ∧ B ≤ 3 ∧ B * M.sets ≤ 128 ∧ v = .tup [sesV M B, .bool true]) ∨ (noOK (ki % 8) (2 + ta % 8) ∧ v = .tup [sesV mvZ 0, .bool false])) := by
  refine IFun.of_bodyW false 18 [28, 34, 46, 58, 68, 83, 94, 110, 113, 114, 115, 123, 131, 139, 154] Tryz.func4 rfl Tryz.call4 rfl fun R hR => ?_
  have e1 := tm8 hki.1 8
  have e2 := tm8 hta.1 8
  obtain ⟨k, hk⟩ : ∃ k, ki % 8 = k := ⟨_, rfl⟩
  obtain ⟨T, hT⟩ : ∃ T, 2 + ta % 8 = T := ⟨_, rfl⟩
  have hk8 : 0 ≤ k ∧ k < 8 := by omega
  have hT9 : 2 ≤ T ∧ T ≤ 9 := by omega
  have w1 : IntKind.i64.wrap ta = ta := wrap64 (by omega) (by omega)
  have w2 : IntKind.i64.wrap (ta % 8) = ta % 8 := wrap64 (by omega) (by omega)
  have w3 : IntKind.i64.wrap T = T := wrap64 (by omega) (by omega)
  have w4 : IntKind.u8.wrap k = k := by simp [IntKind.wrap, IntKind.bits, IntKind.signed]; omega
  have w8 : IntKind.i64.wrap 8 = 8 := by decide
  have w3' : IntKind.i64.wrap (2 + ta % 8) = T := by rw [hT]; exact w3
  rw [hk] at e1
  simp only [hk, hT] at hR
  simp only [shpV]
  refine IWp.seqI ?_
  simp [go_sem]
  refine IWp.seqI ?_
  simp [go_sem, e2, w1, w2, w3', w8]
  refine IWp.seqI ?_
  simp [go_sem]
  refine IWp.seqI ?_
  simp [go_sem]
  refine IWp.seqI ?_
  simp [go_sem]
  refine IWp.meet (T := Unit) (fun _ => (⟨false, 160, 18, [28, 34, 46, 58, 68, 83, 94, 110, 113, 114, 115, 123, 131, 139, 154], [], [(2, .ptr 0 1 0 0), (4, .ptr 1 1 0 0), (5, .bool false), (6, .int .i64 T), (7, fvK k), (8, .int .i64 (tpAll k T)), (9, .int .i64 (tpErr k T))], []⟩, [.rows 6 [[.int .u8 ki, .int .u8 ta, .int .u8 ro, .int .u8 ou, .int .u8 bo, .int .u16 sw]], .rows 7 [[.int .i64 0, .int .i64 0, .int .i64 0, .int .i64 0, .int .i64 0, .nils, .int .i64 0]], .rows 1 [[.int .u8 k]]])) (fun _ => True) (fun _ _ => ?_) (fun Q hN _ _ => ?_)
  case refine_2 =>
    refine IWp.seqI ?_
    simp [go_sem, e1, w4]
    refine IWp.seqI ?_
    simp [go_sem]
    refine IWp.block ?_
    have b1 : IntKind.u8.wrap 1 = 1 := by decide
    have b2 : IntKind.u8.wrap 2 = 2 := by decide
    have b3 : IntKind.u8.wrap 3 = 3 := by decide
    have d1 : IntKind.i64.wrap (2 * T) = 2 * T := wrap64 (by omega) (by omega)
    have d2 : IntKind.i64.wrap (2 * T - 1) = 2 * T - 1 := wrap64 (by omega) (by omega)
    refine IWp.now ?_
    rcases (by omega : k = 0 ∨ k = 1 ∨ k = 2 ∨ k = 3 ∨ k = 4 ∨ k = 5 ∨ k = 6 ∨ k = 7) with rfl | rfl | rfl | rfl | rfl | rfl | rfl | rfl
    · have c := most_fun T 1 (by omega)
      simp only [show tpAll 0 T = (mostK T 1) from rfl, show tpErr 0 T = (findE T 1) from rfl, show fvK 0 = (.func (.func 8) [] [.ptr 2 1 0 0]) from rfl] at hN
      simp [go_sem, b1, b2, b3, d1, d2]
      refine c.callF (by simp [go_sem]) ?_
      rintro _ rfl
      simp [go_sem]
      exact hN _ _ () (by simp [go_sem]) trivial
    · have c := most_fun T 2 (by omega)
      simp only [show tpAll 1 T = (mostK T 2) from rfl, show tpErr 1 T = (findE T 2) from rfl, show fvK 1 = (.func (.func 8) [] [.ptr 2 1 0 0]) from rfl] at hN
      simp [go_sem, b1, b2, b3, d1, d2]
      refine c.callF (by simp [go_sem]) ?_
      rintro _ rfl
      simp [go_sem]
      exact hN _ _ () (by simp [go_sem]) trivial
    · have c := most_fun T 3 (by omega)
      simp only [show tpAll 2 T = (mostK T 3) from rfl, show tpErr 2 T = (findE T 3) from rfl, show fvK 2 = (.func (.func 8) [] [.ptr 2 1 0 0]) from rfl] at hN
      simp [go_sem, b1, b2, b3, d1, d2]
      refine c.callF (by simp [go_sem]) ?_
      rintro _ rfl
      simp [go_sem]
      exact hN _ _ () (by simp [go_sem]) trivial
    · have c := wmost_fun T 1 (by omega)
      simp only [show tpAll 3 T = (if Web.findE T 1 = 0 then Web.most T 1 else 0) from rfl, show tpErr 3 T = (Web.findE T 1) from rfl, show fvK 3 = (.func (.func 11) [] [.ptr 2 1 0 0]) from rfl] at hN
      generalize (if Web.findE T 1 = 0 then Web.most T 1 else 0) = A at *
      simp [go_sem, b1, b2, b3, d1, d2]
      refine c.callF (by simp [go_sem]) ?_
      rintro _ rfl
      simp [go_sem]
      exact hN _ _ () (by simp [go_sem]) trivial
    · have c := wmost_fun T 2 (by omega)
      simp only [show tpAll 4 T = (if Web.findE T 2 = 0 then Web.most T 2 else 0) from rfl, show tpErr 4 T = (Web.findE T 2) from rfl, show fvK 4 = (.func (.func 11) [] [.ptr 2 1 0 0]) from rfl] at hN
      generalize (if Web.findE T 2 = 0 then Web.most T 2 else 0) = A at *
      simp [go_sem, b1, b2, b3, d1, d2]
      refine c.callF (by simp [go_sem]) ?_
      rintro _ rfl
      simp [go_sem]
      exact hN _ _ () (by simp [go_sem]) trivial
    · have c := wmost_fun T 3 (by omega)
      simp only [show tpAll 5 T = (if Web.findE T 3 = 0 then Web.most T 3 else 0) from rfl, show tpErr 5 T = (Web.findE T 3) from rfl, show fvK 5 = (.func (.func 11) [] [.ptr 2 1 0 0]) from rfl] at hN
      generalize (if Web.findE T 3 = 0 then Web.most T 3 else 0) = A at *
      simp [go_sem, b1, b2, b3, d1, d2]
      refine c.callF (by simp [go_sem]) ?_
      rintro _ rfl
      simp [go_sem]
      exact hN _ _ () (by simp [go_sem]) trivial
    · have c := d2
      simp only [show tpAll 6 T = (2 * T - 1) from rfl, show tpErr 6 T = (0) from rfl, show fvK 6 = (.func (.func 13) [] []) from rfl] at hN
      simp [go_sem, b1, b2, b3, d1, d2]
      exact hN _ _ () (by simp [go_sem]) trivial
    · have c := most_fun T 1 (by omega)
      simp only [show tpAll 7 T = (mostK T 1) from rfl, show tpErr 7 T = (findE T 1) from rfl, show fvK 7 = (.func (.func 14) [] []) from rfl] at hN
      simp [go_sem, b1, b2, b3, d1, d2]
      refine c.callF (by simp [go_sem]) ?_
      rintro _ rfl
      simp [go_sem]
      exact hN _ _ () (by simp [go_sem]) trivial
  clear e1 e2 w2 w4
  have hno := fun n => @tp_no k T n hk8 hT9
  have hok := fun n => @tp_ok k T n hk8 hT9
  have hM0 : ∀ n, tpM k T n = (if k < 3 then makeM (k + 1) T n else if k < 6 then Web.makeM (k - 2) T n else if k = 6 then cvM (How.makeM T n) else roverM T n) := fun _ => rfl
  have hE0 : ∀ n, tpE k T n = (if k < 3 then makeE (k + 1) T n else if k < 6 then Web.makeE (k - 2) T n else if k = 6 then How.makeE T n else roverE T n) := fun _ => rfl
  obtain ⟨A, hA⟩ : ∃ A, tpAll k T = A := ⟨_, rfl⟩
  obtain ⟨E, hE⟩ : ∃ E, tpErr k T = E := ⟨_, rfl⟩
  simp only [hA, hE] at hno hok ⊢
  refine IWp.seq ?_
  by_cases hE1 : E = 0
  case neg =>
    refine IWp.now ?_
    simp [go_sem, hE1]
    exact hR _ _ _ (.inr ⟨hno 0 (.inl (.inl hE1)), rfl⟩) (by simp [go_sem, sesV, mvZ])
  by_cases hA1 : A < 1
  · refine IWp.now ?_
    simp [go_sem, hE1, hA1]
    exact hR _ _ _ (.inr ⟨hno 0 (.inl (.inr hA1)), rfl⟩) (by simp [go_sem, sesV, mvZ])
  subst hE1
  refine IWp.now ?_
  simp [go_sem, hA1]
  have hn : 1 ≤ 1 + ro % A ∧ 1 + ro % A ≤ A := by
    have := Int.emod_nonneg ro (show A ≠ 0 by omega)
    have := Int.emod_lt_of_pos ro (show 0 < A by omega)
    omega
  have hn3 : ro % A ≤ 255 ∧ 0 ≤ ro % A := by
    have h1 := Int.mul_ediv_add_emod ro A
    have h2 := Int.mul_nonneg (show 0 ≤ A by omega) (Int.ediv_nonneg hro.1 (show 0 ≤ A by omega))
    omega
  obtain ⟨n, hn'⟩ : ∃ n, 1 + ro % A = n := ⟨_, rfl⟩
  rw [hn'] at hn
  have hno2 := hno n
  have hok2 := hok n hn rfl
  have hM1 := hM0 n
  have hE1 := hE0 n
  obtain ⟨M, hM⟩ : ∃ M, tpM k T n = M := ⟨_, rfl⟩
  obtain ⟨e, he⟩ : ∃ e, tpE k T n = e := ⟨_, rfl⟩
  simp only [hM, he] at hno2 hok2 hM1 hE1
  clear hno hok hM0 hE0
  refine IWp.meet (T := Unit) (fun _ => (⟨false, 160, 18, [28, 34, 46, 58, 68, 83, 94, 110, 113, 114, 115, 123, 131, 139, 154], [], [(2, .ptr 0 1 0 0), (4, .ptr 1 1 0 0), (5, .bool false), (9, .int .i64 e), (11, .ptr 3 1 0 0)], []⟩, [.rows 6 [[.int .u8 ki, .int .u8 ta, .int .u8 ro, .int .u8 ou, .int .u8 bo, .int .u16 sw]], .rows 7 [[.int .i64 0, .int .i64 0, .int .i64 0, .int .i64 0, .int .i64 0, .nils, .int .i64 0]], .dead, .rows 6 [[.int .i64 M.tables, .int .i64 M.rounds, .int .i64 M.sets, .int .i64 M.copies, .int .i64 M.winners, .fz 5 (rws M.rows)]]])) (fun _ => True) (fun _ _ => ?_) (fun Q hN _ _ => ?_)
  case refine_2 =>
    have d1 : IntKind.i64.wrap ro = ro := wrap64 (by omega) (by omega)
    have d2 : ro.tmod A = ro % A := tm8 hro.1 A
    have d3 : IntKind.i64.wrap (ro % A) = ro % A := wrap64 (by omega) (by omega)
    have d4 : IntKind.i64.wrap (1 + ro % A) = n := by rw [hn']; exact wrap64 (by omega) (by omega)
    have d5 : ¬ A = 0 := by omega
    refine IWp.now ?_
    by_cases k3 : k < 3
    · have c := mades1 k T n (by omega)
      rw [if_pos k3] at hM1 hE1
      rw [← hM1, ← hE1] at c
      rw [show fvK k = .func (.func 8) [] [.ptr 2 1 0 0] from if_pos k3]
      clear hM1 hM hok2
      obtain ⟨tb, rn, se, co, wi, L⟩ := M
      simp only [Mv.v] at *
      simp [go_sem, d1, d2, d3, d4, d5]
      refine c.at [2] (by simp [go_sem]) ?_
      rintro _ _ ⟨rfl, rfl⟩
      simp [go_sem]
      exact hN _ _ () (by simp [go_sem]) trivial
    rw [if_neg k3] at hM1 hE1
    by_cases k6 : k < 6
    · have c := mades2 k T n (by omega)
      rw [if_pos k6] at hM1 hE1
      rw [← hM1, ← hE1] at c
      rw [show fvK k = .func (.func 11) [] [.ptr 2 1 0 0] from by unfold fvK; rw [if_neg k3, if_pos k6]]
      clear hM1 hM hok2
      obtain ⟨tb, rn, se, co, wi, L⟩ := M
      simp only [Mv.v] at *
      simp [go_sem, d1, d2, d3, d4, d5]
      refine c.at [2] (by simp [go_sem]) ?_
      rintro _ _ ⟨rfl, rfl⟩
      simp [go_sem]
      exact hN _ _ () (by simp [go_sem]) trivial
    rw [if_neg k6] at hM1 hE1
    by_cases k7 : k = 6
    · have c := How.Make_c T n
      rw [if_pos k7] at hM1 hE1
      rw [cvM_v, ← hM1, ← hE1] at c
      rw [show fvK k = .func (.func 13) [] [] from by unfold fvK; rw [if_neg k3, if_neg k6, if_pos k7]]
      clear hM1 hM hok2
      obtain ⟨tb, rn, se, co, wi, L⟩ := M
      simp only [Mv.v] at *
      simp [go_sem, d1, d2, d3, d4, d5]
      refine c.callF (by simp [go_sem]) ?_
      rintro _ rfl
      simp [go_sem]
      exact hN _ _ () (by simp [go_sem]) trivial
    · have c := rover_fun T n
      rw [if_neg k7] at hM1 hE1
      rw [← hM1, ← hE1] at c
      rw [show fvK k = .func (.func 14) [] [] from by unfold fvK; rw [if_neg k3, if_neg k6, if_neg k7]]
      clear hM1 hM hok2
      obtain ⟨tb, rn, se, co, wi, L⟩ := M
      simp only [Mv.v] at *
      simp [go_sem, d1, d2, d3, d4, d5]
      refine c.callF (by simp [go_sem]) ?_
      rintro _ rfl
      simp [go_sem]
      exact hN _ _ () (by simp [go_sem]) trivial
  clear hM1 hE1
  simp only
  refine IWp.seq ?_
  by_cases he0 : e = 0
  case neg =>
    refine IWp.now ?_
    simp [go_sem, he0]
    exact hR _ _ _ (.inr ⟨hno2 (.inr ⟨he0, hn⟩), rfl⟩) (by simp [go_sem, sesV, mvZ])
  subst he0
  obtain ⟨T', N', ok⟩ := hok2 rfl
  have hTop := ok.top
  have hW := fun p => @MdOK.topW M T' N' ok p
  have cp := pairs_fun M (by have := hTop.len; omega)
  have cw := fun p => without_fun M p (by have := hTop.len; omega)
  clear hM he hno2 hok2 ok
  refine IWp.now ?_
  simp [go_sem]
  refine IWp.seqI ?_
  obtain ⟨L0, hL0⟩ : ∃ L0, prs M.rows = L0 := ⟨_, rfl⟩
  have hAl : L0.length ≤ 2 ^ 30 := by have h1 := prs_len M.rows; have := hTop.len; rw [hL0] at h1; omega
  have hAm : ∀ p, p ∈ L0 → woE p M = 0 := fun p hp => by
    rw [← hL0] at hp
    obtain ⟨h1, y, hy, hyp⟩ := prs_mem.1 hp
    have hh : hasP' p M.rows = true := List.any_eq_true.2 ⟨y, hy, by simpa using hyp⟩
    unfold woE
    rw [if_pos ⟨h1, hh⟩]
  rw [hL0] at cp
  have cpv : FN 15 [.agg [.int .i64 M.tables, .int .i64 M.rounds, .int .i64 M.sets, .int .i64 M.copies, .int .i64 M.winners, .fz 5 (rws M.rows)]] (fun v => v = .fz 1 (ints L0)) := cp
  simp [go_sem]
  refine cpv.callF (by simp [go_sem]) ?_
  rintro _ rfl
  simp [go_sem]
  refine IWp.meet (T := Mv) (fun M => (⟨false, 160, 18, [28, 34, 46, 58, 68, 83, 94, 110, 113, 114, 115, 123, 131, 139, 154], [], [(2, .ptr 0 1 0 0), (4, .ptr 1 1 0 0), (5, .bool false), (11, .ptr 3 1 0 0)], []⟩, [.rows 6 [[.int .u8 ki, .int .u8 ta, .int .u8 ro, .int .u8 ou, .int .u8 bo, .int .u16 sw]], .rows 7 [[.int .i64 0, .int .i64 0, .int .i64 0, .int .i64 0, .int .i64 0, .nils, .int .i64 0]], .dead, .rows 6 [[.int .i64 M.tables, .int .i64 M.rounds, .int .i64 M.sets, .int .i64 M.copies, .int .i64 M.winners, .fz 5 (rws M.rows)]]])) TopM (fun M hTop => ?_) (fun Q hN _ _ => ?_)
  case refine_2 =>
    by_cases h : 0 < ou ∧ 0 < L0.length
    · obtain ⟨ho, hl⟩ := h
      have hlI : (0 : Int) < L0.length := by omega
      have d1 : IntKind.i64.wrap ou = ou := wrap64 (by omega) (by omega)
      have d2 : ou.tmod L0.length = ou % L0.length := tm8 hou.1 _
      have d5 : ¬ (L0.length : Int) = 0 := by omega
      have m1 := Int.emod_nonneg ou d5
      have m2 := Int.emod_lt_of_pos ou hlI
      obtain ⟨i, hi⟩ : ∃ i : Nat, ou % (L0.length : Int) = i := ⟨(ou % (L0.length : Int)).toNat, by omega⟩
      rw [hi] at d2 m2
      have hil : i < L0.length := by omega
      have d3 : IntKind.i64.wrap (i : Int) = i := wrap64 (by omega) (by omega)
      have hp := hAm _ (List.getElem_mem hil)
      obtain ⟨p, hpe⟩ : ∃ p, L0[i] = p := ⟨_, rfl⟩
      rw [hpe] at hp
      have hT2 := hW p hp
      have cwp := cw p
      rw [hp] at cwp
      have hN2 := fun e σ => hN e σ (woM p M)
      generalize woM p M = M2 at *
      have cwv : FN 16 [.agg [.int .i64 M.tables, .int .i64 M.rounds, .int .i64 M.sets, .int .i64 M.copies, .int .i64 M.winners, .fz 5 (rws M.rows)], .int .i64 p] (fun v => v = .tup [.agg [.int .i64 M2.tables, .int .i64 M2.rounds, .int .i64 M2.sets, .int .i64 M2.copies, .int .i64 M2.winners, .fz 5 (rws M2.rows)], .int .i64 0]) := cwp
      have hne : ¬ L0 = [] := fun e => by rw [e] at hl; exact absurd hl (by simp)
      refine IWp.seqI ?_
      simp [go_sem, ho, hl, hlI]
      refine IWp.now ?_
      simp [go_sem]
      refine Drawn.intro (fun q => if q = 10 then .tup [.agg [.int .i64 M2.tables, .int .i64 M2.rounds, .int .i64 M2.sets, .int .i64 M2.copies, .int .i64 M2.winners, .fz 5 (rws M2.rows)], .int .i64 0] else .tup []) ?_
      simp [go_sem, cwv, d1, d2, d3, d5, hne, hil, hpe]
      exact ⟨by decide +kernel, hN2 _ _ (by simp [go_sem]) hT2⟩
    · refine IWp.seqI ?_
      by_cases ho : 0 < ou
      · have hl0 : L0 = [] := List.length_eq_zero_iff.1 (by omega)
        subst hl0
        simp [go_sem, ho]
        refine IWp.now ?_
        simp [go_sem]
        exact hN _ _ M (by simp [go_sem]) hTop
      · simp [go_sem, ho]
        refine IWp.now ?_
        simp [go_sem]
        exact hN _ _ M (by simp [go_sem]) hTop
  simp only
  refine IWp.seqI ?_
  simp [go_sem]
  refine IWp.ownNilS 1 13 (by decide) rfl ?_
  simp [go_sem]
  refine IWp.seq ?_
  refine IWp.seqI ?_
  simp [go_sem]
  refine IWp.block ?_
  have hfr := hTop.frame
  obtain ⟨f1, f2, f3, f4, f5, f6, f7, f8, f9⟩ := hfr
  obtain ⟨N, hN⟩ : ∃ N : Nat, M.rounds = N := ⟨M.rounds.toNat, by omega⟩
  refine IWp.loopI (α := Nat × List Int) (fun p => (⟨false, 160, 18, [28, 34, 46, 58, 68, 83, 94, 110, 113, 114, 115, 123, 131, 139, 154], [], [(2, .ptr 0 1 0 0), (4, .ptr 1 1 0 0), (5, .bool false), (11, .ptr 3 1 0 0), (13, .sl 4 p.2.length 0 p.2.length none), (113, .int .i64 M.rounds), (114, .int .i64 (p.1 : Int))], []⟩, [.rows 6 [[.int .u8 ki, .int .u8 ta, .int .u8 ro, .int .u8 ou, .int .u8 bo, .int .u16 sw]], .rows 7 [[.int .i64 0, .int .i64 0, .int .i64 0, .int .i64 0, .int .i64 0, .nils, .int .i64 0]], .dead, .rows 6 [[.int .i64 M.tables, .int .i64 M.rounds, .int .i64 M.sets, .int .i64 M.copies, .int .i64 M.winners, .fz 5 (rws M.rows)]], .rows 1 (ints p.2)]))
    (fun p => (p.1 ≤ N ∧ p.2.length ≤ p.1) ∧ Inc p.2 ∧ ∀ x ∈ p.2, 0 ≤ x ∧ x < p.1) (fun p => N - p.1) (0, []) ⟨by simp, List.Pairwise.nil, by simp⟩ (by simp [go_sem]) ?_
  rintro ⟨i, l⟩ ⟨⟨hi, hll⟩, hinc, hrg⟩
  simp only at hi hll hinc hrg
  refine IWp.shut fun Q hQ => ?_
  refine IWp.seqI ?_
  simp [go_sem]
  refine IWp.seq ?_
  by_cases h : i < N
  · have v1 : IntKind.i64.wrap ((i : Int) + 1) = ((i + 1 : Nat) : Int) := by rw [wrap64 (by omega) (by omega)]; omega
    have hlt : (i : Int) < M.rounds := by omega
    obtain ⟨c, hc⟩ : ∃ c : Nat, i % 16 = c := ⟨_, rfl⟩
    have hc16 : c < 16 := by omega
    have hcI : (i : Int).tmod 16 = c := by rw [tm8 (by omega)]; omega
    have d3 : IntKind.i64.wrap (c : Int) = c := wrap64 (by omega) (by omega)
    refine IWp.now ?_
    simp [go_sem, hlt]
    refine IWp.seq ?_
    refine IWp.block ?_
    refine IWp.seqI ?_
    simp [go_sem]
    refine IWp.seqI ?_
    simp [go_sem, hcI, d3]
    generalize (bitsOf _ IntKind.u16 (sw.fdiv (2 ^ min c 16)) 1 == 1) = bb
    subst hQ
    cases bb with
    | false =>
      refine IWp.now ?_
      simp [go_sem]
      refine IWp.now ?_
      simp [go_sem]
      exact ⟨i + 1, l, ⟨⟨rfl, v1⟩, rfl⟩, ⟨⟨by omega, by omega⟩, hinc, fun x hx => by have := hrg x hx; omega⟩, by omega⟩
    | true =>
      have g1 := ints_snoc (l := l) (x := (i : Int))
      have hinc2 : Inc (l ++ [(i : Int)]) := by
        refine List.pairwise_append.2 ⟨hinc, List.pairwise_singleton _ _, fun a ha b hb => ?_⟩
        have hb' := List.mem_singleton.1 hb
        have := hrg a ha
        omega
      have hrg2 : ∀ x ∈ l ++ [(i : Int)], 0 ≤ x ∧ x < ((i + 1 : Nat) : Int) := fun x hx => by
        rcases List.mem_append.1 hx with hx | hx
        · have := hrg x hx; omega
        · have hb' := List.mem_singleton.1 hx; omega
      refine IWp.now ?_
      simp [go_sem]
      refine ⟨by omega, ?_⟩
      refine IWp.now ?_
      simp [go_sem]
      exact ⟨i + 1, l ++ [(i : Int)], ⟨⟨by rw [List.length_append]; rfl, v1⟩, g1⟩, ⟨⟨by omega, by rw [List.length_append]; show l.length + 1 ≤ i + 1; omega⟩, hinc2, hrg2⟩, by omega⟩
  · obtain rfl : i = N := by omega
    subst hQ
    refine IWp.now ?_
    simp [go_sem, hN]
    refine IWp.freeze 4 1 (ints l) [(2, .ptr 0 1 0 0), (4, .ptr 1 1 0 0), (5, .bool false), (11, .ptr 3 1 0 0), (13, .fz 1 (ints l)), (113, .int .i64 (i : Int)), (114, .int .i64 (i : Int)), (115, .bool false)] [.rows 6 [[.int .u8 ki, .int .u8 ta, .int .u8 ro, .int .u8 ou, .int .u8 bo, .int .u16 sw]], .rows 7 [[.int .i64 0, .int .i64 0, .int .i64 0, .int .i64 0, .int .i64 0, .nils, .int .i64 0]], .dead, .rows 6 [[.int .i64 M.tables, .int .i64 i, .int .i64 M.sets, .int .i64 M.copies, .int .i64 M.winners, .fz 5 (rws M.rows)]], .dead] (by simp) (by simp [go_sem]) (by simp [go_sem]; exact (List.take_of_length_le (by simp)).symm) (by simp [go_sem]) ?_
    refine IWp.meet (T := Mv) (fun M => (⟨false, 160, 18, [28, 34, 46, 58, 68, 83, 94, 110, 113, 114, 115, 123, 131, 139, 154], [], [(2, .ptr 0 1 0 0), (4, .ptr 1 1 0 0), (5, .bool false), (11, .ptr 3 1 0 0)], []⟩, [.rows 6 [[.int .u8 ki, .int .u8 ta, .int .u8 ro, .int .u8 ou, .int .u8 bo, .int .u16 sw]], .rows 7 [[.int .i64 0, .int .i64 0, .int .i64 0, .int .i64 0, .int .i64 0, .nils, .int .i64 0]], .dead, .rows 6 [[.int .i64 M.tables, .int .i64 M.rounds, .int .i64 M.sets, .int .i64 M.copies, .int .i64 M.winners, .fz 5 (rws M.rows)]], .dead])) TopM (fun M2 hTop2 => ?_) (fun Q hN2 _ _ => ?_)
    case refine_2 =>
      by_cases h0 : l = []
      · subst h0
        refine IWp.now ?_
        simp [go_sem]
        exact hN2 _ _ M (by simp [go_sem, hN]) hTop
      · have hl0 : 0 < l.length := List.length_pos_iff.2 h0
        have hTs := hTop.sw l
        have hb := fit_fun M (by omega) (by omega) f9 (fun x hx => by have := hTop.fair.rng x hx; omega)
        have ct := turn_fun M l (by omega) hinc (fun x hx => by have := hrg x hx; omega) (by have := hTop.len; omega) hb
        generalize swM l M = M2 at *
        have ctv : ON 17 [.agg [.int .i64 M.tables, .int .i64 i, .int .i64 M.sets, .int .i64 M.copies, .int .i64 M.winners, .fz 5 (rws M.rows)], .fz 1 (ints l)] (fun v => ∃ b : Bool, v = .tup [(if b = true then M2 else mvZ).v, .int .i64 (if b = true then 0 else 290)]) := by rw [← hN]; exact ct
        refine IWp.now ?_
        simp [go_sem, hl0]
        refine ctv.callM (by simp [go_sem]) ?_
        rintro _ ⟨b, rfl⟩
        cases b with
        | false =>
          simp [go_sem, Mv.v, mvZ]
          exact hN2 _ _ M (by simp [go_sem, hN]) hTop
        | true =>
          simp [go_sem, Mv.v]
          exact hN2 _ _ M2 (by simp [go_sem]) hTs
    simp only
    clear hTop hN hinc hrg hll h hi f1 f2 f3 f4 f5 f6 f7 f8 f9 cp cpv cw hAm hAl hL0 hW
    obtain ⟨f1, f2, f3, f4, f5, f6, f7, f8, f9⟩ := hTop2.frame
    have f6b := hTop2.sets
    have d1 : IntKind.i64.wrap bo = bo := wrap64 (by omega) (by omega)
    have d2 : bo.tmod 3 = bo % 3 := tm8 hbo.1 3
    have d3 : IntKind.i64.wrap (bo % 3) = bo % 3 := wrap64 (by omega) (by omega)
    obtain ⟨B, hB⟩ : ∃ B, 1 + bo % 3 = B := ⟨_, rfl⟩
    have d4 : IntKind.i64.wrap (1 + bo % 3) = B := by rw [hB]; exact wrap64 (by omega) (by omega)
    have d5 : IntKind.i64.wrap 3 = 3 := by decide
    have hB3 : 1 ≤ B ∧ B ≤ 3 := by omega
    refine IWp.seqI ?_
    simp [go_sem, d1, d2, d3, d4, d5]
    refine IWp.seq ?_
    refine IWp.block ?_
    refine IWp.loopT (α := Int) (fun B => (⟨false, 160, 18, [28, 34, 46, 58, 68, 83, 94, 110, 113, 114, 115, 123, 131, 139, 154], [], [(4, .ptr 1 1 0 0), (5, .bool false), (11, .ptr 3 1 0 0), (17, .int .i64 B)], []⟩, [.rows 6 [[.int .u8 ki, .int .u8 ta, .int .u8 ro, .int .u8 ou, .int .u8 bo, .int .u16 sw]], .rows 7 [[.int .i64 0, .int .i64 0, .int .i64 0, .int .i64 0, .int .i64 0, .nils, .int .i64 0]], .dead, .rows 6 [[.int .i64 M2.tables, .int .i64 M2.rounds, .int .i64 M2.sets, .int .i64 M2.copies, .int .i64 M2.winners, .fz 5 (rws M2.rows)]], .dead]))
      (fun B => 1 ≤ B ∧ B ≤ 3) (fun B => B.toNat) B hB3 (by simp [go_sem]) ?_
    intro B hB
    have q1 : IntKind.i64.wrap (B * M2.sets) = B * M2.sets := by
      have h1 := Int.mul_le_mul hB.2 f6b (by omega) (by omega)
      have h2 := Int.mul_nonneg (show 0 ≤ B by omega) (show 0 ≤ M2.sets by omega)
      exact wrap64 (by omega) (by omega)
    have q2 : IntKind.i64.wrap (B - 1) = B - 1 := wrap64 (by omega) (by omega)
    by_cases hb1 : 1 < B
    · by_cases hb2 : 128 < B * M2.sets
      · simp [go_sem, hb1, q1, q2, hb2]
        omega
      · simp [go_sem, hb1, q1, hb2]
        refine IWp.now ?_
        simp [go_sem]
        exact hR _ _ _ (.inl ⟨M2, B, hTop2, by omega, by omega, by omega, rfl⟩) (by simp [go_sem, sesV])
    · obtain rfl : B = 1 := by omega
      simp [go_sem]
      refine IWp.now ?_
      simp [go_sem]
      exact hR _ _ _ (.inl ⟨M2, 1, hTop2, by omega, by omega, by omega, rfl⟩) (by simp [go_sem, sesV])
end Go.Idl
