/-
  Chapter 28: awake, CheckTells.
-/
import Derived.Test.YtdnkleclccjffaaC28PartW
import Derived.Test.YtdnkleclccjffaaC28PartD
import Derived.Test.YtdnkleclccjffaaC28PartE
namespace Go.Idl
set_option linter.all false
open Go.Proofs
set_option maxHeartbeats 16000000
set_option maxRecDepth 40000

theorem equalFlts_fun (a b : List Flt) (ha : a.length ≤ 2 ^ 62) : FN 43 [.fz 4 (flts a), .fz 4 (flts b)] (fun v => v = .bool (decide (a = b))) := by
  refine IFun.of_bodyZ false 6 [10, 12, 13, 14, 24] Try.func43 rfl Try.call43 rfl fun R hR => ?_
  by_cases hlen : a.length = b.length
  case neg =>
    have hI : ¬ (a.length : Int) = b.length := by omega
    have e : ¬ a = b := fun e => hlen (by rw [e])
    simp [go_sem, hlen, hI]
    exact hR _ _ _ rfl (by simp [go_sem, e])
  simp [go_sem, hlen]
  refine IWp.loopT (α := Nat) (fun i => (⟨false, 26, 6, [10, 12, 13, 14, 24], [], [(0, .fz 4 (flts a)), (1, .fz 4 (flts b)), (12, .int .i64 b.length), (13, .int .i64 (i : Int))], []⟩, []))
    (fun i => i ≤ a.length ∧ a.take i = b.take i) (fun i => a.length - i) 0 (by simp) (by simp [go_sem]) ?_
  rintro i ⟨hi, he⟩
  by_cases h : i < a.length
  · have h' : i < b.length := by omega
    have w1 : IntKind.i64.wrap ((i : Int) + 1) = i + 1 := wrap64 (by omega) (by omega)
    have hx : (a[i] = b[i]) ↔ (a[i].k = b[i].k ∧ a[i].row = b[i].row ∧ a[i].p = b[i].p ∧ a[i].o = b[i].o) := by
      cases a[i]; cases b[i]; simp
    by_cases hxy : a[i] = b[i]
    · simp [go_sem, h, h', hxy, w1]
      exact ⟨by decide +kernel, i + 1, by omega, ⟨by omega, by rw [List.take_succ_eq_append_getElem h, List.take_succ_eq_append_getElem h', he, hxy]⟩, by omega⟩
    · have e : ¬ a = b := fun e => hxy (by subst e; rfl)
      have hc : (a[i].k == b[i].k && (a[i].row == b[i].row && (a[i].p == b[i].p && a[i].o == b[i].o))) = false := by
        rw [← Bool.not_eq_true]; intro hh; apply hxy; rw [hx]; simpa using hh
      simp [go_sem, h, h', hc]
      exact ⟨by decide +kernel, hR _ _ _ rfl (by simp [go_sem, e])⟩
  · have e : a = b := by
      rw [List.take_of_length_le (by omega), List.take_of_length_le (by omega)] at he
      exact he
    have h' : ¬ i < b.length := by omega
    simp [go_sem, h, h']
    exact hR _ _ _ rfl (by simp [go_sem, e])
def L9 : List Rw := [⟨0, 0, 1, 4, 0⟩, ⟨0, 1, 2, 5, 1⟩, ⟨0, 2, 3, 6, 2⟩, ⟨1, 0, 1, 6, 1⟩, ⟨1, 1, 2, 4, 2⟩, ⟨1, 2, 3, 5, 0⟩, ⟨2, 0, 1, 5, 2⟩, ⟨2, 1, 2, 6, 0⟩, ⟨2, 2, 3, 4, 1⟩]
def L9b : List Rw := [⟨0, 0, 1, 4, 0⟩, ⟨0, 1, 2, 5, 1⟩, ⟨0, 2, 3, 5, 2⟩, ⟨1, 0, 1, 6, 1⟩, ⟨1, 1, 2, 4, 2⟩, ⟨1, 2, 3, 5, 0⟩, ⟨2, 0, 1, 5, 2⟩, ⟨2, 1, 2, 6, 0⟩, ⟨2, 2, 3, 4, 1⟩]
def M9 : Mv := ⟨3, 3, 3, 1, 2, L9⟩
def M9b : Mv := ⟨3, 3, 3, 1, 2, L9b⟩
def M10 : Mv := ⟨3, 3, 3, 1, 2, L9b ++ [⟨0, 0, 1, 4, 0⟩]⟩
theorem aw_make : makeM 1 3 3 = M9 ∧ makeE 1 3 3 = 0 := by decide +kernel
theorem aw_pass : passB M9 1 = true ∧ errF M9 1 = 0 ∧ meetsN L9 1 4 = 1 ∧ playsL L9 4 = [0, 2, 1] := by decide +kernel
theorem aw_ses : sesE M9 2 = 0 ∧ setR M9 2 3 = (1, 0) ∧ setR M9 2 7 = (0, 6) ∧ brdR M9 2 2 = (5, 6, 0) := by decide +kernel
theorem aw_flt : faultsOf M9b 1 = [⟨3, 2, 5, 1⟩, ⟨6, 5, 3, 5⟩, ⟨5, 6, 5, 2⟩] ∧ errF M9b 1 = 0 ∧ errF M10 1 = 280 := by decide +kernel
theorem awake_fun : FN 12 [] (fun v => v = .bool true) := by
  refine IFun.of_bodyZ false 12 [23, 46, 89] Try.func12 rfl Try.call12 rfl fun R hR => ?_
  simp [go_sem]
  refine (make_fun 3 3 1 (by omega)).callOF (by simp [go_sem]) ?_
  rintro _ rfl
  rw [aw_make.1, aw_make.2]
  refine ⟨fun v => .tup ([] ++ .agg ([.int .i64 3, .int .i64 3, .int .i64 3, .int .i64 1, .int .i64 2] ++ v :: []) :: [.int .i64 0]), 5, rws L9, .tup [] [.int .i64 0] _ (by simp) (by simp [scal]) (.agg [.int .i64 3, .int .i64 3, .int .i64 3, .int .i64 1, .int .i64 2] [] _ (by simp [scal]) (by simp) .here), by decide, rfl, by simp [go_sem], ?_⟩
  have l9 : L9.length = 9 := rfl
  simp [go_sem, l9]
  refine (passes_fun M9 1).callF (by simp [go_sem, Mv.v, M9, l9]) ?_
  rintro _ rfl
  rw [aw_pass.1, aw_pass.2.1]
  simp [go_sem]
  refine (meets_fun M9 1 4 (by decide)).callF (by simp [go_sem, Mv.v, M9, l9]) ?_
  rintro _ rfl
  rw [show M9.rows = L9 from rfl, aw_pass.2.2.1]
  simp [go_sem]
  refine (plays_fun M9 4 (by decide)).callF (by simp [go_sem, Mv.v, M9, l9]) ?_
  rintro _ rfl
  rw [show M9.rows = L9 from rfl, aw_pass.2.2.2]
  simp [go_sem]
  refine (equalInts_fun [0, 2, 1] [0, 2, 1] (by decide)).callF (by simp [go_sem, ints_cons]) ?_
  rintro _ rfl
  simp [go_sem]
  refine (set_fun28 M9 2 3 (by omega)).callF (by simp [go_sem, sesV, M9, l9]) ?_
  rintro _ rfl
  rw [aw_ses.2.1]
  simp [go_sem]
  refine (boards_fun28 M9 2 2).callF (by simp [go_sem, sesV, M9, l9]) ?_
  rintro _ rfl
  rw [aw_ses.2.2.2]
  simp [go_sem]
  refine (set_fun28 M9 2 7 (by omega)).callF (by simp [go_sem, sesV, M9, l9]) ?_
  rintro _ rfl
  rw [aw_ses.2.2.1]
  simp [go_sem]
  refine (session_fun M9 2).callF (by simp [go_sem, sesV, M9, l9]) ?_
  rintro _ rfl
  rw [aw_ses.1]
  have w0 : IntKind.i64.wrap 0 = 0 := wrap64 (by omega) (by omega)
  have hset : (rws L9).set 2 [.int .i64 (L9[2]'(by decide)).r, .int .i64 (L9[2]'(by decide)).t, .int .i64 (L9[2]'(by decide)).ns, .int .i64 5, .int .i64 (L9[2]'(by decide)).s] = rws L9b := rfl
  simp [go_sem, l9, w0]
  rw [hset]
  have l9b : L9b.length = 9 := rfl
  have l10 : (rws (L9b ++ [⟨0, 0, 1, 4, 0⟩])).length = 10 := by simp [l9b]
  have r10 : rws L9b ++ [[.int .i64 0, .int .i64 0, .int .i64 1, .int .i64 4, .int .i64 0]] = rws (L9b ++ [⟨0, 0, 1, 4, 0⟩]) := (rws_snoc (l := L9b) (x := ⟨0, 0, 1, 4, 0⟩)).symm
  have h0 : L9b[0]'(by decide) = ⟨0, 0, 1, 4, 0⟩ := rfl
  refine (faults_c M9b 1).callF (by simp [go_sem, Mv.v, M9b, l9b]) ?_
  rintro _ rfl
  rw [aw_flt.1, aw_flt.2.1]
  simp [go_sem, l9b, h0, r10]
  refine ⟨by decide +kernel, ?_⟩
  refine (faults_c M10 1).callF (by simp [go_sem, Mv.v, M10, l10]) ?_
  rintro _ rfl
  rw [aw_flt.2.2]
  simp [go_sem]
  refine (equalFlts_fun [⟨3, 2, 5, 1⟩, ⟨6, 5, 3, 5⟩, ⟨5, 6, 5, 2⟩] [⟨3, 2, 5, 1⟩, ⟨6, 5, 3, 5⟩, ⟨5, 6, 5, 2⟩] (by decide)).callF (by simp [go_sem, flts_cons]) ?_
  rintro _ rfl
  simp [go_sem]
  exact hR _ _ _ rfl (by simp [go_sem])
theorem checkTells_fun (m : Mv) (bo lim a b : Int) (hb : -2 ^ 63 ≤ b ∧ b < 2 ^ 63) : FN 3 [sesV m bo, .int .i64 lim, .int .i64 a, .int .i64 b] (fun v => v = .bool true) := by
  refine IFun.of_bodyZ false 9 [] Try.func3 rfl Try.call3 rfl fun R hR => ?_
  by_cases hl : 200 < m.rows.length
  · have hl' : (200 : Int) < m.rows.length := by omega
    simp [go_sem, sesV, hl']
    refine awake_fun.callF (by simp [go_sem]) ?_
    rintro _ rfl
    simp [go_sem]
    exact hR _ _ _ rfl (by simp [go_sem])
  · have hl' : ¬ (200 : Int) < m.rows.length := by omega
    simp [go_sem, sesV, hl']
    refine (tells_fun m bo lim a b (by omega) hb).callF (by simp [go_sem, sesV]) ?_
    rintro _ rfl
    simp [go_sem]
    refine awake_fun.callF (by simp [go_sem]) ?_
    rintro _ rfl
    simp [go_sem]
    exact hR _ _ _ rfl (by simp [go_sem])
end Go.Idl
