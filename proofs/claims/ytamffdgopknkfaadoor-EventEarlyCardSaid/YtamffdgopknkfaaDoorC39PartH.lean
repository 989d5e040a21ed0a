/-
  Pairing: the reference: Draw.
-/
import Derived.Test.YtamffdgopknkfaaDoorC39PartG
namespace Go.Idl
set_option linter.all false
open Go.Proofs
set_option maxHeartbeats 8000000
set_option maxRecDepth 40000

def restZ (teams : List Int) (i k : Nat) : List Int := ((List.range k).filter fun j => !(decide (j = i))).map fun j => teams.getD j 0
theorem restZ_succ (teams : List Int) (i k : Nat) : restZ teams i (k + 1) = restZ teams i k ++ (if k ≠ i then [teams.getD k 0] else []) := by
  unfold restZ
  rw [List.range_succ, List.filter_append, List.map_append]
  congr 1
  by_cases h : k = i
  · rw [if_neg (by simpa using h)]; simp [h]
  · rw [if_pos h]; simp [h]
theorem restZ_le (teams : List Int) (i : Nat) : ∀ k, k ≤ i → k ≤ teams.length → restZ teams i k = teams.take k
  | 0, _, _ => by simp [restZ]
  | k + 1, h, hk => by
    rw [restZ_succ, restZ_le teams i k (by omega) (by omega), if_pos (by omega), List.take_succ_eq_append_getElem (by omega)]
    simp [show k < teams.length by omega]
theorem restZ_gt (teams : List Int) (i : Nat) (hil : i < teams.length) : ∀ k, i + 1 + k ≤ teams.length → restZ teams i (i + 1 + k) = teams.take i ++ (teams.drop (i + 1)).take k
  | 0, _ => by
    rw [Nat.add_zero, restZ_succ, if_neg (by simp), List.append_nil, restZ_le teams i i (Nat.le_refl _) (by omega)]; simp
  | k + 1, h => by
    rw [← Nat.add_assoc, restZ_succ, restZ_gt teams i hil k (by omega), if_pos (by omega), List.append_assoc]
    congr 1
    rw [List.take_succ_eq_append_getElem (by simp; omega)]
    simp [show i + 1 + k < teams.length by omega]
theorem restZ_all (teams : List Int) (i : Nat) (hil : i < teams.length) : restZ teams i teams.length = teams.eraseIdx i := by
  have := restZ_gt teams i hil (teams.length - (i + 1)) (by omega)
  rw [show i + 1 + (teams.length - (i + 1)) = teams.length by omega] at this
  have h1 : (teams.drop (i + 1)).take (teams.length - (i + 1)) = teams.drop (i + 1) := List.take_of_length_le (by rw [List.length_drop]; exact Nat.le_refl _)
  rw [this, h1, List.eraseIdx_eq_take_drop_succ]

/-- The draw of an odd number of teams: who has a bye, from the i-th down. -/
def byeGo (teams : List Int) (met : List (Int × Int)) (byes : List Int) : Nat → List (Int × Int) × Int × Int
  | 0 => ([], 0, 6)
  | i + 1 => if teams.getD i 0 ∈ byes then byeGo teams met byes i else if fstB met (teams.eraseIdx i) = true then (fstD met (teams.eraseIdx i), teams.getD i 0, 0) else byeGo teams met byes i
def drawR (teams : List Int) (met : List (Int × Int)) (byes : List Int) : List (Int × Int) × Int × Int :=
  if errN teams met true ≠ 0 then ([], 0, errN teams met true) else
  if teams.length % 2 = 0 then (if fstB met teams = true then (fstD met teams, 0, 0) else ([], 0, 6)) else byeGo teams met byes teams.length
def drawV (r : List (Int × Int) × Int × Int) : IV := .tup [.fz 2 (prs r.1), .int .i64 r.2.1, .int .i64 r.2.2]

theorem refFirst_c (teams : List Int) (met : List (Int × Int)) (hm : met.length ≤ 2 ^ 32) (h : teams.length ≤ 16) : FN 114 [.fz 1 (ints teams), .fz 2 (prs met)] (fun v => v = .tup [.fz 2 (prs (fstD met teams)), .bool (fstB met teams)]) := refFirst_fun met hm teams.length teams (Nat.le_refl _) h

theorem fst_C (b : Bool) : Cx fun v => .tup [v, .bool b] := .tup [] [.bool b] (fun v => v) (by simp) (by simp [scal]) .here

theorem refDraw_fun (teams : List Int) (met : List (Int × Int)) (byes : List Int) (hl : teams.length ≤ 2 ^ 32) (hm : met.length ≤ 2 ^ 32) (hb : byes.length ≤ 2 ^ 32) : FN 91 [.fz 1 (ints teams), .fz 2 (prs met), .fz 1 (ints byes)] (fun v => v = drawV (drawR teams met byes)) := by
  refine IFun.of_bodyZ false 19 [23, 28, 36, 42, 48, 66, 71, 79, 86] Tryd.func91 rfl Tryd.call91 rfl fun R hR => ?_
  have fin : ∀ (r : IV) (σ : Heap) (q : List (Int × Int) × Int × Int), drawR teams met byes = q → frzOK false 4 σ r ∧ nz 4 (frzV 4 σ r) (drawV q) → R r σ := fun r σ q e h => hR r σ _ rfl (by rw [e]; exact h)
  simp [go_sem]
  refine (wrong_fun teams met true hl hm).callF (by simp [go_sem]) ?_
  rintro _ rfl
  by_cases he : errN teams met true = 0
  case neg =>
    simp [go_sem, he]
    exact fin _ _ _ (by unfold drawR; rw [if_pos he]) (by simp [go_sem, drawV])
  obtain ⟨_, hn, _⟩ := errN_zero he
  simp [go_sem, he]
  by_cases hp : teams.length % 2 = 0
  · have hp' : (teams.length : Int).tmod 2 = 0 := by rw [Int.tmod_eq_emod_of_nonneg (by omega)]; omega
    simp [go_sem, hp']
    refine (refFirst_c teams met hm hn).callOF (by simp [go_sem]) ?_
    rintro _ rfl
    refine ⟨_, 2, prs (fstD met teams), fst_C (fstB met teams), by decide, rfl, by simp [go_sem], ?_⟩
    cases hf : fstB met teams with
    | true =>
      simp [go_sem]
      exact fin _ _ (fstD met teams, 0, 0) (by unfold drawR; rw [if_neg (by simp [he]), if_pos hp, if_pos hf]) (by simp [go_sem, drawV])
    | false =>
      simp [go_sem]
      exact fin _ _ ([], 0, 6) (by unfold drawR; rw [if_neg (by simp [he]), if_pos hp, if_neg (by simp [hf])]) (by simp [go_sem, drawV])
  have hp' : ¬ (teams.length : Int).tmod 2 = 0 := by rw [Int.tmod_eq_emod_of_nonneg (by omega)]; omega
  have hres : drawR teams met byes = byeGo teams met byes teams.length := by unfold drawR; rw [if_neg (by simp [he]), if_neg hp]
  have w0 : IntKind.i64.wrap ((teams.length : Int) - 1) = (teams.length : Int) - 1 := wrap64 (by omega) (by omega)
  simp [go_sem, hp', w0]
  refine IWp.loopT (α := Nat) (fun i => (⟨false, 92, 19, [23, 28, 36, 42, 48, 66, 71, 79, 86], glT, [(0, .fz 1 (ints teams)), (1, .fz 2 (prs met)), (2, .fz 1 (ints byes)), (12, .int .i64 ((i : Int) - 1))], []⟩, []))
    (fun i => i ≤ teams.length ∧ byeGo teams met byes teams.length = byeGo teams met byes i) (fun i => i) teams.length ⟨Nat.le_refl _, rfl⟩ (by simp [go_sem]) ?_
  rintro i ⟨hi, hgo⟩
  cases i with
  | zero =>
    simp [go_sem]
    exact fin _ _ ([], 0, 6) (by rw [hres, hgo]; rfl) (by simp [go_sem, drawV])
  | succ i =>
    have hil : i < teams.length := by omega
    have hti : teams.getD i 0 = teams[i] := by simp [hil]
    have ei : ((i + 1 : Nat) : Int) - 1 = i := by omega
    rw [ei]
    rw [byeGo, hti] at hgo
    have hge : (i : Int) ≥ 0 := by omega
    have w1 : IntKind.i64.wrap ((i : Int) - 1) = (i : Int) - 1 := wrap64 (by omega) (by omega)
    simp [go_sem]
    refine IWp.loopT (α := Nat) (fun k => (⟨false, 92, 19, [23, 28, 36, 42, 48, 66, 71, 79, 86], glT, [(0, .fz 1 (ints teams)), (1, .fz 2 (prs met)), (2, .fz 1 (ints byes)), (12, .int .i64 (i : Int)), (13, .bool (decide (teams[i] ∈ byes.take k))), (14, .int .i64 (k : Int))], []⟩, []))
      (fun k => k ≤ byes.length) (fun k => byes.length - k) 0 (by omega) (by simp [go_sem]) ?_
    intro k hk
    by_cases hkb : k < byes.length
    · have w2 : IntKind.i64.wrap ((k : Int) + 1) = k + 1 := wrap64 (by omega) (by omega)
      have hsn : byes.take (k + 1) = byes.take k ++ [byes[k]] := List.take_succ_eq_append_getElem hkb
      have hdec : decide (teams[i] ∈ byes.take (k + 1)) = (decide (teams[i] ∈ byes.take k) || (byes[k] == teams[i])) := by
        have hmem : teams[i] ∈ byes.take (k + 1) ↔ (teams[i] ∈ byes.take k ∨ byes[k] = teams[i]) := by
          rw [hsn, List.mem_append, List.mem_singleton]
          exact ⟨fun h => h.imp_right Eq.symm, fun h => h.imp_right Eq.symm⟩
        rw [decide_eq_decide.2 hmem, Bool.decide_or]; rfl
      cases hh : decide (teams[i] ∈ byes.take k) with
      | true =>
        rw [hh, Bool.true_or] at hdec
        simp [go_sem, hkb, hil, w2]
        exact ⟨by decide +kernel, k + 1, ⟨of_decide_eq_true hdec, by omega⟩, by omega, by omega⟩
      | false =>
        rw [hh, Bool.false_or] at hdec
        simp [go_sem, hkb, hil, w2]
        exact ⟨by decide +kernel, k + 1, ⟨hdec.symm, by omega⟩, by omega, by omega⟩
    · have hkl : k = byes.length := by omega
      subst hkl
      rw [List.take_length]
      simp [go_sem]
      refine IWp.ownNilS 1 15 (by decide) (by simp [go_sem]) ?_
      simp only [go_sem]
      refine IWp.loopT (α := Nat) (fun k => (⟨false, 92, 19, [23, 28, 36, 42, 48, 66, 71, 79, 86], glT, [(0, .fz 1 (ints teams)), (1, .fz 2 (prs met)), (2, .fz 1 (ints byes)), (12, .int .i64 (i : Int)), (13, .bool (decide (teams[i] ∈ byes))), (15, .sl 0 (restZ teams i k).length 0 (restZ teams i k).length none), (16, .int .i64 (k : Int))], []⟩, [.rows 1 (ints (restZ teams i k))]))
        (fun k => k ≤ teams.length) (fun k => teams.length - k) 0 (by omega) (by simp [go_sem, restZ]) ?_
      intro k hk
      have hrs := restZ_succ teams i k
      have hrl : (restZ teams i k).length ≤ k := by unfold restZ; rw [List.length_map]; exact Nat.le_trans (List.length_filter_le _ _) (by simp)
      by_cases hkT : k < teams.length
      · have w2 : IntKind.i64.wrap ((k : Int) + 1) = k + 1 := wrap64 (by omega) (by omega)
        have hTk : teams.getD k 0 = teams[k] := by simp [hkT]
        by_cases hki : k = i
        · rw [if_neg (by omega), List.append_nil] at hrs
          subst hki
          simp [go_sem, hil, w2]
          exact ⟨k + 1, ⟨⟨by rw [hrs], by omega⟩, by rw [hrs]⟩, by omega, by omega⟩
        · rw [if_pos hki, hTk] at hrs
          have hkiI : ¬ (k : Int) = i := by omega
          simp [go_sem, hkT, hki, w2]
          rw [if_neg hkiI]
          exact ⟨by omega, k + 1, ⟨⟨by rw [hrs]; simp, by omega⟩, by rw [hrs, ints_snoc]⟩, by omega, by omega⟩
      · have hkl : k = teams.length := by omega
        obtain ⟨Rs, hRs⟩ : ∃ Rs, restZ teams i k = Rs := ⟨_, rfl⟩
        have hre : Rs = teams.eraseIdx i := by rw [← hRs, hkl]; exact restZ_all teams i hil
        have hRl : Rs.length + 1 = teams.length := by rw [hre, List.length_eraseIdx, if_pos hil]; omega
        rw [← hre] at hgo
        by_cases hmem : teams[i] ∈ byes
        · rw [if_pos hmem] at hgo
          simp [go_sem, hkT, hRs, hmem, w1]
          exact ⟨i, rfl, ⟨by omega, hgo⟩, by omega⟩
        · rw [if_neg hmem] at hgo
          simp [go_sem, hkT, hRs, hmem]
          refine (refFirst_c Rs met hm (by omega)).callOF (by simp [go_sem]) ?_
          rintro _ rfl
          refine ⟨_, 2, prs (fstD met Rs), fst_C (fstB met Rs), by decide, rfl, by simp [go_sem], ?_⟩
          cases hf : fstB met Rs with
          | true =>
            rw [if_pos hf] at hgo
            simp [go_sem, hil]
            exact ⟨by decide +kernel, fin _ _ (fstD met Rs, teams[i], 0) (by rw [hres, hgo]) (by simp [go_sem, drawV])⟩
          | false =>
            rw [if_neg (by simp [hf])] at hgo
            simp [go_sem, w1]
            exact ⟨i, rfl, ⟨by omega, hgo⟩, by omega⟩
end Go.Idl
