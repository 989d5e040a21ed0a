/-
  Pairing: the reference: first.
  Pairing: the reference: Draw.
-/
import Derived.Test.YtamffdgopknkfaaDoorC39PartZI
import Derived.Test.YtamffdgopknkfaaDoorC39PartF
namespace Go.Idl
set_option linter.all false
open Go.Proofs
set_option maxHeartbeats 8000000
set_option maxRecDepth 40000

theorem refFirst_fun (met : List (Int × Int)) (hm : met.length ≤ 2 ^ 32) : ∀ (n : Nat) (teams : List Int), teams.length ≤ n → teams.length ≤ 16 → FN 114 [.fz 1 (ints teams), .fz 2 (prs met)] (fun v => v = .tup [.fz 2 (prs (fstD met teams)), .bool (fstB met teams)]) := by
  intro n
  induction n with
  | zero =>
    intro teams h0 _
    have : teams = [] := List.eq_nil_of_length_eq_zero (by omega)
    subst this
    refine IFun.of_bodyZ false 11 [13, 18, 29, 33, 38, 52] Tryd.func114 rfl Tryd.call114 rfl fun R hR => ?_
    simp [go_sem]
    exact hR _ _ _ rfl (by simp [go_sem, fstD, fstB, drT, drs_nil, okR, frzR])
  | succ n ih =>
    intro teams h0 h17
    cases teams with
    | nil => exact ih [] (by simp) (by simp)
    | cons a ts =>
    refine IFun.of_bodyZ false 11 [13, 18, 29, 33, 38, 52] Tryd.func114 rfl Tryd.call114 rfl fun R hR => ?_
    obtain ⟨T, hT⟩ : ∃ T, a :: ts = T := ⟨_, rfl⟩
    have hT0 : 0 < T.length := by rw [← hT]; simp
    have hTa : T[0]'hT0 = a := by subst hT; rfl
    have hTl : T.length = ts.length + 1 := by rw [← hT]; rfl
    rw [hT] at h0 h17 ⊢
    have hne : ¬ T.length = 0 := by omega
    have hne2 : ¬ T = [] := fun e => by rw [e] at hT0; simp at hT0
    simp [go_sem, hne, hne2]
    refine IWp.loopT (α := Nat) (fun i => (⟨false, 64, 11, [13, 18, 29, 33, 38, 52], glT, [(0, .fz 1 (ints T)), (1, .fz 2 (prs met)), (6, .int .i64 (i : Int))], []⟩, []))
      (fun i => 1 ≤ i ∧ i ≤ T.length ∧ oAt met a ts (i - 1) = []) (fun i => T.length - i) 1 (by refine ⟨by omega, by omega, oAt_zero ..⟩) (by simp [go_sem]) ?_
    rintro i ⟨hi1, hi, hO⟩
    by_cases h : i < T.length
    case neg =>
      have hi2 : i - 1 = ts.length := by omega
      rw [hi2, oAt_end] at hO
      simp [go_sem, h]
      exact hR _ _ _ rfl (by simp [go_sem, fstD, fstB, hO])
    have w1 : IntKind.i64.wrap ((i : Int) + 1) = i + 1 := wrap64 (by omega) (by omega)
    have hts : i - 1 < ts.length := by omega
    have hTi : T[i] = ts[i - 1] := by
      subst hT
      obtain ⟨j, rfl⟩ : ∃ j, i = j + 1 := ⟨i - 1, by omega⟩
      simp
    have hosn := oAt_succ met a ts (i - 1) hts
    rw [hO, show i - 1 + 1 = i by omega, List.nil_append] at hosn
    have cM := refMet_fun met a T[i] hm
    simp [go_sem, h]
    refine Drawn.intro (fun k => if k = 8 then .bool (metB met a T[i]) else .tup []) ?_
    simp [go_sem, h, hT0, hTa, cM]
    cases hmb : metB met a T[i] with
    | true =>
      rw [if_neg (by rw [← hTi]; simp [okT, hmb])] at hosn
      simp [go_sem, w1]
      exact ⟨by decide +kernel, i + 1, by omega, ⟨by omega, by omega, by rw [Nat.add_sub_cancel]; exact hosn⟩, by omega⟩
    | false =>
      rw [if_pos (by rw [← hTi]; simp [okT, hmb]), ← hTi] at hosn
      simp [go_sem]
      refine ⟨by decide +kernel, ?_⟩
      refine IWp.ownNilS 1 7 (by decide) (by simp [go_sem]) ?_
      simp only [go_sem]
      refine IWp.loopT (α := Nat) (fun k => (⟨false, 64, 11, [13, 18, 29, 33, 38, 52], glT, [(0, .fz 1 (ints T)), (1, .fz 2 (prs met)), (6, .int .i64 (i : Int)), (7, .sl 0 (restT T i k).length 0 (restT T i k).length none), (8, .int .i64 (k : Int))], []⟩, [.rows 1 (ints (restT T i k))]))
        (fun k => 1 ≤ k ∧ k ≤ T.length) (fun k => T.length - k) 1 (by omega) (by simp [go_sem, restT_one]) ?_
      rintro k ⟨hk1, hk⟩
      have hrs := restT_succ T i k
      have hrl : (restT T i k).length ≤ k := by unfold restT; rw [List.length_map]; exact Nat.le_trans (List.length_filter_le _ _) (by simp)
      by_cases hkT : k < T.length
      · have w2 : IntKind.i64.wrap ((k : Int) + 1) = k + 1 := wrap64 (by omega) (by omega)
        have hTk : T.getD k 0 = T[k] := by simp [hkT]
        by_cases hki : k = i
        · rw [if_neg (by omega), List.append_nil] at hrs
          subst hki
          simp [go_sem, h, w2]
          exact ⟨k + 1, ⟨⟨by rw [hrs], by omega⟩, by rw [hrs]⟩, by omega, by omega⟩
        · rw [if_pos ⟨hk1, hki⟩, hTk] at hrs
          have hkiI : ¬ (k : Int) = i := by omega
          simp [go_sem, hkT, hki, w2]
          rw [if_neg hkiI]
          exact ⟨by omega, k + 1, ⟨⟨by rw [hrs]; simp, by omega⟩, by rw [hrs, ints_snoc]⟩, by omega, by omega⟩
      · have hkl : k = T.length := by omega
        obtain ⟨Rs, hRs⟩ : ∃ Rs, restT T i k = Rs := ⟨_, rfl⟩
        have hre : Rs = ts.eraseIdx (i - 1) := by
          rw [← hRs, hkl]; subst hT; exact restT_all a ts i hi1 h
        have hRl : Rs.length + 2 = T.length := by rw [hre, List.length_eraseIdx, if_pos hts]; omega
        rw [← hre] at hosn
        simp [go_sem, hkT, hRs]
        refine (ih Rs (by omega) (by omega)).callF (by simp [go_sem]) ?_
        rintro _ rfl
        cases hb : fstB met Rs with
        | false =>
          have hnil : drT met Rs = [] := by
            unfold fstB at hb
            cases hd : drT met Rs with
            | nil => rfl
            | cons x l => rw [hd] at hb; simp at hb
          rw [hnil] at hosn
          simp [go_sem, w1]
          exact ⟨i + 1, by omega, ⟨by omega, by omega, by rw [Nat.add_sub_cancel]; exact hosn⟩, by omega⟩
        | true =>
          obtain ⟨d, L, hd⟩ : ∃ d L, drT met Rs = d :: L := by
            unfold fstB at hb
            cases hd : drT met Rs with
            | nil => rw [hd] at hb; simp at hb
            | cons x l => exact ⟨x, l, rfl⟩
          have hfd : fstD met Rs = d := by unfold fstD; rw [hd]; rfl
          have hdl : d.length ≤ 16 := by
            have := drs_len (ok := okT met) _ Rs (Nat.le_refl _) d (by have : d ∈ drT met Rs := by rw [hd]; simp
                                                                       exact this)
            omega
          rw [hd, List.map_cons] at hosn
          have hpre : ∃ M, drT met (a :: ts) = ((a, T[i]) :: d) :: M := by
            rw [← oAt_end]
            have : oAt met a ts ts.length = oAt met a ts i ++ ((picks ts).drop i).flatMap fun p => if okT met a p.1 = true then (drT met p.2).map ((a, p.1) :: ·) else [] := by
              unfold oAt
              rw [List.take_of_length_le (l := picks ts) (i := ts.length) (by rw [picks_length]; exact Nat.le_refl _)]
              conv => lhs; rw [← List.take_append_drop i (picks ts), List.flatMap_append]
            rw [this, hosn]
            exact ⟨_, rfl⟩
          obtain ⟨M, hM⟩ := hpre
          have hres : fstD met (a :: ts) = (a, T[i]) :: d ∧ fstB met (a :: ts) = true := by unfold fstD fstB; rw [hM]; exact ⟨rfl, rfl⟩
          rw [hfd]
          simp [go_sem, hT0, hTa, h]
          refine ⟨⟨by omega, fun r hr => prs_one r hr⟩, by decide +kernel, ?_⟩
          have hpc : ([IV.int .i64 a, IV.int .i64 T[i]] :: prs d) = prs ((a, T[i]) :: d) := rfl
          rw [hpc]
          exact hR _ _ _ rfl (by simp [go_sem, hres, Nat.add_comm])
end Go.Idl
namespace Go.Idl
set_option linter.all false
open Go.Proofs
set_option maxHeartbeats 8000000
set_option maxRecDepth 40000

theorem refFirst_c (teams : List Int) (met : List (Int × Int)) (hm : met.length ≤ 2 ^ 32) (h : teams.length ≤ 16) : FN 114 [.fz 1 (ints teams), .fz 2 (prs met)] (fun v => v = .tup [.fz 2 (prs (fstD met teams)), .bool (fstB met teams)]) := refFirst_fun met hm teams.length teams (Nat.le_refl _) h


theorem refDraw_fun (teams : List Int) (met : List (Int × Int)) (byes : List Int) (hl : teams.length ≤ 2 ^ 32) (hm : met.length ≤ 2 ^ 32) (hb : byes.length ≤ 2 ^ 32) : FN 91 [.fz 1 (ints teams), .fz 2 (prs met), .fz 1 (ints byes)] (fun v => v = drawV (drawR teams met byes)) := by
  refine IFun.of_bodyZ false 19 [23, 28, 36, 42, 48, 66, 71, 79, 86] Tryd.func91 rfl Tryd.call91 rfl fun R hR => ?_
  have fin : ∀ (r : IV) (σ : Heap) (q : List (Int × Int) × Int × Int), drawR teams met byes = q → frzOK false 4 σ r ∧ nz 4 (frzV 4 σ r) (drawV q) → R r σ := fun r σ q e h => hR r σ _ rfl (by rw [e]; exact h)
  simp [go_sem]
  refine (wrong_fun teams met true hl hm).callF (by simp [go_sem]) ?_
  rintro _ rfl
  by_cases he : errN teams met true = 0
  case neg =>
    simp [go_sem, he]
    exact fin _ _ _ (by unfold drawR; rw [if_pos he]) (by simp [go_sem, drawV])
  obtain ⟨_, hn, _⟩ := errN_zero he
  simp [go_sem, he]
  by_cases hp : teams.length % 2 = 0
  · have hp' : (teams.length : Int).tmod 2 = 0 := by rw [Int.tmod_eq_emod_of_nonneg (by omega)]; omega
    simp [go_sem, hp']
    refine (refFirst_c teams met hm hn).callOF (by simp [go_sem]) ?_
    rintro _ rfl
    refine ⟨_, 2, prs (fstD met teams), fst_C (fstB met teams), by decide, rfl, by simp [go_sem], ?_⟩
    cases hf : fstB met teams with
    | true =>
      simp [go_sem]
      exact fin _ _ (fstD met teams, 0, 0) (by unfold drawR; rw [if_neg (by simp [he]), if_pos hp, if_pos hf]) (by simp [go_sem, drawV])
    | false =>
      simp [go_sem]
      exact fin _ _ ([], 0, 6) (by unfold drawR; rw [if_neg (by simp [he]), if_pos hp, if_neg (by simp [hf])]) (by simp [go_sem, drawV])
  have hp' : ¬ (teams.length : Int).tmod 2 = 0 := by rw [Int.tmod_eq_emod_of_nonneg (by omega)]; omega
  have hres : drawR teams met byes = byeGo teams met byes teams.length := by unfold drawR; rw [if_neg (by simp [he]), if_neg hp]
  have w0 : IntKind.i64.wrap ((teams.length : Int) - 1) = (teams.length : Int) - 1 := wrap64 (by omega) (by omega)
  simp [go_sem, hp', w0]
  refine IWp.loopT (α := Nat) (fun i => (⟨false, 92, 19, [23, 28, 36, 42, 48, 66, 71, 79, 86], glT, [(0, .fz 1 (ints teams)), (1, .fz 2 (prs met)), (2, .fz 1 (ints byes)), (12, .int .i64 ((i : Int) - 1))], []⟩, []))
    (fun i => i ≤ teams.length ∧ byeGo teams met byes teams.length = byeGo teams met byes i) (fun i => i) teams.length ⟨Nat.le_refl _, rfl⟩ (by simp [go_sem]) ?_
  rintro i ⟨hi, hgo⟩
  cases i with
  | zero =>
    simp [go_sem]
    exact fin _ _ ([], 0, 6) (by rw [hres, hgo]; rfl) (by simp [go_sem, drawV])
  | succ i =>
    have hil : i < teams.length := by omega
    have hti : teams.getD i 0 = teams[i] := by simp [hil]
    have ei : ((i + 1 : Nat) : Int) - 1 = i := by omega
    rw [ei]
    rw [byeGo, hti] at hgo
    have hge : (i : Int) ≥ 0 := by omega
    have w1 : IntKind.i64.wrap ((i : Int) - 1) = (i : Int) - 1 := wrap64 (by omega) (by omega)
    simp [go_sem]
    refine IWp.loopT (α := Nat) (fun k => (⟨false, 92, 19, [23, 28, 36, 42, 48, 66, 71, 79, 86], glT, [(0, .fz 1 (ints teams)), (1, .fz 2 (prs met)), (2, .fz 1 (ints byes)), (12, .int .i64 (i : Int)), (13, .bool (decide (teams[i] ∈ byes.take k))), (14, .int .i64 (k : Int))], []⟩, []))
      (fun k => k ≤ byes.length) (fun k => byes.length - k) 0 (by omega) (by simp [go_sem]) ?_
    intro k hk
    by_cases hkb : k < byes.length
    · have w2 : IntKind.i64.wrap ((k : Int) + 1) = k + 1 := wrap64 (by omega) (by omega)
      have hsn : byes.take (k + 1) = byes.take k ++ [byes[k]] := List.take_succ_eq_append_getElem hkb
      have hdec : decide (teams[i] ∈ byes.take (k + 1)) = (decide (teams[i] ∈ byes.take k) || (byes[k] == teams[i])) := by
        have hmem : teams[i] ∈ byes.take (k + 1) ↔ (teams[i] ∈ byes.take k ∨ byes[k] = teams[i]) := by
          rw [hsn, List.mem_append, List.mem_singleton]
          exact ⟨fun h => h.imp_right Eq.symm, fun h => h.imp_right Eq.symm⟩
        rw [decide_eq_decide.2 hmem, Bool.decide_or]; rfl
      cases hh : decide (teams[i] ∈ byes.take k) with
      | true =>
        rw [hh, Bool.true_or] at hdec
        simp [go_sem, hkb, hil, w2]
        exact ⟨by decide +kernel, k + 1, ⟨of_decide_eq_true hdec, by omega⟩, by omega, by omega⟩
      | false =>
        rw [hh, Bool.false_or] at hdec
        simp [go_sem, hkb, hil, w2]
        exact ⟨by decide +kernel, k + 1, ⟨hdec.symm, by omega⟩, by omega, by omega⟩
    · have hkl : k = byes.length := by omega
      subst hkl
      rw [List.take_length]
      simp [go_sem]
      refine IWp.ownNilS 1 15 (by decide) (by simp [go_sem]) ?_
      simp only [go_sem]
      refine IWp.loopT (α := Nat) (fun k => (⟨false, 92, 19, [23, 28, 36, 42, 48, 66, 71, 79, 86], glT, [(0, .fz 1 (ints teams)), (1, .fz 2 (prs met)), (2, .fz 1 (ints byes)), (12, .int .i64 (i : Int)), (13, .bool (decide (teams[i] ∈ byes))), (15, .sl 0 (restZ teams i k).length 0 (restZ teams i k).length none), (16, .int .i64 (k : Int))], []⟩, [.rows 1 (ints (restZ teams i k))]))
        (fun k => k ≤ teams.length) (fun k => teams.length - k) 0 (by omega) (by simp [go_sem, restZ]) ?_
      intro k hk
      have hrs := restZ_succ teams i k
      have hrl : (restZ teams i k).length ≤ k := by unfold restZ; rw [List.length_map]; exact Nat.le_trans (List.length_filter_le _ _) (by simp)
      by_cases hkT : k < teams.length
      · have w2 : IntKind.i64.wrap ((k : Int) + 1) = k + 1 := wrap64 (by omega) (by omega)
        have hTk : teams.getD k 0 = teams[k] := by simp [hkT]
        by_cases hki : k = i
        · rw [if_neg (by omega), List.append_nil] at hrs
          subst hki
          simp [go_sem, hil, w2]
          exact ⟨k + 1, ⟨⟨by rw [hrs], by omega⟩, by rw [hrs]⟩, by omega, by omega⟩
        · rw [if_pos hki, hTk] at hrs
          have hkiI : ¬ (k : Int) = i := by omega
          simp [go_sem, hkT, hki, w2]
          rw [if_neg hkiI]
          exact ⟨by omega, k + 1, ⟨⟨by rw [hrs]; simp, by omega⟩, by rw [hrs, ints_snoc]⟩, by omega, by omega⟩
      · have hkl : k = teams.length := by omega
        obtain ⟨Rs, hRs⟩ : ∃ Rs, restZ teams i k = Rs := ⟨_, rfl⟩
        have hre : Rs = teams.eraseIdx i := by rw [← hRs, hkl]; exact restZ_all teams i hil
        have hRl : Rs.length + 1 = teams.length := by rw [hre, List.length_eraseIdx, if_pos hil]; omega
        rw [← hre] at hgo
        by_cases hmem : teams[i] ∈ byes
        · rw [if_pos hmem] at hgo
          simp [go_sem, hkT, hRs, hmem, w1]
          exact ⟨i, rfl, ⟨by omega, hgo⟩, by omega⟩
        · rw [if_neg hmem] at hgo
          simp [go_sem, hkT, hRs, hmem]
          refine (refFirst_c Rs met hm (by omega)).callOF (by simp [go_sem]) ?_
          rintro _ rfl
          refine ⟨_, 2, prs (fstD met Rs), fst_C (fstB met Rs), by decide, rfl, by simp [go_sem], ?_⟩
          cases hf : fstB met Rs with
          | true =>
            rw [if_pos hf] at hgo
            simp [go_sem, hil]
            exact ⟨by decide +kernel, fin _ _ (fstD met Rs, teams[i], 0) (by rw [hres, hgo]) (by simp [go_sem, drawV])⟩
          | false =>
            rw [if_neg (by simp [hf])] at hgo
            simp [go_sem, w1]
            exact ⟨i, rfl, ⟨by omega, hgo⟩, by omega⟩
end Go.Idl
