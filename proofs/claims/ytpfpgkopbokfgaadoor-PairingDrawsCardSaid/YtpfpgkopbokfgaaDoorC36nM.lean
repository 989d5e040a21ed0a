/-
  Chapter 36: the reference: first f36.
-/
import Derived.Test.YtpfpgkopbokfgaaDoorC36nL
namespace Go.Idl
set_option linter.all false
open Go.Proofs
set_option maxHeartbeats 4000000
set_option maxRecDepth 40000

def fstD (met : List (Int × Int)) (teams : List Int) : List (Int × Int) := (drT met teams).headD []
def fstB (met : List (Int × Int)) (teams : List Int) : Bool := !(drT met teams).isEmpty
theorem refFirst_fun (met : List (Int × Int)) (hm : met.length ≤ 2 ^ 32) : ∀ (n : Nat) (teams : List Int), teams.length ≤ n → teams.length ≤ 16 → F36 36 [.fz 1 (ints teams), .fz 2 (prs met)] (fun v => v = .tup [.fz 2 (prs (fstD met teams)), .bool (fstB met teams)]) := by
  intro n
  induction n with
  | zero =>
    intro teams h0 _
    have : teams = [] := List.eq_nil_of_length_eq_zero (by omega)
    subst this
    refine IFun.of_bodyZ false 11 [13, 18, 29, 33, 38, 52] Tryd.func36 rfl Tryd.call36 rfl fun R hR => ?_
    simp [go_sem]
    exact hR _ _ _ rfl (by simp [go_sem, fstD, fstB, drT, drs_nil, okR, frzR])
  | succ n ih =>
    intro teams h0 h17
    cases teams with
    | nil => exact ih [] (by simp) (by simp)
    | cons a ts =>
    refine IFun.of_bodyZ false 11 [13, 18, 29, 33, 38, 52] Tryd.func36 rfl Tryd.call36 rfl fun R hR => ?_
    obtain ⟨T, hT⟩ : ∃ T, a :: ts = T := ⟨_, rfl⟩
    have hT0 : 0 < T.length := by rw [← hT]; simp
    have hTa : T[0]'hT0 = a := by subst hT; rfl
    have hTl : T.length = ts.length + 1 := by rw [← hT]; rfl
    rw [hT] at h0 h17 ⊢
    have hne : ¬ T.length = 0 := by omega
    have hne2 : ¬ T = [] := fun e => by rw [e] at hT0; simp at hT0
    simp [go_sem, hne, hne2]
    refine IWp.loopT (α := Nat) (fun i => (⟨false, 64, 11, [13, 18, 29, 33, 38, 52], glT, [(0, .fz 1 (ints T)), (1, .fz 2 (prs met)), (6, .int .i64 (i : Int))], []⟩, []))
      (fun i => 1 ≤ i ∧ i ≤ T.length ∧ oAt met a ts (i - 1) = []) (fun i => T.length - i) 1 (by refine ⟨by omega, by omega, oAt_zero ..⟩) (by simp [go_sem]) ?_
    rintro i ⟨hi1, hi, hO⟩
    by_cases h : i < T.length
    case neg =>
      have hi2 : i - 1 = ts.length := by omega
      rw [hi2, oAt_end] at hO
      simp [go_sem, h]
      exact hR _ _ _ rfl (by simp [go_sem, fstD, fstB, hO])
    have w1 : IntKind.i64.wrap ((i : Int) + 1) = i + 1 := wrap64 (by omega) (by omega)
    have hts : i - 1 < ts.length := by omega
    have hTi : T[i] = ts[i - 1] := by
      subst hT
      obtain ⟨j, rfl⟩ : ∃ j, i = j + 1 := ⟨i - 1, by omega⟩
      simp
    have hosn := oAt_succ met a ts (i - 1) hts
    rw [hO, show i - 1 + 1 = i by omega, List.nil_append] at hosn
    have cM := refMet_fun met a T[i] hm
    simp [go_sem, h]
    refine Drawn.intro (fun k => if k = 8 then .bool (metB met a T[i]) else .tup []) ?_
    simp [go_sem, h, hT0, hTa, cM]
    cases hmb : metB met a T[i] with
    | true =>
      rw [if_neg (by rw [← hTi]; simp [okT, hmb])] at hosn
      simp [go_sem, w1]
      exact ⟨by decide +kernel, i + 1, by omega, ⟨by omega, by omega, by rw [Nat.add_sub_cancel]; exact hosn⟩, by omega⟩
    | false =>
      rw [if_pos (by rw [← hTi]; simp [okT, hmb]), ← hTi] at hosn
      simp [go_sem]
      refine ⟨by decide +kernel, ?_⟩
      refine IWp.ownNilS 1 7 (by decide) (by simp [go_sem]) ?_
      simp only [go_sem]
      refine IWp.loopT (α := Nat) (fun k => (⟨false, 64, 11, [13, 18, 29, 33, 38, 52], glT, [(0, .fz 1 (ints T)), (1, .fz 2 (prs met)), (6, .int .i64 (i : Int)), (7, .sl 0 (restT T i k).length 0 (restT T i k).length none), (8, .int .i64 (k : Int))], []⟩, [.rows 1 (ints (restT T i k))]))
        (fun k => 1 ≤ k ∧ k ≤ T.length) (fun k => T.length - k) 1 (by omega) (by simp [go_sem, restT_one]) ?_
      rintro k ⟨hk1, hk⟩
      have hrs := restT_succ T i k
      have hrl : (restT T i k).length ≤ k := by unfold restT; rw [List.length_map]; exact Nat.le_trans (List.length_filter_le _ _) (by simp)
      by_cases hkT : k < T.length
      · have w2 : IntKind.i64.wrap ((k : Int) + 1) = k + 1 := wrap64 (by omega) (by omega)
        have hTk : T.getD k 0 = T[k] := by simp [hkT]
        by_cases hki : k = i
        · rw [if_neg (by omega), List.append_nil] at hrs
          subst hki
          simp [go_sem, h, w2]
          exact ⟨k + 1, ⟨⟨by rw [hrs], by omega⟩, by rw [hrs]⟩, by omega, by omega⟩
        · rw [if_pos ⟨hk1, hki⟩, hTk] at hrs
          have hkiI : ¬ (k : Int) = i := by omega
          simp [go_sem, hkT, hki, w2]
          rw [if_neg hkiI]
          exact ⟨by omega, k + 1, ⟨⟨by rw [hrs]; simp, by omega⟩, by rw [hrs, ints_snoc]⟩, by omega, by omega⟩
      · have hkl : k = T.length := by omega
        obtain ⟨Rs, hRs⟩ : ∃ Rs, restT T i k = Rs := ⟨_, rfl⟩
        have hre : Rs = ts.eraseIdx (i - 1) := by
          rw [← hRs, hkl]; subst hT; exact restT_all a ts i hi1 h
        have hRl : Rs.length + 2 = T.length := by rw [hre, List.length_eraseIdx, if_pos hts]; omega
        rw [← hre] at hosn
        simp [go_sem, hkT, hRs]
        refine (ih Rs (by omega) (by omega)).call (by simp [go_sem]) ?_
        rintro _ rfl
        cases hb : fstB met Rs with
        | false =>
          have hnil : drT met Rs = [] := by
            unfold fstB at hb
            cases hd : drT met Rs with
            | nil => rfl
            | cons x l => rw [hd] at hb; simp at hb
          rw [hnil] at hosn
          simp [go_sem, w1]
          exact ⟨i + 1, by omega, ⟨by omega, by omega, by rw [Nat.add_sub_cancel]; exact hosn⟩, by omega⟩
        | true =>
          obtain ⟨d, L, hd⟩ : ∃ d L, drT met Rs = d :: L := by
            unfold fstB at hb
            cases hd : drT met Rs with
            | nil => rw [hd] at hb; simp at hb
            | cons x l => exact ⟨x, l, rfl⟩
          have hfd : fstD met Rs = d := by unfold fstD; rw [hd]; rfl
          have hdl : d.length ≤ 16 := by
            have := drs_len (ok := okT met) _ Rs (Nat.le_refl _) d (by have : d ∈ drT met Rs := by rw [hd]; simp
                                                                       exact this)
            omega
          rw [hd, List.map_cons] at hosn
          have hpre : ∃ M, drT met (a :: ts) = ((a, T[i]) :: d) :: M := by
            rw [← oAt_end]
            have : oAt met a ts ts.length = oAt met a ts i ++ ((picks ts).drop i).flatMap fun p => if okT met a p.1 = true then (drT met p.2).map ((a, p.1) :: ·) else [] := by
              unfold oAt
              rw [List.take_of_length_le (l := picks ts) (i := ts.length) (by rw [picks_length]; exact Nat.le_refl _)]
              conv => lhs; rw [← List.take_append_drop i (picks ts), List.flatMap_append]
            rw [this, hosn]
            exact ⟨_, rfl⟩
          obtain ⟨M, hM⟩ := hpre
          have hres : fstD met (a :: ts) = (a, T[i]) :: d ∧ fstB met (a :: ts) = true := by unfold fstD fstB; rw [hM]; exact ⟨rfl, rfl⟩
          rw [hfd]
          simp [go_sem, hT0, hTa, h]
          refine ⟨⟨by omega, fun r hr => prs_one r hr⟩, by decide +kernel, ?_⟩
          have hpc : ([IV.int .i64 a, IV.int .i64 T[i]] :: prs d) = prs ((a, T[i]) :: d) := rfl
          rw [hpc]
          exact hR _ _ _ rfl (by simp [go_sem, hres, Nat.add_comm])
end Go.Idl
