/-
  Pairing: the reference: all.
  Pairing: Nth.
  Pairing: the reference: first.
-/
import Derived.Test.YtamffdgopknkfaaDoorC39PartF
namespace Go.Idl
set_option linter.all false
open Go.Proofs
set_option maxHeartbeats 8000000
set_option maxRecDepth 40000

def lls (l : List (List (Int × Int))) : List (List IV) := mp (fun d => [.fz 2 (prs d)]) l
@[simp] theorem lls_length (l : List (List (Int × Int))) : (lls l).length = l.length := mp_length
@[simp] theorem lls_getElem (l : List (List (Int × Int))) (i : Nat) (h : i < (lls l).length) : (lls l)[i] = [.fz 2 (prs (l[i]'(by simpa using h)))] := by simp [lls, mp]
theorem lls_snoc {l : List (List (Int × Int))} {x : List (Int × Int)} : lls (l ++ [x]) = lls l ++ [[.fz 2 (prs x)]] := mp_snoc
@[go_sem] theorem lls_nil : lls [] = [] := rfl
theorem lls_cell {l : List (List (Int × Int))} : ∀ row ∈ lls l, ∀ c ∈ row, ∃ d, c = .fz 2 (prs d) := by
  intro row hr c hc
  simp only [lls, mp, List.mem_map] at hr
  obtain ⟨d, _, rfl⟩ := hr
  exact ⟨d, by simpa using hc⟩
@[go_sem] theorem ClR_lls {l : List (List (Int × Int))} : ClR (lls l) = True := eq_true fun row hr c hc => by obtain ⟨d, rfl⟩ := lls_cell row hr c hc; simp [go_sem]
@[go_sem] theorem BlR_lls {n : Nat} {l : List (List (Int × Int))} : BlR n (lls l) = True := eq_true fun row hr c hc => by obtain ⟨d, rfl⟩ := lls_cell row hr c hc; simp [go_sem]
@[go_sem] theorem okR_lls {d : Nat} {h : Heap} {l : List (List (Int × Int))} : okR true d h (lls l) = True := eq_true (by
  simp only [okR]
  intro row hr c hc; obtain ⟨x, rfl⟩ := lls_cell row hr c hc
  rw [frzOK_fz]; exact ⟨rfl, by simp [go_sem]⟩)
@[go_sem] theorem frzR_lls {d : Nat} {h : Heap} {l : List (List (Int × Int))} : frzR d h (lls l) = lls l := by
  simp only [frzR]
  conv => rhs; rw [← List.map_id (lls l)]
  apply List.map_congr_left
  intro row hr
  conv => rhs; rw [show id row = row from rfl, ← List.map_id row]
  apply List.map_congr_left
  intro c hc
  obtain ⟨x, rfl⟩ := lls_cell row hr c hc
  rw [frzV_fz]; rfl
theorem lls_one {l : List (List (Int × Int))} : ∀ a ∈ lls l, a.length = 1 ∧ ∀ x ∈ a, IV.one x = true := by
  intro a ha
  simp only [lls, mp, List.mem_map] at ha
  obtain ⟨d, _, rfl⟩ := ha
  simp [IV.one]

/-- The teams from the second one to before the k-th, less the i-th. -/
def restT (teams : List Int) (i k : Nat) : List Int := ((List.range k).filter fun j => decide (1 ≤ j) && !(decide (j = i))).map fun j => teams.getD j 0
theorem restT_succ (teams : List Int) (i k : Nat) : restT teams i (k + 1) = restT teams i k ++ (if 1 ≤ k ∧ k ≠ i then [teams.getD k 0] else []) := by
  unfold restT
  rw [List.range_succ, List.filter_append, List.map_append]
  congr 1
  by_cases h : 1 ≤ k ∧ k ≠ i
  · rw [if_pos h]; simp [h.1, h.2]
  · rw [if_neg h]
    have : (decide (1 ≤ k) && !(decide (k = i))) = false := by
      rw [← Bool.not_eq_true]; simpa using h
    simp [this]
theorem restT_one (teams : List Int) (i : Nat) : restT teams i 1 = [] := rfl
theorem restT_le (teams : List Int) (i : Nat) : ∀ k, k + 1 ≤ i → k < teams.length → restT teams i (k + 1) = (teams.drop 1).take k
  | 0, _, _ => by rw [restT_one]; simp
  | k + 1, h, hk => by
    rw [restT_succ, restT_le teams i k (by omega) (by omega), if_pos (by omega), List.take_succ_eq_append_getElem (by simp; omega)]
    simp [hk, Nat.add_comm]
theorem restT_gt (teams : List Int) (i : Nat) (hi : 1 ≤ i) (hil : i < teams.length) : ∀ k, i + 1 + k ≤ teams.length → restT teams i (i + 1 + k) = (teams.drop 1).take (i - 1) ++ (teams.drop (i + 1)).take k
  | 0, _ => by
    rw [Nat.add_zero, restT_succ, if_neg (by omega), List.append_nil]
    have := restT_le teams i (i - 1) (by omega) (by omega)
    rw [show i - 1 + 1 = i by omega] at this
    rw [this]; simp
  | k + 1, h => by
    rw [← Nat.add_assoc, restT_succ, restT_gt teams i hi hil k (by omega), if_pos (by omega), List.append_assoc]
    congr 1
    rw [List.take_succ_eq_append_getElem (by simp; omega)]
    simp [show i + 1 + k < teams.length by omega]
theorem restT_all (a : Int) (ts : List Int) (i : Nat) (hi : 1 ≤ i) (hil : i < (a :: ts).length) : restT (a :: ts) i (a :: ts).length = ts.eraseIdx (i - 1) := by
  have := restT_gt (a :: ts) i hi hil ((a :: ts).length - (i + 1)) (by omega)
  rw [show i + 1 + ((a :: ts).length - (i + 1)) = (a :: ts).length by omega] at this
  have h1 : ((a :: ts).drop (i + 1)).take ((a :: ts).length - (i + 1)) = (a :: ts).drop (i + 1) := List.take_of_length_le (by rw [List.length_drop]; exact Nat.le_refl _)
  rw [this, h1, List.eraseIdx_eq_take_drop_succ, show i - 1 + 1 = i by omega]
  rfl

theorem cntL_le15 {α : Type} {ok : α → α → Bool} : ∀ (k : Nat) (l : List α), l.length ≤ 2 * k → l.length ≤ 16 → cntL ok l ≤ 15 ^ k
  | k, [], _, _ => by rw [cntL_nil]; exact Nat.pow_pos (by decide)
  | 0, a :: rest, h, _ => by simp at h
  | k + 1, a :: rest, h, h2 => by
    rw [cntL_cons]
    refine Nat.le_trans (sum_le (B := 15 ^ k) fun p hp => ?_) ?_
    · split
      · have := picks_len hp
        exact cntL_le15 k p.2 (by simp at h; omega) (by simp at h2; omega)
      · exact Nat.zero_le _
    · rw [picks_length, Nat.pow_succ, Nat.mul_comm]
      exact Nat.mul_le_mul_left _ (by simp at h2; omega)
/-- The draws in which the first team meets one of the first j others. -/
def oAt (met : List (Int × Int)) (a : Int) (ts : List Int) (j : Nat) : List (List (Int × Int)) := ((picks ts).take j).flatMap fun p => if okT met a p.1 = true then (drT met p.2).map ((a, p.1) :: ·) else []
theorem oAt_zero (met : List (Int × Int)) (a : Int) (ts : List Int) : oAt met a ts 0 = [] := by simp [oAt]
theorem oAt_succ (met : List (Int × Int)) (a : Int) (ts : List Int) (j : Nat) (h : j < ts.length) : oAt met a ts (j + 1) = oAt met a ts j ++ (if okT met a ts[j] = true then (drT met (ts.eraseIdx j)).map ((a, ts[j]) :: ·) else []) := by
  have hl : j < (picks ts).length := by rw [picks_length]; exact h
  have hp : (picks ts)[j] = (ts[j], ts.eraseIdx j) := by
    have := picks_at ts j h
    rw [List.getElem?_eq_getElem hl] at this
    exact Option.some.inj this
  unfold oAt
  rw [List.take_succ_eq_append_getElem hl, List.flatMap_append, hp]
  simp
theorem oAt_end (met : List (Int × Int)) (a : Int) (ts : List Int) : oAt met a ts ts.length = drT met (a :: ts) := by
  unfold oAt
  rw [List.take_of_length_le (by rw [picks_length]; exact Nat.le_refl _), drT, drs_cons]; rfl

theorem oAt_le (met : List (Int × Int)) (a : Int) (ts : List Int) (j : Nat) : (oAt met a ts j).length ≤ (drT met (a :: ts)).length := by
  rw [← oAt_end]
  unfold oAt
  rw [List.take_of_length_le (l := picks ts) (i := ts.length) (by rw [picks_length]; exact Nat.le_refl _)]
  conv => rhs; rw [← List.take_append_drop j (picks ts), List.flatMap_append, List.length_append]
  omega
end Go.Idl
namespace Go.Idl
set_option linter.all false
open Go.Proofs
set_option maxHeartbeats 8000000
set_option maxRecDepth 40000

theorem lt_of_bit {m n b : Nat} (h : m < 2 ^ n) (hb : Nat.testBit m b = true) : b < n := by
  apply Decidable.byContradiction
  intro hc
  rw [Nat.testBit_lt_two_pow (Nat.lt_of_lt_of_le h (Nat.pow_le_pow_right (by decide) (by omega)))] at hb
  cases hb
theorem bitsL_wo {r b : Nat} (h : r < 2 ^ 32) : bitsL (anb r (2 ^ b)) = wo b (bitsL r) := bitsL_anb b h
theorem asT_snoc (teams : List Int) (d : List (Nat × Nat)) (a b : Nat) : asT teams (d ++ [(a, b)]) = asT teams d ++ [(teams.getD a 0, teams.getD b 0)] := by simp [asT]
@[simp] theorem asT_length (teams : List Int) (d : List (Nat × Nat)) : (asT teams d).length = d.length := by simp [asT]
end Go.Idl
namespace Go.Idl
set_option linter.all false
open Go.Proofs
set_option maxHeartbeats 8000000
set_option maxRecDepth 40000

def fstD (met : List (Int × Int)) (teams : List Int) : List (Int × Int) := (drT met teams).headD []
def fstB (met : List (Int × Int)) (teams : List Int) : Bool := !(drT met teams).isEmpty
theorem refFirst_fun (met : List (Int × Int)) (hm : met.length ≤ 2 ^ 32) : ∀ (n : Nat) (teams : List Int), teams.length ≤ n → teams.length ≤ 16 → FN 114 [.fz 1 (ints teams), .fz 2 (prs met)] (fun v => v = .tup [.fz 2 (prs (fstD met teams)), .bool (fstB met teams)]) := by
  intro n
  induction n with
  | zero =>
    intro teams h0 _
    have : teams = [] := List.eq_nil_of_length_eq_zero (by omega)
    subst this
    refine IFun.of_bodyZ false 11 [13, 18, 29, 33, 38, 52] Tryd.func114 rfl Tryd.call114 rfl fun R hR => ?_
    simp [go_sem]
    exact hR _ _ _ rfl (by simp [go_sem, fstD, fstB, drT, drs_nil, okR, frzR])
  | succ n ih =>
    intro teams h0 h17
    cases teams with
    | nil => exact ih [] (by simp) (by simp)
    | cons a ts =>
    refine IFun.of_bodyZ false 11 [13, 18, 29, 33, 38, 52] Tryd.func114 rfl Tryd.call114 rfl fun R hR => ?_
    obtain ⟨T, hT⟩ : ∃ T, a :: ts = T := ⟨_, rfl⟩
    have hT0 : 0 < T.length := by rw [← hT]; simp
    have hTa : T[0]'hT0 = a := by subst hT; rfl
    have hTl : T.length = ts.length + 1 := by rw [← hT]; rfl
    rw [hT] at h0 h17 ⊢
    have hne : ¬ T.length = 0 := by omega
    have hne2 : ¬ T = [] := fun e => by rw [e] at hT0; simp at hT0
    simp [go_sem, hne, hne2]
    refine IWp.loopT (α := Nat) (fun i => (⟨false, 64, 11, [13, 18, 29, 33, 38, 52], glT, [(0, .fz 1 (ints T)), (1, .fz 2 (prs met)), (6, .int .i64 (i : Int))], []⟩, []))
      (fun i => 1 ≤ i ∧ i ≤ T.length ∧ oAt met a ts (i - 1) = []) (fun i => T.length - i) 1 (by refine ⟨by omega, by omega, oAt_zero ..⟩) (by simp [go_sem]) ?_
    rintro i ⟨hi1, hi, hO⟩
    by_cases h : i < T.length
    case neg =>
      have hi2 : i - 1 = ts.length := by omega
      rw [hi2, oAt_end] at hO
      simp [go_sem, h]
      exact hR _ _ _ rfl (by simp [go_sem, fstD, fstB, hO])
    have w1 : IntKind.i64.wrap ((i : Int) + 1) = i + 1 := wrap64 (by omega) (by omega)
    have hts : i - 1 < ts.length := by omega
    have hTi : T[i] = ts[i - 1] := by
      subst hT
      obtain ⟨j, rfl⟩ : ∃ j, i = j + 1 := ⟨i - 1, by omega⟩
      simp
    have hosn := oAt_succ met a ts (i - 1) hts
    rw [hO, show i - 1 + 1 = i by omega, List.nil_append] at hosn
    have cM := refMet_fun met a T[i] hm
    simp [go_sem, h]
    refine Drawn.intro (fun k => if k = 8 then .bool (metB met a T[i]) else .tup []) ?_
    simp [go_sem, h, hT0, hTa, cM]
    cases hmb : metB met a T[i] with
    | true =>
      rw [if_neg (by rw [← hTi]; simp [okT, hmb])] at hosn
      simp [go_sem, w1]
      exact ⟨by decide +kernel, i + 1, by omega, ⟨by omega, by omega, by rw [Nat.add_sub_cancel]; exact hosn⟩, by omega⟩
    | false =>
      rw [if_pos (by rw [← hTi]; simp [okT, hmb]), ← hTi] at hosn
      simp [go_sem]
      refine ⟨by decide +kernel, ?_⟩
      refine IWp.ownNilS 1 7 (by decide) (by simp [go_sem]) ?_
      simp only [go_sem]
      refine IWp.loopT (α := Nat) (fun k => (⟨false, 64, 11, [13, 18, 29, 33, 38, 52], glT, [(0, .fz 1 (ints T)), (1, .fz 2 (prs met)), (6, .int .i64 (i : Int)), (7, .sl 0 (restT T i k).length 0 (restT T i k).length none), (8, .int .i64 (k : Int))], []⟩, [.rows 1 (ints (restT T i k))]))
        (fun k => 1 ≤ k ∧ k ≤ T.length) (fun k => T.length - k) 1 (by omega) (by simp [go_sem, restT_one]) ?_
      rintro k ⟨hk1, hk⟩
      have hrs := restT_succ T i k
      have hrl : (restT T i k).length ≤ k := by unfold restT; rw [List.length_map]; exact Nat.le_trans (List.length_filter_le _ _) (by simp)
      by_cases hkT : k < T.length
      · have w2 : IntKind.i64.wrap ((k : Int) + 1) = k + 1 := wrap64 (by omega) (by omega)
        have hTk : T.getD k 0 = T[k] := by simp [hkT]
        by_cases hki : k = i
        · rw [if_neg (by omega), List.append_nil] at hrs
          subst hki
          simp [go_sem, h, w2]
          exact ⟨k + 1, ⟨⟨by rw [hrs], by omega⟩, by rw [hrs]⟩, by omega, by omega⟩
        · rw [if_pos ⟨hk1, hki⟩, hTk] at hrs
          have hkiI : ¬ (k : Int) = i := by omega
          simp [go_sem, hkT, hki, w2]
          rw [if_neg hkiI]
          exact ⟨by omega, k + 1, ⟨⟨by rw [hrs]; simp, by omega⟩, by rw [hrs, ints_snoc]⟩, by omega, by omega⟩
      · have hkl : k = T.length := by omega
        obtain ⟨Rs, hRs⟩ : ∃ Rs, restT T i k = Rs := ⟨_, rfl⟩
        have hre : Rs = ts.eraseIdx (i - 1) := by
          rw [← hRs, hkl]; subst hT; exact restT_all a ts i hi1 h
        have hRl : Rs.length + 2 = T.length := by rw [hre, List.length_eraseIdx, if_pos hts]; omega
        rw [← hre] at hosn
        simp [go_sem, hkT, hRs]
        refine (ih Rs (by omega) (by omega)).callF (by simp [go_sem]) ?_
        rintro _ rfl
        cases hb : fstB met Rs with
        | false =>
          have hnil : drT met Rs = [] := by
            unfold fstB at hb
            cases hd : drT met Rs with
            | nil => rfl
            | cons x l => rw [hd] at hb; simp at hb
          rw [hnil] at hosn
          simp [go_sem, w1]
          exact ⟨i + 1, by omega, ⟨by omega, by omega, by rw [Nat.add_sub_cancel]; exact hosn⟩, by omega⟩
        | true =>
          obtain ⟨d, L, hd⟩ : ∃ d L, drT met Rs = d :: L := by
            unfold fstB at hb
            cases hd : drT met Rs with
            | nil => rw [hd] at hb; simp at hb
            | cons x l => exact ⟨x, l, rfl⟩
          have hfd : fstD met Rs = d := by unfold fstD; rw [hd]; rfl
          have hdl : d.length ≤ 16 := by
            have := drs_len (ok := okT met) _ Rs (Nat.le_refl _) d (by have : d ∈ drT met Rs := by rw [hd]; simp
                                                                       exact this)
            omega
          rw [hd, List.map_cons] at hosn
          have hpre : ∃ M, drT met (a :: ts) = ((a, T[i]) :: d) :: M := by
            rw [← oAt_end]
            have : oAt met a ts ts.length = oAt met a ts i ++ ((picks ts).drop i).flatMap fun p => if okT met a p.1 = true then (drT met p.2).map ((a, p.1) :: ·) else [] := by
              unfold oAt
              rw [List.take_of_length_le (l := picks ts) (i := ts.length) (by rw [picks_length]; exact Nat.le_refl _)]
              conv => lhs; rw [← List.take_append_drop i (picks ts), List.flatMap_append]
            rw [this, hosn]
            exact ⟨_, rfl⟩
          obtain ⟨M, hM⟩ := hpre
          have hres : fstD met (a :: ts) = (a, T[i]) :: d ∧ fstB met (a :: ts) = true := by unfold fstD fstB; rw [hM]; exact ⟨rfl, rfl⟩
          rw [hfd]
          simp [go_sem, hT0, hTa, h]
          refine ⟨⟨by omega, fun r hr => prs_one r hr⟩, by decide +kernel, ?_⟩
          have hpc : ([IV.int .i64 a, IV.int .i64 T[i]] :: prs d) = prs ((a, T[i]) :: d) := rfl
          rw [hpc]
          exact hR _ _ _ rfl (by simp [go_sem, hres, Nat.add_comm])
end Go.Idl
