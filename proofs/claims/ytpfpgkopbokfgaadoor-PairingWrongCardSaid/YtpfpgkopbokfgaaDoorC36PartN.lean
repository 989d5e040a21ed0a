/-
  Chapter 36: the law PairingWrong f5.
-/
import Derived.Test.YtpfpgkopbokfgaaDoorC36PartK
namespace Go.Idl
set_option linter.all false
open Go.Proofs
set_option maxHeartbeats 8000000
set_option maxRecDepth 40000

theorem bad_all {l : List Int} {met : List (Int × Int)} (h : rightB l met = false) (k : Int) (d : List (Int × Int)) (y : List Int) : errN l met false = 2 ∧ cntN l met = 0 ∧ nthE l met k = 2 ∧ nthD l met k = [] ∧ nmbE l met d = 2 ∧ nmbN l met d = 0 ∧ drawR l met y = ([], 0, 2) := by
  have e1 : ∀ odd, errN l met odd = 2 := fun odd => by unfold errN; rw [if_pos h]
  have e2 : nthE l met k = 2 := by unfold nthE; rw [e1]; simp
  refine ⟨e1 _, by unfold cntN; rw [e1]; simp, e2, by unfold nthD; rw [e2]; simp, by unfold nmbE; rw [e1]; simp, by unfold nmbN; rw [e1]; simp, by unfold drawR; rw [e1]; simp⟩
theorem bad_team {T : List Int} {x : Int} (hx : ¬ (1 ≤ x ∧ x ≤ 64)) (met : List (Int × Int)) : rightB (T ++ [x]) met = false := by
  have : (T ++ [x]).all numB = false := by
    rw [List.all_append]; simp [numB]; intro _ h; omega
  simp [rightB, this]
theorem bad_met {T : List Int} {x y : Int} (h : ¬ (1 ≤ x ∧ x ≤ 64) ∨ ¬ (1 ≤ y ∧ y ≤ 64) ∨ x = y) : rightB T [(x, y)] = false := by
  have : ([(x, y)].all fun p => numB p.1 && numB p.2 && !(decide (p.1 = p.2))) = false := by
    simp only [List.all_cons, List.all_nil, Bool.and_true]
    rw [← Bool.not_eq_true]
    simp [numB]
    intro a b c d; rcases h with h | h | h <;> omega
  unfold rightB; rw [this]; simp
theorem nmb_not {T : List Int} {met d : List (Int × Int)} (he : errN T met false = 0) (hd : d ∉ drT met T) : nmbE T met d = 6 := by
  unfold nmbE
  rw [if_neg (by simp [he]), ix_none.2 hd]
theorem prs_one1 (x y : Int) : [[IV.int .i64 x, .int .i64 y]] = prs [(x, y)] := rfl
theorem number_nil {T : List Int} {d : List (Int × Int)} {x y : Int} (h : F36 24 [.fz 1 (ints T), .fz 2 (prs []), .fz 2 (prs d)] (fun v => v = .tup [.int .i64 x, .int .i64 y])) : F36 24 [.fz 1 (ints T), .nils, .fz 2 (prs d)] (fun v => v = .tup [.int .i64 x, .int .i64 y]) := by
  refine F36.call (σ := []) h (by simp [go_sem]) ?_
  rintro _ rfl
  exact ⟨_, nz_fr 4 (frz_fr 4 [] (.tup [.int .i64 x, .int .i64 y]) (by simp [go_sem])) (by simp [go_sem]), rfl⟩
theorem PairingWrong_law (order : List Int) (bits n : Int) (ho : ∀ b ∈ order, 0 ≤ b ∧ b ≤ 255) (hol : order.length < 2 ^ 63) (hb : 0 ≤ bits ∧ bits < 2 ^ 64) (hn : (Lit.int .i64 n).wf = true) : F36 5 [.fz 1 (bys order), .int .u64 bits, .int .i64 n] (fun v => v = .bool true) := by
  refine IFun.of_bodyZ false 7 [7, 8, 10, 12, 14, 16, 19, 21, 23, 25, 27, 29, 30, 31, 33, 35, 37, 39, 67, 68, 69, 70, 119, 131, 132, 133, 134, 149, 177, 192, 195, 260] Tryd.func5 rfl Tryd.call5 rfl fun R hR => ?_
  simp [go_sem]
  refine (Made_fun order bits 8 (by decide) ho hol hb).call (by simp [go_sem]) ?_
  rintro _ ⟨teams, met, hmd, rfl⟩
  obtain ⟨T, hT⟩ : ∃ T, teams.take (teams.length / 2 * 2) = T := ⟨_, rfl⟩
  have hsub : T.Sublist teams := hT ▸ List.take_sublist _ _
  have hTl : T.length = teams.length / 2 * 2 := by rw [← hT]; simp; omega
  have h3 := hmd.2.2.1
  have hh := half2 teams.length (by omega)
  obtain ⟨L, hL⟩ : ∃ L, teams.length / 2 * 2 = L := ⟨_, rfl⟩
  rw [hL] at hT
  rw [hL] at hh hTl
  have hLn : L ≤ teams.length := by omega
  obtain ⟨he, hr⟩ := made_err hmd (by decide) hsub (by omega)
  have hTn : T.Nodup := hmd.1.sublist hsub
  have hml : met.length ≤ 64 := hmd.2.2.2.2
  simp [go_sem, hh, ints_take, hT, hLn]
  refine ⟨⟨by omega, fun r hr => ints_one r hr⟩, by omega, ⟨by omega, fun r hr => ints_one r hr⟩, by omega, ?_⟩
  obtain ⟨lo, hlo⟩ : ∃ lo, (if 0 < n then 0 else n) = lo := ⟨_, rfl⟩
  obtain ⟨hi, hhi⟩ : ∃ hi, (if n < 65 then 65 else n) = hi := ⟨_, rfl⟩
  have hlo0 : lo ≤ 0 := by rw [← hlo]; split <;> omega
  have hhi0 : 65 ≤ hi := by rw [← hhi]; split <;> omega
  rw [hlo, hhi]
  obtain ⟨X, hX⟩ : ∃ X, T ++ [lo] = X := ⟨_, rfl⟩
  obtain ⟨Y, hY⟩ : ∃ Y, T ++ [hi] = Y := ⟨_, rfl⟩
  obtain ⟨Z, hZ⟩ : ∃ Z : List Int, [5, 6, 5] = Z := ⟨_, rfl⟩
  have hXl : X.length = T.length + 1 := by rw [← hX]; simp
  have hYl : Y.length = T.length + 1 := by rw [← hY]; simp
  have hZl : Z.length = 3 := by rw [← hZ]; rfl
  have hXr : rightB X met = false := by rw [← hX]; exact bad_team (by omega) met
  have hYr : rightB Y met = false := by rw [← hY]; exact bad_team (by omega) met
  have hZr : rightB Z met = false := by rw [← hZ]; unfold rightB; rw [show (decide ([5, 6, 5] : List Int).Nodup) = false by decide]; simp
  rw [show (ints T ++ [[.int .i64 lo]]) = ints X by rw [← hX, ints_snoc], show (ints T ++ [[.int .i64 hi]]) = ints Y by rw [← hY, ints_snoc], show ([[.int .i64 5], [.int .i64 6], [.int .i64 5]] : List (List IV)) = ints Z by rw [← hZ]; rfl]
  refine IWp.loopT (α := Nat) (fun k => (⟨false, 262, 7, [7, 8, 10, 12, 14, 16, 19, 21, 23, 25, 27, 29, 30, 31, 33, 35, 37, 39, 67, 68, 69, 70, 119, 131, 132, 133, 134, 149, 177, 192, 195, 260], glT, [(2, .int .i64 n), (7, .fz 1 (ints T)), (8, .fz 2 (prs met)), (67, .sl 5 3 0 3 none), (68, .int .i64 3), (69, .int .i64 (k : Int))], []⟩, [.rows 1 (ints X), .dead, .rows 1 (ints Y), .dead, .rows 1 (ints Z), .rows 1 [[.sl 0 (T.length + 1) 0 (T.length + 1) none], [.sl 2 (T.length + 1) 0 (T.length + 1) none], [.sl 4 3 0 3 none]]]))
    (fun k => k ≤ 3) (fun k => 3 - k) 0 (by omega) (by simp [go_sem]) ?_
  intro k hk
  by_cases hk3 : k < 3
  · rcases (by omega : k = 0 ∨ k = 1 ∨ k = 2) with rfl | rfl | rfl
    · obtain ⟨b1, b2, b3, b4, b5, b6, b7⟩ := bad_all hXr 0 [] []
      simp [go_sem]
      refine (Count_fun X met (by omega) (by omega)).call (by simp [go_sem, hXl, hYl]) ?_
      rintro _ rfl
      rw [b1, b2]
      simp [go_sem]
      refine (Nth_fun X met 0 (by omega) (by omega)).call (by simp [go_sem, hXl, hYl]) ?_
      rintro _ rfl
      rw [b3, b4]
      simp [go_sem]
      refine (Number_fun X met [] (by omega) (by omega) (by decide)).call (by simp [go_sem, hXl, hYl]) ?_
      rintro _ rfl
      rw [b5, b6]
      simp [go_sem]
      refine (Draw_fun X met [] (by omega) (by omega) (by decide)).call (by simp [go_sem, hXl, hYl]) ?_
      rintro _ rfl
      rw [b7, drawV]
      simp [go_sem]
      refine (Right_fun X met (by omega) (by omega)).call (by simp [go_sem, hXl, hYl]) ?_
      rintro _ rfl
      rw [hXr]
      simp [go_sem]
      exact ⟨1, by decide, by omega, by omega⟩
    · obtain ⟨b1, b2, b3, b4, b5, b6, b7⟩ := bad_all hYr 0 [] []
      simp [go_sem]
      refine (Count_fun Y met (by omega) (by omega)).call (by simp [go_sem, hXl, hYl]) ?_
      rintro _ rfl
      rw [b1, b2]
      simp [go_sem]
      refine (Nth_fun Y met 0 (by omega) (by omega)).call (by simp [go_sem, hXl, hYl]) ?_
      rintro _ rfl
      rw [b3, b4]
      simp [go_sem]
      refine (Number_fun Y met [] (by omega) (by omega) (by decide)).call (by simp [go_sem, hXl, hYl]) ?_
      rintro _ rfl
      rw [b5, b6]
      simp [go_sem]
      refine (Draw_fun Y met [] (by omega) (by omega) (by decide)).call (by simp [go_sem, hXl, hYl]) ?_
      rintro _ rfl
      rw [b7, drawV]
      simp [go_sem]
      refine (Right_fun Y met (by omega) (by omega)).call (by simp [go_sem, hXl, hYl]) ?_
      rintro _ rfl
      rw [hYr]
      simp [go_sem]
      exact ⟨2, by decide, by omega, by omega⟩
    · obtain ⟨b1, b2, b3, b4, b5, b6, b7⟩ := bad_all hZr 0 [] []
      simp [go_sem]
      refine (Count_fun Z met (by omega) (by omega)).call (by simp [go_sem, hZl]) ?_
      rintro _ rfl
      rw [b1, b2]
      simp [go_sem]
      refine (Nth_fun Z met 0 (by omega) (by omega)).call (by simp [go_sem, hZl]) ?_
      rintro _ rfl
      rw [b3, b4]
      simp [go_sem]
      refine (Number_fun Z met [] (by omega) (by omega) (by decide)).call (by simp [go_sem, hZl]) ?_
      rintro _ rfl
      rw [b5, b6]
      simp [go_sem]
      refine (Draw_fun Z met [] (by omega) (by omega) (by decide)).call (by simp [go_sem, hZl]) ?_
      rintro _ rfl
      rw [b7, drawV]
      simp [go_sem]
      refine (Right_fun Z met (by omega) (by omega)).call (by simp [go_sem, hZl]) ?_
      rintro _ rfl
      rw [hZr]
      simp [go_sem]
      exact ⟨3, by decide, by omega, by omega⟩
  have hk33 : k = 3 := by omega
  subst hk33
  simp [go_sem, hlo, hhi]
  rw [prs_one1, prs_one1, prs_one1]
  refine IWp.loopT (α := Nat) (fun k => (⟨false, 262, 7, [7, 8, 10, 12, 14, 16, 19, 21, 23, 25, 27, 29, 30, 31, 33, 35, 37, 39, 67, 68, 69, 70, 119, 131, 132, 133, 134, 149, 177, 192, 195, 260], glT, [(2, .int .i64 n), (7, .fz 1 (ints T)), (131, .sl 9 3 0 3 none), (132, .int .i64 3), (133, .int .i64 (k : Int))], []⟩, [.dead, .dead, .dead, .dead, .dead, .dead, .rows 2 (prs [(3, 3)]), .rows 2 (prs [(hi, 1)]), .rows 2 (prs [(1, lo)]), .rows 1 [[.sl 6 1 0 1 none], [.sl 7 1 0 1 none], [.sl 8 1 0 1 none]]]))
    (fun k => k ≤ 3) (fun k => 3 - k) 0 (by omega) (by simp [go_sem]) ?_
  clear hk hk3
  intro k hk
  by_cases hk3 : k < 3
  · rcases (by omega : k = 0 ∨ k = 1 ∨ k = 2) with rfl | rfl | rfl
    · skip
      have hr1 : rightB T [(3, 3)] = false := bad_met (.inr (.inr rfl))
      have b1 := (bad_all hr1 0 [] []).1
      have b2 := (bad_all hr1 0 [] []).2.1
      simp [go_sem]
      refine (Count_fun T [(3, 3)] (by omega) (by simp)).call (by simp [go_sem]) ?_
      rintro _ rfl
      rw [b1, b2]
      simp [go_sem]
      refine (Right_fun T [(3, 3)] (by omega) (by simp)).call (by simp [go_sem]) ?_
      rintro _ rfl
      rw [hr1]
      simp [go_sem]
      exact ⟨1, by decide, by omega, by omega⟩
    · skip
      have hr1 : rightB T [(hi, 1)] = false := bad_met (.inl (by omega))
      have b1 := (bad_all hr1 0 [] []).1
      have b2 := (bad_all hr1 0 [] []).2.1
      simp [go_sem]
      refine (Count_fun T [(hi, 1)] (by omega) (by simp)).call (by simp [go_sem]) ?_
      rintro _ rfl
      rw [b1, b2]
      simp [go_sem]
      refine (Right_fun T [(hi, 1)] (by omega) (by simp)).call (by simp [go_sem]) ?_
      rintro _ rfl
      rw [hr1]
      simp [go_sem]
      exact ⟨2, by decide, by omega, by omega⟩
    · skip
      have hr1 : rightB T [(1, lo)] = false := bad_met (.inr (.inl (by omega)))
      have b1 := (bad_all hr1 0 [] []).1
      have b2 := (bad_all hr1 0 [] []).2.1
      simp [go_sem]
      refine (Count_fun T [(1, lo)] (by omega) (by simp)).call (by simp [go_sem]) ?_
      rintro _ rfl
      rw [b1, b2]
      simp [go_sem]
      refine (Right_fun T [(1, lo)] (by omega) (by simp)).call (by simp [go_sem]) ?_
      rintro _ rfl
      rw [hr1]
      simp [go_sem]
      exact ⟨3, by decide, by omega, by omega⟩
  have hk33 : k = 3 := by omega
  subst hk33
  have t1 : errN [3] [] false = 360 := by decide +kernel
  have t2 : cntN [3] [] = 0 := by decide +kernel
  have t3 : nthE [3] [] 0 = 360 := by decide +kernel
  have t4 : nthD [3] [] 0 = [] := by decide +kernel
  have t5 : nmbE [3] [] [] = 360 := by decide +kernel
  have t6 : nmbN [3] [] [] = 0 := by decide +kernel
  have i3 : ([[IV.int .i64 3]] : List (List IV)) = ints [3] := rfl
  simp [go_sem]
  rw [i3]
  refine (Count_fun [3] [] (by decide) (by decide)).call (by simp [go_sem]) ?_
  rintro _ rfl
  rw [t1, t2]
  simp [go_sem]
  rw [i3]
  refine (Nth_fun [3] [] 0 (by decide) (by decide)).call (by simp [go_sem]) ?_
  rintro _ rfl
  rw [t3, t4]
  simp [go_sem]
  rw [i3]
  refine (Number_fun [3] [] [] (by decide) (by decide) (by decide)).call (by simp [go_sem]) ?_
  rintro _ rfl
  rw [t5, t6]
  simp [go_sem]
  have he0 : errN T [] false = 0 := by
    have := made_err (met := []) ⟨hmd.1, hmd.2.1, hmd.2.2.1, by simp, by simp⟩ (by decide) hsub (by omega)
    exact this.1
  have hf := fst_none hTn (by omega)
  have hhd := fst_head (met := []) (l := T)
  rw [if_pos hf] at hhd
  obtain ⟨D, hD⟩ : ∃ D, fstD [] T = D := ⟨_, rfl⟩
  rw [hD] at hhd
  have hpos : 0 < (drT [] T).length := by
    cases h : drT [] T with
    | nil => rw [h] at hhd; simp at hhd
    | cons x l => simp
  have h0 : (drT [] T)[0] = D := by
    rw [List.head?_eq_getElem?, List.getElem?_eq_getElem hpos] at hhd
    simpa using hhd
  have hmem : D ∈ drT [] T := h0 ▸ List.getElem_mem hpos
  have hlen := drs_len (ok := okT []) _ T (Nat.le_refl _) D hmem
  obtain ⟨n1, n2⟩ := nth_at he0 hpos
  rw [h0] at n1
  have hq : IntKind.i64.wrap ((T.length : Int) / 2) = D.length := by rw [wrap64 (by omega) (by omega)]; omega
  refine (Nth_fun T [] ((0 : Nat) : Int) (by omega) (by decide)).call (by simp [go_sem]) ?_
  rintro _ rfl
  rw [n1, n2]
  by_cases hD1 : 1 < D.length
  case neg =>
    have hDI : ¬ (1 : Int) < D.length := by omega
    simp [go_sem, hq, hDI]
    refine awake_fun.call (by simp [go_sem]) ?_
    rintro _ rfl
    simp [go_sem]
    exact hR _ _ _ rfl (by simp [go_sem])
  have hDI : (1 : Int) < D.length := by omega
  obtain ⟨p0, hp0⟩ : ∃ p, D[0]'(by omega) = p := ⟨_, rfl⟩
  obtain ⟨p1, hp1⟩ : ∃ p, D[1] = p := ⟨_, rfl⟩
  obtain ⟨a, b⟩ := p0
  obtain ⟨c, e⟩ := p1
  have hDe : D = (a, b) :: (c, e) :: D.drop 2 := by
    rw [← hp0, ← hp1]
    rw [← List.drop_eq_getElem_cons hD1, ← List.drop_eq_getElem_cons (by omega : 0 < D.length)]; rfl
  have hDt : D.tail = (c, e) :: D.drop 2 := by rw [hDe]; rfl
  have ht1 : (List.take D.length (prs D)).tail = prs D.tail := by
    rw [List.take_of_length_le (by simp)]; simp [prs, mp]
  have ht2 : List.drop 2 (List.take D.length (prs D)) = prs (D.drop 2) := by
    rw [List.take_of_length_le (by simp)]; simp [prs, mp]
  have ht3 : List.take 1 (prs D) = prs (D.take 1) := by simp [prs, mp]
  -- what is no draw
  have facts : nmbE T [] D.tail = 6 ∧ nmbE T [] ((c, e) :: (a, b) :: D.drop 2) = 6 ∧ nmbE T [] ((b, a) :: D.tail) = 6 ∧ nmbE T (D.take 1) D = 6 := by
    have hT0 : T ≠ [] := fun h => by rw [h] at hlen; simp at hlen; omega
    cases hTT : T with
    | nil => exact absurd hTT hT0
    | cons x ts =>
      rw [hTT] at hmem hTn he0 hr hlen
      have hts := List.nodup_cons.1 hTn
      rw [hDe] at hmem
      obtain ⟨y, d', h1, h2, h3, h4⟩ := (mem_drs hts.2).1 hmem
      simp only [List.cons.injEq, Prod.mk.injEq] at h1
      obtain ⟨⟨hax, hby⟩, hd'⟩ := h1
      have hin := drs_in (ok := okT []) _ _ (Nat.le_refl _) (wo_nodup hts.2) d' h4 (c, e) (by rw [← hd']; exact List.mem_cons_self ..)
      have hc : c ∈ ts := (mem_wo.1 hin.1).1
      have hbt : b ∈ ts := hby ▸ h2
      refine ⟨nmb_not he0 fun hm => ?_, nmb_not he0 fun hm => ?_, nmb_not he0 fun hm => ?_, ?_⟩
      · have := drs_len (ok := okT []) _ _ (Nat.le_refl _) _ hm
        rw [List.length_tail] at this; omega
      · obtain ⟨y2, d2, h5, _⟩ := (mem_drs hts.2).1 hm
        simp only [List.cons.injEq, Prod.mk.injEq] at h5
        exact hts.1 (h5.1.1 ▸ hc)
      · obtain ⟨y2, d2, h5, _⟩ := (mem_drs hts.2).1 hm
        simp only [List.cons.injEq, Prod.mk.injEq] at h5
        exact hts.1 (h5.1.1 ▸ hbt)
      · have hD1' : D.take 1 = [] ++ [(a, b)] := by rw [hDe]; rfl
        have hxa : a = x := hax
        have hax' : a ∈ x :: ts := by rw [hxa]; exact List.mem_cons_self ..
        have hab : a ≠ b := fun h => hts.1 (by rw [← hxa, h]; exact hbt)
        have hr0 : rightB (x :: ts) [] = true := (errN_zero he0).1
        have heM := errN_snoc hr0 hax' (List.mem_cons_of_mem _ hbt) hab he0
        rw [hD1']
        refine nmb_not heM fun hm => ?_
        rw [hDe] at hm
        obtain ⟨y2, d2, h5, _, h6, _⟩ := (mem_drs hts.2).1 hm
        simp only [List.cons.injEq, Prod.mk.injEq] at h5
        rw [← h5.1.1, ← h5.1.2] at h6
        simp [okT, metB] at h6
  obtain ⟨g1, g2, g3, g4⟩ := facts
  have hDtl : D.tail.length ≤ 8 := by rw [List.length_tail]; omega
  simp [go_sem, hq, hDI, hD1]
  rw [ht1]
  refine ⟨by omega, ?_⟩
  refine (Number_fun T [] D.tail (by omega) (by decide) (by omega)).call (by simp [go_sem]) ?_
  rintro _ rfl
  rw [g1]
  have c2 := Number_fun T [] ((c, e) :: (a, b) :: D.drop 2) (by omega) (by decide) (by simp; omega)
  have c3 := Number_fun T [] ((b, a) :: D.tail) (by omega) (by decide) (by simp; omega)
  rw [g2] at c2
  rw [g3] at c3
  have hD0 : 0 < D.length := by omega
  have pc2 : prs ((c, e) :: (a, b) :: D.drop 2) = [.int .i64 c, .int .i64 e] :: [.int .i64 a, .int .i64 b] :: prs (D.drop 2) := rfl
  have pc3 : prs ((b, a) :: D.tail) = [.int .i64 b, .int .i64 a] :: prs D.tail := rfl
  have c2' := number_nil c2
  have c3' := number_nil c3
  rw [pc2] at c2'
  rw [pc3] at c3'
  have tk2 : List.take (2 + (D.length - 2)) ([IV.int .i64 c, .int .i64 e] :: [.int .i64 a, .int .i64 b] :: prs (D.drop 2)) = [.int .i64 c, .int .i64 e] :: [.int .i64 a, .int .i64 b] :: prs (D.drop 2) := List.take_of_length_le (by simp; omega)
  have k2 : (∀ row ∈ [IV.int .i64 c, .int .i64 e] :: [.int .i64 a, .int .i64 b] :: prs (D.drop 2), ∀ c ∈ row, Cl c) = True := eq_true (by rw [← pc2]; exact ScR.cl (mp_sc (by simp [scal])))
  have k3 : (∀ row ∈ prs (D.drop 2), ∀ c ∈ row, Cl c) = True := eq_true (ScR.cl (mp_sc (by simp [scal])))
  have k4 : (∀ row ∈ prs D.tail, ∀ c ∈ row, Cl c) = True := eq_true (ScR.cl (mp_sc (by simp [scal])))
  have tk3 : List.take (1 + (D.length - 1)) ([IV.int .i64 b, .int .i64 a] :: prs D.tail) = [.int .i64 b, .int .i64 a] :: prs D.tail := List.take_of_length_le (by simp; omega)
  have k5 : (∀ row ∈ [IV.int .i64 b, .int .i64 a] :: prs D.tail, ∀ c ∈ row, Cl c) = True := eq_true (by rw [← pc3]; exact ScR.cl (mp_sc (by simp [scal])))
  have l4 : (1 + (D.length - 1) = D.length - 1 + 1) = True := eq_true (by omega)
  have l5 : (1 + (D.length - 1) ≤ D.length - 1 + 1) = True := eq_true (by omega)
  have l2 : (2 + (D.length - 2) = D.length - 2 + 1 + 1) = True := eq_true (by omega)
  have l3 : (2 + (D.length - 2) ≤ D.length - 2 + 1 + 1) = True := eq_true (by omega)
  simp [go_sem]
  refine Drawn.intro (fun q => if q = 11 then .tup [.int .i64 (nmbN T [] ((c, e) :: (a, b) :: D.drop 2)), .int .i64 6] else .tup []) ?_
  simp [go_sem, hD1, hD0, hp0, hp1, ht2, hDI, tk2, k2, k3, l2, l3, c2']
  refine ⟨by omega, ⟨by omega, fun r hr => prs_one r hr⟩, by decide +kernel, ?_⟩
  refine Drawn.intro (fun q => if q = 14 then .tup [.int .i64 (nmbN T [] ((b, a) :: D.tail)), .int .i64 6] else .tup []) ?_
  simp [go_sem, hD1, hD0, hp0, hp1, ht1, hDI, k4, tk3, k5, l4, l5, c3']
  refine ⟨by omega, ⟨by omega, fun r hr => prs_one r hr⟩, by decide +kernel, by omega, ?_⟩
  rw [ht3]
  refine (Number_fun T (D.take 1) D (by omega) (by rw [List.length_take]; omega) (by omega)).call (by simp [go_sem]) ?_
  rintro _ rfl
  rw [g4]
  simp [go_sem]
  refine awake_fun.call (by simp [go_sem]) ?_
  rintro _ rfl
  simp [go_sem]
  exact hR _ _ _ rfl (by simp [go_sem])
theorem PairingWrong_law' (order : List Int) (bits n : Int) (h1 : ∀ z ∈ order, (Lit.int .u8 z).wf = true) (h2 : order.length ≤ maxLen) (h3 : (Lit.int .u64 bits).wf = true) (h4 : (Lit.int .i64 n).wf = true) : F36 5 [.fz 1 (bys order), .int .u64 bits, .int .i64 n] (fun v => v = .bool true) :=
  PairingWrong_law order bits n (wf_bys h1) (len62 h2) (wf_u64 h3) h4
end Go.Idl
