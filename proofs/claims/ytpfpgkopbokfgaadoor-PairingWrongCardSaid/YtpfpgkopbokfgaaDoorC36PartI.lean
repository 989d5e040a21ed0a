/-
  Chapter 36: the law PairingFewer f10.
  Chapter 36: the law PairingBest f9.
-/
import Derived.Test.YtpfpgkopbokfgaaDoorC36PartH
import Derived.Test.YtpfpgkopbokfgaaDoorC36PartD
namespace Go.Idl
set_option linter.all false
open Go.Proofs
set_option maxHeartbeats 8000000
set_option maxRecDepth 40000

def rest2 (T : List Int) (i k n : Nat) : List Int := ((List.range n).filter fun j => !(decide (j = i)) && !(decide (j = k))).map fun j => T.getD j 0
theorem rest2_succ (T : List Int) (i k n : Nat) : rest2 T i k (n + 1) = rest2 T i k n ++ (if n ≠ i ∧ n ≠ k then [T.getD n 0] else []) := by
  unfold rest2
  rw [List.range_succ, List.filter_append, List.map_append]
  congr 1
  by_cases h : n = i
  · simp [h]
  · by_cases h2 : n = k
    · simp [h2]
    · simp [h, h2]
theorem rest2_all (T : List Int) (hn : T.Nodup) {i k : Nat} (hi : i < T.length) (hk : k < T.length) : rest2 T i k T.length = wo T[i] (wo T[k] T) := by
  have key : ∀ L : List Nat, (∀ j ∈ L, j < T.length) → (L.filter fun j => !(decide (j = i)) && !(decide (j = k))).map (fun j => T.getD j 0) = wo T[i] (wo T[k] (L.map fun j => T.getD j 0)) := by
    intro L hL
    induction L with
    | nil => rfl
    | cons a L ih =>
      have ha := hL a (List.mem_cons_self ..)
      have ih := ih fun j hj => hL j (List.mem_cons_of_mem _ hj)
      have hTa : T.getD a 0 = T[a] := by simp [ha]
      have hfi : (a = i) ↔ T[a] = T[i] := ⟨fun e => by subst e; rfl, fun e => nodup_eq hn ha hi e⟩
      have hfk : (a = k) ↔ T[a] = T[k] := ⟨fun e => by subst e; rfl, fun e => nodup_eq hn ha hk e⟩
      rw [List.map_cons, hTa]
      by_cases h2 : a = k
      · rw [hfk.1 h2, wo_cons_eq, ← ih, List.filter_cons, if_neg (by simp [h2])]
      · rw [wo_cons_ne (fun e => h2 (hfk.2 e))]
        by_cases h1 : a = i
        · rw [hfi.1 h1, wo_cons_eq, ← ih, List.filter_cons, if_neg (by simp [h1])]
        · rw [wo_cons_ne (fun e => h1 (hfi.2 e)), ← ih, List.filter_cons, if_pos (by simp [h1, h2]), List.map_cons, hTa]
  have := key (List.range T.length) fun j hj => List.mem_range.1 hj
  rw [teams_range] at this
  exact this
theorem okT_snoc (met : List (Int × Int)) (a b : Int) : okT (met ++ [(a, b)]) = okW (okT met) a b := by
  funext x y
  unfold okT okW
  rw [metB_snoc, Bool.not_or]
  congr 2
  have e1 : ((a, b) = (x, y)) ↔ (x = a ∧ y = b) := by rw [Prod.mk.injEq]; exact ⟨fun h => ⟨h.1.symm, h.2.symm⟩, fun h => ⟨h.1.symm, h.2.symm⟩⟩
  have e2 : ((a, b) = (y, x)) ↔ (x = b ∧ y = a) := by rw [Prod.mk.injEq]; exact ⟨fun h => ⟨h.2.symm, h.1.symm⟩, fun h => ⟨h.2.symm, h.1.symm⟩⟩
  rw [decide_eq_decide.2 e1, decide_eq_decide.2 e2]
theorem metB_symm (met : List (Int × Int)) (a b : Int) : metB met a b = metB met b a := by
  unfold metB; congr 1; funext p; rw [Bool.or_comm]
theorem drT_fewer {T : List Int} {met : List (Int × Int)} (hn : T.Nodup) {i k : Nat} (hi : i < T.length) (hk : k < T.length) (hik : i ≠ k) :
    (drT met T).length = (drT (met ++ [(T[i], T[k])]) T).length + (if metB met T[i] T[k] = true then 0 else (drT met (rest2 T i k T.length)).length) := by
  have h := fewer (ok := okT met) (i := T[i]) (k := T[k]) (fun e => hik (nodup_eq hn hi hk e)) (by simp only [okT]; rw [metB_symm]) T.length T (Nat.le_refl _) hn (List.getElem_mem _) (List.getElem_mem _)
  rw [rest2_all T hn hi hk]
  simp only [drT, okT_snoc]
  unfold cntL at h
  rw [h]
  cases hm : metB met T[i] T[k] <;> simp [okT, hm]
theorem drT_more {T : List Int} {met : List (Int × Int)} (hn : T.Nodup) (a b : Int) : ∀ d ∈ drT (met ++ [(a, b)]) T, d ∈ drT met T := by
  intro d hd
  simp only [drT, okT_snoc] at hd ⊢
  exact drs_okW T.length T (Nat.le_refl _) hn d hd
theorem errN_snoc {T : List Int} {met : List (Int × Int)} (hr : rightB T met = true) {a b : Int} (ha : a ∈ T) (hb : b ∈ T) (hab : a ≠ b) (he : errN T met false = 0) : errN T (met ++ [(a, b)]) false = 0 := by
  have hr2 : rightB T (met ++ [(a, b)]) = true := by
    simp only [rightB, Bool.and_eq_true, List.all_append, List.all_cons, List.all_nil] at hr ⊢
    have h1 := List.all_eq_true.1 hr.1.1 a ha
    have h2 := List.all_eq_true.1 hr.1.1 b hb
    exact ⟨hr.1, hr.2, by simp [h1, h2, hab]⟩
  obtain ⟨_, h2, h3⟩ := errN_zero he
  unfold errN
  rw [if_neg (by simp [hr2]), if_neg (by omega), if_neg (by simp [h3])]
theorem number_any {T : List Int} {met d : List (Int × Int)} (he : errN T met false = 0) (hd : d ∈ drT met T) : nmbE T met d = 0 := by
  unfold nmbE
  rw [if_neg (by simp [he])]
  cases h : ix (drT met T) d with
  | some i => rfl
  | none => exact absurd hd (ix_none.1 h)

theorem PairingFewer_law (order : List Int) (bits a b : Int) (ho : ∀ b ∈ order, 0 ≤ b ∧ b ≤ 255) (hol : order.length < 2 ^ 63) (hb : 0 ≤ bits ∧ bits < 2 ^ 64) (ha8 : 0 ≤ a ∧ a ≤ 255) (hb8 : 0 ≤ b ∧ b ≤ 255) :
    F36 10 [.fz 1 (bys order), .int .u64 bits, .int .u8 a, .int .u8 b] (fun v => v = .bool true) := by
  refine IFun.of_bodyZ false 9 [9, 10, 11, 12, 13, 14, 15, 16, 17, 18, 19, 20, 21, 22, 23, 24, 25, 27, 42, 56, 72, 73, 74, 75, 86, 119, 132, 133, 134, 135, 156] Tryd.func10 rfl Tryd.call10 rfl fun R hR => ?_
  simp [go_sem]
  refine (Made_fun order bits 8 (by decide) ho hol hb).call (by simp [go_sem]) ?_
  rintro _ ⟨teams, met, hmd, rfl⟩
  obtain ⟨T, hT⟩ : ∃ T, teams.take (teams.length / 2 * 2) = T := ⟨_, rfl⟩
  have hsub : T.Sublist teams := hT ▸ List.take_sublist _ _
  have hTl : T.length = teams.length / 2 * 2 := by rw [← hT]; simp; omega
  have h3 := hmd.2.2.1
  have hh := half2 teams.length (by omega)
  obtain ⟨L, hL⟩ : ∃ L, teams.length / 2 * 2 = L := ⟨_, rfl⟩
  rw [hL] at hT
  rw [hL] at hh hTl
  have hLn : L ≤ teams.length := by omega
  obtain ⟨he, hr⟩ := made_err hmd (by decide) hsub (by omega)
  have hTn : T.Nodup := hmd.1.sublist hsub
  have hml : met.length ≤ 64 := hmd.2.2.2.2
  by_cases hT2 : T.length < 2
  · have hT2I : (T.length : Int) < 2 := by omega
    have hTL : min L teams.length = T.length := by omega
    simp [go_sem, hh, ints_take, hT, hLn, hT2I, hTL]
    refine awake_fun.call (by simp [go_sem]) ?_
    rintro _ rfl
    simp [go_sem]
    exact hR _ _ _ rfl (by simp [go_sem])
  have hT2I : ¬ (T.length : Int) < 2 := by omega
  have hT0 : ¬ T.length = 0 := by omega
  have hT0' : ¬ T = [] := fun e => hT0 (by rw [e]; rfl)
  obtain ⟨i, hi⟩ : ∃ i : Nat, a.tmod T.length = i := ⟨(a.tmod T.length).toNat, by rw [Int.tmod_eq_emod_of_nonneg ha8.1]; have := Int.emod_nonneg a (b := T.length) (by omega); omega⟩
  obtain ⟨k, hk⟩ : ∃ k : Nat, b.tmod T.length = k := ⟨(b.tmod T.length).toNat, by rw [Int.tmod_eq_emod_of_nonneg hb8.1]; have := Int.emod_nonneg b (b := T.length) (by omega); omega⟩
  have hiT : i < T.length := by rw [Int.tmod_eq_emod_of_nonneg ha8.1] at hi; have := Int.emod_lt_of_pos a (b := T.length) (by omega); omega
  have hkT : k < T.length := by rw [Int.tmod_eq_emod_of_nonneg hb8.1] at hk; have := Int.emod_lt_of_pos b (b := T.length) (by omega); omega
  have wa : IntKind.i64.wrap a = a := wrap64 (by omega) (by omega)
  have wb : IntKind.i64.wrap b = b := wrap64 (by omega) (by omega)
  have hTL : min L teams.length = T.length := by omega
  simp [go_sem, hh, ints_take, hT, hLn, hT2I, wa, wb, hi, hk, hT0, hT0', hTL]
  by_cases hik : i = k
  · simp [hik]
    refine ⟨by decide +kernel, ?_⟩
    refine awake_fun.call (by simp [go_sem]) ?_
    rintro _ rfl
    simp [go_sem]
    exact hR _ _ _ rfl (by simp [go_sem])
  have hikI : ¬ (i : Int) = k := by omega
  have hTi : T[i] ∈ T := List.getElem_mem _
  have hTk : T[k] ∈ T := List.getElem_mem _
  have hTik : T[i] ≠ T[k] := fun e => hik (nodup_eq hTn hiT hkT e)
  have hFew := drT_fewer (met := met) hTn hiT hkT hik
  have heM := errN_snoc hr hTi hTk hTik he
  have hMore := drT_more (met := met) hTn T[i] T[k]
  obtain ⟨M, hM⟩ : ∃ M, met ++ [(T[i], T[k])] = M := ⟨_, rfl⟩
  have hMp : prs met ++ [[.int .i64 T[i], .int .i64 T[k]]] = prs M := by rw [← hM, prs_snoc]
  have hMl : met.length + 1 = M.length := by rw [← hM]; simp
  rw [hM] at hFew heM hMore
  have hrest := rest2_all T hTn hiT hkT
  simp [hikI, go_sem, hiT, hkT]
  rw [hMp, hMl]
  refine ⟨by decide +kernel, ⟨by omega, fun r hr => prs_one r hr⟩, by omega, by decide +kernel, ?_⟩
  refine IWp.ownNilS 1 14 (by decide) (by simp [go_sem]) ?_
  simp only [go_sem]
  refine IWp.loopT (α := Nat) (fun j => (⟨false, 159, 9, [9, 10, 11, 12, 13, 14, 15, 16, 17, 18, 19, 20, 21, 22, 23, 24, 25, 27, 42, 56, 72, 73, 74, 75, 86, 119, 132, 133, 134, 135, 156], glT, [(9, .fz 1 (ints T)), (10, .fz 2 (prs met)), (11, .int .i64 (i : Int)), (12, .int .i64 (k : Int)), (13, .sl 0 M.length 0 M.length none), (14, .sl 13 (rest2 T i k j).length 0 (rest2 T i k j).length none), (72, .fz 1 (ints T)), (73, .int .i64 (T.length : Int)), (74, .int .i64 (j : Int))], []⟩, [.rows 2 (prs M), .dead, .dead, .dead, .dead, .dead, .dead, .dead, .dead, .dead, .dead, .dead, .dead, .rows 1 (ints (rest2 T i k j))]))
    (fun j => j ≤ T.length) (fun j => T.length - j) 0 (by omega) (by simp [go_sem, rest2]) ?_
  intro j hj
  have hrs := rest2_succ T i k j
  have hrl : (rest2 T i k j).length ≤ j := by unfold rest2; rw [List.length_map]; exact Nat.le_trans (List.length_filter_le _ _) (by simp)
  by_cases hjT : j < T.length
  · have w1 : IntKind.i64.wrap ((j : Int) + 1) = j + 1 := wrap64 (by omega) (by omega)
    have hTj : T.getD j 0 = T[j] := by simp [hjT]
    by_cases hc : j ≠ i ∧ j ≠ k
    · rw [if_pos hc, hTj] at hrs
      have hci : ¬ (j : Int) = i := by omega
      have hck : ¬ (j : Int) = k := by omega
      simp [go_sem, hjT, hci, hck, hc.1, hc.2, w1]
      exact ⟨by omega, j + 1, ⟨⟨by rw [hrs]; simp, by omega⟩, by rw [hrs, ints_snoc]⟩, by omega, by omega⟩
    · rw [if_neg hc, List.append_nil] at hrs
      by_cases hji : j = i
      · simp [go_sem, hjT, hji, hiT]
        rw [hji] at w1 hrs hrl
        simp [w1]
        exact ⟨i + 1, ⟨⟨by rw [hrs], by omega⟩, by rw [hrs]⟩, by omega, by omega⟩
      · have hjk : j = k := by omega
        have hjiI : ¬ (k : Int) = i := by omega
        have hjiN : ¬ k = i := by omega
        simp [go_sem, hjT, hjk, hkT, hjiI, hjiN]
        rw [hjk] at w1 hrs hrl
        simp [w1]
        exact ⟨k + 1, ⟨⟨by rw [hrs], by omega⟩, by rw [hrs]⟩, by omega, by omega⟩
  · have hjl : j = T.length := by omega
    obtain ⟨Rs, hRs⟩ : ∃ Rs, rest2 T i k j = Rs := ⟨_, rfl⟩
    rw [← hjl, hRs] at hFew hrest
    have hRl : Rs.length + 2 = T.length := by
      have l1 := wo_length (l := T) hTn hTk
      have l2 := wo_length (l := wo T[k] T) (wo_nodup hTn) (mem_wo.2 ⟨hTi, hTik⟩)
      rw [← hrest] at l2; omega
    obtain ⟨heR, _⟩ := made_err (T := Rs) hmd (by decide) (by rw [hrest]; exact List.Sublist.trans List.filter_sublist (List.Sublist.trans List.filter_sublist hsub)) (by omega)
    have c1 := cntN_eq he
    have c2 := cntN_eq heM
    have c3 := cntN_eq heR
    have b1 := drT_le (met := met) hTn (by omega)
    have b2 := drT_le (met := M) hTn (by omega)
    obtain ⟨D, hD⟩ : ∃ D, drT M T = D := ⟨_, rfl⟩
    simp [go_sem, hjT, hRs]
    refine (Count_fun T met (by omega) (by omega)).call (by simp [go_sem]) ?_
    rintro _ rfl
    rw [he, c1]
    simp [go_sem]
    refine (Count_fun T M (by omega) (by omega)).call (by simp [go_sem]) ?_
    rintro _ rfl
    rw [heM, c2]
    simp [go_sem]
    refine (Count_fun Rs met (by omega) (by omega)).call (by simp [go_sem]) ?_
    rintro _ rfl
    rw [heR, c3]
    simp [go_sem]
    obtain ⟨mt, hmt⟩ : ∃ mt, metB met T[i] T[k] = mt := ⟨_, rfl⟩
    have cm := Met_fun met T[i] T[k] (by omega)
    rw [hmt] at cm hFew
    refine Drawn.intro (fun q => if q = 9 then .bool mt else .tup []) ?_
    simp [go_sem, hiT, hkT, cm]
    refine ⟨by decide +kernel, ?_⟩
    obtain ⟨W, hW⟩ : ∃ W : Nat, (if mt = true then 0 else (drT met Rs).length) = W := ⟨_, rfl⟩
    rw [hW] at hFew
    have ww : IntKind.i64.wrap (((drT M T).length : Int) + W) = (drT met T).length := by rw [hFew, wrap64 (by omega) (by omega)]; omega
    have w00 : IntKind.i64.wrap (IntKind.i64.wrap 0) = 0 := by decide
    cases mt with
    | true =>
      have hW0 : W = 0 := by rw [← hW]; rfl
      rw [hW0] at ww hFew
      have ww' : IntKind.i64.wrap ((drT M T).length : Int) = (drT met T).length := by simpa using ww
      simp [go_sem, ww', w00]
      rw [hD]
      have hDl : D.length ≤ 105 := by rw [← hD]; exact b2
      refine IWp.loopT (α := Nat) (fun n => (⟨false, 159, 9, [9, 10, 11, 12, 13, 14, 15, 16, 17, 18, 19, 20, 21, 22, 23, 24, 25, 27, 42, 56, 72, 73, 74, 75, 86, 119, 132, 133, 134, 135, 156], glT, [(9, .fz 1 (ints T)), (10, .fz 2 (prs met)), (13, .sl 0 M.length 0 M.length none), (133, .int .i64 (D.length : Int)), (134, .int .i64 (n : Int))], []⟩, [.rows 2 (prs M), .dead, .dead, .dead, .dead, .dead, .dead, .dead, .dead, .dead, .dead, .dead, .dead, .dead]))
        (fun n => n ≤ D.length) (fun n => D.length - n) 0 (by omega) (by simp [go_sem]) ?_
      intro n hn
      by_cases h : n < D.length
      · have w1 : IntKind.i64.wrap ((n : Int) + 1) = n + 1 := wrap64 (by omega) (by omega)
        obtain ⟨n1, n2⟩ := nth_at heM (hD ▸ h)
        simp only [hD] at n1
        have hmem := hMore D[n] (by rw [hD]; exact List.getElem_mem h)
        have hnb := number_any he hmem
        have hlen := drs_len (ok := okT met) _ T (Nat.le_refl _) D[n] hmem
        simp [go_sem, h]
        refine (Nth_fun T M (n : Int) (by omega) (by omega)).call (by simp [go_sem]) ?_
        rintro _ rfl
        rw [n1, n2]
        simp [go_sem]
        refine (Number_fun T met D[n] (by omega) (by omega) (by omega)).call (by simp [go_sem]) ?_
        rintro _ rfl
        rw [hnb]
        simp [go_sem, w1]
        exact ⟨n + 1, by omega, by omega, by omega⟩
      · simp [go_sem, h]
        refine awake_fun.call (by simp [go_sem]) ?_
        rintro _ rfl
        simp [go_sem]
        exact hR _ _ _ rfl (by simp [go_sem])
    | false =>
      have hW0 : W = (drT met Rs).length := by rw [← hW]; rfl
      rw [hW0] at ww hFew
      simp [go_sem, ww, w00]
      rw [hD]
      have hDl : D.length ≤ 105 := by rw [← hD]; exact b2
      refine IWp.loopT (α := Nat) (fun n => (⟨false, 159, 9, [9, 10, 11, 12, 13, 14, 15, 16, 17, 18, 19, 20, 21, 22, 23, 24, 25, 27, 42, 56, 72, 73, 74, 75, 86, 119, 132, 133, 134, 135, 156], glT, [(9, .fz 1 (ints T)), (10, .fz 2 (prs met)), (13, .sl 0 M.length 0 M.length none), (133, .int .i64 (D.length : Int)), (134, .int .i64 (n : Int))], []⟩, [.rows 2 (prs M), .dead, .dead, .dead, .dead, .dead, .dead, .dead, .dead, .dead, .dead, .dead, .dead, .dead]))
        (fun n => n ≤ D.length) (fun n => D.length - n) 0 (by omega) (by simp [go_sem]) ?_
      intro n hn
      by_cases h : n < D.length
      · have w1 : IntKind.i64.wrap ((n : Int) + 1) = n + 1 := wrap64 (by omega) (by omega)
        obtain ⟨n1, n2⟩ := nth_at heM (hD ▸ h)
        simp only [hD] at n1
        have hmem := hMore D[n] (by rw [hD]; exact List.getElem_mem h)
        have hnb := number_any he hmem
        have hlen := drs_len (ok := okT met) _ T (Nat.le_refl _) D[n] hmem
        simp [go_sem, h]
        refine (Nth_fun T M (n : Int) (by omega) (by omega)).call (by simp [go_sem]) ?_
        rintro _ rfl
        rw [n1, n2]
        simp [go_sem]
        refine (Number_fun T met D[n] (by omega) (by omega) (by omega)).call (by simp [go_sem]) ?_
        rintro _ rfl
        rw [hnb]
        simp [go_sem, w1]
        exact ⟨n + 1, by omega, by omega, by omega⟩
      · simp [go_sem, h]
        refine awake_fun.call (by simp [go_sem]) ?_
        rintro _ rfl
        simp [go_sem]
        exact hR _ _ _ rfl (by simp [go_sem])
end Go.Idl
namespace Go.Idl
set_option linter.all false
open Go.Proofs
set_option maxHeartbeats 8000000
set_option maxRecDepth 40000

theorem oAt_pre (met : List (Int × Int)) (a : Int) (ts : List Int) (j : Nat) : ∃ r, drT met (a :: ts) = oAt met a ts j ++ r := by
  rw [← oAt_end]
  unfold oAt
  rw [List.take_of_length_le (l := picks ts) (i := ts.length) (by rw [picks_length]; exact Nat.le_refl _)]
  conv => arg 1; ext r; lhs; rw [← List.take_append_drop j (picks ts), List.flatMap_append]
  exact ⟨_, rfl⟩
theorem best_first {met : List (Int × Int)} {a : Int} {ts : List Int} {j : Nat} (hj : j < ts.length) (h0 : oAt met a ts j = []) {d : List (Int × Int)} (hd : (drT met (a :: ts)).head? = some d) (hok : okT met a ts[j] = true) {e : List (Int × Int)} (he : (drT met (ts.eraseIdx j)).head? = some e) : d = (a, ts[j]) :: e := by
  obtain ⟨r, hr⟩ := oAt_pre met a ts (j + 1)
  rw [oAt_succ met a ts j hj, h0, if_pos hok, List.nil_append] at hr
  cases hl : drT met (ts.eraseIdx j) with
  | nil => rw [hl] at he; simp at he
  | cons x l =>
    rw [hl] at he hr
    simp at he
    subst he
    rw [hr] at hd
    simpa using hd.symm
theorem best_pair {met : List (Int × Int)} {a : Int} {ts : List Int} (hn : ts.Nodup) {d : List (Int × Int)} (hd : d ∈ drT met (a :: ts)) {j : Nat} (hj : j < ts.length) {p : Int × Int} {d' : List (Int × Int)} (hp : d = p :: d') (hb : p.2 = ts[j]) : p.1 = a ∧ okT met a ts[j] = true ∧ d' ∈ drT met (ts.eraseIdx j) := by
  obtain ⟨b, e, h1, h2, h3, h4⟩ := (mem_drs hn).1 hd
  rw [hp] at h1
  simp only [List.cons.injEq] at h1
  obtain ⟨rfl, rfl⟩ := h1
  simp only at hb
  subst hb
  have he : wo ts[j] ts = ts.eraseIdx j := by
    clear h2 h3 h4 hd hp
    induction ts generalizing j with
    | nil => simp at hj
    | cons x ts ih =>
      rw [List.nodup_cons] at hn
      cases j with
      | zero => simp only [List.getElem_cons_zero, List.eraseIdx_zero, List.tail_cons]; rw [wo_cons_eq, wo_not hn.1]
      | succ j =>
        have hj' : j < ts.length := by simpa using hj
        simp only [List.getElem_cons_succ, List.eraseIdx_cons_succ]
        rw [wo_cons_ne (fun e => hn.1 (by rw [e]; exact List.getElem_mem hj')), ih hn.2 hj']
  rw [he] at h4
  exact ⟨rfl, h3, h4⟩

theorem PairingBest_law (order : List Int) (bits : Int) (ho : ∀ b ∈ order, 0 ≤ b ∧ b ≤ 255) (hol : order.length < 2 ^ 63) (hb : 0 ≤ bits ∧ bits < 2 ^ 64) : F36 9 [.fz 1 (bys order), .int .u64 bits] (fun v => v = .bool true) := by
  refine IFun.of_bodyZ false 5 [5, 6, 7, 8, 9, 10, 11, 12, 13, 14, 16, 17, 18, 19, 20, 21, 73, 75, 96, 100, 101, 102, 103, 109, 115, 120, 143, 150, 152, 166] Tryd.func9 rfl Tryd.call9 rfl fun R hR => ?_
  simp [go_sem]
  refine (Made_fun order bits 12 (by decide) ho hol hb).call (by simp [go_sem]) ?_
  rintro _ ⟨teams, met, hmd, rfl⟩
  obtain ⟨T, hT⟩ : ∃ T, teams.take (teams.length / 2 * 2) = T := ⟨_, rfl⟩
  have hsub : T.Sublist teams := hT ▸ List.take_sublist _ _
  have hTl : T.length = teams.length / 2 * 2 := by rw [← hT]; simp; omega
  have h3 := hmd.2.2.1
  have hh := half2 teams.length (by omega)
  obtain ⟨L, hL⟩ : ∃ L, teams.length / 2 * 2 = L := ⟨_, rfl⟩
  rw [hL] at hT
  rw [hL] at hh hTl
  have hLn : L ≤ teams.length := by omega
  obtain ⟨he, hr⟩ := made_err hmd (by decide) hsub (by omega)
  have heT : errN T met true = 0 := by
    unfold errN
    rw [if_neg (by simp [hr]), if_neg (by omega), if_neg (by simp)]
  have hTn : T.Nodup := hmd.1.sublist hsub
  have hml : met.length ≤ 144 := hmd.2.2.2.2
  have hcE := cntN_eq he
  have hdR : drawR T met T = if fstB met T = true then (fstD met T, 0, 0) else ([], 0, 6) := by
    unfold drawR; rw [if_neg (by simp [heT]), if_pos (by omega)]
  have hD : (drT met T).length ≤ 10395 := by
    have := cnt_le_df (ok := okT met) T.length T rfl hTn
    have h2 : df T.length ≤ 10395 := by
      have : ∀ n, n ≤ 12 → df n ≤ 10395 := by decide
      exact this _ (by omega)
    exact Nat.le_trans this h2
  simp [go_sem, hh, ints_take, hT, hLn]
  refine (Draw_fun T met T (by omega) (by omega) (by omega)).call (by simp [go_sem]) ?_
  rintro _ rfl
  rw [hdR]
  have hfb : fstB met T = !(drT met T).isEmpty := rfl
  cases hf : fstB met T with
  | false =>
    rw [hf] at hfb
    have hE : drT met T = [] := by
      cases h : drT met T with
      | nil => rfl
      | cons x l => rw [h] at hfb; simp at hfb
    simp [go_sem, drawV]
    refine (Count_fun T met (by omega) (by omega)).call (by simp [go_sem]) ?_
    rintro _ rfl
    rw [he, hcE, hE]
    simp [go_sem]
    refine awake_fun.call (by simp [go_sem]) ?_
    rintro _ rfl
    simp [go_sem]
    exact hR _ _ _ rfl (by simp [go_sem])
  | true =>
    have hfst : (drT met T).head? = some (fstD met T) := by rw [fst_head, if_pos hf]
    obtain ⟨D, hDD⟩ : ∃ D, fstD met T = D := ⟨_, rfl⟩
    rw [hDD] at hfst ⊢
    have hpos : 0 < (drT met T).length := by
      cases h : drT met T with
      | nil => rw [h] at hfst; simp at hfst
      | cons x l => simp
    have h0 : (drT met T)[0] = D := by
      rw [List.head?_eq_getElem?, List.getElem?_eq_getElem hpos] at hfst
      simpa using hfst
    have hmem : D ∈ drT met T := h0 ▸ List.getElem_mem hpos
    have hlen := drs_len (ok := okT met) _ T (Nat.le_refl _) D hmem
    obtain ⟨m1, m2⟩ := nmb_at he hTn hpos
    rw [h0] at m1 m2
    have p1 : (0 : Int) < (drT met T).length := by omega
    have hcl := clean_fun T met D hTn (by omega) (by omega) hmem
    simp [go_sem, drawV]
    refine (Count_fun T met (by omega) (by omega)).call (by simp [go_sem]) ?_
    rintro _ rfl
    rw [he, hcE]
    have hne : ¬ drT met T = [] := fun e => by rw [e] at hpos; simp at hpos
    simp [go_sem, p1, hne, hpos]
    refine (Number_fun T met D (by omega) (by omega) (by omega)).call (by simp [go_sem]) ?_
    rintro _ rfl
    rw [m1, m2]
    simp [go_sem]
    refine hcl.call (by simp [go_sem]) ?_
    rintro _ rfl
    simp [go_sem]
    refine ⟨⟨by omega, fun r hr => ints_one r hr⟩, ?_⟩
    refine IWp.freeze 0 1 (ints T) [(0, .fz 1 (bys order)), (1, .int .u64 bits), (4, .bool false), (5, .fz 1 (ints T)), (6, .fz 2 (prs met)), (7, .fz 2 (prs D)), (8, .int .i64 0), (9, .int .i64 0), (10, .int .i64 ((drT met T).length : Int)), (11, .int .i64 0), (73, .bool false), (75, .bool false), (12, .int .i64 0), (13, .int .i64 0), (96, .bool false), (14, .fz 1 (ints T)), (100, .fz 2 (prs D)), (101, .int .i64 (D.length : Int)), (102, .int .i64 0)] [.dead] (by simp) (by simp [go_sem]) (by simp [go_sem]; exact (List.take_of_length_le (by simp)).symm) (by simp [go_sem]) ?_
    refine IWp.loopI (α := Nat × List Int) (fun x => (⟨false, 174, 5, [5, 6, 7, 8, 9, 10, 11, 12, 13, 14, 16, 17, 18, 19, 20, 21, 73, 75, 96, 100, 101, 102, 103, 109, 115, 120, 143, 150, 152, 166], glT, [(6, .fz 2 (prs met)), (14, .fz 1 (ints x.2)), (100, .fz 2 (prs D)), (101, .int .i64 (D.length : Int)), (102, .int .i64 (x.1 : Int))], []⟩, [.dead]))
      (fun x => x.1 ≤ D.length ∧ x.2.Sublist T ∧ x.2.length % 2 = 0 ∧ (drT met x.2).head? = some (D.drop x.1)) (fun x => D.length - x.1) (0, T) ⟨by omega, List.Sublist.refl _, by show T.length % 2 = 0; omega, by simpa using hfst⟩ (by simp [go_sem]) ?_
    rintro ⟨j, left⟩ ⟨hj, hls, hle, hhd⟩
    simp only at hj hls hle hhd
    by_cases h : j < D.length
    case neg =>
      have hjl : j = D.length := by omega
      have hl0 : left = [] := by
        have hm := List.mem_of_mem_head? hhd
        have := drs_len (ok := okT met) _ left (Nat.le_refl _) _ hm
        rw [hjl, List.drop_length] at this
        exact List.eq_nil_of_length_eq_zero (by simpa using this.symm)
      subst hl0
      refine IWp.seqI ?_
      simp [go_sem, h]
      refine IWp.seqI ?_
      simp [go_sem, h]
      refine awake_fun.call (by simp [go_sem]) ?_
      rintro _ rfl
      simp [go_sem]
      exact hR _ _ _ rfl (by simp [go_sem])
    have w1 : IntKind.i64.wrap ((j : Int) + 1) = j + 1 := wrap64 (by omega) (by omega)
    obtain ⟨p, hp⟩ : ∃ p, D[j] = p := ⟨_, rfl⟩
    obtain ⟨A, B⟩ := p
    have hdrop : D.drop j = (A, B) :: D.drop (j + 1) := by rw [List.drop_eq_getElem_cons h, hp]
    rw [hdrop] at hhd
    have hmemL := List.mem_of_mem_head? hhd
    have hlenL := drs_len (ok := okT met) _ left (Nat.le_refl _) _ hmemL
    simp only [List.length_cons] at hlenL
    have hLn2 := hls.length_le
    cases left with
    | nil => simp at hlenL
    | cons a ts =>
    have hLnd : (a :: ts).Nodup := hTn.sublist hls
    have hnts := (List.nodup_cons.1 hLnd).2
    obtain ⟨b, d', hd1, hb1, hok1, hd2⟩ := (mem_drs hnts).1 hmemL
    simp only [List.cons.injEq, Prod.mk.injEq] at hd1
    obtain ⟨⟨hAa, hBb⟩, hdd⟩ := hd1
    obtain ⟨Lf, hLf⟩ : ∃ Lf, a :: ts = Lf := ⟨_, rfl⟩
    have hLf0 : 0 < Lf.length := by rw [← hLf]; simp
    have hLfa : Lf[0]'hLf0 = a := by subst hLf; rfl
    have hLfl : Lf.length = ts.length + 1 := by rw [← hLf]; rfl
    rw [hLf] at hle hls hhd hmemL hlenL hLn2 hLnd ⊢
    refine IWp.seqI ?_
    simp [go_sem, h]
    refine IWp.seqI ?_
    simp [go_sem, h]
    refine IWp.seq ?_
    refine IWp.block ?_
    refine IWp.seqI ?_
    simp [go_sem, h, hp]
    refine IWp.seqI ?_
    simp [go_sem]
    refine IWp.block ?_
    refine IWp.loopI (α := Nat) (fun i => (⟨false, 174, 5, [5, 6, 7, 8, 9, 10, 11, 12, 13, 14, 16, 17, 18, 19, 20, 21, 73, 75, 96, 100, 101, 102, 103, 109, 115, 120, 143, 150, 152, 166], glT, [(6, .fz 2 (prs met)), (14, .fz 1 (ints Lf)), (16, .ptr 1 1 0 0), (17, .int .i64 (i : Int)), (100, .fz 2 (prs D)), (101, .int .i64 (D.length : Int)), (102, .int .i64 (j : Int))], []⟩, [.dead, .rows 2 [[.int .i64 A, .int .i64 B]]]))
      (fun i => 1 ≤ i ∧ i ≤ Lf.length ∧ oAt met a ts (i - 1) = []) (fun i => Lf.length - i) 1 ⟨by omega, by omega, oAt_zero ..⟩ (by simp [go_sem]) ?_
    rintro i ⟨hi1, hi, hO⟩
    by_cases hiL : i < Lf.length
    case neg =>
      exfalso
      have hi2 : i - 1 = ts.length := by omega
      rw [hi2, oAt_end, hLf] at hO
      rw [hO] at hhd; simp at hhd
    have w2 : IntKind.i64.wrap ((i : Int) + 1) = i + 1 := wrap64 (by omega) (by omega)
    have hts : i - 1 < ts.length := by omega
    have hTi : Lf[i] = ts[i - 1] := by
      subst hLf
      obtain ⟨q, rfl⟩ : ∃ q, i = q + 1 := ⟨i - 1, by omega⟩
      simp
    refine IWp.seqI ?_
    simp [go_sem, hiL]
    refine IWp.seq ?_
    refine IWp.block ?_
    refine IWp.seqI ?_
    simp [go_sem]
    refine IWp.seqI ?_
    simp [go_sem]
    refine IWp.ownNilS 1 18 (by decide) (by simp [go_sem]) ?_
    simp only [go_sem]
    refine IWp.loopT (α := Nat) (fun k => (⟨false, 174, 5, [5, 6, 7, 8, 9, 10, 11, 12, 13, 14, 16, 17, 18, 19, 20, 21, 73, 75, 96, 100, 101, 102, 103, 109, 115, 120, 143, 150, 152, 166], glT, [(6, .fz 2 (prs met)), (14, .fz 1 (ints Lf)), (16, .ptr 1 1 0 0), (17, .int .i64 (i : Int)), (18, .sl 2 (restT Lf i k).length 0 (restT Lf i k).length none), (19, .int .i64 (k : Int)), (100, .fz 2 (prs D)), (101, .int .i64 (D.length : Int)), (102, .int .i64 (j : Int))], []⟩, [.dead, .rows 2 [[.int .i64 A, .int .i64 B]], .rows 1 (ints (restT Lf i k))]))
      (fun k => 1 ≤ k ∧ k ≤ Lf.length) (fun k => Lf.length - k) 1 (by omega) (by simp [go_sem, restT_one]) ?_
    rintro k ⟨hk1, hk⟩
    have hrs := restT_succ Lf i k
    have hrl : (restT Lf i k).length ≤ k := by unfold restT; rw [List.length_map]; exact Nat.le_trans (List.length_filter_le _ _) (by simp)
    by_cases hkT : k < Lf.length
    · have w3 : IntKind.i64.wrap ((k : Int) + 1) = k + 1 := wrap64 (by omega) (by omega)
      have hTk : Lf.getD k 0 = Lf[k] := by simp [hkT]
      by_cases hki : k = i
      · rw [if_neg (by omega), List.append_nil] at hrs
        subst hki
        simp [go_sem, hiL, w3]
        exact ⟨k + 1, ⟨⟨by rw [hrs], by omega⟩, by rw [hrs]⟩, by omega, by omega⟩
      · rw [if_pos ⟨hk1, hki⟩, hTk] at hrs
        have hkiI : ¬ (k : Int) = i := by omega
        simp [go_sem, hkT, hki, hkiI, w3]
        exact ⟨by omega, k + 1, ⟨⟨by rw [hrs]; simp, by omega⟩, by rw [hrs, ints_snoc]⟩, by omega, by omega⟩
    have hkl : k = Lf.length := by omega
    obtain ⟨Rs, hRs⟩ : ∃ Rs, restT Lf i k = Rs := ⟨_, rfl⟩
    have hre : Rs = ts.eraseIdx (i - 1) := by
      rw [← hRs, hkl]; subst hLf; exact restT_all a ts i hi1 hiL
    have hRl : Rs.length + 2 = Lf.length := by rw [hre, List.length_eraseIdx, if_pos hts]; omega
    have hRsub : Rs.Sublist T := by
      rw [hre]; refine List.Sublist.trans (List.eraseIdx_sublist _ _) (List.Sublist.trans ?_ hls)
      rw [← hLf]; exact List.sublist_cons_self _ _
    obtain ⟨heR, _⟩ := made_err (T := Rs) hmd (by decide) (hRsub.trans hsub) (by omega)
    have cR := cntN_eq heR
    have cM := Met_fun met A Lf[i] (by omega)
    have hosn := oAt_succ met a ts (i - 1) hts
    rw [hO, List.nil_append, ← hre, ← hTi, show i - 1 + 1 = i by omega] at hosn
    simp [go_sem, hkT, hRs]
    refine IWp.freeze 2 1 (ints Rs) [(6, .fz 2 (prs met)), (14, .fz 1 (ints Lf)), (16, .ptr 1 1 0 0), (17, .int .i64 (i : Int)), (18, .fz 1 (ints Rs)), (19, .int .i64 (k : Int)), (100, .fz 2 (prs D)), (101, .int .i64 (D.length : Int)), (102, .int .i64 (j : Int)), (115, .bool false)] [.dead, .rows 2 [[.int .i64 A, .int .i64 B]], .dead] (by simp) (by simp [go_sem]) (by simp [go_sem]; exact (List.take_of_length_le (by simp)).symm) (by simp [go_sem]) ?_
    refine IWp.seqI ?_
    simp [go_sem]
    refine (Count_fun Rs met (by omega) (by omega)).call (by simp [go_sem]) ?_
    rintro _ rfl
    rw [heR, cR]
    simp [go_sem]
    refine IWp.seqI ?_
    simp [go_sem, hLf0, hLfa, hAa]
    refine ⟨by decide +kernel, ?_⟩
    obtain ⟨C, hC⟩ : ∃ C, Lf[i] = C := ⟨_, rfl⟩
    rw [hC] at hosn hTi cM
    rw [hAa] at cM
    by_cases hCB : C = B
    · have hbp := best_pair hnts (hLf ▸ hmemL) hts rfl (by rw [← hTi, hCB])
      have hnil : ¬ drT met Rs = [] := fun e => by rw [hre] at e; rw [e] at hbp; simp at hbp
      have hpos2 : ¬ (drT met Rs).length = 0 := fun e => hnil (List.eq_nil_of_length_eq_zero e)
      have hhd2 : (drT met Rs).head? = some (D.drop (j + 1)) := by
        cases hl : drT met Rs with
        | nil => exact absurd hl hnil
        | cons x l =>
          have := best_first hts hO (hLf ▸ hhd) hbp.2.1 (e := x) (by rw [← hre, hl]; rfl)
          simp only [List.cons.injEq] at this
          rw [this.2]; rfl
      refine IWp.seqI ?_
      simp [go_sem, hiL, hC, hCB, hnil, hpos2, w1]
      refine ⟨by decide +kernel, IWp.now ?_⟩
      simp [go_sem, w1]
      exact ⟨j + 1, Rs, ⟨rfl, by omega⟩, ⟨by omega, hRsub, by omega, hhd2⟩, by omega⟩
    · refine IWp.seqI ?_
      simp [go_sem, hiL, hC, hCB]
      refine ⟨by decide +kernel, IWp.now ?_⟩
      obtain ⟨mt, hmt⟩ : ∃ mt, metB met a C = mt := ⟨_, rfl⟩
      rw [hmt] at cM
      simp [go_sem]
      refine Drawn.intro (fun q => if q = 10 then .bool mt else .tup []) ?_
      by_cases hnil : drT met Rs = []
      · rw [hnil, List.map_nil] at hosn
        have hO2 : oAt met a ts i = [] := by rw [hosn]; split <;> rfl
        simp [go_sem, hnil, hiL, hC]
        refine ⟨by decide +kernel, IWp.now ?_⟩
        simp [go_sem, w2]
        exact ⟨i + 1, by omega, ⟨by omega, by omega, by rw [Nat.add_sub_cancel]; exact hO2⟩, by omega⟩
      · have hpos2 : 0 < (drT met Rs).length := by
          cases h : drT met Rs with
          | nil => exact absurd h hnil
          | cons x l => simp
        have hpI : (0 : Int) < (drT met Rs).length := by omega
        have hmt1 : mt = true := by
          cases hm : mt with
          | true => rfl
          | false =>
            exfalso
            obtain ⟨x, l, hxl⟩ : ∃ x l, drT met Rs = x :: l := by
              cases h : drT met Rs with
              | nil => exact absurd h hnil
              | cons x l => exact ⟨x, l, rfl⟩
            have := best_first hts hO (hLf ▸ hhd) (by rw [← hTi]; simp [okT, hmt, hm]) (e := x) (by rw [← hre, hxl]; rfl)
            simp only [List.cons.injEq, Prod.mk.injEq] at this
            exact hCB (by rw [hTi]; exact this.1.2.symm)
        subst hmt1
        have hO2 : oAt met a ts i = [] := by rw [hosn, if_neg (by simp [okT, hmt])]
        simp [go_sem, hnil, hpos2, hpI, hiL, hC, cM]
        refine ⟨by decide +kernel, IWp.now ?_⟩
        simp [go_sem, w2]
        exact ⟨i + 1, by omega, ⟨by omega, by omega, by rw [Nat.add_sub_cancel]; exact hO2⟩, by omega⟩
end Go.Idl
