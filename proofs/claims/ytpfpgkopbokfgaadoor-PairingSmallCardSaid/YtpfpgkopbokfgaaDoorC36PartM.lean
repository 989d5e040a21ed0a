/-
  Chapter 36: the law PairingSmall f7.
-/
import Derived.Test.YtpfpgkopbokfgaaDoorC36PartJ
namespace Go.Idl
set_option linter.all false
open Go.Proofs
set_option maxHeartbeats 8000000
set_option maxRecDepth 40000

theorem ints_cut (l : List Int) (n : Nat) : cutR 0 n (ints l) = ints (l.take n) := by simp [cutR, ints, mp]
def P10 : List (Int × Int) := [(2, 64), (33, 64), (33, 2), (1, 64), (1, 2), (1, 33), (9, 64), (9, 2), (9, 33), (9, 1)]
def T5 : List Int := [64, 2, 33, 1, 9]
theorem P10_at : ∀ i, i < 5 → ∀ k, k < i → P10[i * (i - 1) / 2 + k]? = some (T5.getD i 0, T5.getD k 0) := by decide
theorem tri_next : ∀ i, i < 5 → (i + 1) * (i + 1 - 1) / 2 = i * (i - 1) / 2 + i := by decide
def M17 : List Int := [64, 63, 62, 61, 60, 59, 58, 57, 56, 55, 54, 53, 52, 51, 50, 49, 48]
theorem M17_at : ∀ i : Nat, i < 17 → M17[i]? = some (64 - (i : Int)) := by decide
theorem M16_cnt : cntN (M17.take 16) [] = 2027025 ∧ errN (M17.take 16) [] false = 0 := by
  have he : errN (M17.take 16) [] false = 0 := by decide +kernel
  refine ⟨?_, he⟩
  rw [cntN_eq he]
  have h1 := cnt_full (ok := okT []) 16 (M17.take 16) (by decide) (by decide +kernel) fun a _ b _ _ => by simp [okT, metB]
  have h2 : df 16 = 2027025 := by decide
  unfold cntL at h1
  rw [show (drT [] (M17.take 16)) = drs (okT []) (M17.take 16) from rfl, h1, h2]; rfl
theorem M17_err (odd : Bool) : errN M17 [] odd = 5 := by cases odd <;> decide +kernel

theorem PairingSmall_law : F36 7 [] (fun v => v = .bool true) := by
  refine IFun.of_bodyZ false 1 [1, 2, 3, 4, 5, 6, 7, 8, 9, 10, 11, 12, 13, 14, 15, 16, 17, 18, 19, 20, 22, 24, 26, 29, 32, 33, 34, 36, 37, 38, 56, 57, 58, 60, 61, 62, 63, 71, 79, 81, 123, 134, 136, 137] Tryd.func7 rfl Tryd.call7 rfl fun R hR => ?_
  obtain ⟨T, hT⟩ : ∃ T, T5 = T := ⟨_, rfl⟩
  have hTr : [[IV.int .i64 64], [.int .i64 2], [.int .i64 33], [.int .i64 1], [.int .i64 9]] = ints T := by rw [← hT]; rfl
  have hTl : T.length = 5 := by rw [← hT]; rfl
  have hP := P10_at
  have hPl : P10.length = 10 := rfl
  rw [hT] at hP
  generalize P10 = P at *
  simp [go_sem]
  rw [hTr]
  refine IWp.ownNilS 2 2 (by decide) (by simp [go_sem]) ?_
  try simp only [go_sem]
  refine IWp.loopT (α := Nat) (fun i => (⟨false, 200, 1, [1, 2, 3, 4, 5, 6, 7, 8, 9, 10, 11, 12, 13, 14, 15, 16, 17, 18, 19, 20, 22, 24, 26, 29, 32, 33, 34, 36, 37, 38, 56, 57, 58, 60, 61, 62, 63, 71, 79, 81, 123, 134, 136, 137], glT, [(1, .sl 0 5 0 5 none), (2, .sl 1 (i * (i - 1) / 2) 0 (i * (i - 1) / 2) none), (32, .int .i64 5), (33, .int .i64 (i : Int))], []⟩, [.rows 1 (ints T), .rows 2 (prs (P.take (i * (i - 1) / 2)))]))
    (fun i => i ≤ 5) (fun i => 5 - i) 0 (by omega) (by simp [go_sem]) ?_
  intro i hi
  by_cases h : i < 5
  · have hnx := tri_next i h
    have hPi := hP i h
    have hb : i * (i - 1) / 2 ≤ 6 := by
      have : ∀ i, i < 5 → i * (i - 1) / 2 ≤ 6 := by decide
      exact this i h
    have w1 : IntKind.i64.wrap ((i : Int) + 1) = i + 1 := wrap64 (by omega) (by omega)
    have hiI : (i : Int) < 5 := by omega
    obtain ⟨q, hq⟩ : ∃ q, i * (i - 1) / 2 = q := ⟨_, rfl⟩
    rw [hq] at hnx hPi hb
    simp only [hq]
    simp [go_sem, hiI, h]
    refine IWp.loopT (α := Nat) (fun k => (⟨false, 200, 1, [1, 2, 3, 4, 5, 6, 7, 8, 9, 10, 11, 12, 13, 14, 15, 16, 17, 18, 19, 20, 22, 24, 26, 29, 32, 33, 34, 36, 37, 38, 56, 57, 58, 60, 61, 62, 63, 71, 79, 81, 123, 134, 136, 137], glT, [(1, .sl 0 5 0 5 none), (2, .sl 1 (q + k) 0 (q + k) none), (3, .int .i64 (i : Int)), (32, .int .i64 5), (33, .int .i64 (i : Int)), (36, .int .i64 (i : Int)), (37, .int .i64 (k : Int))], []⟩, [.rows 1 (ints T), .rows 2 (prs (P.take (q + k)))]))
      (fun k => k ≤ i) (fun k => i - k) 0 (by omega) (by simp [go_sem]) ?_
    intro k hk
    by_cases hki : k < i
    · have hk5 : k < 5 := by omega
      have hPk := hPi k hki
      obtain ⟨m, hm⟩ : ∃ m, q + k = m := ⟨_, rfl⟩
      rw [hm] at hPk
      have hsn : P.take (m + 1) = P.take m ++ [(T[i], T[k])] := by
        obtain ⟨h1, h2⟩ := List.getElem?_eq_some_iff.1 hPk
        rw [List.take_succ_eq_append_getElem h1, h2]
        simp [hTl, h, hk5]
      have hm10 : m < 10 := by rw [← hPl]; exact (List.getElem?_eq_some_iff.1 hPk).1
      have w2 : IntKind.i64.wrap ((k : Int) + 1) = k + 1 := wrap64 (by omega) (by omega)
      simp only [hm]
      simp [go_sem, hki, hTl, h, hk5, w2, hPl]
      exact ⟨by omega, by omega, ⟨by omega, by omega⟩, by decide +kernel, k + 1, ⟨⟨by omega, by omega⟩, by rw [← Nat.add_assoc, hm, hsn, prs_snoc]⟩, by omega, by omega⟩
    · have hkl : k = i := by omega
      subst hkl
      simp [go_sem, w1]
      exact ⟨k + 1, ⟨⟨by rw [hnx], by omega⟩, by rw [hnx]⟩, by omega, by omega⟩
  · have hi5 : i = 5 := by omega
    subst hi5
    simp [go_sem]
    rw [List.take_of_length_le (by omega), show IntKind.i64.wrap 1024 = 1024 by decide]
    refine ⟨by omega, ?_⟩
    have awT := tells_fun
    refine IWp.loopT (α := Nat) (fun m => (⟨false, 200, 1, [1, 2, 3, 4, 5, 6, 7, 8, 9, 10, 11, 12, 13, 14, 15, 16, 17, 18, 19, 20, 22, 24, 26, 29, 32, 33, 34, 36, 37, 38, 56, 57, 58, 60, 61, 62, 63, 71, 79, 81, 123, 134, 136, 137], glT, [(1, .sl 0 5 0 5 none), (2, .sl 1 10 0 10 none), (56, .int .i64 1024), (57, .int .i64 (m : Int))], []⟩, [.rows 1 (ints T), .rows 2 (prs P)]))
      (fun m => m ≤ 1024) (fun m => 1024 - m) 0 (by omega) (by simp [go_sem]) ?_
    clear h hi
    intro m hm
    by_cases h : m < 1024
    · have hmI : (m : Int) < 1024 := by omega
      have w1 : IntKind.i64.wrap ((m : Int) + 1) = m + 1 := wrap64 (by omega) (by omega)
      simp [go_sem, hmI, h, hPl]
      refine IWp.ownNilS 2 6 (by decide) (by simp [go_sem]) ?_
      try simp only [go_sem]
      refine IWp.loopT (α := Nat × List (Int × Int)) (fun x => (⟨false, 200, 1, [1, 2, 3, 4, 5, 6, 7, 8, 9, 10, 11, 12, 13, 14, 15, 16, 17, 18, 19, 20, 22, 24, 26, 29, 32, 33, 34, 36, 37, 38, 56, 57, 58, 60, 61, 62, 63, 71, 79, 81, 123, 134, 136, 137], glT, [(1, .sl 0 5 0 5 none), (2, .sl 1 10 0 10 none), (5, .int .i64 (m : Int)), (6, .sl 2 x.2.length 0 x.2.length none), (56, .int .i64 1024), (57, .int .i64 (m : Int)), (60, .sl 1 10 0 10 none), (61, .int .i64 10), (62, .int .i64 (x.1 : Int))], []⟩, [.rows 1 (ints T), .rows 2 (prs P), .rows 2 (prs x.2)]))
        (fun x => x.1 ≤ 10 ∧ x.2.length ≤ x.1) (fun x => 10 - x.1) (0, []) (by simp) (by simp [go_sem]) ?_
      rintro ⟨i, met⟩ ⟨hi, hml⟩
      simp only at hi hml
      by_cases hi10 : i < 10
      · have hiI : (i : Int) < 10 := by omega
        have w2 : IntKind.i64.wrap ((i : Int) + 1) = i + 1 := wrap64 (by omega) (by omega)
        obtain ⟨q, hq⟩ : ∃ q, bitsOf .and .i64 ((m : Int).fdiv (2 ^ min i 64)) 1 = q := ⟨_, rfl⟩
        by_cases hq1 : q = 1
        · simp [go_sem, hiI, hi10, hPl, hq, hq1, w2]
          obtain ⟨x, hx⟩ : ∃ x, P[i]'(by omega) = x := ⟨_, rfl⟩
          exact ⟨by omega, i + 1, met ++ [P[i]'(by omega)], ⟨⟨by simp, by omega⟩, prs_snoc⟩, ⟨by omega, by simp; omega⟩, by omega⟩
        · simp [go_sem, hiI, hi10, hPl, hq, hq1, w2]
          exact ⟨i + 1, met, ⟨⟨rfl, by omega⟩, rfl⟩, ⟨by omega, by omega⟩, by omega⟩
      · have hi2 : i = 10 := by omega
        subst hi2
        by_cases h5 : 5 < met.length
        · have h5I : (5 : Int) < met.length := by omega
          simp [go_sem, h5I]
          exact ⟨m + 1, by omega, by omega, by omega⟩
        · have h5I : ¬ (5 : Int) < met.length := by omega
          simp [go_sem, h5I]
          refine IWp.loopT (α := Nat) (fun n => (⟨false, 200, 1, [1, 2, 3, 4, 5, 6, 7, 8, 9, 10, 11, 12, 13, 14, 15, 16, 17, 18, 19, 20, 22, 24, 26, 29, 32, 33, 34, 36, 37, 38, 56, 57, 58, 60, 61, 62, 63, 71, 79, 81, 123, 134, 136, 137], glT, [(1, .sl 0 5 0 5 none), (2, .sl 1 10 0 10 none), (5, .int .i64 (m : Int)), (6, .sl 2 met.length 0 met.length none), (9, .int .i64 (n : Int)), (56, .int .i64 1024), (57, .int .i64 (m : Int))], []⟩, [.rows 1 (ints T), .rows 2 (prs P), .rows 2 (prs met)]))
            (fun n => 3 ≤ n ∧ n ≤ 6) (fun n => 6 - n) 3 (by omega) (by simp [go_sem]) ?_
          rintro n ⟨hn3, hn6⟩
          obtain ⟨r, hr⟩ : ∃ r : Nat, (m : Int).tmod 3 = (r : Int) := ⟨m % 3, by rw [Int.tmod_eq_emod_of_nonneg (by omega)]; omega⟩
          have hr3 : r < 3 := by rw [Int.tmod_eq_emod_of_nonneg (by omega)] at hr; omega
          by_cases hn5 : n ≤ 5
          · have hnI : (n : Int) ≤ 5 := by omega
            have w3 : IntKind.i64.wrap ((n : Int) + 1) = n + 1 := wrap64 (by omega) (by omega)
            simp [go_sem, hnI, hr]
            refine ⟨⟨by omega, by omega, by omega⟩, ⟨by omega, by omega⟩, ?_⟩
            have htn : (T.take n).length ≤ 5 := by rw [List.length_take]; omega
            have htr : (T.take r).length ≤ 5 := by rw [List.length_take]; omega
            have hdl := drawR_len (T.take n) met (T.take r)
            obtain ⟨DR, hDR⟩ : ∃ DR, drawR (T.take n) met (T.take r) = DR := ⟨_, rfl⟩
            rw [hDR] at hdl
            obtain ⟨D, bye, e⟩ := DR
            refine (Draw_fun (T.take n) met (T.take r) (by omega) (by omega) (by omega)).call (by simp [go_sem, ints_cut, hTl]; omega) ?_
            rintro _ rfl
            rw [hDR, drawV]
            simp only at hdl
            simp [go_sem]
            have c1 := theirs_fun met (by omega)
            have c2 := refDraw_fun (T.take n) met (T.take r) (by omega) (by omega) (by omega)
            rw [hDR, drawV] at c2
            refine Drawn.intro (fun q => if q = 4 then .fz 2 (prs met) else if q = 6 then .tup [.fz 2 (prs D), .int .i64 bye, .int .i64 e] else .tup []) ?_
            have tk : List.take met.length (prs met) = prs met := List.take_of_length_le (by simp)
            have k1 : ∀ l : List (Int × Int), (∀ row ∈ prs l, ∀ c ∈ row, Cl c) = True := fun l => eq_true (ScR.cl (mp_sc (by simp [scal])))
            have k2 : ∀ l : List Int, (∀ row ∈ ints l, ∀ c ∈ row, Cl c) = True := fun l => eq_true (ScR.cl (mp_sc (by simp [scal])))
            simp [go_sem, c1, c2, hTl, hn5, ints_take, tk, k1, k2]
            refine ⟨by omega, by omega, by decide +kernel, ?_⟩
            refine (ours_fun D (by omega)).call (by simp [go_sem]) ?_
            rintro _ rfl
            simp [go_sem]
            refine (is_fun D D (by omega)).call (by simp [go_sem]) ?_
            rintro _ rfl
            simp [go_sem, w3]
            exact ⟨n + 1, by omega, by omega, by omega⟩
          · have hnI : ¬ (n : Int) ≤ 5 := by omega
            simp [go_sem, hnI]
            refine ⟨⟨by omega, by omega⟩, ?_⟩
            rw [show ([[IV.int .i64 64, .int .i64 33], [.int .i64 2, .int .i64 1]] : List (List IV)) = prs [(64, 33), (2, 1)] from rfl]
            refine (tells_fun (T.take 4) met [(64, 33), (2, 1)] 2 64 (IntKind.i64.wrap ((m : Int).tmod 4 - 1)) (by rw [List.length_take]; omega) (by omega) (by decide)).call (by simp [go_sem, ints_cut, hTl]) ?_
            rintro _ rfl
            simp [go_sem, w1]
            exact ⟨m + 1, by omega, by omega, by omega⟩
    · have hm2 : m = 1024 := by omega
      subst hm2
      simp [go_sem]
      refine IWp.ownNilS 1 17 (by decide) (by simp [go_sem]) ?_
      try simp only [go_sem]
      refine IWp.loopT (α := Nat) (fun i => (⟨false, 200, 1, [1, 2, 3, 4, 5, 6, 7, 8, 9, 10, 11, 12, 13, 14, 15, 16, 17, 18, 19, 20, 22, 24, 26, 29, 32, 33, 34, 36, 37, 38, 56, 57, 58, 60, 61, 62, 63, 71, 79, 81, 123, 134, 136, 137], glT, [(17, .sl 2 i 0 i none), (136, .int .i64 (i : Int))], []⟩, [.dead, .dead, .rows 1 (ints (M17.take i))]))
        (fun i => i ≤ 17) (fun i => 17 - i) 0 (by omega) (by simp [go_sem]) ?_
      have hA := M17_at
      have hE := M17_err
      have hC := M16_cnt
      have hMl : M17.length = 17 := rfl
      generalize M17 = M at *
      intro i hi
      by_cases h17 : i < 17
      · have hiI : (i : Int) < 17 := by omega
        have w1 : IntKind.i64.wrap ((i : Int) + 1) = i + 1 := wrap64 (by omega) (by omega)
        have w2 : IntKind.i64.wrap (64 - (i : Int)) = 64 - i := wrap64 (by omega) (by omega)
        have hsn : M.take (i + 1) = M.take i ++ [64 - (i : Int)] := by
          obtain ⟨h1, h2⟩ := List.getElem?_eq_some_iff.1 (hA i h17)
          rw [List.take_succ_eq_append_getElem h1, h2]
        simp [go_sem, hiI, w1, w2, hMl]
        exact ⟨⟨by omega, by omega⟩, i + 1, ⟨⟨rfl, by omega⟩, by rw [hsn, ints_snoc]⟩, by omega, by omega⟩
      · have hi17 : i = 17 := by omega
        subst hi17
        rw [List.take_of_length_le (by omega)]
        have n1 : nmbN M [] [] = 0 ∧ nmbE M [] [] = 5 := by unfold nmbN nmbE; rw [hE]; simp
        have n2 : nthE M [] 0 = 5 ∧ nthD M [] 0 = [] := by
          have : nthE M [] 0 = 5 := by unfold nthE; rw [hE]; simp
          exact ⟨this, by unfold nthD; rw [this]; simp⟩
        have n3 : drawR M [] [] = ([], 0, 5) := by unfold drawR; rw [hE]; simp
        have n4 : cntN M [] = 0 := by unfold cntN; rw [hE]; simp
        simp [go_sem, hMl]
        refine (Count_fun (M.take 16) [] (by rw [List.length_take]; omega) (by decide)).call (by simp [go_sem, ints_cut, hMl]) ?_
        rintro _ rfl
        rw [hC.1, hC.2]
        simp [go_sem, hMl]
        refine (Count_fun M [] (by omega) (by decide)).call (by simp [go_sem, hMl]) ?_
        rintro _ rfl
        rw [n4, hE]
        simp [go_sem, hMl]
        refine (Number_fun M [] [] (by omega) (by decide) (by decide)).call (by simp [go_sem, hMl]) ?_
        rintro _ rfl
        rw [n1.1, n1.2]
        simp [go_sem, hMl]
        refine (Nth_fun M [] 0 (by omega) (by decide)).call (by simp [go_sem, hMl]) ?_
        rintro _ rfl
        rw [n2.1, n2.2]
        simp [go_sem, hMl]
        refine (Draw_fun M [] [] (by omega) (by decide) (by decide)).call (by simp [go_sem, hMl]) ?_
        rintro _ rfl
        rw [n3, drawV]
        simp [go_sem, hMl]
        refine awake_fun.call (by simp [go_sem]) ?_
        rintro _ rfl
        simp [go_sem]
        exact hR _ _ _ rfl (by simp [go_sem])
end Go.Idl
