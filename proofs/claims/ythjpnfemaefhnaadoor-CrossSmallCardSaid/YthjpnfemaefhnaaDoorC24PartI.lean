/-
  Chapter 24: sorting by insertion; the nearest ten (plain).
  Chapter 24: CrossDatum.
  Chapter 24: the laws CrossTurned, CrossDatum.
-/
import Derived.Test.YthjpnfemaefhnaaDoorC24PartH
import Derived.Test.YthjpnfemaefhnaaDoorIdlPartL
import Derived.Test.YthjpnfemaefhnaaDoorC24PartC
namespace Go.Idl
set_option linter.all false
open Go.Proofs
set_option maxHeartbeats 8000000
set_option maxRecDepth 40000

/-- In order as far as i, but for the one at k. -/
def InsJ (A : List Int) (i k : Nat) : Prop := ∀ a b, a < b → b ≤ i → b ≠ k → A.getD a 0 ≤ A.getD b 0
def swapL (A : List Int) (k : Nat) : List Int := (A.set k (A.getD (k - 1) 0)).set (k - 1) (A.getD k 0)
@[simp] theorem swapL_length (A : List Int) (k : Nat) : (swapL A k).length = A.length := by simp [swapL]
theorem swapL_getD {A : List Int} {k j : Nat} (h1 : 1 ≤ k) (hk : k < A.length) : (swapL A k).getD j 0 = if j = k - 1 then A.getD k 0 else if j = k then A.getD (k - 1) 0 else A.getD j 0 := by
  unfold swapL
  simp only [List.getD_eq_getElem?_getD, List.getElem?_set, List.length_set]
  by_cases h2 : j = k - 1
  · rw [if_pos h2.symm, if_pos (by omega), if_pos h2]; rfl
  · rw [if_neg (fun e => h2 e.symm), if_neg h2]
    by_cases h3 : j = k
    · rw [if_pos h3.symm, if_pos (by omega), if_pos h3]; rfl
    · rw [if_neg (fun e => h3 e.symm), if_neg h3]
theorem swapL_perm {A : List Int} {k : Nat} (h1 : 1 ≤ k) (hk : k < A.length) : (swapL A k).Perm A := by
  have hj : k - 1 < A.length := by omega
  have := List.set_set_perm hk hj
  unfold swapL
  rwa [show A.getD (k - 1) 0 = A[k - 1] by simp [show k - 1 < A.length by omega], show A.getD k 0 = A[k] by simp [hk]]
theorem InsJ.step {A : List Int} {i k : Nat} (h : InsJ A i k) (h1 : 1 ≤ k) (hki : k ≤ i) (hi : i < A.length) (hlt : A.getD k 0 < A.getD (k - 1) 0) : InsJ (swapL A k) i (k - 1) := by
  intro a b hab hbi hbk
  rw [swapL_getD h1 (by omega), swapL_getD h1 (by omega)]
  rw [if_neg hbk]
  by_cases hb : b = k
  · rw [if_pos hb]
    by_cases ha : a = k - 1
    · rw [if_pos ha]; omega
    · rw [if_neg ha, if_neg (by omega)]; exact h a (k - 1) (by omega) (by omega) (by omega)
  · rw [if_neg hb]
    by_cases ha : a = k - 1
    · rw [if_pos ha]; exact h k b (by omega) hbi hb
    · rw [if_neg ha]
      by_cases ha2 : a = k
      · rw [if_pos ha2]; exact h (k - 1) b (by omega) hbi hb
      · rw [if_neg ha2]; exact h a b hab hbi hb
theorem InsJ.zero {A : List Int} {i : Nat} (h : InsJ A i 0) : InsJ A i (i + 1) := fun a b hab hbi _ => h a b hab hbi (by omega)
theorem InsJ.stop {A : List Int} {i k : Nat} (h : InsJ A i k) (h1 : 1 ≤ k) (hge : A.getD (k - 1) 0 ≤ A.getD k 0) : InsJ A i (i + 1) := by
  intro a b hab hbi _
  by_cases hb : b = k
  · subst hb
    by_cases ha : a = b - 1
    · subst ha; exact hge
    · exact Int.le_trans (h a (b - 1) (by omega) (by omega) (by omega)) hge
  · exact h a b hab hbi hb
theorem InsJ.next {A : List Int} {i : Nat} (h : InsJ A i (i + 1)) : InsJ A (i + 1) (i + 1) := fun a b hab hbi hb => h a b hab (by omega) hb
theorem InsJ.sorted {A : List Int} {n : Nat} (h : InsJ A n n) (hn : A.length = n) : A.Pairwise (· ≤ ·) := by
  rw [List.pairwise_iff_getElem]
  intro a b ha hb hab
  have := h a b hab (by omega) (by omega)
  rwa [show A.getD a 0 = A[a] by simp [ha], show A.getD b 0 = A[b] by simp [hb]] at this

/-- How far the nearest ten lies. -/
theorem nearQ_apart (s : Int) {m : Nat} (hm : 0 < m) : (-5 * (m : Int) ≤ 10 * nearQ s (10 * m) * m - s ∧ 10 * nearQ s (10 * m) * m - s ≤ 5 * m) ∧ (10 * nearQ s (10 * m) * m - s = -5 * m → s ≤ 0) ∧ (10 * nearQ s (10 * m) * m - s = 5 * m → 0 ≤ s) := by
  unfold nearQ
  have hd := Nat.div_add_mod s.natAbs (10 * m)
  have hr := Nat.mod_lt s.natAbs (show 0 < 10 * m by omega)
  generalize s.natAbs / (10 * m) = q at *
  generalize s.natAbs % (10 * m) = r at *
  have e : ∀ c : Nat, 10 * (((q + c : Nat) : Int)) * m = ((10 * m * q : Nat) : Int) + 10 * (c * m : Nat) := fun c => by
    rw [Int.natCast_add, Int.natCast_mul, Int.natCast_mul, Int.natCast_mul, Int.mul_add, Int.add_mul]
    have : (10 : Int) * q * m = ((10 : Nat) : Int) * m * q := by rw [Int.mul_assoc, Int.mul_comm (q : Int), ← Int.mul_assoc]; rfl
    rw [this, Int.mul_assoc 10 (c : Int)]
  generalize hp : 10 * m * q = p at *
  by_cases hs : s < 0
  · rw [if_pos hs]
    split
    · have := e 1
      simp only [Int.neg_mul, Int.mul_neg, Int.one_mul, this]
      omega
    · have := e 0
      simp only [Int.neg_mul, Int.mul_neg, Int.one_mul, this]
      omega
  · rw [if_neg hs]
    split
    · have := e 1
      rw [Int.one_mul, this]
      omega
    · have := e 0
      rw [Int.one_mul, this]
      omega
theorem sum_between {l : List Int} {a b : Int} (h : ∀ x ∈ l, a ≤ x ∧ x ≤ b) : (l.length : Int) * a ≤ l.sum ∧ l.sum ≤ l.length * b := by
  induction l with
  | nil => simp
  | cons x l ih =>
    have h1 := ih fun y hy => h y (List.mem_cons_of_mem _ hy)
    have h2 := h x (List.mem_cons_self ..)
    rw [List.sum_cons, List.length_cons, Int.natCast_add, Int.add_mul, Int.add_mul]
    omega
theorem near_ends {F : List Int} {m : Nat} (hm : F.length = m) (h0 : 0 < m) (hs : F.Pairwise (· ≤ ·)) : F.getD 0 0 - 9 ≤ 10 * nearQ F.sum (10 * m) ∧ 10 * nearQ F.sum (10 * m) ≤ F.getD (m - 1) 0 + 9 := by
  have hb : ∀ x ∈ F, F.getD 0 0 ≤ x ∧ x ≤ F.getD (m - 1) 0 := by
    intro x hx
    obtain ⟨j, hj, rfl⟩ := List.mem_iff_getElem.1 hx
    rw [show F.getD 0 0 = F[0] by simp [show 0 < F.length by omega], show F.getD (m - 1) 0 = F[m - 1] by simp [show m - 1 < F.length by omega]]
    rw [List.pairwise_iff_getElem] at hs
    constructor
    · by_cases h : j = 0
      · subst h; omega
      · exact hs 0 j (by omega) hj (by omega)
    · by_cases h : j = m - 1
      · subst h; omega
      · exact hs j (m - 1) hj (by omega) (by omega)
  have hsum := sum_between hb
  rw [hm] at hsum
  obtain ⟨⟨a1, a2⟩, _, _⟩ := nearQ_apart F.sum h0
  generalize 10 * nearQ F.sum (10 * m) = V at *
  generalize F.getD 0 0 = lo at *
  generalize F.getD (m - 1) 0 = hi at *
  have hm' : (0 : Int) < m := by omega
  constructor
  · have : (m : Int) * (lo - 6) < m * V := by
      rw [Int.mul_sub, Int.mul_comm _ V]; omega
    have := Int.lt_of_mul_lt_mul_left this (by omega)
    omega
  · have : (m : Int) * V < m * (hi + 6) := by
      rw [Int.mul_add, Int.mul_comm _ V]; omega
    have := Int.lt_of_mul_lt_mul_left this (by omega)
    omega
end Go.Idl
namespace Go.Idl
set_option linter.all false
open Go.Proofs Go.RowKit
set_option maxHeartbeats 16000000
set_option maxRecDepth 40000

theorem ints_at' {l : List Int} {i : Nat} (h : i < l.length) : (ints l)[i]?.getD [] = [.int .i64 (l.getD i 0)] := by
  rw [List.getElem?_eq_getElem (by simpa using h), Option.getD_some, ints_getElem]
  simp [h]
/-- What comes behind, kept shut. -/
theorem crossDatum_fun (l : List Int) (d : Int) (hl : l.length < 2 ^ 63) (hb : ∀ x ∈ l, -32768 ≤ x ∧ x ≤ 32767) (hd : 0 ≤ d ∧ d < 256) : FN 6 [.fz 1 (bys .i16 l), .int .u8 d] (fun v => v = .bool true) := by
  refine IFun.of_bodyZ false 18 [22, 25, 26, 27, 43, 103, 104, 105, 106, 107, 153] Tryd.func6 rfl Tryd.call6 rfl fun R hR => ?_
  have cs := scores_fun l hl hb
  have hSl := scrL_len l
  have hSb := scrL_rng l
  rw [show (l.take 24).map scoreI = scrL l from rfl] at cs
  generalize scrL l = S at *
  simp [go_sem]
  refine cs.callOF (by simp [go_sem]) ?_
  rintro _ rfl
  refine ⟨fun v => v, 1, _, .here, by decide, rfl, by simp [go_sem], ?_⟩
  by_cases h0 : S = []
  · subst h0
    simp [go_sem]
    refine awake24_fun.callF (by simp [go_sem]) ?_
    rintro _ rfl
    simp [go_sem]
    exact hR _ _ _ rfl (by simp [go_sem])
  have hS0 : 0 < S.length := List.length_pos_iff.2 h0
  obtain ⟨n, hn⟩ : ∃ n, S.length = n := ⟨_, rfl⟩
  have hSne : ¬ (n : Int) = 0 := by omega
  rw [hn] at hSl hS0
  have w1 : IntKind.i64.wrap d = d := wrap64 (by omega) (by omega)
  have w2 : IntKind.i64.wrap ((n : Int) + 1) = n + 1 := wrap64 (by omega) (by omega)
  have d1 : ((n : Int) + 1).tdiv 2 = (n + 1) / 2 := Int.tdiv_eq_ediv_of_nonneg (by omega)
  obtain ⟨q, hq⟩ : ∃ q : Nat, ((n : Int) + 1) / 2 = q := ⟨(n + 1) / 2, by omega⟩
  have w3 : IntKind.i64.wrap (q : Int) = q := wrap64 (by omega) (by omega)
  have hq0 : ¬ (q : Int) = 0 := by omega
  have hq0' : ¬ q = 0 := by omega
  have d2 : d.tmod q = d % q := Int.tmod_eq_emod_of_nonneg (by omega)
  have m1 := Int.emod_nonneg d hq0
  have m2 := Int.emod_lt_of_pos d (show (0 : Int) < q by omega)
  obtain ⟨k, hk⟩ : ∃ k : Nat, d % (q : Int) = k := ⟨(d % (q : Int)).toNat, by omega⟩
  rw [hk] at m2 d2
  have h2k : 2 * k < n := by omega
  have hn0 : ¬ n = 0 := by omega
  simp [go_sem, h0, hn, hSne, hn0]
  refine IWp.loopT (α := Nat × List Int) (fun p => (⟨false, 174, 18, [22, 25, 26, 27, 43, 103, 104, 105, 106, 107, 153], glT, [(1, .int .u8 d), (5, .sl 0 n 0 n none), (25, .int .i64 n), (26, .int .i64 (p.1 : Int))], []⟩, [.rows 1 (ints p.2)]))
    (fun p => p.1 ≤ n ∧ p.2.length = n ∧ p.2.Perm S ∧ InsJ p.2 p.1 p.1) (fun p => n - p.1) (0, S) ⟨by simp, hn, .refl _, fun a b h1 h2 => by omega⟩ (by simp [go_sem]) ?_
  rintro ⟨i, A⟩ ⟨hi, hA, hAp, hJ⟩
  simp only at hi hA hAp hJ
  by_cases h : i < n
  · have v1 : IntKind.i64.wrap ((i : Int) + 1) = i + 1 := wrap64 (by omega) (by omega)
    have h' : (i : Int) < n := by omega
    simp [go_sem, h, h']
    refine IWp.loopT (α := Nat × List Int) (fun p => (⟨false, 174, 18, [22, 25, 26, 27, 43, 103, 104, 105, 106, 107, 153], glT, [(1, .int .u8 d), (5, .sl 0 n 0 n none), (7, .int .i64 (p.1 : Int)), (25, .int .i64 n), (26, .int .i64 (i : Int))], []⟩, [.rows 1 (ints p.2)]))
      (fun p => p.1 ≤ i ∧ p.2.length = n ∧ p.2.Perm S ∧ InsJ p.2 i p.1) (fun p => p.1) (i, A) ⟨by simp, hA, hAp, hJ⟩ (by simp [go_sem]) ?_
    rintro ⟨j, B⟩ ⟨hj, hB, hBp, hJ2⟩
    simp only at hj hB hBp hJ2
    by_cases hj0 : j = 0
    · subst hj0
      have e1 := ints_at' (l := B) (i := 0) (by omega)
      have wm : IntKind.i64.wrap (-1) = -1 := by decide
      simp [go_sem, e1, wm]
      refine ⟨by decide +kernel, ?_⟩
      exact ⟨i + 1, B, ⟨by simpa using v1, rfl⟩, ⟨by omega, hB, hBp, hJ2.zero.next⟩, by omega⟩
    · have v2 : IntKind.i64.wrap ((j : Int) - 1) = ((j - 1 : Nat) : Int) := by rw [wrap64 (by omega) (by omega)]; omega
      have g1 : 0 < j := by omega
      have a1 : j < n := by omega
      have a2 : j - 1 < n := by omega
      have e1 := ints_at' (l := B) (i := j) (by omega)
      have e2 := ints_at' (l := B) (i := j - 1) (by omega)
      simp [go_sem, hB, g1, v2, a1, a2, e1, e2]
      refine ⟨by decide +kernel, ?_⟩
      have q1 : B.getD j 0 = B[j] := by simp [show j < B.length by omega]
      have q2 : B.getD (j - 1) 0 = B[j - 1] := by simp [show j - 1 < B.length by omega]
      split
      · rename_i hlt
        rw [← q1, ← q2] at hlt
        refine ⟨by decide +kernel, ?_⟩
        refine ⟨j - 1, swapL B j, ⟨rfl, ?_⟩, ⟨by omega, by simp [hB], (swapL_perm (by omega) (by omega)).trans hBp, hJ2.step (by omega) hj (by omega) hlt⟩, by omega⟩
        rw [swapL, ints_set, ints_set, q1, q2, List.getElem_set_ne (by omega), ints_getElem]
        rfl
      · rename_i hlt
        rw [← q1, ← q2] at hlt
        exact ⟨i + 1, B, ⟨v1, rfl⟩, ⟨by omega, hB, hBp, (hJ2.stop (by omega) (by omega)).next⟩, by omega⟩
  · obtain rfl : i = n := by omega
    have hAs := hJ.sorted hA
    have hAr := srtI_eq hAs (.refl _)
    have hAm : ∀ y ∈ A, -7600 ≤ y ∧ y ≤ 7600 := fun y hy => hSb y (hAp.mem_iff.1 hy)
    obtain ⟨n, hi'⟩ : ∃ n, i = n := ⟨_, rfl⟩
    subst hi'
    have hcut : cutR 0 i (ints A) = ints A := cutR_all (by simp [hA])
    have hFl := leftL_length (l := A) (d := k) (by omega)
    have hFe : leftL A k = (A.drop k).take (i - 2 * k) := by unfold leftL; rw [hAr, hA]
    have hFs : (leftL A k).Pairwise (· ≤ ·) := by rw [hFe]; exact (hAs.sublist ((List.take_sublist ..).trans (List.drop_sublist ..)))
    have hFm : ∀ y ∈ leftL A k, -7600 ≤ y ∧ y ≤ 7600 := fun y hy => hAm y (by rw [hFe] at hy; exact List.mem_of_mem_drop (List.mem_of_mem_take hy))
    have hFg : ∀ j, j < (leftL A k).length → (leftL A k).getD j 0 = A.getD (k + j) 0 := fun j hj => by
      rw [show (leftL A k).getD j 0 = (leftL A k)[j] by simp [hj], leftL_get hj]
      have : k + j < A.length := by omega
      simp only [hAr]
      simp [this]
    rw [hA] at hFl
    have c1 := datum_fun A k (by omega)
    have hE1 := datE_good (d := k) (by omega) hAm (by omega) (by omega)
    have hI1 : datI A k = 10 * nearQ (leftL A k).sum (10 * (leftL A k).length) := by unfold datI; rw [if_pos hE1]; simp
    have c2 := datum_fun (leftL A k) 0 (by omega)
    have hE2 := datE_good (l := leftL A k) (d := 0) (by omega) hFm (by omega) (by omega)
    have hL2 : leftL (leftL A k) 0 = leftL A k := by
      rw [leftL, srtI_eq hFs (.refl _)]
      simp
    have hI2 : datI (leftL A k) (0 : Nat) = 10 * nearQ (leftL A k).sum (10 * (leftL A k).length) := by unfold datI; rw [if_pos hE2]; simp [hL2]
    obtain ⟨m, hm⟩ : ∃ m, i - 2 * k = m := ⟨_, rfl⟩
    rw [hm] at hFl
    rw [hFl] at hI1 hI2
    obtain ⟨p1, p2, p3⟩ := nearQ_apart (leftL A k).sum (m := m) (by omega)
    obtain ⟨p4, p5⟩ := near_ends hFl (by omega) hFs
    have hsumB := fun j => sum_take_bd (l := leftL A k) (by omega) hFm j
    have hsucc := fun (j : Nat) (hj : j < (leftL A k).length) => sum_succ24 hj
    have hmod : (10 * nearQ (leftL A k).sum (10 * m)).tmod 10 = 0 := Int.mul_tmod_right ..
    rw [hE1, hI1] at c1
    rw [show ((0 : Nat) : Int) = 0 from rfl] at hE2 hI2
    rw [hE2, hI2] at c2
    have hFc : cutR k m (ints A) = ints (leftL A k) := by rw [hFe, hm]; simp [cutR, ints, mp, List.map_take, List.map_drop]
    generalize leftL A k = F at *
    have f1 := hFm (F.getD 0 0) (by rw [show F.getD 0 0 = F[0] by simp [show 0 < F.length by omega]]; exact List.getElem_mem _)
    have f2 := hFm (F.getD (m - 1) 0) (by rw [show F.getD (m - 1) 0 = F[m - 1] by simp [show m - 1 < F.length by omega]]; exact List.getElem_mem _)
    have g1 := hFg 0 (by omega)
    have g2 := hFg (m - 1) (by omega)
    generalize 10 * nearQ F.sum (10 * m) = V at *
    simp [go_sem, w1, w2, d1, hq, w3, hq0, hq0', d2, hk, hA]
    refine c1.callF (by simp [go_sem, hcut, hA]) ?_
    rintro _ rfl
    have b1 : (0 : Int) ≤ (i : Int) - k := by omega
    have b2 : (k : Int) ≤ i - k := by omega
    have b3 : ((i : Int) - k).toNat - k = m := by omega
    have b4 : (i : Int) - k ≤ i := by omega
    have b5 : i - k - k = m := by omega
    have w4 : IntKind.i64.wrap ((i : Int) - k) = i - k := wrap64 (by omega) (by omega)
    simp [go_sem, hA, w4, b1, b2, b3, b4, b5]
    refine c2.callF (by simp [go_sem, hFc, hA]; omega) ?_
    rintro _ rfl
    simp [go_sem, hmod, hA]
    have hkm : k + m ≤ i := by omega
    refine IWp.shut fun Q hQ => ?_
    refine IWp.loopT (α := Nat) (fun j => (⟨false, 174, 18, [22, 25, 26, 27, 43, 103, 104, 105, 106, 107, 153], glT, [(9, .int .i64 V), (11, .sl 0 i k m none), (14, .int .i64 (F.take j).sum), (104, .sl 0 i k m none), (105, .int .i64 (m : Int)), (106, .int .i64 (j : Int))], []⟩, [.rows 1 (ints A)]))
      (fun j => j ≤ m) (fun j => m - j) 0 (by simp) (by simp [go_sem, hA, b5]) ?_
    intro j hj
    have hb := hsumB j
    by_cases hjm : j < m
    · have v1 : IntKind.i64.wrap ((j : Int) + 1) = j + 1 := wrap64 (by omega) (by omega)
      have hjF : j < F.length := by omega
      have hs := hsucc j hjF
      have hy := hFm F[j] (List.getElem_mem hjF)
      have hget := hFg j hjF
      rw [show F.getD j 0 = F[j] by simp [hjF]] at hget
      obtain ⟨y, hye⟩ : ∃ y, F[j] = y := ⟨_, rfl⟩
      rw [hye] at hs hy hget
      have v2 : IntKind.i64.wrap ((F.take j).sum + y) = (F.take j).sum + y := wrap64 (by omega) (by omega)
      have hI := ints_at' (l := A) (i := k + j) (by omega)
      rw [← hget] at hI
      obtain ⟨q, hq⟩ : ∃ q, k + j = q := ⟨_, rfl⟩
      rw [hq] at hI
      have hqn : q < i := by omega
      have hqA : q < A.length := by omega
      have hAq : A[q] = y := by rw [hget, List.getD_eq_getElem?_getD, hq]; simp [hqA]
      have hjm' : (j : Int) < m := by omega
      simp [go_sem, hA, hjm, hjm', hkm, hq, hqn, hI, hAq, v1, v2]
      exact ⟨j + 1, ⟨by rw [hs], by simp⟩, by omega, by omega⟩
    · obtain rfl : j = m := by omega
      have hall : F.take j = F := List.take_of_length_le (by omega)
      rw [hall] at hb ⊢
      obtain ⟨Vm, hVm⟩ : ∃ Vm, V * j = Vm := ⟨_, rfl⟩
      rw [hVm] at p1 p2 p3
      obtain ⟨ap, hap⟩ : ∃ ap, Vm - F.sum = ap := ⟨_, rfl⟩
      have x1 : IntKind.i64.wrap (V * j) = Vm := by rw [hVm]; exact wrap64 (by omega) (by omega)
      have x2 : IntKind.i64.wrap (Vm - F.sum) = ap := by rw [wrap64 (by omega) (by omega)]; exact hap
      have x3 : IntKind.i64.wrap (5 * j) = 5 * j := wrap64 (by omega) (by omega)
      have x4 : IntKind.i64.wrap (-5 * j) = -5 * j := wrap64 (by omega) (by omega)
      have i1 := ints_at' (l := A) (i := k) (by omega)
      rw [show k + 0 = k from rfl] at g1
      rw [← g1] at i1
      obtain ⟨r, hr⟩ : ∃ r, k + (j - 1) = r := ⟨_, rfl⟩
      have hri : r < i := by omega
      have hki : k < i := by omega
      have hrA : r < A.length := by omega
      have hkA : k < A.length := by omega
      rw [hr] at g2
      have i2 := ints_at' (l := A) (i := r) (by omega)
      rw [← g2] at i2
      have x5 : IntKind.i64.wrap (F.getD 0 0 - 9) = F.getD 0 0 - 9 := wrap64 (by omega) (by omega)
      have x6 : IntKind.i64.wrap (F.getD (j - 1) 0 + 9) = F.getD (j - 1) 0 + 9 := wrap64 (by omega) (by omega)
      have x7 : IntKind.i64.wrap ((j : Int) - 1) = ((j - 1 : Nat) : Int) := by rw [wrap64 (by omega) (by omega)]; omega
      have hAk : A[k] = F.getD 0 0 := by rw [g1]; simp [hkA]
      have hAr : A[r] = F.getD (j - 1) 0 := by rw [g2]; simp [hrA]
      rw [hap] at p1 p2 p3
      generalize F.getD 0 0 = lo at *
      generalize F.getD (j - 1) 0 = hh at *
      generalize F.sum = sm at *
      have n1 : ¬ ap < -5 * j := by omega
      have n2 : ¬ 5 * (j : Int) < ap := by omega
      have j0 : 0 < j := by omega
      simp [go_sem]
      rw [hQ]
      simp only [blockQ_exit, if_pos, thenQ_normal, yC_seq, yC_region]
      refine yOps_shut fun K2 hK2 => ?_
      simp [go_sem, hA, hkm, x1, x2]
      rw [hK2]
      simp only [yC_seq, yC_region]
      refine yOps_shut fun K3 hK3 => ?_
      have last : ∀ z, K3 ⟨false, 174, 18, [22, 25, 26, 27, 43, 103, 104, 105, 106, 107, 153], glT, [(9, .int .i64 V), (11, .sl 0 i k j none), (14, .int .i64 sm), (104, .sl 0 i k j none), (105, .int .i64 j), (106, .int .i64 j), (107, .bool false), (17, .int .i64 z), (153, .bool false)], []⟩ [.rows 1 (ints A)] := by
        intro z
        rw [hK3]
        simp [go_sem, hA, hkm, i1, hki, hAk, x5, p4, x7, hr, hri, i2, hAr, x6, p5, j0]
        refine ⟨by omega, ?_⟩
        refine awake24_fun.callF (by simp [go_sem]) ?_
        rintro _ rfl
        simp [go_sem]
        exact hR _ _ _ rfl (by simp [go_sem])
      have nz : ¬ j = 0 := by omega
      have n8 : ¬ 5 * (j : Int) < -5 * (j : Int) := by omega
      have n9 : ¬ -5 * (j : Int) = 5 * (j : Int) := by omega
      have n10 : ¬ 5 * (j : Int) = -5 * (j : Int) := by omega
      have b9 : (-5 * (j : Int) == 5 * (j : Int)) = false := by simpa using n9
      have b10 : (5 * (j : Int) == -5 * (j : Int)) = false := by simpa using n10
      by_cases h3 : ap = -5 * (j : Int)
      · have n4 : ¬ 0 < sm := by omega
        have q := last (-5 * j)
        simp [go_sem, hA, hkm, x3, x4, h3, n4, n8, n9, nz, b9]
        exact q
      · by_cases h4 : ap = 5 * (j : Int)
        · have n4 : ¬ sm < 0 := by omega
          have q := last (5 * j)
          simp [go_sem, hA, hkm, x3, x4, h4, n4, n8, n10, nz, b10]
          exact q
        · have q := last ap
          have b3 : (ap == -5 * (j : Int)) = false := by simpa using h3
          have b4 : (ap == 5 * (j : Int)) = false := by simpa using h4
          simp [go_sem, hA, hkm, x3, x4, n1, n2, h3, h4, b3, b4]
          exact q
end Go.Idl
namespace Go.Idl
set_option linter.all false
open Go.Proofs Go.RowKit
theorem wfS {n : Int} (h : (Lit.int .i16 n).wf = true) : -32768 ≤ n ∧ n ≤ 32767 := by
  have := bounds_i16 h
  omega
theorem crossTurned_law (l : List Int) (d : Int) (h0 : ∀ x ∈ l, (Lit.int .i16 x).wf = true) (h1 : l.length ≤ maxLen) (h2 : (Lit.int .u8 d).wf = true) : FN 5 [.fz 1 (bys .i16 l), .int .u8 d] (fun v => v = .bool true) :=
  crossTurned_fun l d (by unfold maxLen at h1; omega) (fun x hx => wfS (h0 x hx)) (wf8 h2)
theorem crossDatum_law (l : List Int) (d : Int) (h0 : ∀ x ∈ l, (Lit.int .i16 x).wf = true) (h1 : l.length ≤ maxLen) (h2 : (Lit.int .u8 d).wf = true) : FN 6 [.fz 1 (bys .i16 l), .int .u8 d] (fun v => v = .bool true) :=
  crossDatum_fun l d (by unfold maxLen at h1; omega) (fun x hx => wfS (h0 x hx)) (wf8 h2)
end Go.Idl
