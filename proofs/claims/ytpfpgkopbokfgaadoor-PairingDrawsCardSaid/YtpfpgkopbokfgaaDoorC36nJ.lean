/-
  Chapter 36: the reference: Met f43, Right f42, wrong f35.
-/
import Derived.Test.YtpfpgkopbokfgaaDoorC36nE
namespace Go.Idl
set_option linter.all false
open Go.Proofs
set_option maxHeartbeats 4000000
set_option maxRecDepth 40000

theorem refMet_fun (met : List (Int × Int)) (a b : Int) (hl : met.length ≤ 2 ^ 32) : F36 43 [.fz 2 (prs met), .int .i64 a, .int .i64 b] (fun v => v = .bool (metB met a b)) := by
  refine IFun.of_bodyZ false 8 [11, 47] Tryd.func43 rfl Tryd.call43 rfl fun R hR => ?_
  simp [go_sem]
  refine IWp.loopT (α := Nat) (fun i => (⟨false, 48, 8, [11, 47], glT, [(0, .fz 2 (prs met)), (1, .int .i64 a), (2, .int .i64 b), (7, .int .i64 (i : Int))], []⟩, []))
    (fun i => i ≤ met.length ∧ metB (met.take i) a b = false) (fun i => met.length - i) 0 ⟨by omega, by simp [metB]⟩ (by simp [go_sem]) ?_
  rintro i ⟨hi, hne⟩
  by_cases h : i < met.length
  · have w1 : IntKind.i64.wrap ((i : Int) + 1) = i + 1 := wrap64 (by omega) (by omega)
    obtain ⟨p, hp⟩ : ∃ p, met[i] = p := ⟨_, rfl⟩
    obtain ⟨x, y⟩ := p
    have yes : ((x = a ∧ y = b) ∨ (x = b ∧ y = a)) → metB met a b = true := fun hx => by
      unfold metB
      rw [List.any_eq_true]
      exact ⟨(x, y), hp ▸ List.getElem_mem h, by simpa using hx⟩
    have no : ¬ ((x = a ∧ y = b) ∨ (x = b ∧ y = a)) → metB (met.take (i + 1)) a b = false := fun hx => by
      rw [metB, List.take_succ_eq_append_getElem h, List.any_append, ← metB, hne, hp]
      simpa using hx
    by_cases h1 : x = a
    · by_cases h2 : y = b
      · simp [go_sem, h, hp, h1, h2]
        exact hR _ _ _ rfl (by simp [go_sem, yes (.inl ⟨h1, h2⟩)])
      · by_cases h3 : x = b
        · by_cases h4 : y = a
          · have hab : a = b := by omega
            exact absurd (by omega) h2
          · have h3' : a = b := by omega
            simp [go_sem, h, hp, h1, h2, h3', h4, w1]
            exact ⟨i + 1, by omega, ⟨by omega, by have := no (by omega); rw [h3'] at this; exact this⟩, by omega⟩
        · have h3' : ¬ a = b := by omega
          simp [go_sem, h, hp, h1, h2, h3', w1]
          exact ⟨i + 1, by omega, ⟨by omega, no (by omega)⟩, by omega⟩
    · by_cases h3 : x = b
      · by_cases h4 : y = a
        · simp [go_sem, h, hp, h1, h3, h4]
          exact ⟨by omega, hR _ _ _ rfl (by simp [go_sem, yes (.inr ⟨h3, h4⟩)])⟩
        · simp [go_sem, h, hp, h1, h3, h4, w1]
          refine ⟨by omega, ?_⟩
          rw [if_neg (by omega)]
          exact ⟨i + 1, by omega, ⟨by omega, no (by omega)⟩, by omega⟩
      · simp [go_sem, h, hp, h1, h3, w1]
        exact ⟨i + 1, by omega, ⟨by omega, no (by omega)⟩, by omega⟩
  · simp [go_sem, h]
    have e : met.take i = met := List.take_of_length_le (by omega)
    rw [e] at hne
    exact hR _ _ _ rfl (by simp [go_sem, hne])

theorem refRight_fun (teams : List Int) (met : List (Int × Int)) (hl : teams.length ≤ 2 ^ 32) (hm : met.length ≤ 2 ^ 32) : F36 42 [.fz 1 (ints teams), .fz 2 (prs met)] (fun v => v = .bool (rightB teams met)) := by
  refine IFun.of_bodyZ false 5 [5, 6, 7, 11, 25, 28, 39, 43, 88] Tryd.func42 rfl Tryd.call42 rfl fun R hR => ?_
  simp [go_sem]
  refine IWp.loopT (α := Nat) (fun i => (⟨false, 89, 5, [5, 6, 7, 11, 25, 28, 39, 43, 88], glT, [(0, .fz 1 (ints teams)), (1, .fz 2 (prs met)), (5, .int .i64 (i : Int))], []⟩, []))
    (fun i => i ≤ teams.length ∧ (teams.take i).all numB = true ∧ (teams.take i).Nodup) (fun i => teams.length - i) 0 ⟨by omega, by simp, by simp⟩ (by simp [go_sem]) ?_
  rintro i ⟨hi, hnum, hnd⟩
  by_cases h : i < teams.length
  · have w1 : IntKind.i64.wrap ((i : Int) + 1) = i + 1 := wrap64 (by omega) (by omega)
    obtain ⟨t, ht⟩ : ∃ t, teams[i] = t := ⟨_, rfl⟩
    have hsn : teams.take (i + 1) = teams.take i ++ [t] := by rw [List.take_succ_eq_append_getElem h, ht]
    have hsp : teams = teams.take i ++ t :: teams.drop (i + 1) := by rw [← ht]; simp
    have badn : numB t = false → rightB teams met = false := fun hn => by
      have : teams.all numB = false := by rw [hsp, List.all_append]; simp [hn]
      simp [rightB, this]
    by_cases h1 : t < 1
    · simp [go_sem, h, ht, h1]
      exact hR _ _ _ rfl (by simp [go_sem, badn (by simp [numB]; omega)])
    by_cases h2 : 64 < t
    · simp [go_sem, h, ht, h1, h2]
      exact hR _ _ _ rfl (by simp [go_sem, badn (by simp [numB]; omega)])
    simp [go_sem, h, ht, h1, h2]
    refine IWp.loopT (α := Nat) (fun k => (⟨false, 89, 5, [5, 6, 7, 11, 25, 28, 39, 43, 88], glT, [(0, .fz 1 (ints teams)), (1, .fz 2 (prs met)), (5, .int .i64 (i : Int)), (6, .int .i64 (k : Int))], []⟩, []))
      (fun k => k ≤ i ∧ ∀ j (hj : j < teams.length), j < k → teams[j] ≠ t) (fun k => i - k) 0 ⟨by omega, by omega⟩ (by simp [go_sem]) ?_
    rintro k ⟨hk, hne⟩
    by_cases hki : k < i
    · have hkl : k < teams.length := by omega
      have w2 : IntKind.i64.wrap ((k : Int) + 1) = k + 1 := wrap64 (by omega) (by omega)
      by_cases he : teams[k] = t
      · have bad : rightB teams met = false := by
          have : ¬ teams.Nodup := fun hnd2 => by
            have := nodup_eq hnd2 hkl h (by rw [he, ht]); omega
          simp [rightB, this]
        simp [go_sem, hki, hkl, h, ht, he]
        exact ⟨by decide +kernel, hR _ _ _ rfl (by simp [go_sem, bad])⟩
      · simp [go_sem, hki, hkl, h, ht, he, w2]
        refine ⟨by decide +kernel, k + 1, by omega, ⟨by omega, fun j hj hjk => ?_⟩, by omega⟩
        by_cases e : j = k
        · subst e; exact he
        · exact hne j hj (by omega)
    · simp [go_sem, hki, w1]
      refine ⟨i + 1, by omega, ⟨by omega, ?_, ?_⟩, by omega⟩
      · intro x hx
        rw [hsn] at hx
        rcases List.mem_append.1 hx with hx | hx
        · exact List.all_eq_true.1 hnum x hx
        · have : x = t := by simpa using hx
          rw [this]; simp [numB]; omega
      · rw [hsn, List.nodup_append]
        refine ⟨hnd, by simp, fun a ha b hb e => ?_⟩
        have : b = t := by simpa using hb
        subst this
        obtain ⟨j, hj, e2⟩ := List.mem_iff_getElem.1 ha
        rw [List.length_take] at hj
        rw [List.getElem_take] at e2
        exact hne j (by omega) (by omega) (by rw [e2, e])
  · have e : teams.take i = teams := List.take_of_length_le (by omega)
    rw [e] at hnum hnd
    simp [go_sem, h]
    refine IWp.loopT (α := Nat) (fun j => (⟨false, 89, 5, [5, 6, 7, 11, 25, 28, 39, 43, 88], glT, [(1, .fz 2 (prs met)), (7, .int .i64 (j : Int))], []⟩, []))
      (fun j => j ≤ met.length ∧ (met.take j).all (fun p => numB p.1 && numB p.2 && !(decide (p.1 = p.2))) = true) (fun j => met.length - j) 0 ⟨by omega, by simp⟩ (by simp [go_sem]) ?_
    rintro j ⟨hj, hok⟩
    by_cases h2 : j < met.length
    · have w1 : IntKind.i64.wrap ((j : Int) + 1) = j + 1 := wrap64 (by omega) (by omega)
      obtain ⟨p, hp⟩ : ∃ p, met[j] = p := ⟨_, rfl⟩
      obtain ⟨x, y⟩ := p
      have bad : (numB x && numB y && !(decide (x = y))) = false → rightB teams met = false := fun hb => by
        have : (met.all fun p => numB p.1 && numB p.2 && !(decide (p.1 = p.2))) = false := by
          rw [List.all_eq_false]
          exact ⟨(x, y), hp ▸ List.getElem_mem h2, by simp only [hb]; simp⟩
        rw [rightB, this, Bool.and_false]
      by_cases q1 : x < 1
      · simp [go_sem, h2, hp, q1]
        exact ⟨by decide +kernel, hR _ _ _ rfl (by simp [go_sem, bad (by simp [numB]; omega)])⟩
      by_cases q2 : 64 < x
      · simp [go_sem, h2, hp, q1, q2]
        exact ⟨by decide +kernel, hR _ _ _ rfl (by simp [go_sem, bad (by simp [numB]; omega)])⟩
      by_cases q3 : y < 1
      · simp [go_sem, h2, hp, q1, q2, q3]
        exact ⟨by decide +kernel, hR _ _ _ rfl (by simp [go_sem, bad (by simp [numB]; omega)])⟩
      by_cases q4 : 64 < y
      · simp [go_sem, h2, hp, q1, q2, q3, q4]
        exact ⟨by decide +kernel, hR _ _ _ rfl (by simp [go_sem, bad (by simp [numB]; omega)])⟩
      by_cases q5 : x = y
      · simp [go_sem, h2, hp, q1, q2, q3, q4, q5]
        exact ⟨by decide +kernel, hR _ _ _ rfl (by simp [go_sem, bad (by simp [q5])])⟩
      · simp [go_sem, h2, hp, q1, q2, q3, q4, q5, w1]
        refine ⟨by decide +kernel, j + 1, by omega, ⟨by omega, ?_⟩, by omega⟩
        rw [List.take_succ_eq_append_getElem h2, hp]
        intro a b hab
        rcases List.mem_append.1 hab with hab | hab
        · have := List.all_eq_true.1 hok _ hab; simpa using this
        · have : (a, b) = (x, y) := by simpa using hab
          cases this
          refine ⟨⟨?_, ?_⟩, q5⟩ <;> simp [numB] <;> omega
    · have e2 : met.take j = met := List.take_of_length_le (by omega)
      rw [e2] at hok
      have : rightB teams met = true := by rw [rightB, hnum, hok]; simp [hnd]
      simp [go_sem, h2]
      exact hR _ _ _ rfl (by simp [go_sem, this])

theorem wrong_fun (teams : List Int) (met : List (Int × Int)) (odd : Bool) (hl : teams.length ≤ 2 ^ 32) (hm : met.length ≤ 2 ^ 32) : F36 35 [.fz 1 (ints teams), .fz 2 (prs met), .bool odd] (fun v => v = .int .i64 (errN teams met odd)) := by
  refine IFun.of_bodyZ false 7 [10, 13, 21] Tryd.func35 rfl Tryd.call35 rfl fun R hR => ?_
  simp [go_sem]
  refine (refRight_fun teams met hl hm).call (by simp [go_sem]) ?_
  rintro _ rfl
  cases hr : rightB teams met with
  | false =>
    have e : errN teams met odd = 2 := by unfold errN; rw [if_pos hr]
    simp [go_sem]
    exact hR _ _ _ rfl (by simp [go_sem, e])
  | true =>
    by_cases h16 : 16 < teams.length
    · have hI : (16 : Int) < teams.length := by omega
      have e : errN teams met odd = 5 := by unfold errN; rw [if_neg (by simp [hr]), if_pos h16]
      simp [go_sem, hI]
      exact hR _ _ _ rfl (by simp [go_sem, e])
    · have hI : ¬ (16 : Int) < teams.length := by omega
      cases odd with
      | true =>
        have e : errN teams met true = 0 := by unfold errN; rw [if_neg (by simp [hr]), if_neg h16, if_neg (by simp)]
        simp [go_sem, hI]
        exact hR _ _ _ rfl (by simp [go_sem, e])
      | false =>
        by_cases hp : teams.length % 2 = 1
        · have e : errN teams met false = 360 := by unfold errN; rw [if_neg (by simp [hr]), if_neg h16, if_pos ⟨rfl, hp⟩]
          have hp' : (teams.length : Int).tmod 2 = 1 := by rw [Int.tmod_eq_emod_of_nonneg (by omega)]; omega
          simp [go_sem, hI, hp']
          exact hR _ _ _ rfl (by simp [go_sem, e])
        · have e : errN teams met false = 0 := by unfold errN; rw [if_neg (by simp [hr]), if_neg h16, if_neg (fun h => hp h.2)]
          have hp' : (teams.length : Int).tmod 2 = 0 := by rw [Int.tmod_eq_emod_of_nonneg (by omega)]; omega
          simp [go_sem, hI, hp']
          exact hR _ _ _ rfl (by simp [go_sem, e])
end Go.Idl
