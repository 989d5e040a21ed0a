/-
  Chapter 36: Right f25.
-/
import Derived.Test.YtpfpgkopbokfgaaDoorC36nA
namespace Go.Idl
set_option linter.all false
open Go.Proofs
set_option maxHeartbeats 4000000
set_option maxRecDepth 40000

def seenB (l : List Int) (i : Nat) : Bool := decide ((i : Int) ∈ l)
theorem Right_fun (teams : List Int) (met : List (Int × Int)) (hl : teams.length ≤ 2 ^ 32) (hm : met.length ≤ 2 ^ 32) : F36 25 [.fz 1 (ints teams), .fz 2 (prs met)] (fun v => v = .bool (rightB teams met)) := by
  refine IFun.of_bodyZ false 10 [10, 11, 12, 13, 23, 27, 28, 29, 30, 49] Tryd.func25 rfl Tryd.call25 rfl fun R hR => ?_
  simp [go_sem]
  refine IWp.loopT (α := Nat) (fun i => (⟨false, 51, 10, [10, 11, 12, 13, 23, 27, 28, 29, 30, 49], glT, [(1, .fz 2 (prs met)), (5, .ptr 0 1 0 0), (10, .fz 1 (ints teams)), (11, .int .i64 (teams.length : Int)), (12, .int .i64 (i : Int))], []⟩, [.rows 65 [arr 65 fun k => .bool (seenB (teams.take i) k)]]))
    (fun i => i ≤ teams.length ∧ (teams.take i).all numB = true ∧ (teams.take i).Nodup) (fun i => teams.length - i) 0 ⟨by omega, by simp, by simp⟩ (by simp [go_sem, seenB]; rfl) ?_
  rintro i ⟨hi, hnum, hnd⟩
  by_cases h : i < teams.length
  · have w1 : IntKind.i64.wrap ((i : Int) + 1) = i + 1 := wrap64 (by omega) (by omega)
    obtain ⟨t, ht⟩ : ∃ t, teams[i] = t := ⟨_, rfl⟩
    have hsn : teams.take (i + 1) = teams.take i ++ [t] := by rw [List.take_succ_eq_append_getElem h, ht]
    have hsp : teams = teams.take i ++ t :: teams.drop (i + 1) := by rw [← ht]; simp
    simp [go_sem, h, ht]
    refine (number_fun t).call (by simp [go_sem]) ?_
    rintro _ rfl
    cases hn : numB t with
    | false =>
      have : rightB teams met = false := by
        have : teams.all numB = false := by rw [hsp, List.all_append]; simp [hn]
        simp [rightB, this]
      by_cases h65 : t.toNat < 65
      · have hq := arr_at (n := 65) (f := fun j => IV.bool (seenB (teams.take i) j)) (d := IV.tup []) h65
        simp [go_sem, hq]
        exact hR _ _ _ rfl (by simp [go_sem, this])
      · have hq : (arr 65 fun j => IV.bool (seenB (teams.take i) j))[t.toNat]?.getD (IV.tup []) = IV.tup [] := by rw [List.getElem?_eq_none (by simp [go_sem]; omega)]; rfl
        simp [go_sem, hq]
        exact hR _ _ _ rfl (by simp [go_sem, this])
    | true =>
      have hb : 1 ≤ t ∧ t ≤ 64 := by simpa [numB] using hn
      obtain ⟨k, rfl⟩ : ∃ k : Nat, t = k := ⟨t.toNat, by omega⟩
      have hk : k < 65 := by omega
      have hat := arr_at (n := 65) (f := fun j => IV.bool (seenB (teams.take i) j)) (d := IV.tup []) hk
      cases hs : seenB (teams.take i) k with
      | true =>
        have : rightB teams met = false := by
          have : ¬ teams.Nodup := by
            intro hnd2
            rw [hsp, List.nodup_append] at hnd2
            exact hnd2.2.2 k (of_decide_eq_true hs) k (by simp) rfl
          simp [rightB, this]
        simp [go_sem, hk, hat, hs]
        exact ⟨by omega, by omega, hR _ _ _ rfl (by simp [go_sem, this])⟩
      | false =>
        simp [go_sem, hk, hat, hs, w1]
        rw [arr_put hk, upF_bool]
        refine ⟨by omega, by omega, by omega, by omega, i + 1, ⟨by omega, ?_⟩, ⟨by omega, ?_, ?_⟩, by omega⟩
        · congr 1; funext j
          congr 1
          rw [hsn]
          by_cases e : j = k
          · subst e; simp [seenB]
          · have e2 : ¬ (j : Int) = k := by omega
            simp [seenB, e, e2]
        · intro x hx
          rw [hsn] at hx
          rcases List.mem_append.1 hx with hx | hx
          · exact List.all_eq_true.1 hnum x hx
          · have : x = k := by simpa using hx
            rw [this]; exact hn
        · rw [hsn, List.nodup_append]
          refine ⟨hnd, by simp, fun a ha b hb e => ?_⟩
          have : b = k := by simpa using hb
          subst this
          rw [e] at ha
          have : seenB (teams.take i) k = true := decide_eq_true ha
          rw [hs] at this; cases this
  · have e : teams.take i = teams := List.take_of_length_le (by omega)
    rw [e] at hnum hnd
    simp [go_sem, h]
    refine IWp.loopT (α := Nat) (fun j => (⟨false, 51, 10, [10, 11, 12, 13, 23, 27, 28, 29, 30, 49], glT, [(27, .fz 2 (prs met)), (28, .int .i64 (met.length : Int)), (29, .int .i64 (j : Int))], []⟩, [.dead]))
      (fun j => j ≤ met.length ∧ (met.take j).all (fun p => numB p.1 && numB p.2 && !(decide (p.1 = p.2))) = true) (fun j => met.length - j) 0 ⟨by omega, by simp⟩ (by simp [go_sem]) ?_
    rintro j ⟨hj, hok⟩
    by_cases h2 : j < met.length
    · have w1 : IntKind.i64.wrap ((j : Int) + 1) = j + 1 := wrap64 (by omega) (by omega)
      obtain ⟨p, hp⟩ : ∃ p, met[j] = p := ⟨_, rfl⟩
      obtain ⟨x, y⟩ := p
      have bad : (numB x && numB y && !(decide (x = y))) = false → rightB teams met = false := fun hb => by
        have : (met.all fun p => numB p.1 && numB p.2 && !(decide (p.1 = p.2))) = false := by
          rw [List.all_eq_false]
          exact ⟨(x, y), hp ▸ List.getElem_mem h2, by simp only [hb]; simp⟩
        rw [rightB, this, Bool.and_false]
      simp [go_sem, h2, hp]
      refine (number_fun x).call (by simp [go_sem]) ?_
      rintro _ rfl
      cases hx : numB x with
      | false =>
        rw [hx] at bad
        simp [go_sem]
        exact hR _ _ _ rfl (by simp [go_sem, bad rfl])
      | true =>
        simp [go_sem]
        refine (number_fun y).call (by simp [go_sem]) ?_
        rintro _ rfl
        cases hy : numB y with
        | false =>
          rw [hx, hy] at bad
          simp [go_sem]
          exact hR _ _ _ rfl (by simp [go_sem, bad rfl])
        | true =>
          by_cases hxy : x = y
          · subst hxy
            simp [go_sem]
            exact hR _ _ _ rfl (by simp [go_sem, bad (by simp)])
          · simp [go_sem, hxy, w1]
            refine ⟨j + 1, by omega, ⟨by omega, ?_⟩, by omega⟩
            rw [List.take_succ_eq_append_getElem h2, hp]
            intro a b hab
            rcases List.mem_append.1 hab with hab | hab
            · have := List.all_eq_true.1 hok _ hab; simpa using this
            · have : (a, b) = (x, y) := by simpa using hab
              cases this
              exact ⟨⟨hx, hy⟩, hxy⟩
    · have e2 : met.take j = met := List.take_of_length_le (by omega)
      rw [e2] at hok
      have : rightB teams met = true := by rw [rightB, hnum, hok]; simp [hnd]
      simp [go_sem, h2]
      exact hR _ _ _ rfl (by simp [go_sem, this])
end Go.Idl
