/-
  Chapter 36: the laws PairingTells f6, PairingDraws f3.
-/
import Derived.Test.YtpfpgkopbokfgaaDoorC36nU
namespace Go.Idl
set_option linter.all false
open Go.Proofs
set_option maxHeartbeats 8000000
set_option maxRecDepth 40000

theorem PairingTells_law (teams : List Int) (met draw : List (Int × Int)) (a b k : Int) :
    F36 6 [.fz 1 (ints teams), .fz 2 (prs met), .fz 2 (prs draw), .int .i64 a, .int .i64 b, .int .i64 k] (fun v => v = .bool true) := by
  refine IFun.of_bodyZ false 13 [] Tryd.func6 rfl Tryd.call6 rfl fun R hR => ?_
  simp [go_sem]
  refine (few_fun teams met).call (by simp [go_sem]) ?_
  rintro _ rfl
  cases hf : fewB teams met with
  | false =>
    simp [go_sem]
    refine awake_fun.call (by simp [go_sem]) ?_
    rintro _ rfl
    simp [go_sem]
    exact hR _ _ _ rfl (by simp [go_sem])
  | true =>
    have hf' := of_decide_eq_true hf
    by_cases hd : 10 < draw.length
    · have hdI : (10 : Int) < draw.length := by omega
      simp [go_sem, hdI]
      refine awake_fun.call (by simp [go_sem]) ?_
      rintro _ rfl
      simp [go_sem]
      exact hR _ _ _ rfl (by simp [go_sem])
    · have hdI : ¬ (10 : Int) < draw.length := by omega
      simp [go_sem, hdI]
      refine (tells_fun teams met draw a b k (by omega) (by omega) (by omega)).call (by simp [go_sem]) ?_
      rintro _ rfl
      simp [go_sem]
      refine awake_fun.call (by simp [go_sem]) ?_
      rintro _ rfl
      simp [go_sem]
      exact hR _ _ _ rfl (by simp [go_sem])
theorem drawR_len (teams : List Int) (met : List (Int × Int)) (byes : List Int) : (drawR teams met byes).1.length ≤ teams.length := by
  have hb : ∀ i, (byeGo teams met byes i).1.length ≤ teams.length := by
    intro i
    induction i with
    | zero => simp [byeGo]
    | succ i ih =>
      unfold byeGo
      split
      · exact ih
      · split
        · exact Nat.le_trans fstD_len (by rw [List.length_eraseIdx]; split <;> omega)
        · exact ih
  unfold drawR
  split
  · simp
  · split
    · split
      · exact fstD_len
      · simp
    · exact hb _
theorem PairingDraws_law (teams : List Int) (met : List (Int × Int)) (byes : List Int) :
    F36 3 [.fz 1 (ints teams), .fz 2 (prs met), .fz 1 (ints byes)] (fun v => v = .bool true) := by
  refine IFun.of_bodyZ false 7 [7, 8, 9, 10, 11, 12, 13, 14, 15, 24] Tryd.func3 rfl Tryd.call3 rfl fun R hR => ?_
  simp [go_sem]
  refine (few_fun teams met).call (by simp [go_sem]) ?_
  rintro _ rfl
  have rest : ¬ (fewB teams met = true ∧ byes.length ≤ 20) ∨ (fewB teams met = true ∧ byes.length ≤ 20) := Decidable.not_or_of_imp id
  cases hf : fewB teams met with
  | false =>
    simp [go_sem]
    refine awake_fun.call (by simp [go_sem]) ?_
    rintro _ rfl
    simp [go_sem]
    exact hR _ _ _ rfl (by simp [go_sem])
  | true =>
    have hf' := of_decide_eq_true hf
    by_cases hd : 20 < byes.length
    · have hdI : (20 : Int) < byes.length := by omega
      simp [go_sem, hdI]
      refine awake_fun.call (by simp [go_sem]) ?_
      rintro _ rfl
      simp [go_sem]
      exact hR _ _ _ rfl (by simp [go_sem])
    · have hdI : ¬ (20 : Int) < byes.length := by omega
      have hl2 : teams.length ≤ 2 ^ 32 := by omega
      have hm2 : met.length ≤ 2 ^ 32 := by omega
      have hb2 : byes.length ≤ 2 ^ 32 := by omega
      have hlen := drawR_len teams met byes
      simp [go_sem, hdI]
      refine ⟨⟨by omega, fun r hr => ints_one r hr⟩, ⟨by omega, fun r hr => prs_one r hr⟩, ⟨by omega, fun r hr => ints_one r hr⟩, ?_⟩
      refine (Draw_fun teams met byes hl2 hm2 hb2).call (by simp [go_sem]) ?_
      rintro _ rfl
      simp [go_sem, drawV]
      refine (theirs_fun met (by omega)).call (by simp [go_sem]) ?_
      rintro _ rfl
      simp [go_sem]
      refine (refDraw_fun teams met byes hl2 hm2 hb2).call (by simp [go_sem]) ?_
      rintro _ rfl
      simp [go_sem, drawV]
      refine (ours_fun (drawR teams met byes).1 (by omega)).call (by simp [go_sem]) ?_
      rintro _ rfl
      simp [go_sem]
      refine (is_fun (drawR teams met byes).1 (drawR teams met byes).1 (by omega)).call (by simp [go_sem]) ?_
      rintro _ rfl
      simp [go_sem]
      refine (kept_fun teams met hl2 hm2).call (by simp [go_sem]) ?_
      rintro _ rfl
      simp [go_sem]
      refine (kept_fun byes [] hb2 (by decide)).call (by simp [go_sem]) ?_
      rintro _ rfl
      simp [go_sem]
      refine awake_fun.call (by simp [go_sem]) ?_
      rintro _ rfl
      simp [go_sem]
      exact hR _ _ _ rfl (by simp [go_sem])
end Go.Idl
