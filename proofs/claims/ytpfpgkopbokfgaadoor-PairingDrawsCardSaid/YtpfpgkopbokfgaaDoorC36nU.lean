/-
  Chapter 36: awake f13.
-/
import Derived.Test.YtpfpgkopbokfgaaDoorC36nS
import Derived.Test.YtpfpgkopbokfgaaDoorC36nR
namespace Go.Idl
set_option linter.all false
open Go.Proofs
set_option maxHeartbeats 8000000
set_option maxRecDepth 40000

theorem aw1 : cntN [7, 3, 9, 4] [(3, 7)] = 2 := by decide +kernel
theorem aw1e : errN [7, 3, 9, 4] [(3, 7)] false = 0 := by decide +kernel
theorem aw2 : nthD [7, 3, 9, 4] [(3, 7)] 0 = [(7, 9), (3, 4)] := by decide +kernel
theorem aw2e : nthE [7, 3, 9, 4] [(3, 7)] 0 = 0 := by decide +kernel
theorem aw3 : nmbN [7, 3, 9, 4] [(3, 7)] [(7, 4), (3, 9)] = 1 := by decide +kernel
theorem aw3e : nmbE [7, 3, 9, 4] [(3, 7)] [(7, 4), (3, 9)] = 0 := by decide +kernel
theorem aw4 : drawR [7, 3, 9, 4] [(3, 7), (3, 4)] [] = ([(7, 4), (3, 9)], 0, 0) := by decide +kernel
theorem aw5 : drawR [7, 3, 9] [] [] = ([(7, 3)], 9, 0) := by decide +kernel
theorem aw6 : drawR [7, 3, 9] [(3, 7)] [] = ([(7, 9)], 3, 0) := by decide +kernel
theorem aw7 : drawR [7, 3, 9] [(3, 7)] [9, 3] = ([(3, 9)], 7, 0) := by decide +kernel
theorem awake_fun : F36 13 [] (fun v => v = .bool true) := by
  refine IFun.of_bodyZ true 1 [1, 2, 3, 4, 5, 6, 7, 8, 9, 10, 11, 12, 13, 14, 15, 16, 17, 18, 19, 20, 116] Tryd.func13 rfl Tryd.call13 rfl fun R hR => ?_
  simp [go_sem]
  refine (Count_fun [7, 3, 9, 4] [(3, 7)] (by decide) (by decide)).call (by simp [go_sem, ints, prs, mp, cutR, okR, frzR]) ?_
  rintro _ rfl
  rw [aw1, aw1e]
  simp [go_sem]
  refine (Nth_fun [7, 3, 9, 4] [(3, 7)] 0 (by decide) (by decide)).call (by simp [go_sem, ints, prs, mp, cutR, okR, frzR]) ?_
  rintro _ rfl
  rw [aw2, aw2e]
  simp [go_sem]
  refine (Number_fun [7, 3, 9, 4] [(3, 7)] [(7, 4), (3, 9)] (by decide) (by decide) (by decide)).call (by simp [go_sem, ints, prs, mp, cutR, okR, frzR]) ?_
  rintro _ rfl
  rw [aw3, aw3e]
  simp [go_sem]
  refine (Draw_fun [7, 3, 9, 4] [(3, 7), (3, 4)] [] (by decide) (by decide) (by decide)).call (by simp [go_sem, ints, prs, mp, cutR, okR, frzR]) ?_
  rintro _ rfl
  rw [aw4, drawV]
  simp [go_sem]
  refine (Draw_fun [7, 3, 9] [] [] (by decide) (by decide) (by decide)).call (by simp [go_sem, ints, prs, mp, cutR, okR, frzR]) ?_
  rintro _ rfl
  rw [aw5, drawV]
  simp [go_sem]
  refine (Draw_fun [7, 3, 9] [(3, 7)] [] (by decide) (by decide) (by decide)).call (by simp [go_sem, ints, prs, mp, cutR, okR, frzR]) ?_
  rintro _ rfl
  rw [aw6, drawV]
  simp [go_sem]
  refine (Draw_fun [7, 3, 9] [(3, 7)] [9, 3] (by decide) (by decide) (by decide)).call (by simp [go_sem, ints, prs, mp, cutR, okR, frzR]) ?_
  rintro _ rfl
  rw [aw7, drawV]
  simp [go_sem]
  refine (is_fun [(7, 9), (3, 4)] [(7, 9), (3, 4)] (by decide)).call (by simp [go_sem, ints, prs, mp, cutR, okR, frzR]) ?_
  rintro _ rfl
  simp [go_sem]
  refine (is_fun [(7, 4), (3, 9)] [(7, 4), (3, 9)] (by decide)).call (by simp [go_sem, ints, prs, mp, cutR, okR, frzR]) ?_
  rintro _ rfl
  simp [go_sem]
  refine (is_fun [(7, 3)] [(7, 3)] (by decide)).call (by simp [go_sem, ints, prs, mp, cutR, okR, frzR]) ?_
  rintro _ rfl
  simp [go_sem]
  refine (is_fun [(7, 9)] [(7, 9)] (by decide)).call (by simp [go_sem, ints, prs, mp, cutR, okR, frzR]) ?_
  rintro _ rfl
  simp [go_sem]
  refine (is_fun [(3, 9)] [(3, 9)] (by decide)).call (by simp [go_sem, ints, prs, mp, cutR, okR, frzR]) ?_
  rintro _ rfl
  simp [go_sem]
  exact hR _ _ _ rfl (by simp [go_sem])
end Go.Idl
