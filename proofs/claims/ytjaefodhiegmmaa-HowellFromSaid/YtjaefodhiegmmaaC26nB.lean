import Derived.Test.YtjaefodhiegmmaaC26n0
namespace Go.Idl
set_option linter.all false
open Go.Proofs
set_option maxHeartbeats 400000
theorem slicesEqual_fun (a b : List (Int × Int)) (ha : a.length < 2 ^ 32) (hb : b.length < 2 ^ 32) : IFun true Try.prog [] 28 [.fz 2 (prs a), .fz 2 (prs b)] (fun v => v = .bool (decide (a = b))) := by
  refine IFun.of_body false 6 [10, 12, 13, 14, 24] Try.func28 rfl Try.call28 rfl fun R hR => ?_
  simp [go_sem, flat44, hasP44, sizeP44, aggP44]
  split
  case isFalse hl => exact hR _ _ _ (.bool _) (by congr 1; simp; intro h; subst h; exact hl rfl)
  rename_i hl
  refine IWp.loopE (α := Nat) (fun i => (⟨false, 26, 6, [10, 12, 13, 14, 24], [], [(0, .fz 2 (prs a)), (1, .fz 2 (prs b)), (12, .int .i64 a.length), (13, .int .i64 i)], []⟩, [])) (fun i => i ≤ a.length ∧ a.take i = b.take i) (fun i => a.length - i) 0 ⟨by omega, by simp⟩ (by simp [go_sem]) ?_
  rintro i ⟨hi, hi2⟩
  have hl' : a.length = b.length := by omega
  by_cases h : i < a.length
  · have h' : i < b.length := by omega
    simp [go_sem, flat44, hasP44, sizeP44, aggP44, h, h', prs_at h, prs_at h']
    refine ⟨by decide +kernel, ?_⟩
    split
    · rename_i he
      refine hR _ _ _ (.bool _) ?_
      congr 1
      symm
      simp only [decide_eq_false_iff_not]
      intro hab; subst hab; simp at he
    · rename_i he
      simp only [not_or, Decidable.not_not] at he
      refine ⟨i + 1, by rw [wrap64 (by omega) (by omega)]; simp, ⟨by omega, ?_⟩, by omega⟩
      rw [List.take_succ_eq_append_getElem h, List.take_succ_eq_append_getElem h', hi2]
      congr 2
      exact Prod.ext he.1 he.2
  · simp [go_sem, h]
    refine hR _ _ _ (.bool _) ?_
    have : i = a.length := by omega
    subst this
    congr 1
    symm
    simp
    rw [← List.take_length (l := a), hi2, hl', List.take_length]
end Go.Idl
