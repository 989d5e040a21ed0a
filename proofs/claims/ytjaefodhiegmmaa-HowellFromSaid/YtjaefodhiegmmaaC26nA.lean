import Derived.Test.YtjaefodhiegmmaaC26n0
namespace Go.Idl
set_option linter.all false
open Go.Proofs
set_option maxHeartbeats 400000

theorem isPrime_fun (p : Int) (hp : p ≤ 2 ^ 31) : IFun true Try.prog [] 31 [.int .i64 p] (fun v => ∃ b, v = .bool b ∧ (b = true ↔ 2 ≤ p ∧ ∀ d, 2 ≤ d → d * d ≤ p → p.tmod d ≠ 0)) := by
  refine IFun.of_body false 4 [5, 10, 16] Try.func31 rfl Try.call31 rfl fun R hR => ?_
  simp [go_sem]
  split
  · exact hR _ _ _ (.bool _) ⟨_, rfl, by simp; omega⟩
  rename_i h2
  refine IWp.loopE (α := Int) (fun d => (⟨false, 17, 4, [5, 10, 16], [], [(0, .int .i64 p), (3, .int .i64 d)], []⟩, [])) (fun d => 2 ≤ d ∧ d ≤ 2 ^ 31 ∧ ∀ c, 2 ≤ c → c < d → c * c ≤ p → p.tmod c ≠ 0) (fun d => (p + 1 - d).toNat) 2 ⟨by omega, by omega, by omega⟩ (by simp [go_sem]) ?_
  rintro d ⟨hd, hd2, hd3⟩
  have hsq : d * d ≤ 2 ^ 62 := Int.le_trans (Int.mul_le_mul hd2 hd2 (by omega) (by omega)) (by decide)
  have hsq0 : 2 * d ≤ d * d := Int.mul_le_mul_of_nonneg_right hd (by omega)
  simp [go_sem]
  rw [wrap64 (by omega) (by omega)]
  split
  · rename_i hdp
    refine ⟨by omega, ?_⟩
    split
    · rename_i hz
      exact hR _ _ _ (.bool _) ⟨_, rfl, by simp; exact fun _ => ⟨d, hd, hdp, hz⟩⟩
    · rename_i hz
      rw [wrap64 (by omega) (by omega)]
      refine ⟨⟨by omega, by omega, fun c h1 h2 h3 => ?_⟩, by omega⟩
      by_cases hc : c = d
      · subst hc; exact hz
      · exact hd3 c h1 (by omega) h3
  · rename_i hdp
    refine hR _ _ _ (.bool _) ⟨_, rfl, iff_of_true rfl ⟨by omega, fun c h1 h3 => ?_⟩⟩
    by_cases hc : c < d
    · exact hd3 c h1 hc h3
    · have : d * d ≤ c * c := Int.mul_le_mul (by omega) (by omega) (by omega) (by omega)
      omega

theorem prime_fun (p : Int) (hp : p ≤ 2 ^ 31) : IFun true Try.prog [] 39 [.int .i64 p] (fun v => ∃ b, v = .bool b ∧ (b = true ↔ 2 ≤ p ∧ ∀ d, 2 ≤ d → d < p → p.tmod d ≠ 0)) := by
  refine IFun.of_body false 4 [5, 8, 14] Try.func39 rfl Try.call39 rfl fun R hR => ?_
  simp [go_sem]
  split
  · exact hR _ _ _ (.bool _) ⟨_, rfl, by simp; omega⟩
  rename_i h2
  refine IWp.loopE (α := Int) (fun d => (⟨false, 15, 4, [5, 8, 14], [], [(0, .int .i64 p), (3, .int .i64 d)], []⟩, [])) (fun d => 2 ≤ d ∧ d ≤ 2 ^ 31 ∧ ∀ c, 2 ≤ c → c < d → p.tmod c ≠ 0) (fun d => (p + 1 - d).toNat) 2 ⟨by omega, by omega, by omega⟩ (by simp [go_sem]) ?_
  rintro d ⟨hd, hd2, hd3⟩
  simp [go_sem]
  split
  · rename_i hdp
    refine ⟨by omega, ?_⟩
    split
    · rename_i hz
      exact hR _ _ _ (.bool _) ⟨_, rfl, by simp; exact fun _ => ⟨d, hd, hdp, hz⟩⟩
    · rename_i hz
      rw [wrap64 (by omega) (by omega)]
      refine ⟨⟨by omega, by omega, fun c h1 h2 => ?_⟩, by omega⟩
      by_cases hc : c = d
      · subst hc; exact hz
      · exact hd3 c h1 (by omega)
  · rename_i hdp
    exact hR _ _ _ (.bool _) ⟨_, rfl, iff_of_true rfl ⟨by omega, fun c h1 h3 => hd3 c h1 (by omega)⟩⟩

end Go.Idl
