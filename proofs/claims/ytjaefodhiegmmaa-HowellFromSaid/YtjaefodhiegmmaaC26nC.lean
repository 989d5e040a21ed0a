import Derived.Test.YtjaefodhiegmmaaC26nA
namespace Go.Idl
set_option linter.all false
open Go.Proofs
set_option maxHeartbeats 400000
def PrimeOK (p : Int) : Prop := 2 ≤ p ∧ ∀ d, 2 ≤ d → d * d ≤ p → p.tmod d ≠ 0

theorem Prime_fun (t : Int) : IFun true Try.prog [] 14 [.int .i64 t] (fun v => (v = .tup [.int .i64 (2 * t - 1), .bool true] ∧ 2 ≤ t ∧ t ≤ 24 ∧ PrimeOK (2 * t - 1) ∧ bitsOf .and .i64 (2 * t - 2) (2 * t - 3) ≠ 0) ∨ (v = .tup [.int .i64 0, .bool false] ∧ ¬ (2 ≤ t ∧ t ≤ 24 ∧ PrimeOK (2 * t - 1) ∧ bitsOf .and .i64 (2 * t - 2) (2 * t - 3) ≠ 0))) := by
  refine IFun.of_body false 5 [10, 24] Try.func14 rfl Try.call14 rfl fun R hR => ?_
  simp [go_sem]
  have frz : ∀ (n : Int) (b : Bool), Fr false [] (.tup [.int .i64 n, .bool b]) (.tup [.int .i64 n, .bool b]) := fun n b => .tup _ _ rfl fun j c c' e1 e2 => by
    match j with
    | 0 => simp at e1 e2; subst e1; subst e2; exact .int _ _
    | 1 => simp at e1 e2; subst e1; subst e2; exact .bool _
    | j + 2 => simp at e1
  split
  · exact hR _ _ _ (frz _ _) (.inr ⟨rfl, by omega⟩)
  rename_i ht
  have w1 : IntKind.i64.wrap (2 * t) = 2 * t := wrap64 (by omega) (by omega)
  have w2 : IntKind.i64.wrap (2 * t - 1) = 2 * t - 1 := wrap64 (by omega) (by omega)
  rw [w1, w2]
  refine IFun.callC (isPrime_fun (2 * t - 1) (by omega)) (fun j c e => by cases j with | zero => simp at e; subst e; exact .int _ _ | succ j => simp at e) (fun g c e => by simp [eget] at e) ?_
  rintro _ ⟨b, rfl, hb⟩
  have w3 : IntKind.i64.wrap (2 * t - 1 - 1) = 2 * t - 2 := by rw [wrap64 (by omega) (by omega)]; omega
  have w4 : IntKind.i64.wrap (2 * t - 1 - 2) = 2 * t - 3 := by rw [wrap64 (by omega) (by omega)]; omega
  simp [go_sem, w3, w4]
  split
  · rename_i h
    refine hR _ _ _ (frz _ _) (.inr ⟨rfl, fun ⟨_, _, h1, h2⟩ => ?_⟩)
    rcases h with h | h
    · have := hb.2 h1; rw [h] at this; cases this
    · exact h2 h
  · rename_i h
    rw [not_or] at h
    exact hR _ _ _ (frz _ _) (.inl ⟨rfl, by omega, by omega, hb.1 (by simpa using h.1), h.2⟩)
end Go.Idl
