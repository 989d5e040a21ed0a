import Derived.Test.YtjaefodhiegmmaaC26nA
namespace Go.Idl
set_option linter.all false
open Go.Proofs
set_option maxHeartbeats 400000
def powI (w p : Int) : Nat → Int
  | 0 => 1
  | n + 1 => (powI w p n * w).tmod p
theorem powI_bd {w p : Int} (hp : 0 < p) (hw : 0 ≤ w) : ∀ n, 0 ≤ powI w p n ∧ (powI w p n ≤ 1 ∨ powI w p n < p)
  | 0 => by simp [powI]
  | n + 1 => by
    have ih := powI_bd hp hw n
    have h0 : 0 ≤ powI w p n * w := Int.mul_nonneg ih.1 hw
    simp only [powI]
    rw [Int.tmod_eq_emod_of_nonneg h0]
    exact ⟨Int.emod_nonneg _ (by omega), .inr (Int.emod_lt_of_pos _ hp)⟩

theorem power_fun (w e p : Int) (hp : 0 < p) (hp2 : p ≤ 2 ^ 31) (hw : 0 ≤ w) (hw2 : w ≤ 2 ^ 31) (he : e ≤ 2 ^ 31) : IFun true Try.prog [] 38 [.int .i64 w, .int .i64 e, .int .i64 p] (fun v => v = .int .i64 (powI w p e.toNat)) := by
  refine IFun.of_body false 9 [11] Try.func38 rfl Try.call38 rfl fun R hR => ?_
  simp [go_sem]
  refine IWp.loopE (α := Nat) (fun i => (⟨false, 20, 9, [11], [], [(0, .int .i64 w), (1, .int .i64 e), (2, .int .i64 p), (7, .int .i64 (powI w p i)), (8, .int .i64 i)], []⟩, [])) (fun i => i ≤ e.toNat) (fun i => e.toNat - i) 0 (by omega) (by simp [go_sem, powI]) ?_
  intro i hi
  have hb := powI_bd (w := w) hp hw i
  have h0 : 0 ≤ powI w p i * w := Int.mul_nonneg hb.1 hw
  have h1 : powI w p i * w ≤ 2 ^ 31 * 2 ^ 31 := Int.mul_le_mul (by omega) hw2 hw (by omega)
  simp [go_sem]
  split
  · rename_i h
    refine ⟨by omega, ⟨i + 1, ?_, by omega, by omega⟩⟩
    rw [wrap64 (by omega) (by omega), wrap64 (by omega) (by omega)]
    exact ⟨rfl, by omega⟩
  · rename_i h
    refine hR _ _ _ (.int _ _) ?_
    rw [show e.toNat = i by omega]
end Go.Idl
