/-
  Chapter 39: a sketch as an argument; what Made returns.
-/
import Derived.Test.YtamffdgopknkfaaDoorC39PartY
import Derived.Test.YtamffdgopknkfaaDoorC39PartX
import Derived.Test.YtamffdgopknkfaaDoorIdlPartH
namespace Go.Idl
set_option linter.all false
open Go.Proofs Go.RowKit
set_option maxHeartbeats 8000000

theorem mX_len {x : Sk} (h : ∀ m ∈ x.M, -128 ≤ m ∧ m < 128) : (bX x).length ≤ 6 ∧ 1 ≤ (bX x).length ∧ 1 ≤ (lX x).length ∧ (lX x).length ≤ 24 ∧ ((lX x).length = (bX x).length * ((pX x).t.toNat / 2)) := by
  obtain ⟨hf, he⟩ := bX_full h
  have hb := pX_bd x
  have hl := hf.len
  have hne := he.ne hf.pl (by omega)
  have hpos : 0 < (bX x).length := List.length_pos_iff.2 hne
  have hml := mB_le hf 0
  have : (lX x).length = (bX x).length * ((pX x).t.toNat / 2) := hml
  have h1 : 1 ≤ (pX x).t.toNat / 2 := by omega
  have h4 : (pX x).t.toNat / 2 ≤ 4 := by omega
  refine ⟨by omega, by omega, ?_, ?_, this⟩
  · rw [this]; exact Nat.mul_pos hpos h1
  · rw [this]; exact Nat.le_trans (Nat.mul_le_mul (by omega : (bX x).length ≤ 6) h4) (by omega)
theorem argX {x : Sk} {l : List Em} (hl : l.length ≤ 2 ^ 30) : ArgE (pX x) l := ⟨fun _ => by have := pX_bd x; omega, by have := scX_len x.L; show (scX x.L).length ≤ _; omega, hl⟩
theorem wfi8 {x : Int} (h : (Lit.int .i8 x).wf = true) : -128 ≤ x ∧ x < 128 := by
  have h2 : IntKind.i8.min ≤ x ∧ x ≤ IntKind.i8.max := by simpa [Lit.wf] using h
  have e1 : IntKind.i8.min = -128 := by decide
  have e2 : IntKind.i8.max = 127 := by decide
  omega
theorem fit_sk {cs : List IV} (h : fitL [.int .u8, .int .u8, .int .u8, .fz 1 [.int .u8], .fz 1 [.int .i8]] cs) : ∃ q : {x : Sk // FitK x}, cs = [.int .u8 q.1.a, .int .u8 q.1.b, .int .u8 q.1.c, .fz 1 (bys .u8 q.1.L), .fz 1 (bys .i8 q.1.M)] := by
  obtain ⟨a, r1, rfl, w1, h1⟩ := fitL_int h
  obtain ⟨b, r2, rfl, w2, h2⟩ := fitL_int h1
  obtain ⟨c, r3, rfl, w3, h3⟩ := fitL_int h2
  obtain ⟨d, r4, rfl, f1, h4⟩ := fitL_cons h3
  obtain ⟨e, r5, rfl, f2, h5⟩ := fitL_cons h4
  obtain rfl := fitL_nil h5
  obtain ⟨L, rfl, l1, l2⟩ := fit_bys f1
  obtain ⟨M, rfl, m1, m2⟩ := fit_bys f2
  unfold maxLen at l2 m2
  exact ⟨⟨⟨a, b, c, L, M⟩, wf8 w1, wf8 w2, wf8 w3, fun n hn => wf8 (l1 n hn), fun n hn => wfi8 (m1 n hn), by simp only; omega, by simp only; omega⟩, rfl⟩
end Go.Idl
