/-
  Chapter 36: the laws as the frames want them.
-/
import Derived.Test.YtpfpgkopbokfgaaDoorC36PartI
import Derived.OpenShut
namespace Go.Idl
set_option linter.all false
open Go.Proofs

theorem wf_bys {l : List Int} (h : ∀ z ∈ l, (Lit.int .u8 z).wf = true) : ∀ b ∈ l, 0 ≤ b ∧ b ≤ 255 := fun b hb => bounds_u8 (h b hb)
theorem wf_u64 {z : Int} (h : (Lit.int .u64 z).wf = true) : 0 ≤ z ∧ z < 2 ^ 64 := by have := bounds_u64 h; omega
theorem len62 {n : Nat} (h : n ≤ maxLen) : n < 2 ^ 63 := Nat.lt_of_le_of_lt h (by decide)
theorem PairingBack_law' (order : List Int) (bits : Int) (h1 : ∀ z ∈ order, (Lit.int .u8 z).wf = true) (h2 : order.length ≤ maxLen) (h3 : (Lit.int .u64 bits).wf = true) : F36 8 [.fz 1 (bys order), .int .u64 bits] (fun v => v = .bool true) :=
  PairingBack_law order bits (wf_bys h1) (len62 h2) (wf_u64 h3)
theorem PairingBest_law' (order : List Int) (bits : Int) (h1 : ∀ z ∈ order, (Lit.int .u8 z).wf = true) (h2 : order.length ≤ maxLen) (h3 : (Lit.int .u64 bits).wf = true) : F36 9 [.fz 1 (bys order), .int .u64 bits] (fun v => v = .bool true) :=
  PairingBest_law order bits (wf_bys h1) (len62 h2) (wf_u64 h3)
theorem PairingFewer_law' (order : List Int) (bits a b : Int) (h1 : ∀ z ∈ order, (Lit.int .u8 z).wf = true) (h2 : order.length ≤ maxLen) (h3 : (Lit.int .u64 bits).wf = true) (h4 : (Lit.int .u8 a).wf = true) (h5 : (Lit.int .u8 b).wf = true) : F36 10 [.fz 1 (bys order), .int .u64 bits, .int .u8 a, .int .u8 b] (fun v => v = .bool true) :=
  PairingFewer_law order bits a b (wf_bys h1) (len62 h2) (wf_u64 h3) (bounds_u8 h4) (bounds_u8 h5)
end Go.Idl
