/-
  Chapter 38: the reference's path (plain).
-/
import Derived.Test.YtnnpdhccblelgaaDoorC38PartW
import Derived.Test.YtnnpdhccblelgaaDoorC38PartY
namespace Go.Idl
set_option linter.all false
open Go.Proofs
set_option maxHeartbeats 16000000
set_option maxRecDepth 100000

def mkR (q i : Nat) (a b : Int) : Rs := ⟨q, i, if b < a then 0 else 1, if b < a then 1 else 0, ⟨0, 1⟩⟩
def rmS (S : List Int) (q i : Nat) (z : List Rs × List Mt) : List Rs × List Mt :=
  if teamR S z.1 q i 0 = 0 ∨ teamR S z.1 q i 1 = 0 then z
  else (z.1 ++ [mkR q i (teamR S z.1 q i 0) (teamR S z.1 q i 1)], z.2 ++ [⟨q, i, teamR S z.1 q i 0, teamR S z.1 q i 1⟩])
def rmI (S : List Int) (q : Nat) : Nat → List Rs × List Mt → List Rs × List Mt
  | 0, z => z
  | i + 1, z => rmS S q i (rmI S q i z)
def rmQ (r : Nat) (S : List Int) : Nat → List Rs × List Mt → List Rs × List Mt
  | 0, z => z
  | q + 1, z => rmI S q (matN r q) (rmQ r S q z)
def allR (n : Nat) : List Mt := (rmQ (rnd n) (seedsL n) (rnd n) ([], [])).2
/-- What holds of the results that are put down. -/
def RmOK (k : Nat) (z : List Rs × List Mt) : Prop := z.1.length ≤ k ∧ z.2.length ≤ k ∧ ∀ x ∈ z.1, OKR x
theorem rm_S {S : List Int} {q i k : Nat} {z : List Rs × List Mt} (h : RmOK k z) : RmOK (k + 1) (rmS S q i z) := by
  obtain ⟨h1, h2, h3⟩ := h
  unfold rmS
  split
  · exact ⟨by omega, by omega, h3⟩
  · refine ⟨by simp; omega, by simp; omega, fun x hx => ?_⟩
    rcases List.mem_append.1 hx with hx | hx
    · exact h3 x hx
    · rw [List.mem_singleton.1 hx]
      unfold mkR OKR FitF
      refine ⟨show rightB ⟨0, 1⟩ = true by decide, by simp, ?_, ?_⟩ <;> simp only <;> split <;> omega
theorem rm_I {S : List Int} {q k : Nat} {z : List Rs × List Mt} (h : RmOK k z) : ∀ i, RmOK (k + i) (rmI S q i z)
  | 0 => h
  | i + 1 => rm_S (rm_I h i)
theorem RmOK.mono {k m : Nat} {z : List Rs × List Mt} (h : RmOK k z) (hk : k ≤ m) : RmOK m z := ⟨by have := h.1; omega, by have := h.2.1; omega, h.2.2⟩
theorem rm_Q {r : Nat} (hr : r ≤ 6) {S : List Int} : ∀ q, RmOK (32 * q) (rmQ r S q ([], []))
  | 0 => ⟨by simp [rmQ], by simp [rmQ], by simp [rmQ]⟩
  | q + 1 => (rm_I (rm_Q hr q) (matN r q)).mono (by have := (matN_le hr (q : Int)).1; omega)
theorem all64 : ∀ n, n < 65 → 2 ≤ n → allR n = allM n := by decide +kernel
end Go.Idl
