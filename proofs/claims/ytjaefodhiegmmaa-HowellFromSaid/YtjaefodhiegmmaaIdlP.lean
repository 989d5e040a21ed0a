/-
  A cut between two statements of a walk.
-/
import Derived.Test.YtjaefodhiegmmaaIdlZ
namespace Go.Idl
set_option linter.all false

theorem yC_cut {P : Program} {c d : Code} {Q : XPost} {e : Env} {σ : Heap} (h : ∀ k : Env → Heap → Prop, (∀ e σ, yC P d Q e σ → k e σ) → yC P c (thenQ k Q) e σ) : yC P (.seq c d) Q e σ := h _ fun _ _ h => h
theorem drawM_ok {P : Program} {ops : List Oper} {pairs : List (Nat × Nat)} (h : drawOK P ops pairs = true) : drawOK P ops pairs = true := h
end Go.Idl
