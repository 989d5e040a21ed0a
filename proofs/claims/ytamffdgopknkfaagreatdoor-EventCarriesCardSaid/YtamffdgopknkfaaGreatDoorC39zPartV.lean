/-
  Package event: rounds, state, Draw from slices of one's own.
-/
import Derived.Test.YtamffdgopknkfaaGreatDoorC39zPartU
namespace Go.Idl
set_option linter.all false
open Go.Proofs
set_option maxHeartbeats 16000000
set_option maxRecDepth 40000

section
variable {SR LR : List (List IV)} {ls ll : Nat} {cs cl : Option Nat}
def plOw (p : Pl) (SR : List (List IV)) (ls : Nat) (cs : Option Nat) : List IV := [.int .i64 p.t, .int .i64 p.r, .int .i64 p.b, .sl 0 SR.length 0 ls cs]
end
end Go.Idl
