/-
  Package event: the rounds that are reached, from slices of one's own.
-/
import Derived.Test.YtamffdgopknkfaaGreatDoorC39zPartT
namespace Go.Idl
set_option linter.all false
open Go.Proofs
set_option maxHeartbeats 16000000
set_option maxRecDepth 40000

end Go.Idl
