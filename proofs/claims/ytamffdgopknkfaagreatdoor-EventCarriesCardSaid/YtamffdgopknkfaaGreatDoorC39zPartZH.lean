/-
  Package event: the reference's Draw, Open, Table, Over, Qualify (walks).
  Package event: the reference's Open, Over, Qualify (walks).
-/
import Derived.Test.YtamffdgopknkfaaGreatDoorC39zPartZG
import Derived.Test.YtamffdgopknkfaaGreatDoorC39zPartT
namespace Go.Idl
set_option linter.all false
open Go.Proofs
set_option maxHeartbeats 16000000
set_option maxRecDepth 40000

theorem StM.of_chk {p : Pl} {l : List Em} (h : (chkR p l).2 = 0) : StM p l := by
  have hp := chkR_pl h
  have e : chkR p l = chkP p l (rchd p l) (ordM l) [] := by unfold chkR; rw [if_pos hp]
  rw [e] at h
  exact chk_state (ordM_ok l) h
end Go.Idl
namespace Go.Idl
set_option linter.all false
open Go.Proofs
set_option maxHeartbeats 16000000
set_option maxRecDepth 40000

end Go.Idl
