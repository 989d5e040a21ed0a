/-
  No cell of these rows narrows 'for every input' (looked for: loops, veiled, ifaces, maps, wideKeys, modest, calm, conditions, laid).
  DERIVED. THE GIVEN ROWS OF THIS SEAT. 8 by the template 'for every input the law returns true; each argument reads behind the call as it read before'; 0 by the template 'total and deterministic' (their statements: YtjdcaidcheodpaaTotals.lean).
  GIVEN WITH THE SEED: the statements are not yours to turn. If you find one false, say at which input.
  Laid BY PROGRAM, IN A SANDBOX (cutbox-rows.mjs): the forced cells as the released guide's own fill.sh prints them over the translation 81f2bbb968b6d34d… (all of the seat's roots in one cut). By AI agents, Wed Nov 11 2026. No macro, syntax, notation, axiom, sorry.
-/
import Derived.Test.YtjdcaidcheodpaaChecked
import GoSem.Claim
import GoSem.ClaimJoined
import GoSem.ClaimMapViews
import Derived.JoinedTies
import Derived.KernelRfl
namespace Go.Proofs.Ytjdcaidcheodpaa
/- THE CELL 'sum', in the pinned program and in every row, IS THE sha256 OF THE DUMP (.gsa) THAT YtjdcaidcheodpaaProg.lean LOADS. Nothing in Lean hashes anything: it is a label: what it is worth is what the hold of that sum in a sandbox is worth. -/
noncomputable def Try.pinned : Pinned := { name := "ytjdcaidcheodpaa", sum := "81f2bbb968b6d34de65b44f39f04631e3b39e867a87f741d5f21c9b1cbe7f87b", checked := Try.checked }
namespace Rows
def none {H : Type} : Left H := { results := [], args := [] }

/-- 'finesselaw25.MitchellMakes': WHATEVER THE INPUT: true; the input reads as it did. -/
def mitchellMakesSpec : ChangeSpec := { name := "mitchellMakes", fn := fun _ => fun
  | [d1, d2, d3] => { results := [.lit (.bool true)], args := [d1, d2, d3] }
  | _ => none }
def mitchellMakesRow : OpenClaim := { program := "ytjdcaidcheodpaa", sum := "81f2bbb968b6d34de65b44f39f04631e3b39e867a87f741d5f21c9b1cbe7f87b", func := "finesse/finesselaw25.MitchellMakes", spec := "mitchellMakes", unfollowed := true, recurses := true, plainKeys := false, apart := false }
def MitchellMakesSaid : Prop := mitchellMakesRow.holds Try.pinned (OpenSpec.ofChange mitchellMakesSpec)

/-- ITS FALSE NEIGHBOUR: 'it returns false'. Refute it at one input. -/
def mitchellMakesWrong : ChangeSpec := { name := "mitchellMakes", fn := fun _ => fun
  | [d1, d2, d3] => { results := [.lit (.bool false)], args := [d1, d2, d3] }
  | _ => none }
def MitchellMakesWrongFalsely : Prop := mitchellMakesRow.holds Try.pinned (OpenSpec.ofChange mitchellMakesWrong)

/-- 'finesselaw25.MitchellFull': WHATEVER THE INPUT: true; the input reads as it did. -/
def mitchellFullSpec : ChangeSpec := { name := "mitchellFull", fn := fun _ => fun
  | [d1, d2] => { results := [.lit (.bool true)], args := [d1, d2] }
  | _ => none }
def mitchellFullRow : OpenClaim := { program := "ytjdcaidcheodpaa", sum := "81f2bbb968b6d34de65b44f39f04631e3b39e867a87f741d5f21c9b1cbe7f87b", func := "finesse/finesselaw25.MitchellFull", spec := "mitchellFull", unfollowed := true, recurses := true, plainKeys := false, apart := false }
def MitchellFullSaid : Prop := mitchellFullRow.holds Try.pinned (OpenSpec.ofChange mitchellFullSpec)

/-- ITS FALSE NEIGHBOUR: 'it returns false'. Refute it at one input. -/
def mitchellFullWrong : ChangeSpec := { name := "mitchellFull", fn := fun _ => fun
  | [d1, d2] => { results := [.lit (.bool false)], args := [d1, d2] }
  | _ => none }
def MitchellFullWrongFalsely : Prop := mitchellFullRow.holds Try.pinned (OpenSpec.ofChange mitchellFullWrong)

/-- 'finesselaw25.MitchellTells': WHATEVER THE INPUT: true; the input reads as it did. -/
def mitchellTellsSpec : ChangeSpec := { name := "mitchellTells", fn := fun _ => fun
  | [d1, d2, d3] => { results := [.lit (.bool true)], args := [d1, d2, d3] }
  | _ => none }
def mitchellTellsRow : OpenClaim := { program := "ytjdcaidcheodpaa", sum := "81f2bbb968b6d34de65b44f39f04631e3b39e867a87f741d5f21c9b1cbe7f87b", func := "finesse/finesselaw25.MitchellTells", spec := "mitchellTells", unfollowed := true, recurses := true, plainKeys := false, apart := false }
def MitchellTellsSaid : Prop := mitchellTellsRow.holds Try.pinned (OpenSpec.ofChange mitchellTellsSpec)

/-- ITS FALSE NEIGHBOUR: 'it returns false'. Refute it at one input. -/
def mitchellTellsWrong : ChangeSpec := { name := "mitchellTells", fn := fun _ => fun
  | [d1, d2, d3] => { results := [.lit (.bool false)], args := [d1, d2, d3] }
  | _ => none }
def MitchellTellsWrongFalsely : Prop := mitchellTellsRow.holds Try.pinned (OpenSpec.ofChange mitchellTellsWrong)

/-- 'finesselaw25.MitchellSmall': WHATEVER THE INPUT: true; the input reads as it did. -/
def mitchellSmallSpec : ChangeSpec := { name := "mitchellSmall", fn := fun _ => fun
  | [] => { results := [.lit (.bool true)], args := [] }
  | _ => none }
def mitchellSmallRow : OpenClaim := { program := "ytjdcaidcheodpaa", sum := "81f2bbb968b6d34de65b44f39f04631e3b39e867a87f741d5f21c9b1cbe7f87b", func := "finesse/finesselaw25.MitchellSmall", spec := "mitchellSmall", unfollowed := true, recurses := true, plainKeys := false, apart := false }
def MitchellSmallSaid : Prop := mitchellSmallRow.holds Try.pinned (OpenSpec.ofChange mitchellSmallSpec)

/-- ITS FALSE NEIGHBOUR: 'it returns false'. Refute it at one input. -/
def mitchellSmallWrong : ChangeSpec := { name := "mitchellSmall", fn := fun _ => fun
  | [] => { results := [.lit (.bool false)], args := [] }
  | _ => none }
def MitchellSmallWrongFalsely : Prop := mitchellSmallRow.holds Try.pinned (OpenSpec.ofChange mitchellSmallWrong)

/-- 'finesselaw25.MitchellFair': WHATEVER THE INPUT: true; the input reads as it did. -/
def mitchellFairSpec : ChangeSpec := { name := "mitchellFair", fn := fun _ => fun
  | [d1, d2, d3, d4] => { results := [.lit (.bool true)], args := [d1, d2, d3, d4] }
  | _ => none }
def mitchellFairRow : OpenClaim := { program := "ytjdcaidcheodpaa", sum := "81f2bbb968b6d34de65b44f39f04631e3b39e867a87f741d5f21c9b1cbe7f87b", func := "finesse/finesselaw25.MitchellFair", spec := "mitchellFair", unfollowed := true, recurses := true, plainKeys := false, apart := false }
def MitchellFairSaid : Prop := mitchellFairRow.holds Try.pinned (OpenSpec.ofChange mitchellFairSpec)

/-- ITS FALSE NEIGHBOUR: 'it returns false'. Refute it at one input. -/
def mitchellFairWrong : ChangeSpec := { name := "mitchellFair", fn := fun _ => fun
  | [d1, d2, d3, d4] => { results := [.lit (.bool false)], args := [d1, d2, d3, d4] }
  | _ => none }
def MitchellFairWrongFalsely : Prop := mitchellFairRow.holds Try.pinned (OpenSpec.ofChange mitchellFairWrong)

/-- 'finesselaw25.MitchellBegins': WHATEVER THE INPUT: true; the input reads as it did. -/
def mitchellBeginsSpec : ChangeSpec := { name := "mitchellBegins", fn := fun _ => fun
  | [d1, d2, d3, d4] => { results := [.lit (.bool true)], args := [d1, d2, d3, d4] }
  | _ => none }
def mitchellBeginsRow : OpenClaim := { program := "ytjdcaidcheodpaa", sum := "81f2bbb968b6d34de65b44f39f04631e3b39e867a87f741d5f21c9b1cbe7f87b", func := "finesse/finesselaw25.MitchellBegins", spec := "mitchellBegins", unfollowed := true, recurses := true, plainKeys := false, apart := false }
def MitchellBeginsSaid : Prop := mitchellBeginsRow.holds Try.pinned (OpenSpec.ofChange mitchellBeginsSpec)

/-- ITS FALSE NEIGHBOUR: 'it returns false'. Refute it at one input. -/
def mitchellBeginsWrong : ChangeSpec := { name := "mitchellBegins", fn := fun _ => fun
  | [d1, d2, d3, d4] => { results := [.lit (.bool false)], args := [d1, d2, d3, d4] }
  | _ => none }
def MitchellBeginsWrongFalsely : Prop := mitchellBeginsRow.holds Try.pinned (OpenSpec.ofChange mitchellBeginsWrong)

/-- 'finesselaw25.MitchellWrong': WHATEVER THE INPUT: true; the input reads as it did. -/
def mitchellWrongSpec : ChangeSpec := { name := "mitchellWrong", fn := fun _ => fun
  | [d1, d2, d3, d4] => { results := [.lit (.bool true)], args := [d1, d2, d3, d4] }
  | _ => none }
def mitchellWrongRow : OpenClaim := { program := "ytjdcaidcheodpaa", sum := "81f2bbb968b6d34de65b44f39f04631e3b39e867a87f741d5f21c9b1cbe7f87b", func := "finesse/finesselaw25.MitchellWrong", spec := "mitchellWrong", unfollowed := true, recurses := true, plainKeys := false, apart := false }
def MitchellWrongSaid : Prop := mitchellWrongRow.holds Try.pinned (OpenSpec.ofChange mitchellWrongSpec)

/-- ITS FALSE NEIGHBOUR: 'it returns false'. Refute it at one input. -/
def mitchellWrongWrong : ChangeSpec := { name := "mitchellWrong", fn := fun _ => fun
  | [d1, d2, d3, d4] => { results := [.lit (.bool false)], args := [d1, d2, d3, d4] }
  | _ => none }
def MitchellWrongWrongFalsely : Prop := mitchellWrongRow.holds Try.pinned (OpenSpec.ofChange mitchellWrongWrong)

/-- 'finesselaw25.MitchellSits': WHATEVER THE INPUT: true; the input reads as it did. -/
def mitchellSitsSpec : ChangeSpec := { name := "mitchellSits", fn := fun _ => fun
  | [d1, d2, d3, d4, d5] => { results := [.lit (.bool true)], args := [d1, d2, d3, d4, d5] }
  | _ => none }
def mitchellSitsRow : OpenClaim := { program := "ytjdcaidcheodpaa", sum := "81f2bbb968b6d34de65b44f39f04631e3b39e867a87f741d5f21c9b1cbe7f87b", func := "finesse/finesselaw25.MitchellSits", spec := "mitchellSits", unfollowed := true, recurses := true, plainKeys := false, apart := false }
def MitchellSitsSaid : Prop := mitchellSitsRow.holds Try.pinned (OpenSpec.ofChange mitchellSitsSpec)

/-- ITS FALSE NEIGHBOUR: 'it returns false'. Refute it at one input. -/
def mitchellSitsWrong : ChangeSpec := { name := "mitchellSits", fn := fun _ => fun
  | [d1, d2, d3, d4, d5] => { results := [.lit (.bool false)], args := [d1, d2, d3, d4, d5] }
  | _ => none }
def MitchellSitsWrongFalsely : Prop := mitchellSitsRow.holds Try.pinned (OpenSpec.ofChange mitchellSitsWrong)

/- THE SECOND FORM. 'bulk': how many values and letters a reading holds, each counted each time it is reached (what is shared counts as often as it is met; a slice's spare places count too). A statement '..UptoSaid' is the law's where the arguments, and the package variables that the reading takes, are together of bulk at most 1048576: NARROWER than '..Said'. Prove '..Said' where nothing that the law and all that it calls make is longer than what came in: it says more and counts as full. Else prove '..UptoSaid'. A law counts once. -/
mutual
def uptoBulk {H : Type} : DataW H → Nat
  | .lit (.string bytes) => bytes.length + 1
  | .lit _ => 1
  | .nil => 1
  | .ptr d => uptoBulk d + 1
  | .slice elems spare => uptoBulkAll elems + uptoBulkAll spare + 1
  | .agg parts => uptoBulkAll parts + 1
  | .iface _ d => uptoBulk d + 1
  | .map entries => uptoBulkEntries entries + 1
  | .held _ => 1
def uptoBulkAll {H : Type} : List (DataW H) → Nat
  | [] => 0
  | d :: r => uptoBulk d + uptoBulkAll r
def uptoBulkEntries {H : Type} : List (Lit × DataW H) → Nat
  | [] => 0
  | x :: r => uptoBulkEntry x + uptoBulkEntries r
def uptoBulkEntry {H : Type} : Lit × DataW H → Nat
  | (.string bytes, d) => bytes.length + uptoBulk d + 1
  | (_, d) => uptoBulk d + 1
 end
def uptoSmall : (H : Type) → List (DataW H) → Bool := fun _ ds => decide (uptoBulkAll ds ≤ 1048576)
def OpenSpec.upto (s : _root_.Go.ChangeSpec) : _root_.Go.OpenSpec := { _root_.Go.OpenSpec.ofChange s with cond := some uptoSmall }

/-- 'finesselaw25.MitchellMakes', WHERE WHAT IT READS IS OF BULK AT MOST 1048576: true; the input reads as it did. -/
def mitchellMakesUptoRow : OpenClaim := { program := "ytjdcaidcheodpaa", sum := "81f2bbb968b6d34de65b44f39f04631e3b39e867a87f741d5f21c9b1cbe7f87b", func := "finesse/finesselaw25.MitchellMakes", spec := "mitchellMakes", unfollowed := true, recurses := true, plainKeys := false, apart := false, narrowed := true }
def MitchellMakesUptoSaid : Prop := mitchellMakesUptoRow.holds Try.pinned (OpenSpec.upto mitchellMakesSpec)

/-- 'finesselaw25.MitchellFull', WHERE WHAT IT READS IS OF BULK AT MOST 1048576: true; the input reads as it did. -/
def mitchellFullUptoRow : OpenClaim := { program := "ytjdcaidcheodpaa", sum := "81f2bbb968b6d34de65b44f39f04631e3b39e867a87f741d5f21c9b1cbe7f87b", func := "finesse/finesselaw25.MitchellFull", spec := "mitchellFull", unfollowed := true, recurses := true, plainKeys := false, apart := false, narrowed := true }
def MitchellFullUptoSaid : Prop := mitchellFullUptoRow.holds Try.pinned (OpenSpec.upto mitchellFullSpec)

/-- 'finesselaw25.MitchellTells', WHERE WHAT IT READS IS OF BULK AT MOST 1048576: true; the input reads as it did. -/
def mitchellTellsUptoRow : OpenClaim := { program := "ytjdcaidcheodpaa", sum := "81f2bbb968b6d34de65b44f39f04631e3b39e867a87f741d5f21c9b1cbe7f87b", func := "finesse/finesselaw25.MitchellTells", spec := "mitchellTells", unfollowed := true, recurses := true, plainKeys := false, apart := false, narrowed := true }
def MitchellTellsUptoSaid : Prop := mitchellTellsUptoRow.holds Try.pinned (OpenSpec.upto mitchellTellsSpec)

/-- 'finesselaw25.MitchellSmall', WHERE WHAT IT READS IS OF BULK AT MOST 1048576: true; the input reads as it did. -/
def mitchellSmallUptoRow : OpenClaim := { program := "ytjdcaidcheodpaa", sum := "81f2bbb968b6d34de65b44f39f04631e3b39e867a87f741d5f21c9b1cbe7f87b", func := "finesse/finesselaw25.MitchellSmall", spec := "mitchellSmall", unfollowed := true, recurses := true, plainKeys := false, apart := false, narrowed := true }
def MitchellSmallUptoSaid : Prop := mitchellSmallUptoRow.holds Try.pinned (OpenSpec.upto mitchellSmallSpec)

/-- 'finesselaw25.MitchellFair', WHERE WHAT IT READS IS OF BULK AT MOST 1048576: true; the input reads as it did. -/
def mitchellFairUptoRow : OpenClaim := { program := "ytjdcaidcheodpaa", sum := "81f2bbb968b6d34de65b44f39f04631e3b39e867a87f741d5f21c9b1cbe7f87b", func := "finesse/finesselaw25.MitchellFair", spec := "mitchellFair", unfollowed := true, recurses := true, plainKeys := false, apart := false, narrowed := true }
def MitchellFairUptoSaid : Prop := mitchellFairUptoRow.holds Try.pinned (OpenSpec.upto mitchellFairSpec)

/-- 'finesselaw25.MitchellBegins', WHERE WHAT IT READS IS OF BULK AT MOST 1048576: true; the input reads as it did. -/
def mitchellBeginsUptoRow : OpenClaim := { program := "ytjdcaidcheodpaa", sum := "81f2bbb968b6d34de65b44f39f04631e3b39e867a87f741d5f21c9b1cbe7f87b", func := "finesse/finesselaw25.MitchellBegins", spec := "mitchellBegins", unfollowed := true, recurses := true, plainKeys := false, apart := false, narrowed := true }
def MitchellBeginsUptoSaid : Prop := mitchellBeginsUptoRow.holds Try.pinned (OpenSpec.upto mitchellBeginsSpec)

/-- 'finesselaw25.MitchellWrong', WHERE WHAT IT READS IS OF BULK AT MOST 1048576: true; the input reads as it did. -/
def mitchellWrongUptoRow : OpenClaim := { program := "ytjdcaidcheodpaa", sum := "81f2bbb968b6d34de65b44f39f04631e3b39e867a87f741d5f21c9b1cbe7f87b", func := "finesse/finesselaw25.MitchellWrong", spec := "mitchellWrong", unfollowed := true, recurses := true, plainKeys := false, apart := false, narrowed := true }
def MitchellWrongUptoSaid : Prop := mitchellWrongUptoRow.holds Try.pinned (OpenSpec.upto mitchellWrongSpec)

/-- 'finesselaw25.MitchellSits', WHERE WHAT IT READS IS OF BULK AT MOST 1048576: true; the input reads as it did. -/
def mitchellSitsUptoRow : OpenClaim := { program := "ytjdcaidcheodpaa", sum := "81f2bbb968b6d34de65b44f39f04631e3b39e867a87f741d5f21c9b1cbe7f87b", func := "finesse/finesselaw25.MitchellSits", spec := "mitchellSits", unfollowed := true, recurses := true, plainKeys := false, apart := false, narrowed := true }
def MitchellSitsUptoSaid : Prop := mitchellSitsUptoRow.holds Try.pinned (OpenSpec.upto mitchellSitsSpec)

end Rows
end Go.Proofs.Ytjdcaidcheodpaa
