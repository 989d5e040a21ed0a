/-
  No cell of these rows narrows 'for every input' (looked for: loops, veiled, ifaces, maps, wideKeys, modest, calm, conditions, laid).
  DERIVED. THE GIVEN ROWS OF THIS SEAT. 8 by the template 'for every input the law returns true; each argument reads behind the call as it read before'; 0 by the template 'total and deterministic' (their statements: YtdnkleclccjffaaTotals.lean).
  GIVEN WITH THE SEED: the statements are not yours to turn. If you find one false, say at which input.
  Laid BY PROGRAM, IN A SANDBOX (cutbox-rows.mjs): the forced cells as the released guide's own fill.sh prints them over the translation 1a6f6506f69f34f3… (all of the seat's roots in one cut). By AI agents, Wed Nov 11 2026. No macro, syntax, notation, axiom, sorry.
-/
import Derived.Test.YtdnkleclccjffaaChecked
import GoSem.Claim
import GoSem.ClaimJoined
import GoSem.ClaimMapViews
import Derived.JoinedTies
import Derived.KernelRfl
namespace Go.Proofs.Ytdnkleclccjffaa
/- THE CELL 'sum', in the pinned program and in every row, IS THE sha256 OF THE DUMP (.gsa) THAT YtdnkleclccjffaaProg.lean LOADS. Nothing in Lean hashes anything: it is a label: what it is worth is what the hold of that sum in a sandbox is worth. -/
noncomputable def Try.pinned : Pinned := { name := "ytdnkleclccjffaa", sum := "1a6f6506f69f34f32b99943d2f71dda6055ab39c30666d6d92e4e67bdf7eac4a", checked := Try.checked }
namespace Rows
def none {H : Type} : Left H := { results := [], args := [] }

/-- 'finesselaw28.CheckTells': WHATEVER THE INPUT: true; the input reads as it did. -/
def checkTellsSpec : ChangeSpec := { name := "checkTells", fn := fun _ => fun
  | [d1, d2, d3, d4] => { results := [.lit (.bool true)], args := [d1, d2, d3, d4] }
  | _ => none }
def checkTellsRow : OpenClaim := { program := "ytdnkleclccjffaa", sum := "1a6f6506f69f34f32b99943d2f71dda6055ab39c30666d6d92e4e67bdf7eac4a", func := "finesse/finesselaw28.CheckTells", spec := "checkTells", unfollowed := true, recurses := true, plainKeys := false, apart := false }
def CheckTellsSaid : Prop := checkTellsRow.holds Try.pinned (OpenSpec.ofChange checkTellsSpec)

/-- ITS FALSE NEIGHBOUR: 'it returns false'. Refute it at one input. -/
def checkTellsWrong : ChangeSpec := { name := "checkTells", fn := fun _ => fun
  | [d1, d2, d3, d4] => { results := [.lit (.bool false)], args := [d1, d2, d3, d4] }
  | _ => none }
def CheckTellsWrongFalsely : Prop := checkTellsRow.holds Try.pinned (OpenSpec.ofChange checkTellsWrong)

/-- 'finesselaw28.CheckSmall': WHATEVER THE INPUT: true; the input reads as it did. -/
def checkSmallSpec : ChangeSpec := { name := "checkSmall", fn := fun _ => fun
  | [] => { results := [.lit (.bool true)], args := [] }
  | _ => none }
def checkSmallRow : OpenClaim := { program := "ytdnkleclccjffaa", sum := "1a6f6506f69f34f32b99943d2f71dda6055ab39c30666d6d92e4e67bdf7eac4a", func := "finesse/finesselaw28.CheckSmall", spec := "checkSmall", unfollowed := true, recurses := true, plainKeys := false, apart := false }
def CheckSmallSaid : Prop := checkSmallRow.holds Try.pinned (OpenSpec.ofChange checkSmallSpec)

/-- ITS FALSE NEIGHBOUR: 'it returns false'. Refute it at one input. -/
def checkSmallWrong : ChangeSpec := { name := "checkSmall", fn := fun _ => fun
  | [] => { results := [.lit (.bool false)], args := [] }
  | _ => none }
def CheckSmallWrongFalsely : Prop := checkSmallRow.holds Try.pinned (OpenSpec.ofChange checkSmallWrong)

/-- 'finesselaw28.CheckBoards': WHATEVER THE INPUT: true; the input reads as it did. -/
def checkBoardsSpec : ChangeSpec := { name := "checkBoards", fn := fun _ => fun
  | [d1, d2, d3, d4, d5] => { results := [.lit (.bool true)], args := [d1, d2, d3, d4, d5] }
  | _ => none }
def checkBoardsRow : OpenClaim := { program := "ytdnkleclccjffaa", sum := "1a6f6506f69f34f32b99943d2f71dda6055ab39c30666d6d92e4e67bdf7eac4a", func := "finesse/finesselaw28.CheckBoards", spec := "checkBoards", unfollowed := true, recurses := true, plainKeys := false, apart := false }
def CheckBoardsSaid : Prop := checkBoardsRow.holds Try.pinned (OpenSpec.ofChange checkBoardsSpec)

/-- ITS FALSE NEIGHBOUR: 'it returns false'. Refute it at one input. -/
def checkBoardsWrong : ChangeSpec := { name := "checkBoards", fn := fun _ => fun
  | [d1, d2, d3, d4, d5] => { results := [.lit (.bool false)], args := [d1, d2, d3, d4, d5] }
  | _ => none }
def CheckBoardsWrongFalsely : Prop := checkBoardsRow.holds Try.pinned (OpenSpec.ofChange checkBoardsWrong)

/-- 'finesselaw28.CheckWrong': WHATEVER THE INPUT: true; the input reads as it did. -/
def checkWrongSpec : ChangeSpec := { name := "checkWrong", fn := fun _ => fun
  | [d1, d2, d3, d4, d5] => { results := [.lit (.bool true)], args := [d1, d2, d3, d4, d5] }
  | _ => none }
def checkWrongRow : OpenClaim := { program := "ytdnkleclccjffaa", sum := "1a6f6506f69f34f32b99943d2f71dda6055ab39c30666d6d92e4e67bdf7eac4a", func := "finesse/finesselaw28.CheckWrong", spec := "checkWrong", unfollowed := true, recurses := true, plainKeys := false, apart := false }
def CheckWrongSaid : Prop := checkWrongRow.holds Try.pinned (OpenSpec.ofChange checkWrongSpec)

/-- ITS FALSE NEIGHBOUR: 'it returns false'. Refute it at one input. -/
def checkWrongWrong : ChangeSpec := { name := "checkWrong", fn := fun _ => fun
  | [d1, d2, d3, d4, d5] => { results := [.lit (.bool false)], args := [d1, d2, d3, d4, d5] }
  | _ => none }
def CheckWrongWrongFalsely : Prop := checkWrongRow.holds Try.pinned (OpenSpec.ofChange checkWrongWrong)

/-- 'finesselaw28.CheckFinds': WHATEVER THE INPUT: true; the input reads as it did. -/
def checkFindsSpec : ChangeSpec := { name := "checkFinds", fn := fun _ => fun
  | [d1, d2, d3, d4, d5, d6] => { results := [.lit (.bool true)], args := [d1, d2, d3, d4, d5, d6] }
  | _ => none }
def checkFindsRow : OpenClaim := { program := "ytdnkleclccjffaa", sum := "1a6f6506f69f34f32b99943d2f71dda6055ab39c30666d6d92e4e67bdf7eac4a", func := "finesse/finesselaw28.CheckFinds", spec := "checkFinds", unfollowed := true, recurses := true, plainKeys := false, apart := false }
def CheckFindsSaid : Prop := checkFindsRow.holds Try.pinned (OpenSpec.ofChange checkFindsSpec)

/-- ITS FALSE NEIGHBOUR: 'it returns false'. Refute it at one input. -/
def checkFindsWrong : ChangeSpec := { name := "checkFinds", fn := fun _ => fun
  | [d1, d2, d3, d4, d5, d6] => { results := [.lit (.bool false)], args := [d1, d2, d3, d4, d5, d6] }
  | _ => none }
def CheckFindsWrongFalsely : Prop := checkFindsRow.holds Try.pinned (OpenSpec.ofChange checkFindsWrong)

/-- 'finesselaw28.CheckLess': WHATEVER THE INPUT: true; the input reads as it did. -/
def checkLessSpec : ChangeSpec := { name := "checkLess", fn := fun _ => fun
  | [d1, d2, d3, d4, d5] => { results := [.lit (.bool true)], args := [d1, d2, d3, d4, d5] }
  | _ => none }
def checkLessRow : OpenClaim := { program := "ytdnkleclccjffaa", sum := "1a6f6506f69f34f32b99943d2f71dda6055ab39c30666d6d92e4e67bdf7eac4a", func := "finesse/finesselaw28.CheckLess", spec := "checkLess", unfollowed := true, recurses := true, plainKeys := false, apart := false }
def CheckLessSaid : Prop := checkLessRow.holds Try.pinned (OpenSpec.ofChange checkLessSpec)

/-- ITS FALSE NEIGHBOUR: 'it returns false'. Refute it at one input. -/
def checkLessWrong : ChangeSpec := { name := "checkLess", fn := fun _ => fun
  | [d1, d2, d3, d4, d5] => { results := [.lit (.bool false)], args := [d1, d2, d3, d4, d5] }
  | _ => none }
def CheckLessWrongFalsely : Prop := checkLessRow.holds Try.pinned (OpenSpec.ofChange checkLessWrong)

/-- 'finesselaw28.CheckCounts': WHATEVER THE INPUT: true; the input reads as it did. -/
def checkCountsSpec : ChangeSpec := { name := "checkCounts", fn := fun _ => fun
  | [d1, d2, d3, d4] => { results := [.lit (.bool true)], args := [d1, d2, d3, d4] }
  | _ => none }
def checkCountsRow : OpenClaim := { program := "ytdnkleclccjffaa", sum := "1a6f6506f69f34f32b99943d2f71dda6055ab39c30666d6d92e4e67bdf7eac4a", func := "finesse/finesselaw28.CheckCounts", spec := "checkCounts", unfollowed := true, recurses := true, plainKeys := false, apart := false }
def CheckCountsSaid : Prop := checkCountsRow.holds Try.pinned (OpenSpec.ofChange checkCountsSpec)

/-- ITS FALSE NEIGHBOUR: 'it returns false'. Refute it at one input. -/
def checkCountsWrong : ChangeSpec := { name := "checkCounts", fn := fun _ => fun
  | [d1, d2, d3, d4] => { results := [.lit (.bool false)], args := [d1, d2, d3, d4] }
  | _ => none }
def CheckCountsWrongFalsely : Prop := checkCountsRow.holds Try.pinned (OpenSpec.ofChange checkCountsWrong)

/-- 'finesselaw28.CheckMade': WHATEVER THE INPUT: true; the input reads as it did. -/
def checkMadeSpec : ChangeSpec := { name := "checkMade", fn := fun _ => fun
  | [d1, d2, d3, d4, d5] => { results := [.lit (.bool true)], args := [d1, d2, d3, d4, d5] }
  | _ => none }
def checkMadeRow : OpenClaim := { program := "ytdnkleclccjffaa", sum := "1a6f6506f69f34f32b99943d2f71dda6055ab39c30666d6d92e4e67bdf7eac4a", func := "finesse/finesselaw28.CheckMade", spec := "checkMade", unfollowed := true, recurses := true, plainKeys := false, apart := false }
def CheckMadeSaid : Prop := checkMadeRow.holds Try.pinned (OpenSpec.ofChange checkMadeSpec)

/-- ITS FALSE NEIGHBOUR: 'it returns false'. Refute it at one input. -/
def checkMadeWrong : ChangeSpec := { name := "checkMade", fn := fun _ => fun
  | [d1, d2, d3, d4, d5] => { results := [.lit (.bool false)], args := [d1, d2, d3, d4, d5] }
  | _ => none }
def CheckMadeWrongFalsely : Prop := checkMadeRow.holds Try.pinned (OpenSpec.ofChange checkMadeWrong)

/- THE SECOND FORM. 'bulk': how many values and letters a reading holds, each counted each time it is reached (what is shared counts as often as it is met; a slice's spare places count too). A statement '..UptoSaid' is the law's where the arguments, and the package variables that the reading takes, are together of bulk at most 1048576: NARROWER than '..Said'. Prove '..Said' where nothing that the law and all that it calls make is longer than what came in: it says more and counts as full. Else prove '..UptoSaid'. A law counts once. -/
mutual
def uptoBulk {H : Type} : DataW H → Nat
  | .lit (.string bytes) => bytes.length + 1
  | .lit _ => 1
  | .nil => 1
  | .ptr d => uptoBulk d + 1
  | .slice elems spare => uptoBulkAll elems + uptoBulkAll spare + 1
  | .agg parts => uptoBulkAll parts + 1
  | .iface _ d => uptoBulk d + 1
  | .map entries => uptoBulkEntries entries + 1
  | .held _ => 1
def uptoBulkAll {H : Type} : List (DataW H) → Nat
  | [] => 0
  | d :: r => uptoBulk d + uptoBulkAll r
def uptoBulkEntries {H : Type} : List (Lit × DataW H) → Nat
  | [] => 0
  | x :: r => uptoBulkEntry x + uptoBulkEntries r
def uptoBulkEntry {H : Type} : Lit × DataW H → Nat
  | (.string bytes, d) => bytes.length + uptoBulk d + 1
  | (_, d) => uptoBulk d + 1
 end
def uptoSmall : (H : Type) → List (DataW H) → Bool := fun _ ds => decide (uptoBulkAll ds ≤ 1048576)
def OpenSpec.upto (s : _root_.Go.ChangeSpec) : _root_.Go.OpenSpec := { _root_.Go.OpenSpec.ofChange s with cond := some uptoSmall }

/-- 'finesselaw28.CheckTells', WHERE WHAT IT READS IS OF BULK AT MOST 1048576: true; the input reads as it did. -/
def checkTellsUptoRow : OpenClaim := { program := "ytdnkleclccjffaa", sum := "1a6f6506f69f34f32b99943d2f71dda6055ab39c30666d6d92e4e67bdf7eac4a", func := "finesse/finesselaw28.CheckTells", spec := "checkTells", unfollowed := true, recurses := true, plainKeys := false, apart := false, narrowed := true }
def CheckTellsUptoSaid : Prop := checkTellsUptoRow.holds Try.pinned (OpenSpec.upto checkTellsSpec)

/-- 'finesselaw28.CheckSmall', WHERE WHAT IT READS IS OF BULK AT MOST 1048576: true; the input reads as it did. -/
def checkSmallUptoRow : OpenClaim := { program := "ytdnkleclccjffaa", sum := "1a6f6506f69f34f32b99943d2f71dda6055ab39c30666d6d92e4e67bdf7eac4a", func := "finesse/finesselaw28.CheckSmall", spec := "checkSmall", unfollowed := true, recurses := true, plainKeys := false, apart := false, narrowed := true }
def CheckSmallUptoSaid : Prop := checkSmallUptoRow.holds Try.pinned (OpenSpec.upto checkSmallSpec)

/-- 'finesselaw28.CheckBoards', WHERE WHAT IT READS IS OF BULK AT MOST 1048576: true; the input reads as it did. -/
def checkBoardsUptoRow : OpenClaim := { program := "ytdnkleclccjffaa", sum := "1a6f6506f69f34f32b99943d2f71dda6055ab39c30666d6d92e4e67bdf7eac4a", func := "finesse/finesselaw28.CheckBoards", spec := "checkBoards", unfollowed := true, recurses := true, plainKeys := false, apart := false, narrowed := true }
def CheckBoardsUptoSaid : Prop := checkBoardsUptoRow.holds Try.pinned (OpenSpec.upto checkBoardsSpec)

/-- 'finesselaw28.CheckWrong', WHERE WHAT IT READS IS OF BULK AT MOST 1048576: true; the input reads as it did. -/
def checkWrongUptoRow : OpenClaim := { program := "ytdnkleclccjffaa", sum := "1a6f6506f69f34f32b99943d2f71dda6055ab39c30666d6d92e4e67bdf7eac4a", func := "finesse/finesselaw28.CheckWrong", spec := "checkWrong", unfollowed := true, recurses := true, plainKeys := false, apart := false, narrowed := true }
def CheckWrongUptoSaid : Prop := checkWrongUptoRow.holds Try.pinned (OpenSpec.upto checkWrongSpec)

/-- 'finesselaw28.CheckFinds', WHERE WHAT IT READS IS OF BULK AT MOST 1048576: true; the input reads as it did. -/
def checkFindsUptoRow : OpenClaim := { program := "ytdnkleclccjffaa", sum := "1a6f6506f69f34f32b99943d2f71dda6055ab39c30666d6d92e4e67bdf7eac4a", func := "finesse/finesselaw28.CheckFinds", spec := "checkFinds", unfollowed := true, recurses := true, plainKeys := false, apart := false, narrowed := true }
def CheckFindsUptoSaid : Prop := checkFindsUptoRow.holds Try.pinned (OpenSpec.upto checkFindsSpec)

/-- 'finesselaw28.CheckLess', WHERE WHAT IT READS IS OF BULK AT MOST 1048576: true; the input reads as it did. -/
def checkLessUptoRow : OpenClaim := { program := "ytdnkleclccjffaa", sum := "1a6f6506f69f34f32b99943d2f71dda6055ab39c30666d6d92e4e67bdf7eac4a", func := "finesse/finesselaw28.CheckLess", spec := "checkLess", unfollowed := true, recurses := true, plainKeys := false, apart := false, narrowed := true }
def CheckLessUptoSaid : Prop := checkLessUptoRow.holds Try.pinned (OpenSpec.upto checkLessSpec)

/-- 'finesselaw28.CheckCounts', WHERE WHAT IT READS IS OF BULK AT MOST 1048576: true; the input reads as it did. -/
def checkCountsUptoRow : OpenClaim := { program := "ytdnkleclccjffaa", sum := "1a6f6506f69f34f32b99943d2f71dda6055ab39c30666d6d92e4e67bdf7eac4a", func := "finesse/finesselaw28.CheckCounts", spec := "checkCounts", unfollowed := true, recurses := true, plainKeys := false, apart := false, narrowed := true }
def CheckCountsUptoSaid : Prop := checkCountsUptoRow.holds Try.pinned (OpenSpec.upto checkCountsSpec)

/-- 'finesselaw28.CheckMade', WHERE WHAT IT READS IS OF BULK AT MOST 1048576: true; the input reads as it did. -/
def checkMadeUptoRow : OpenClaim := { program := "ytdnkleclccjffaa", sum := "1a6f6506f69f34f32b99943d2f71dda6055ab39c30666d6d92e4e67bdf7eac4a", func := "finesse/finesselaw28.CheckMade", spec := "checkMade", unfollowed := true, recurses := true, plainKeys := false, apart := false, narrowed := true }
def CheckMadeUptoSaid : Prop := checkMadeUptoRow.holds Try.pinned (OpenSpec.upto checkMadeSpec)

end Rows
end Go.Proofs.Ytdnkleclccjffaa
