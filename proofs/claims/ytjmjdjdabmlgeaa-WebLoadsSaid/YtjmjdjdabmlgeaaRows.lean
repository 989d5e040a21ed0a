/-
  No cell of these rows narrows 'for every input' (looked for: loops, veiled, ifaces, maps, wideKeys, modest, calm, conditions, laid).
  DERIVED. THE GIVEN ROWS OF THIS SEAT. 8 by the template 'for every input the law returns true; each argument reads behind the call as it read before'; 0 by the template 'total and deterministic' (their statements: YtjmjdjdabmlgeaaTotals.lean).
  GIVEN WITH THE SEED: the statements are not yours to turn. If you find one false, say at which input.
  Laid BY PROGRAM, IN A SANDBOX (cutbox-rows.mjs): the forced cells as the released guide's own fill.sh prints them over the translation 553e29c2e051f172… (all of the seat's roots in one cut). By AI agents, Wed Nov 11 2026. No macro, syntax, notation, axiom, sorry.
-/
import Derived.Test.YtjmjdjdabmlgeaaChecked
import GoSem.Claim
import GoSem.ClaimJoined
import GoSem.ClaimMapViews
import Derived.JoinedTies
import Derived.KernelRfl
namespace Go.Proofs.Ytjmjdjdabmlgeaa
/- THE CELL 'sum', in the pinned program and in every row, IS THE sha256 OF THE DUMP (.gsa) THAT YtjmjdjdabmlgeaaProg.lean LOADS. Nothing in Lean hashes anything: it is a label: what it is worth is what the hold of that sum in a sandbox is worth. -/
noncomputable def Try.pinned : Pinned := { name := "ytjmjdjdabmlgeaa", sum := "553e29c2e051f17250a3602331b27a562641d05bf0050e636768c8a296a271b0", checked := Try.checked }
namespace Rows
def none {H : Type} : Left H := { results := [], args := [] }

/-- 'finesselaw27.WebMakes': WHATEVER THE INPUT: true; the input reads as it did. -/
def webMakesSpec : ChangeSpec := { name := "webMakes", fn := fun _ => fun
  | [d1, d2, d3] => { results := [.lit (.bool true)], args := [d1, d2, d3] }
  | _ => none }
def webMakesRow : OpenClaim := { program := "ytjmjdjdabmlgeaa", sum := "553e29c2e051f17250a3602331b27a562641d05bf0050e636768c8a296a271b0", func := "finesse/finesselaw27.WebMakes", spec := "webMakes", unfollowed := true, recurses := true, plainKeys := false, apart := false }
def WebMakesSaid : Prop := webMakesRow.holds Try.pinned (OpenSpec.ofChange webMakesSpec)

/-- ITS FALSE NEIGHBOUR: 'it returns false'. Refute it at one input. -/
def webMakesWrong : ChangeSpec := { name := "webMakes", fn := fun _ => fun
  | [d1, d2, d3] => { results := [.lit (.bool false)], args := [d1, d2, d3] }
  | _ => none }
def WebMakesWrongFalsely : Prop := webMakesRow.holds Try.pinned (OpenSpec.ofChange webMakesWrong)

/-- 'finesselaw27.WebTells': WHATEVER THE INPUT: true; the input reads as it did. -/
def webTellsSpec : ChangeSpec := { name := "webTells", fn := fun _ => fun
  | [d1, d2, d3] => { results := [.lit (.bool true)], args := [d1, d2, d3] }
  | _ => none }
def webTellsRow : OpenClaim := { program := "ytjmjdjdabmlgeaa", sum := "553e29c2e051f17250a3602331b27a562641d05bf0050e636768c8a296a271b0", func := "finesse/finesselaw27.WebTells", spec := "webTells", unfollowed := true, recurses := true, plainKeys := false, apart := false }
def WebTellsSaid : Prop := webTellsRow.holds Try.pinned (OpenSpec.ofChange webTellsSpec)

/-- ITS FALSE NEIGHBOUR: 'it returns false'. Refute it at one input. -/
def webTellsWrong : ChangeSpec := { name := "webTells", fn := fun _ => fun
  | [d1, d2, d3] => { results := [.lit (.bool false)], args := [d1, d2, d3] }
  | _ => none }
def WebTellsWrongFalsely : Prop := webTellsRow.holds Try.pinned (OpenSpec.ofChange webTellsWrong)

/-- 'finesselaw27.WebSmall': WHATEVER THE INPUT: true; the input reads as it did. -/
def webSmallSpec : ChangeSpec := { name := "webSmall", fn := fun _ => fun
  | [] => { results := [.lit (.bool true)], args := [] }
  | _ => none }
def webSmallRow : OpenClaim := { program := "ytjmjdjdabmlgeaa", sum := "553e29c2e051f17250a3602331b27a562641d05bf0050e636768c8a296a271b0", func := "finesse/finesselaw27.WebSmall", spec := "webSmall", unfollowed := true, recurses := true, plainKeys := false, apart := false }
def WebSmallSaid : Prop := webSmallRow.holds Try.pinned (OpenSpec.ofChange webSmallSpec)

/-- ITS FALSE NEIGHBOUR: 'it returns false'. Refute it at one input. -/
def webSmallWrong : ChangeSpec := { name := "webSmall", fn := fun _ => fun
  | [] => { results := [.lit (.bool false)], args := [] }
  | _ => none }
def WebSmallWrongFalsely : Prop := webSmallRow.holds Try.pinned (OpenSpec.ofChange webSmallWrong)

/-- 'finesselaw27.WebFair': WHATEVER THE INPUT: true; the input reads as it did. -/
def webFairSpec : ChangeSpec := { name := "webFair", fn := fun _ => fun
  | [d1, d2, d3] => { results := [.lit (.bool true)], args := [d1, d2, d3] }
  | _ => none }
def webFairRow : OpenClaim := { program := "ytjmjdjdabmlgeaa", sum := "553e29c2e051f17250a3602331b27a562641d05bf0050e636768c8a296a271b0", func := "finesse/finesselaw27.WebFair", spec := "webFair", unfollowed := true, recurses := true, plainKeys := false, apart := false }
def WebFairSaid : Prop := webFairRow.holds Try.pinned (OpenSpec.ofChange webFairSpec)

/-- ITS FALSE NEIGHBOUR: 'it returns false'. Refute it at one input. -/
def webFairWrong : ChangeSpec := { name := "webFair", fn := fun _ => fun
  | [d1, d2, d3] => { results := [.lit (.bool false)], args := [d1, d2, d3] }
  | _ => none }
def WebFairWrongFalsely : Prop := webFairRow.holds Try.pinned (OpenSpec.ofChange webFairWrong)

/-- 'finesselaw27.WebBegins': WHATEVER THE INPUT: true; the input reads as it did. -/
def webBeginsSpec : ChangeSpec := { name := "webBegins", fn := fun _ => fun
  | [d1, d2, d3, d4] => { results := [.lit (.bool true)], args := [d1, d2, d3, d4] }
  | _ => none }
def webBeginsRow : OpenClaim := { program := "ytjmjdjdabmlgeaa", sum := "553e29c2e051f17250a3602331b27a562641d05bf0050e636768c8a296a271b0", func := "finesse/finesselaw27.WebBegins", spec := "webBegins", unfollowed := true, recurses := true, plainKeys := false, apart := false }
def WebBeginsSaid : Prop := webBeginsRow.holds Try.pinned (OpenSpec.ofChange webBeginsSpec)

/-- ITS FALSE NEIGHBOUR: 'it returns false'. Refute it at one input. -/
def webBeginsWrong : ChangeSpec := { name := "webBegins", fn := fun _ => fun
  | [d1, d2, d3, d4] => { results := [.lit (.bool false)], args := [d1, d2, d3, d4] }
  | _ => none }
def WebBeginsWrongFalsely : Prop := webBeginsRow.holds Try.pinned (OpenSpec.ofChange webBeginsWrong)

/-- 'finesselaw27.WebMoves': WHATEVER THE INPUT: true; the input reads as it did. -/
def webMovesSpec : ChangeSpec := { name := "webMoves", fn := fun _ => fun
  | [d1, d2, d3] => { results := [.lit (.bool true)], args := [d1, d2, d3] }
  | _ => none }
def webMovesRow : OpenClaim := { program := "ytjmjdjdabmlgeaa", sum := "553e29c2e051f17250a3602331b27a562641d05bf0050e636768c8a296a271b0", func := "finesse/finesselaw27.WebMoves", spec := "webMoves", unfollowed := true, recurses := true, plainKeys := false, apart := false }
def WebMovesSaid : Prop := webMovesRow.holds Try.pinned (OpenSpec.ofChange webMovesSpec)

/-- ITS FALSE NEIGHBOUR: 'it returns false'. Refute it at one input. -/
def webMovesWrong : ChangeSpec := { name := "webMoves", fn := fun _ => fun
  | [d1, d2, d3] => { results := [.lit (.bool false)], args := [d1, d2, d3] }
  | _ => none }
def WebMovesWrongFalsely : Prop := webMovesRow.holds Try.pinned (OpenSpec.ofChange webMovesWrong)

/-- 'finesselaw27.WebWrong': WHATEVER THE INPUT: true; the input reads as it did. -/
def webWrongSpec : ChangeSpec := { name := "webWrong", fn := fun _ => fun
  | [d1, d2, d3] => { results := [.lit (.bool true)], args := [d1, d2, d3] }
  | _ => none }
def webWrongRow : OpenClaim := { program := "ytjmjdjdabmlgeaa", sum := "553e29c2e051f17250a3602331b27a562641d05bf0050e636768c8a296a271b0", func := "finesse/finesselaw27.WebWrong", spec := "webWrong", unfollowed := true, recurses := true, plainKeys := false, apart := false }
def WebWrongSaid : Prop := webWrongRow.holds Try.pinned (OpenSpec.ofChange webWrongSpec)

/-- ITS FALSE NEIGHBOUR: 'it returns false'. Refute it at one input. -/
def webWrongWrong : ChangeSpec := { name := "webWrong", fn := fun _ => fun
  | [d1, d2, d3] => { results := [.lit (.bool false)], args := [d1, d2, d3] }
  | _ => none }
def WebWrongWrongFalsely : Prop := webWrongRow.holds Try.pinned (OpenSpec.ofChange webWrongWrong)

/-- 'finesselaw27.WebLoads': WHATEVER THE INPUT: true; the input reads as it did. -/
def webLoadsSpec : ChangeSpec := { name := "webLoads", fn := fun _ => fun
  | [d1, d2, d3, d4, d5] => { results := [.lit (.bool true)], args := [d1, d2, d3, d4, d5] }
  | _ => none }
def webLoadsRow : OpenClaim := { program := "ytjmjdjdabmlgeaa", sum := "553e29c2e051f17250a3602331b27a562641d05bf0050e636768c8a296a271b0", func := "finesse/finesselaw27.WebLoads", spec := "webLoads", unfollowed := true, recurses := true, plainKeys := false, apart := false }
def WebLoadsSaid : Prop := webLoadsRow.holds Try.pinned (OpenSpec.ofChange webLoadsSpec)

/-- ITS FALSE NEIGHBOUR: 'it returns false'. Refute it at one input. -/
def webLoadsWrong : ChangeSpec := { name := "webLoads", fn := fun _ => fun
  | [d1, d2, d3, d4, d5] => { results := [.lit (.bool false)], args := [d1, d2, d3, d4, d5] }
  | _ => none }
def WebLoadsWrongFalsely : Prop := webLoadsRow.holds Try.pinned (OpenSpec.ofChange webLoadsWrong)

/- THE SECOND FORM. 'bulk': how many values and letters a reading holds, each counted each time it is reached (what is shared counts as often as it is met; a slice's spare places count too). A statement '..UptoSaid' is the law's where the arguments, and the package variables that the reading takes, are together of bulk at most 1048576: NARROWER than '..Said'. Prove '..Said' where nothing that the law and all that it calls make is longer than what came in: it says more and counts as full. Else prove '..UptoSaid'. A law counts once. -/
mutual
def uptoBulk {H : Type} : DataW H → Nat
  | .lit (.string bytes) => bytes.length + 1
  | .lit _ => 1
  | .nil => 1
  | .ptr d => uptoBulk d + 1
  | .slice elems spare => uptoBulkAll elems + uptoBulkAll spare + 1
  | .agg parts => uptoBulkAll parts + 1
  | .iface _ d => uptoBulk d + 1
  | .map entries => uptoBulkEntries entries + 1
  | .held _ => 1
def uptoBulkAll {H : Type} : List (DataW H) → Nat
  | [] => 0
  | d :: r => uptoBulk d + uptoBulkAll r
def uptoBulkEntries {H : Type} : List (Lit × DataW H) → Nat
  | [] => 0
  | x :: r => uptoBulkEntry x + uptoBulkEntries r
def uptoBulkEntry {H : Type} : Lit × DataW H → Nat
  | (.string bytes, d) => bytes.length + uptoBulk d + 1
  | (_, d) => uptoBulk d + 1
 end
def uptoSmall : (H : Type) → List (DataW H) → Bool := fun _ ds => decide (uptoBulkAll ds ≤ 1048576)
def OpenSpec.upto (s : _root_.Go.ChangeSpec) : _root_.Go.OpenSpec := { _root_.Go.OpenSpec.ofChange s with cond := some uptoSmall }

/-- 'finesselaw27.WebMakes', WHERE WHAT IT READS IS OF BULK AT MOST 1048576: true; the input reads as it did. -/
def webMakesUptoRow : OpenClaim := { program := "ytjmjdjdabmlgeaa", sum := "553e29c2e051f17250a3602331b27a562641d05bf0050e636768c8a296a271b0", func := "finesse/finesselaw27.WebMakes", spec := "webMakes", unfollowed := true, recurses := true, plainKeys := false, apart := false, narrowed := true }
def WebMakesUptoSaid : Prop := webMakesUptoRow.holds Try.pinned (OpenSpec.upto webMakesSpec)

/-- 'finesselaw27.WebTells', WHERE WHAT IT READS IS OF BULK AT MOST 1048576: true; the input reads as it did. -/
def webTellsUptoRow : OpenClaim := { program := "ytjmjdjdabmlgeaa", sum := "553e29c2e051f17250a3602331b27a562641d05bf0050e636768c8a296a271b0", func := "finesse/finesselaw27.WebTells", spec := "webTells", unfollowed := true, recurses := true, plainKeys := false, apart := false, narrowed := true }
def WebTellsUptoSaid : Prop := webTellsUptoRow.holds Try.pinned (OpenSpec.upto webTellsSpec)

/-- 'finesselaw27.WebSmall', WHERE WHAT IT READS IS OF BULK AT MOST 1048576: true; the input reads as it did. -/
def webSmallUptoRow : OpenClaim := { program := "ytjmjdjdabmlgeaa", sum := "553e29c2e051f17250a3602331b27a562641d05bf0050e636768c8a296a271b0", func := "finesse/finesselaw27.WebSmall", spec := "webSmall", unfollowed := true, recurses := true, plainKeys := false, apart := false, narrowed := true }
def WebSmallUptoSaid : Prop := webSmallUptoRow.holds Try.pinned (OpenSpec.upto webSmallSpec)

/-- 'finesselaw27.WebFair', WHERE WHAT IT READS IS OF BULK AT MOST 1048576: true; the input reads as it did. -/
def webFairUptoRow : OpenClaim := { program := "ytjmjdjdabmlgeaa", sum := "553e29c2e051f17250a3602331b27a562641d05bf0050e636768c8a296a271b0", func := "finesse/finesselaw27.WebFair", spec := "webFair", unfollowed := true, recurses := true, plainKeys := false, apart := false, narrowed := true }
def WebFairUptoSaid : Prop := webFairUptoRow.holds Try.pinned (OpenSpec.upto webFairSpec)

/-- 'finesselaw27.WebBegins', WHERE WHAT IT READS IS OF BULK AT MOST 1048576: true; the input reads as it did. -/
def webBeginsUptoRow : OpenClaim := { program := "ytjmjdjdabmlgeaa", sum := "553e29c2e051f17250a3602331b27a562641d05bf0050e636768c8a296a271b0", func := "finesse/finesselaw27.WebBegins", spec := "webBegins", unfollowed := true, recurses := true, plainKeys := false, apart := false, narrowed := true }
def WebBeginsUptoSaid : Prop := webBeginsUptoRow.holds Try.pinned (OpenSpec.upto webBeginsSpec)

/-- 'finesselaw27.WebMoves', WHERE WHAT IT READS IS OF BULK AT MOST 1048576: true; the input reads as it did. -/
def webMovesUptoRow : OpenClaim := { program := "ytjmjdjdabmlgeaa", sum := "553e29c2e051f17250a3602331b27a562641d05bf0050e636768c8a296a271b0", func := "finesse/finesselaw27.WebMoves", spec := "webMoves", unfollowed := true, recurses := true, plainKeys := false, apart := false, narrowed := true }
def WebMovesUptoSaid : Prop := webMovesUptoRow.holds Try.pinned (OpenSpec.upto webMovesSpec)

/-- 'finesselaw27.WebWrong', WHERE WHAT IT READS IS OF BULK AT MOST 1048576: true; the input reads as it did. -/
def webWrongUptoRow : OpenClaim := { program := "ytjmjdjdabmlgeaa", sum := "553e29c2e051f17250a3602331b27a562641d05bf0050e636768c8a296a271b0", func := "finesse/finesselaw27.WebWrong", spec := "webWrong", unfollowed := true, recurses := true, plainKeys := false, apart := false, narrowed := true }
def WebWrongUptoSaid : Prop := webWrongUptoRow.holds Try.pinned (OpenSpec.upto webWrongSpec)

/-- 'finesselaw27.WebLoads', WHERE WHAT IT READS IS OF BULK AT MOST 1048576: true; the input reads as it did. -/
def webLoadsUptoRow : OpenClaim := { program := "ytjmjdjdabmlgeaa", sum := "553e29c2e051f17250a3602331b27a562641d05bf0050e636768c8a296a271b0", func := "finesse/finesselaw27.WebLoads", spec := "webLoads", unfollowed := true, recurses := true, plainKeys := false, apart := false, narrowed := true }
def WebLoadsUptoSaid : Prop := webLoadsUptoRow.holds Try.pinned (OpenSpec.upto webLoadsSpec)

end Rows
end Go.Proofs.Ytjmjdjdabmlgeaa
