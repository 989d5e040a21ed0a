/-
  NARROWER THAN 'FOR EVERY INPUT', by the rows' own cells (each row's printed sentence says how): EventMeets: laid · EventTable: laid · EventEarly: laid · EventTells: laid · EventOrder: laid · EventWrong: laid · EventForward: laid.
  DERIVED. THE GIVEN ROWS OF THIS SEAT. 7 by the template 'for every input the law returns true; each argument reads behind the call as it read before'; 0 by the template 'total and deterministic' (their statements: YtamffdgopknkfaaDoorTotals.lean).
  GIVEN WITH THE SEED: the statements are not yours to turn. If you find one false, say at which input.
  Laid BY PROGRAM, IN A SANDBOX (cutbox-rows.mjs): the forced cells as the released guide's own fill.sh prints them over the translation 9ea80af91760e271… (all of the seat's roots in one cut). By AI agents, Wed Nov 11 2026. No macro, syntax, notation, axiom, sorry.
-/
import Derived.Test.YtamffdgopknkfaaDoorChecked
import GoSem.Claim
import GoSem.ClaimJoined
import GoSem.ClaimMapViews
import Derived.JoinedTies
import Derived.KernelRfl
namespace Go.Proofs.YtamffdgopknkfaaDoor
/- THE CELL 'sum', in the pinned program and in every row, IS THE sha256 OF THE DUMP (.gsa) THAT YtamffdgopknkfaaDoorProg.lean LOADS. Nothing in Lean hashes anything: it is a label: what it is worth is what the hold of that sum in a sandbox is worth. -/
noncomputable def Tryd.pinned : Pinned := { name := "ytamffdgopknkfaadoor", sum := "9ea80af91760e2719a6dca664c2147fbb2353ce565c60b2810eb00784965ed6b", checked := Tryd.checked }
namespace Rows
def none {H : Type} : Left H := { results := [], args := [] }

/- WHAT THE LISTED PACKAGE-LEVEL VARIABLES READ AS WHEN THE CALL BEGINS. Each datum BY PROGRAM (the guide's laid-datum.mjs) off the statement by which the dump's own 'gosem.cut.vars' lays the variable. In a bare row this is a premise. The card (YtamffdgopknkfaaDoorCards.lean) ties it to the program's text. -/
def laid_math_bits_deBruijn32tab {H : Type} : DataW H := .agg [.lit (.int .u8 0), .lit (.int .u8 1), .lit (.int .u8 28), .lit (.int .u8 2), .lit (.int .u8 29), .lit (.int .u8 14), .lit (.int .u8 24), .lit (.int .u8 3), .lit (.int .u8 30), .lit (.int .u8 22), .lit (.int .u8 20), .lit (.int .u8 15), .lit (.int .u8 25), .lit (.int .u8 17), .lit (.int .u8 4), .lit (.int .u8 8), .lit (.int .u8 31), .lit (.int .u8 27), .lit (.int .u8 13), .lit (.int .u8 23), .lit (.int .u8 21), .lit (.int .u8 19), .lit (.int .u8 16), .lit (.int .u8 7), .lit (.int .u8 26), .lit (.int .u8 12), .lit (.int .u8 18), .lit (.int .u8 6), .lit (.int .u8 11), .lit (.int .u8 5), .lit (.int .u8 10), .lit (.int .u8 9)]

/-- 'finesselaw39.EventMeets': WHATEVER THE INPUT: true; the input reads as it did. -/
def eventMeetsSpec : ChangeSpec := { name := "eventMeets", fn := fun _ => fun
  | [d] => { results := [.lit (.bool true)], args := [d] }
  | _ => none }
def eventMeetsRow : OpenClaim := { program := "ytamffdgopknkfaadoor", sum := "9ea80af91760e2719a6dca664c2147fbb2353ce565c60b2810eb00784965ed6b", func := "finesse/finesselaw39.EventMeets", spec := "eventMeets", unfollowed := true, recurses := true, named := ["math/bits.deBruijn32tab"], plainKeys := false, apart := false, laid := [("math/bits.deBruijn32tab", laid_math_bits_deBruijn32tab)] }
def EventMeetsSaid : Prop := eventMeetsRow.holds Tryd.pinned (OpenSpec.ofChange eventMeetsSpec)

/-- ITS FALSE NEIGHBOUR: 'it returns false'. Refute it at one input. -/
def eventMeetsWrong : ChangeSpec := { name := "eventMeets", fn := fun _ => fun
  | [d] => { results := [.lit (.bool false)], args := [d] }
  | _ => none }
def EventMeetsWrongFalsely : Prop := eventMeetsRow.holds Tryd.pinned (OpenSpec.ofChange eventMeetsWrong)

/-- 'finesselaw39.EventTable': WHATEVER THE INPUT: true; the input reads as it did. -/
def eventTableSpec : ChangeSpec := { name := "eventTable", fn := fun _ => fun
  | [d1, d2] => { results := [.lit (.bool true)], args := [d1, d2] }
  | _ => none }
def eventTableRow : OpenClaim := { program := "ytamffdgopknkfaadoor", sum := "9ea80af91760e2719a6dca664c2147fbb2353ce565c60b2810eb00784965ed6b", func := "finesse/finesselaw39.EventTable", spec := "eventTable", unfollowed := true, recurses := true, named := ["math/bits.deBruijn32tab"], plainKeys := false, apart := false, laid := [("math/bits.deBruijn32tab", laid_math_bits_deBruijn32tab)] }
def EventTableSaid : Prop := eventTableRow.holds Tryd.pinned (OpenSpec.ofChange eventTableSpec)

/-- ITS FALSE NEIGHBOUR: 'it returns false'. Refute it at one input. -/
def eventTableWrong : ChangeSpec := { name := "eventTable", fn := fun _ => fun
  | [d1, d2] => { results := [.lit (.bool false)], args := [d1, d2] }
  | _ => none }
def EventTableWrongFalsely : Prop := eventTableRow.holds Tryd.pinned (OpenSpec.ofChange eventTableWrong)

/-- 'finesselaw39.EventEarly': WHATEVER THE INPUT: true; the input reads as it did. -/
def eventEarlySpec : ChangeSpec := { name := "eventEarly", fn := fun _ => fun
  | [d1, d2] => { results := [.lit (.bool true)], args := [d1, d2] }
  | _ => none }
def eventEarlyRow : OpenClaim := { program := "ytamffdgopknkfaadoor", sum := "9ea80af91760e2719a6dca664c2147fbb2353ce565c60b2810eb00784965ed6b", func := "finesse/finesselaw39.EventEarly", spec := "eventEarly", unfollowed := true, recurses := true, named := ["math/bits.deBruijn32tab"], plainKeys := false, apart := false, laid := [("math/bits.deBruijn32tab", laid_math_bits_deBruijn32tab)] }
def EventEarlySaid : Prop := eventEarlyRow.holds Tryd.pinned (OpenSpec.ofChange eventEarlySpec)

/-- ITS FALSE NEIGHBOUR: 'it returns false'. Refute it at one input. -/
def eventEarlyWrong : ChangeSpec := { name := "eventEarly", fn := fun _ => fun
  | [d1, d2] => { results := [.lit (.bool false)], args := [d1, d2] }
  | _ => none }
def EventEarlyWrongFalsely : Prop := eventEarlyRow.holds Tryd.pinned (OpenSpec.ofChange eventEarlyWrong)

/-- 'finesselaw39.EventTells': WHATEVER THE INPUT: true; the input reads as it did. -/
def eventTellsSpec : ChangeSpec := { name := "eventTells", fn := fun _ => fun
  | [d1, d2, d3] => { results := [.lit (.bool true)], args := [d1, d2, d3] }
  | _ => none }
def eventTellsRow : OpenClaim := { program := "ytamffdgopknkfaadoor", sum := "9ea80af91760e2719a6dca664c2147fbb2353ce565c60b2810eb00784965ed6b", func := "finesse/finesselaw39.EventTells", spec := "eventTells", unfollowed := true, recurses := true, named := ["math/bits.deBruijn32tab"], plainKeys := false, apart := false, laid := [("math/bits.deBruijn32tab", laid_math_bits_deBruijn32tab)] }
def EventTellsSaid : Prop := eventTellsRow.holds Tryd.pinned (OpenSpec.ofChange eventTellsSpec)

/-- ITS FALSE NEIGHBOUR: 'it returns false'. Refute it at one input. -/
def eventTellsWrong : ChangeSpec := { name := "eventTells", fn := fun _ => fun
  | [d1, d2, d3] => { results := [.lit (.bool false)], args := [d1, d2, d3] }
  | _ => none }
def EventTellsWrongFalsely : Prop := eventTellsRow.holds Tryd.pinned (OpenSpec.ofChange eventTellsWrong)

/-- 'finesselaw39.EventOrder': WHATEVER THE INPUT: true; the input reads as it did. -/
def eventOrderSpec : ChangeSpec := { name := "eventOrder", fn := fun _ => fun
  | [d1, d2, d3] => { results := [.lit (.bool true)], args := [d1, d2, d3] }
  | _ => none }
def eventOrderRow : OpenClaim := { program := "ytamffdgopknkfaadoor", sum := "9ea80af91760e2719a6dca664c2147fbb2353ce565c60b2810eb00784965ed6b", func := "finesse/finesselaw39.EventOrder", spec := "eventOrder", unfollowed := true, recurses := true, named := ["math/bits.deBruijn32tab"], plainKeys := false, apart := false, laid := [("math/bits.deBruijn32tab", laid_math_bits_deBruijn32tab)] }
def EventOrderSaid : Prop := eventOrderRow.holds Tryd.pinned (OpenSpec.ofChange eventOrderSpec)

/-- ITS FALSE NEIGHBOUR: 'it returns false'. Refute it at one input. -/
def eventOrderWrong : ChangeSpec := { name := "eventOrder", fn := fun _ => fun
  | [d1, d2, d3] => { results := [.lit (.bool false)], args := [d1, d2, d3] }
  | _ => none }
def EventOrderWrongFalsely : Prop := eventOrderRow.holds Tryd.pinned (OpenSpec.ofChange eventOrderWrong)

/-- 'finesselaw39.EventWrong': WHATEVER THE INPUT: true; the input reads as it did. -/
def eventWrongSpec : ChangeSpec := { name := "eventWrong", fn := fun _ => fun
  | [d1, d2, d3, d4] => { results := [.lit (.bool true)], args := [d1, d2, d3, d4] }
  | _ => none }
def eventWrongRow : OpenClaim := { program := "ytamffdgopknkfaadoor", sum := "9ea80af91760e2719a6dca664c2147fbb2353ce565c60b2810eb00784965ed6b", func := "finesse/finesselaw39.EventWrong", spec := "eventWrong", unfollowed := true, recurses := true, named := ["math/bits.deBruijn32tab"], plainKeys := false, apart := false, laid := [("math/bits.deBruijn32tab", laid_math_bits_deBruijn32tab)] }
def EventWrongSaid : Prop := eventWrongRow.holds Tryd.pinned (OpenSpec.ofChange eventWrongSpec)

/-- ITS FALSE NEIGHBOUR: 'it returns false'. Refute it at one input. -/
def eventWrongWrong : ChangeSpec := { name := "eventWrong", fn := fun _ => fun
  | [d1, d2, d3, d4] => { results := [.lit (.bool false)], args := [d1, d2, d3, d4] }
  | _ => none }
def EventWrongWrongFalsely : Prop := eventWrongRow.holds Tryd.pinned (OpenSpec.ofChange eventWrongWrong)

/-- 'finesselaw39.EventForward': WHATEVER THE INPUT: true; the input reads as it did. -/
def eventForwardSpec : ChangeSpec := { name := "eventForward", fn := fun _ => fun
  | [d1, d2, d3, d4, d5] => { results := [.lit (.bool true)], args := [d1, d2, d3, d4, d5] }
  | _ => none }
def eventForwardRow : OpenClaim := { program := "ytamffdgopknkfaadoor", sum := "9ea80af91760e2719a6dca664c2147fbb2353ce565c60b2810eb00784965ed6b", func := "finesse/finesselaw39.EventForward", spec := "eventForward", inPlace := ["math/bits.Add64", "math/bits.Sub64"], unfollowed := true, recurses := true, named := ["math/bits.deBruijn32tab", "math/bits.divideError", "math/bits.overflowError"], plainKeys := false, apart := false, laid := [("math/bits.deBruijn32tab", laid_math_bits_deBruijn32tab)] }
def EventForwardSaid : Prop := eventForwardRow.holds Tryd.pinned (OpenSpec.ofChange eventForwardSpec)

/-- ITS FALSE NEIGHBOUR: 'it returns false'. Refute it at one input. -/
def eventForwardWrong : ChangeSpec := { name := "eventForward", fn := fun _ => fun
  | [d1, d2, d3, d4, d5] => { results := [.lit (.bool false)], args := [d1, d2, d3, d4, d5] }
  | _ => none }
def EventForwardWrongFalsely : Prop := eventForwardRow.holds Tryd.pinned (OpenSpec.ofChange eventForwardWrong)

/- THE SECOND FORM. 'bulk': how many values and letters a reading holds, each counted each time it is reached (what is shared counts as often as it is met; a slice's spare places count too). A statement '..UptoSaid' is the law's where the arguments, and the package variables that the reading takes, are together of bulk at most 1048576: NARROWER than '..Said'. Prove '..Said' where nothing that the law and all that it calls make is longer than what came in: it says more and counts as full. Else prove '..UptoSaid'. A law counts once. -/
mutual
def uptoBulk {H : Type} : DataW H → Nat
  | .lit (.string bytes) => bytes.length + 1
  | .lit _ => 1
  | .nil => 1
  | .ptr d => uptoBulk d + 1
  | .slice elems spare => uptoBulkAll elems + uptoBulkAll spare + 1
  | .agg parts => uptoBulkAll parts + 1
  | .iface _ d => uptoBulk d + 1
  | .map entries => uptoBulkEntries entries + 1
  | .held _ => 1
def uptoBulkAll {H : Type} : List (DataW H) → Nat
  | [] => 0
  | d :: r => uptoBulk d + uptoBulkAll r
def uptoBulkEntries {H : Type} : List (Lit × DataW H) → Nat
  | [] => 0
  | x :: r => uptoBulkEntry x + uptoBulkEntries r
def uptoBulkEntry {H : Type} : Lit × DataW H → Nat
  | (.string bytes, d) => bytes.length + uptoBulk d + 1
  | (_, d) => uptoBulk d + 1
 end
def uptoSmall : (H : Type) → List (DataW H) → Bool := fun _ ds => decide (uptoBulkAll ds ≤ 1048576)
def OpenSpec.upto (s : _root_.Go.ChangeSpec) : _root_.Go.OpenSpec := { _root_.Go.OpenSpec.ofChange s with cond := some uptoSmall }

/-- 'finesselaw39.EventMeets', WHERE WHAT IT READS IS OF BULK AT MOST 1048576: true; the input reads as it did. -/
def eventMeetsUptoRow : OpenClaim := { program := "ytamffdgopknkfaadoor", sum := "9ea80af91760e2719a6dca664c2147fbb2353ce565c60b2810eb00784965ed6b", func := "finesse/finesselaw39.EventMeets", spec := "eventMeets", unfollowed := true, recurses := true, named := ["math/bits.deBruijn32tab"], plainKeys := false, apart := false, laid := [("math/bits.deBruijn32tab", laid_math_bits_deBruijn32tab)], narrowed := true }
def EventMeetsUptoSaid : Prop := eventMeetsUptoRow.holds Tryd.pinned (OpenSpec.upto eventMeetsSpec)

/-- 'finesselaw39.EventTable', WHERE WHAT IT READS IS OF BULK AT MOST 1048576: true; the input reads as it did. -/
def eventTableUptoRow : OpenClaim := { program := "ytamffdgopknkfaadoor", sum := "9ea80af91760e2719a6dca664c2147fbb2353ce565c60b2810eb00784965ed6b", func := "finesse/finesselaw39.EventTable", spec := "eventTable", unfollowed := true, recurses := true, named := ["math/bits.deBruijn32tab"], plainKeys := false, apart := false, laid := [("math/bits.deBruijn32tab", laid_math_bits_deBruijn32tab)], narrowed := true }
def EventTableUptoSaid : Prop := eventTableUptoRow.holds Tryd.pinned (OpenSpec.upto eventTableSpec)

/-- 'finesselaw39.EventEarly', WHERE WHAT IT READS IS OF BULK AT MOST 1048576: true; the input reads as it did. -/
def eventEarlyUptoRow : OpenClaim := { program := "ytamffdgopknkfaadoor", sum := "9ea80af91760e2719a6dca664c2147fbb2353ce565c60b2810eb00784965ed6b", func := "finesse/finesselaw39.EventEarly", spec := "eventEarly", unfollowed := true, recurses := true, named := ["math/bits.deBruijn32tab"], plainKeys := false, apart := false, laid := [("math/bits.deBruijn32tab", laid_math_bits_deBruijn32tab)], narrowed := true }
def EventEarlyUptoSaid : Prop := eventEarlyUptoRow.holds Tryd.pinned (OpenSpec.upto eventEarlySpec)

/-- 'finesselaw39.EventTells', WHERE WHAT IT READS IS OF BULK AT MOST 1048576: true; the input reads as it did. -/
def eventTellsUptoRow : OpenClaim := { program := "ytamffdgopknkfaadoor", sum := "9ea80af91760e2719a6dca664c2147fbb2353ce565c60b2810eb00784965ed6b", func := "finesse/finesselaw39.EventTells", spec := "eventTells", unfollowed := true, recurses := true, named := ["math/bits.deBruijn32tab"], plainKeys := false, apart := false, laid := [("math/bits.deBruijn32tab", laid_math_bits_deBruijn32tab)], narrowed := true }
def EventTellsUptoSaid : Prop := eventTellsUptoRow.holds Tryd.pinned (OpenSpec.upto eventTellsSpec)

/-- 'finesselaw39.EventOrder', WHERE WHAT IT READS IS OF BULK AT MOST 1048576: true; the input reads as it did. -/
def eventOrderUptoRow : OpenClaim := { program := "ytamffdgopknkfaadoor", sum := "9ea80af91760e2719a6dca664c2147fbb2353ce565c60b2810eb00784965ed6b", func := "finesse/finesselaw39.EventOrder", spec := "eventOrder", unfollowed := true, recurses := true, named := ["math/bits.deBruijn32tab"], plainKeys := false, apart := false, laid := [("math/bits.deBruijn32tab", laid_math_bits_deBruijn32tab)], narrowed := true }
def EventOrderUptoSaid : Prop := eventOrderUptoRow.holds Tryd.pinned (OpenSpec.upto eventOrderSpec)

/-- 'finesselaw39.EventWrong', WHERE WHAT IT READS IS OF BULK AT MOST 1048576: true; the input reads as it did. -/
def eventWrongUptoRow : OpenClaim := { program := "ytamffdgopknkfaadoor", sum := "9ea80af91760e2719a6dca664c2147fbb2353ce565c60b2810eb00784965ed6b", func := "finesse/finesselaw39.EventWrong", spec := "eventWrong", unfollowed := true, recurses := true, named := ["math/bits.deBruijn32tab"], plainKeys := false, apart := false, laid := [("math/bits.deBruijn32tab", laid_math_bits_deBruijn32tab)], narrowed := true }
def EventWrongUptoSaid : Prop := eventWrongUptoRow.holds Tryd.pinned (OpenSpec.upto eventWrongSpec)

/-- 'finesselaw39.EventForward', WHERE WHAT IT READS IS OF BULK AT MOST 1048576: true; the input reads as it did. -/
def eventForwardUptoRow : OpenClaim := { program := "ytamffdgopknkfaadoor", sum := "9ea80af91760e2719a6dca664c2147fbb2353ce565c60b2810eb00784965ed6b", func := "finesse/finesselaw39.EventForward", spec := "eventForward", inPlace := ["math/bits.Add64", "math/bits.Sub64"], unfollowed := true, recurses := true, named := ["math/bits.deBruijn32tab", "math/bits.divideError", "math/bits.overflowError"], plainKeys := false, apart := false, laid := [("math/bits.deBruijn32tab", laid_math_bits_deBruijn32tab)], narrowed := true }
def EventForwardUptoSaid : Prop := eventForwardUptoRow.holds Tryd.pinned (OpenSpec.upto eventForwardSpec)

end Rows
end Go.Proofs.YtamffdgopknkfaaDoor
