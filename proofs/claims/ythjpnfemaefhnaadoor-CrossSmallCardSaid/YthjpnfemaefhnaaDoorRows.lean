/-
  NARROWER THAN 'FOR EVERY INPUT', by the rows' own cells (each row's printed sentence says how): CrossTells: laid · CrossSmall: laid · CrossTurned: laid · CrossDatum: laid · CrossWrong: laid · CrossOrder: laid · CrossSums: laid.
  DERIVED. THE GIVEN ROWS OF THIS SEAT. 7 by the template 'for every input the law returns true; each argument reads behind the call as it read before'; 0 by the template 'total and deterministic' (their statements: YthjpnfemaefhnaaDoorTotals.lean).
  GIVEN WITH THE SEED: the statements are not yours to turn. If you find one false, say at which input.
  Laid BY PROGRAM, IN A SANDBOX (cutbox-rows.mjs): the forced cells as the released guide's own fill.sh prints them over the translation 5b4518010ab86985… (all of the seat's roots in one cut). By AI agents, Wed Nov 11 2026. No macro, syntax, notation, axiom, sorry.
-/
import Derived.Test.YthjpnfemaefhnaaDoorChecked
import GoSem.Claim
import GoSem.ClaimJoined
import GoSem.ClaimMapViews
import Derived.JoinedTies
import Derived.KernelRfl
namespace Go.Proofs.YthjpnfemaefhnaaDoor
/- THE CELL 'sum', in the pinned program and in every row, IS THE sha256 OF THE DUMP (.gsa) THAT YthjpnfemaefhnaaDoorProg.lean LOADS. Nothing in Lean hashes anything: it is a label: what it is worth is what the hold of that sum in a sandbox is worth. -/
noncomputable def Tryd.pinned : Pinned := { name := "ythjpnfemaefhnaadoor", sum := "5b4518010ab869856aba4750789d5e057918ac000f8fd6038a12a314cc1fdc8d", checked := Tryd.checked }
namespace Rows
def none {H : Type} : Left H := { results := [], args := [] }

/- WHAT THE LISTED PACKAGE-LEVEL VARIABLES READ AS WHEN THE CALL BEGINS. Each datum BY PROGRAM (the guide's laid-datum.mjs) off the statement by which the dump's own 'gosem.cut.vars' lays the variable. In a bare row this is a premise. The card (YthjpnfemaefhnaaDoorCards.lean) ties it to the program's text. -/
def laid_finesse_imp_scale {H : Type} : DataW H := .agg [.lit (.int .i64 20), .lit (.int .i64 50), .lit (.int .i64 90), .lit (.int .i64 130), .lit (.int .i64 170), .lit (.int .i64 220), .lit (.int .i64 270), .lit (.int .i64 320), .lit (.int .i64 370), .lit (.int .i64 430), .lit (.int .i64 500), .lit (.int .i64 600), .lit (.int .i64 750), .lit (.int .i64 900), .lit (.int .i64 1100), .lit (.int .i64 1300), .lit (.int .i64 1500), .lit (.int .i64 1750), .lit (.int .i64 2000), .lit (.int .i64 2250), .lit (.int .i64 2500), .lit (.int .i64 3000), .lit (.int .i64 3500), .lit (.int .i64 4000)]

/-- 'finesselaw24.CrossTells': WHATEVER THE INPUT: true; the input reads as it did. -/
def crossTellsSpec : ChangeSpec := { name := "crossTells", fn := fun _ => fun
  | [d1, d2] => { results := [.lit (.bool true)], args := [d1, d2] }
  | _ => none }
def crossTellsRow : OpenClaim := { program := "ythjpnfemaefhnaadoor", sum := "5b4518010ab869856aba4750789d5e057918ac000f8fd6038a12a314cc1fdc8d", func := "finesse/finesselaw24.CrossTells", spec := "crossTells", unfollowed := true, recurses := true, named := ["finesse/imp.scale"], apart := false, laid := [("finesse/imp.scale", laid_finesse_imp_scale)] }
def CrossTellsSaid : Prop := crossTellsRow.holds Tryd.pinned (OpenSpec.ofChange crossTellsSpec)

/-- ITS FALSE NEIGHBOUR: 'it returns false'. Refute it at one input. -/
def crossTellsWrong : ChangeSpec := { name := "crossTells", fn := fun _ => fun
  | [d1, d2] => { results := [.lit (.bool false)], args := [d1, d2] }
  | _ => none }
def CrossTellsWrongFalsely : Prop := crossTellsRow.holds Tryd.pinned (OpenSpec.ofChange crossTellsWrong)

/-- 'finesselaw24.CrossSmall': WHATEVER THE INPUT: true; the input reads as it did. -/
def crossSmallSpec : ChangeSpec := { name := "crossSmall", fn := fun _ => fun
  | [] => { results := [.lit (.bool true)], args := [] }
  | _ => none }
def crossSmallRow : OpenClaim := { program := "ythjpnfemaefhnaadoor", sum := "5b4518010ab869856aba4750789d5e057918ac000f8fd6038a12a314cc1fdc8d", func := "finesse/finesselaw24.CrossSmall", spec := "crossSmall", unfollowed := true, recurses := true, named := ["finesse/imp.scale"], apart := false, laid := [("finesse/imp.scale", laid_finesse_imp_scale)] }
def CrossSmallSaid : Prop := crossSmallRow.holds Tryd.pinned (OpenSpec.ofChange crossSmallSpec)

/-- ITS FALSE NEIGHBOUR: 'it returns false'. Refute it at one input. -/
def crossSmallWrong : ChangeSpec := { name := "crossSmall", fn := fun _ => fun
  | [] => { results := [.lit (.bool false)], args := [] }
  | _ => none }
def CrossSmallWrongFalsely : Prop := crossSmallRow.holds Tryd.pinned (OpenSpec.ofChange crossSmallWrong)

/-- 'finesselaw24.CrossTurned': WHATEVER THE INPUT: true; the input reads as it did. -/
def crossTurnedSpec : ChangeSpec := { name := "crossTurned", fn := fun _ => fun
  | [d1, d2] => { results := [.lit (.bool true)], args := [d1, d2] }
  | _ => none }
def crossTurnedRow : OpenClaim := { program := "ythjpnfemaefhnaadoor", sum := "5b4518010ab869856aba4750789d5e057918ac000f8fd6038a12a314cc1fdc8d", func := "finesse/finesselaw24.CrossTurned", spec := "crossTurned", unfollowed := true, recurses := true, named := ["finesse/imp.scale"], apart := false, laid := [("finesse/imp.scale", laid_finesse_imp_scale)] }
def CrossTurnedSaid : Prop := crossTurnedRow.holds Tryd.pinned (OpenSpec.ofChange crossTurnedSpec)

/-- ITS FALSE NEIGHBOUR: 'it returns false'. Refute it at one input. -/
def crossTurnedWrong : ChangeSpec := { name := "crossTurned", fn := fun _ => fun
  | [d1, d2] => { results := [.lit (.bool false)], args := [d1, d2] }
  | _ => none }
def CrossTurnedWrongFalsely : Prop := crossTurnedRow.holds Tryd.pinned (OpenSpec.ofChange crossTurnedWrong)

/-- 'finesselaw24.CrossDatum': WHATEVER THE INPUT: true; the input reads as it did. -/
def crossDatumSpec : ChangeSpec := { name := "crossDatum", fn := fun _ => fun
  | [d1, d2] => { results := [.lit (.bool true)], args := [d1, d2] }
  | _ => none }
def crossDatumRow : OpenClaim := { program := "ythjpnfemaefhnaadoor", sum := "5b4518010ab869856aba4750789d5e057918ac000f8fd6038a12a314cc1fdc8d", func := "finesse/finesselaw24.CrossDatum", spec := "crossDatum", unfollowed := true, recurses := true, named := ["finesse/imp.scale"], apart := false, laid := [("finesse/imp.scale", laid_finesse_imp_scale)] }
def CrossDatumSaid : Prop := crossDatumRow.holds Tryd.pinned (OpenSpec.ofChange crossDatumSpec)

/-- ITS FALSE NEIGHBOUR: 'it returns false'. Refute it at one input. -/
def crossDatumWrong : ChangeSpec := { name := "crossDatum", fn := fun _ => fun
  | [d1, d2] => { results := [.lit (.bool false)], args := [d1, d2] }
  | _ => none }
def CrossDatumWrongFalsely : Prop := crossDatumRow.holds Tryd.pinned (OpenSpec.ofChange crossDatumWrong)

/-- 'finesselaw24.CrossWrong': WHATEVER THE INPUT: true; the input reads as it did. -/
def crossWrongSpec : ChangeSpec := { name := "crossWrong", fn := fun _ => fun
  | [d1, d2, d3, d4] => { results := [.lit (.bool true)], args := [d1, d2, d3, d4] }
  | _ => none }
def crossWrongRow : OpenClaim := { program := "ythjpnfemaefhnaadoor", sum := "5b4518010ab869856aba4750789d5e057918ac000f8fd6038a12a314cc1fdc8d", func := "finesse/finesselaw24.CrossWrong", spec := "crossWrong", unfollowed := true, recurses := true, named := ["finesse/imp.scale"], apart := false, laid := [("finesse/imp.scale", laid_finesse_imp_scale)] }
def CrossWrongSaid : Prop := crossWrongRow.holds Tryd.pinned (OpenSpec.ofChange crossWrongSpec)

/-- ITS FALSE NEIGHBOUR: 'it returns false'. Refute it at one input. -/
def crossWrongWrong : ChangeSpec := { name := "crossWrong", fn := fun _ => fun
  | [d1, d2, d3, d4] => { results := [.lit (.bool false)], args := [d1, d2, d3, d4] }
  | _ => none }
def CrossWrongWrongFalsely : Prop := crossWrongRow.holds Tryd.pinned (OpenSpec.ofChange crossWrongWrong)

/-- 'finesselaw24.CrossOrder': WHATEVER THE INPUT: true; the input reads as it did. -/
def crossOrderSpec : ChangeSpec := { name := "crossOrder", fn := fun _ => fun
  | [d1, d2] => { results := [.lit (.bool true)], args := [d1, d2] }
  | _ => none }
def crossOrderRow : OpenClaim := { program := "ythjpnfemaefhnaadoor", sum := "5b4518010ab869856aba4750789d5e057918ac000f8fd6038a12a314cc1fdc8d", func := "finesse/finesselaw24.CrossOrder", spec := "crossOrder", unfollowed := true, recurses := true, named := ["finesse/imp.scale"], apart := false, laid := [("finesse/imp.scale", laid_finesse_imp_scale)] }
def CrossOrderSaid : Prop := crossOrderRow.holds Tryd.pinned (OpenSpec.ofChange crossOrderSpec)

/-- ITS FALSE NEIGHBOUR: 'it returns false'. Refute it at one input. -/
def crossOrderWrong : ChangeSpec := { name := "crossOrder", fn := fun _ => fun
  | [d1, d2] => { results := [.lit (.bool false)], args := [d1, d2] }
  | _ => none }
def CrossOrderWrongFalsely : Prop := crossOrderRow.holds Tryd.pinned (OpenSpec.ofChange crossOrderWrong)

/-- 'finesselaw24.CrossSums': WHATEVER THE INPUT: true; the input reads as it did. -/
def crossSumsSpec : ChangeSpec := { name := "crossSums", fn := fun _ => fun
  | [d] => { results := [.lit (.bool true)], args := [d] }
  | _ => none }
def crossSumsRow : OpenClaim := { program := "ythjpnfemaefhnaadoor", sum := "5b4518010ab869856aba4750789d5e057918ac000f8fd6038a12a314cc1fdc8d", func := "finesse/finesselaw24.CrossSums", spec := "crossSums", inPlace := ["math/bits.Add64", "math/bits.Sub64"], unfollowed := true, recurses := true, named := ["finesse/imp.scale", "math/bits.divideError", "math/bits.overflowError"], apart := false, laid := [("finesse/imp.scale", laid_finesse_imp_scale)] }
def CrossSumsSaid : Prop := crossSumsRow.holds Tryd.pinned (OpenSpec.ofChange crossSumsSpec)

/-- ITS FALSE NEIGHBOUR: 'it returns false'. Refute it at one input. -/
def crossSumsWrong : ChangeSpec := { name := "crossSums", fn := fun _ => fun
  | [d] => { results := [.lit (.bool false)], args := [d] }
  | _ => none }
def CrossSumsWrongFalsely : Prop := crossSumsRow.holds Tryd.pinned (OpenSpec.ofChange crossSumsWrong)

/- THE SECOND FORM. 'bulk': how many values and letters a reading holds, each counted each time it is reached (what is shared counts as often as it is met; a slice's spare places count too). A statement '..UptoSaid' is the law's where the arguments, and the package variables that the reading takes, are together of bulk at most 1048576: NARROWER than '..Said'. Prove '..Said' where nothing that the law and all that it calls make is longer than what came in: it says more and counts as full. Else prove '..UptoSaid'. A law counts once. -/
mutual
def uptoBulk {H : Type} : DataW H → Nat
  | .lit (.string bytes) => bytes.length + 1
  | .lit _ => 1
  | .nil => 1
  | .ptr d => uptoBulk d + 1
  | .slice elems spare => uptoBulkAll elems + uptoBulkAll spare + 1
  | .agg parts => uptoBulkAll parts + 1
  | .iface _ d => uptoBulk d + 1
  | .map entries => uptoBulkEntries entries + 1
  | .held _ => 1
def uptoBulkAll {H : Type} : List (DataW H) → Nat
  | [] => 0
  | d :: r => uptoBulk d + uptoBulkAll r
def uptoBulkEntries {H : Type} : List (Lit × DataW H) → Nat
  | [] => 0
  | x :: r => uptoBulkEntry x + uptoBulkEntries r
def uptoBulkEntry {H : Type} : Lit × DataW H → Nat
  | (.string bytes, d) => bytes.length + uptoBulk d + 1
  | (_, d) => uptoBulk d + 1
 end
def uptoSmall : (H : Type) → List (DataW H) → Bool := fun _ ds => decide (uptoBulkAll ds ≤ 1048576)
def OpenSpec.upto (s : _root_.Go.ChangeSpec) : _root_.Go.OpenSpec := { _root_.Go.OpenSpec.ofChange s with cond := some uptoSmall }

/-- 'finesselaw24.CrossTells', WHERE WHAT IT READS IS OF BULK AT MOST 1048576: true; the input reads as it did. -/
def crossTellsUptoRow : OpenClaim := { program := "ythjpnfemaefhnaadoor", sum := "5b4518010ab869856aba4750789d5e057918ac000f8fd6038a12a314cc1fdc8d", func := "finesse/finesselaw24.CrossTells", spec := "crossTells", unfollowed := true, recurses := true, named := ["finesse/imp.scale"], apart := false, laid := [("finesse/imp.scale", laid_finesse_imp_scale)], narrowed := true }
def CrossTellsUptoSaid : Prop := crossTellsUptoRow.holds Tryd.pinned (OpenSpec.upto crossTellsSpec)

/-- 'finesselaw24.CrossSmall', WHERE WHAT IT READS IS OF BULK AT MOST 1048576: true; the input reads as it did. -/
def crossSmallUptoRow : OpenClaim := { program := "ythjpnfemaefhnaadoor", sum := "5b4518010ab869856aba4750789d5e057918ac000f8fd6038a12a314cc1fdc8d", func := "finesse/finesselaw24.CrossSmall", spec := "crossSmall", unfollowed := true, recurses := true, named := ["finesse/imp.scale"], apart := false, laid := [("finesse/imp.scale", laid_finesse_imp_scale)], narrowed := true }
def CrossSmallUptoSaid : Prop := crossSmallUptoRow.holds Tryd.pinned (OpenSpec.upto crossSmallSpec)

/-- 'finesselaw24.CrossTurned', WHERE WHAT IT READS IS OF BULK AT MOST 1048576: true; the input reads as it did. -/
def crossTurnedUptoRow : OpenClaim := { program := "ythjpnfemaefhnaadoor", sum := "5b4518010ab869856aba4750789d5e057918ac000f8fd6038a12a314cc1fdc8d", func := "finesse/finesselaw24.CrossTurned", spec := "crossTurned", unfollowed := true, recurses := true, named := ["finesse/imp.scale"], apart := false, laid := [("finesse/imp.scale", laid_finesse_imp_scale)], narrowed := true }
def CrossTurnedUptoSaid : Prop := crossTurnedUptoRow.holds Tryd.pinned (OpenSpec.upto crossTurnedSpec)

/-- 'finesselaw24.CrossDatum', WHERE WHAT IT READS IS OF BULK AT MOST 1048576: true; the input reads as it did. -/
def crossDatumUptoRow : OpenClaim := { program := "ythjpnfemaefhnaadoor", sum := "5b4518010ab869856aba4750789d5e057918ac000f8fd6038a12a314cc1fdc8d", func := "finesse/finesselaw24.CrossDatum", spec := "crossDatum", unfollowed := true, recurses := true, named := ["finesse/imp.scale"], apart := false, laid := [("finesse/imp.scale", laid_finesse_imp_scale)], narrowed := true }
def CrossDatumUptoSaid : Prop := crossDatumUptoRow.holds Tryd.pinned (OpenSpec.upto crossDatumSpec)

/-- 'finesselaw24.CrossWrong', WHERE WHAT IT READS IS OF BULK AT MOST 1048576: true; the input reads as it did. -/
def crossWrongUptoRow : OpenClaim := { program := "ythjpnfemaefhnaadoor", sum := "5b4518010ab869856aba4750789d5e057918ac000f8fd6038a12a314cc1fdc8d", func := "finesse/finesselaw24.CrossWrong", spec := "crossWrong", unfollowed := true, recurses := true, named := ["finesse/imp.scale"], apart := false, laid := [("finesse/imp.scale", laid_finesse_imp_scale)], narrowed := true }
def CrossWrongUptoSaid : Prop := crossWrongUptoRow.holds Tryd.pinned (OpenSpec.upto crossWrongSpec)

/-- 'finesselaw24.CrossOrder', WHERE WHAT IT READS IS OF BULK AT MOST 1048576: true; the input reads as it did. -/
def crossOrderUptoRow : OpenClaim := { program := "ythjpnfemaefhnaadoor", sum := "5b4518010ab869856aba4750789d5e057918ac000f8fd6038a12a314cc1fdc8d", func := "finesse/finesselaw24.CrossOrder", spec := "crossOrder", unfollowed := true, recurses := true, named := ["finesse/imp.scale"], apart := false, laid := [("finesse/imp.scale", laid_finesse_imp_scale)], narrowed := true }
def CrossOrderUptoSaid : Prop := crossOrderUptoRow.holds Tryd.pinned (OpenSpec.upto crossOrderSpec)

/-- 'finesselaw24.CrossSums', WHERE WHAT IT READS IS OF BULK AT MOST 1048576: true; the input reads as it did. -/
def crossSumsUptoRow : OpenClaim := { program := "ythjpnfemaefhnaadoor", sum := "5b4518010ab869856aba4750789d5e057918ac000f8fd6038a12a314cc1fdc8d", func := "finesse/finesselaw24.CrossSums", spec := "crossSums", inPlace := ["math/bits.Add64", "math/bits.Sub64"], unfollowed := true, recurses := true, named := ["finesse/imp.scale", "math/bits.divideError", "math/bits.overflowError"], apart := false, laid := [("finesse/imp.scale", laid_finesse_imp_scale)], narrowed := true }
def CrossSumsUptoSaid : Prop := crossSumsUptoRow.holds Tryd.pinned (OpenSpec.upto crossSumsSpec)

end Rows
end Go.Proofs.YthjpnfemaefhnaaDoor
