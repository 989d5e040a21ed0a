/-
  NARROWER THAN 'FOR EVERY INPUT', by the rows' own cells (each row's printed sentence says how): TopEvent: laid.
  DERIVED. THE GIVEN ROWS OF THIS SEAT. 1 by the template 'for every input the law returns true; each argument reads behind the call as it read before'; 0 by the template 'total and deterministic' (their statements: YteedopeniojppaaGreatDoorTotals.lean).
  GIVEN WITH THE SEED: the statements are not yours to turn. If you find one false, say at which input.
  Laid BY PROGRAM, IN A SANDBOX (cutbox-rows.mjs): the forced cells as the released guide's own fill.sh prints them over the translation cfb612bd2bb5e8cc… (all of the seat's roots in one cut). By AI agents, Wed Nov 11 2026. No macro, syntax, notation, axiom, sorry.
-/
import Derived.Test.YteedopeniojppaaGreatDoorChecked
import GoSem.Claim
import GoSem.ClaimJoined
import GoSem.ClaimMapViews
import Derived.JoinedTies
import Derived.KernelRfl
namespace Go.Proofs.YteedopeniojppaaGreatDoor
/- THE CELL 'sum', in the pinned program and in every row, IS THE sha256 OF THE DUMP (.gsa) THAT YteedopeniojppaaGreatDoorProg.lean LOADS. Nothing in Lean hashes anything: it is a label: what it is worth is what the hold of that sum in a sandbox is worth. -/
noncomputable def Tryz.pinned : Pinned := { name := "yteedopeniojppaagreatdoor", sum := "cfb612bd2bb5e8ccee87c873f10e7b0c8af0157cd091732d1ef0f373a5875608", checked := Tryz.checked }
namespace Rows
def none {H : Type} : Left H := { results := [], args := [] }

/- WHAT THE LISTED PACKAGE-LEVEL VARIABLES READ AS WHEN THE CALL BEGINS. Each datum BY PROGRAM (the guide's laid-datum.mjs) off the statement by which the dump's own 'gosem.cut.vars' lays the variable. In a bare row this is a premise. The card (YteedopeniojppaaGreatDoorCards.lean) ties it to the program's text. -/
def laid_finesse_imp_scale {H : Type} : DataW H := .agg [.lit (.int .i64 20), .lit (.int .i64 50), .lit (.int .i64 90), .lit (.int .i64 130), .lit (.int .i64 170), .lit (.int .i64 220), .lit (.int .i64 270), .lit (.int .i64 320), .lit (.int .i64 370), .lit (.int .i64 430), .lit (.int .i64 500), .lit (.int .i64 600), .lit (.int .i64 750), .lit (.int .i64 900), .lit (.int .i64 1100), .lit (.int .i64 1300), .lit (.int .i64 1500), .lit (.int .i64 1750), .lit (.int .i64 2000), .lit (.int .i64 2250), .lit (.int .i64 2500), .lit (.int .i64 3000), .lit (.int .i64 3500), .lit (.int .i64 4000)]
def laid_math_bits_deBruijn32tab {H : Type} : DataW H := .agg [.lit (.int .u8 0), .lit (.int .u8 1), .lit (.int .u8 28), .lit (.int .u8 2), .lit (.int .u8 29), .lit (.int .u8 14), .lit (.int .u8 24), .lit (.int .u8 3), .lit (.int .u8 30), .lit (.int .u8 22), .lit (.int .u8 20), .lit (.int .u8 15), .lit (.int .u8 25), .lit (.int .u8 17), .lit (.int .u8 4), .lit (.int .u8 8), .lit (.int .u8 31), .lit (.int .u8 27), .lit (.int .u8 13), .lit (.int .u8 23), .lit (.int .u8 21), .lit (.int .u8 19), .lit (.int .u8 16), .lit (.int .u8 7), .lit (.int .u8 26), .lit (.int .u8 12), .lit (.int .u8 18), .lit (.int .u8 6), .lit (.int .u8 11), .lit (.int .u8 5), .lit (.int .u8 10), .lit (.int .u8 9)]

/-- 'finessetop.TopEvent': WHATEVER THE INPUT: true; the input reads as it did. -/
def topEventSpec : ChangeSpec := { name := "topEvent", fn := fun _ => fun
  | [d1, d2, d3, d4, d5, d6, d7] => { results := [.lit (.bool true)], args := [d1, d2, d3, d4, d5, d6, d7] }
  | _ => none }
def topEventRow : OpenClaim := { program := "yteedopeniojppaagreatdoor", sum := "cfb612bd2bb5e8ccee87c873f10e7b0c8af0157cd091732d1ef0f373a5875608", func := "finesse/finessetop.TopEvent", spec := "topEvent", unfollowed := true, recurses := true, named := ["math/bits.deBruijn32tab", "finesse/imp.scale"], plainKeys := false, apart := false, laid := [("finesse/imp.scale", laid_finesse_imp_scale), ("math/bits.deBruijn32tab", laid_math_bits_deBruijn32tab)] }
def TopEventSaid : Prop := topEventRow.holds Tryz.pinned (OpenSpec.ofChange topEventSpec)

/-- ITS FALSE NEIGHBOUR: 'it returns false'. Refute it at one input. -/
def topEventWrong : ChangeSpec := { name := "topEvent", fn := fun _ => fun
  | [d1, d2, d3, d4, d5, d6, d7] => { results := [.lit (.bool false)], args := [d1, d2, d3, d4, d5, d6, d7] }
  | _ => none }
def TopEventWrongFalsely : Prop := topEventRow.holds Tryz.pinned (OpenSpec.ofChange topEventWrong)

/- THE SECOND FORM. 'bulk': how many values and letters a reading holds, each counted each time it is reached (what is shared counts as often as it is met; a slice's spare places count too). A statement '..UptoSaid' is the law's where the arguments, and the package variables that the reading takes, are together of bulk at most 1048576: NARROWER than '..Said'. Prove '..Said' where nothing that the law and all that it calls make is longer than what came in: it says more and counts as full. Else prove '..UptoSaid'. A law counts once. -/
mutual
def uptoBulk {H : Type} : DataW H → Nat
  | .lit (.string bytes) => bytes.length + 1
  | .lit _ => 1
  | .nil => 1
  | .ptr d => uptoBulk d + 1
  | .slice elems spare => uptoBulkAll elems + uptoBulkAll spare + 1
  | .agg parts => uptoBulkAll parts + 1
  | .iface _ d => uptoBulk d + 1
  | .map entries => uptoBulkEntries entries + 1
  | .held _ => 1
def uptoBulkAll {H : Type} : List (DataW H) → Nat
  | [] => 0
  | d :: r => uptoBulk d + uptoBulkAll r
def uptoBulkEntries {H : Type} : List (Lit × DataW H) → Nat
  | [] => 0
  | x :: r => uptoBulkEntry x + uptoBulkEntries r
def uptoBulkEntry {H : Type} : Lit × DataW H → Nat
  | (.string bytes, d) => bytes.length + uptoBulk d + 1
  | (_, d) => uptoBulk d + 1
 end
def uptoSmall : (H : Type) → List (DataW H) → Bool := fun _ ds => decide (uptoBulkAll ds ≤ 1048576)
def OpenSpec.upto (s : _root_.Go.ChangeSpec) : _root_.Go.OpenSpec := { _root_.Go.OpenSpec.ofChange s with cond := some uptoSmall }

/-- 'finessetop.TopEvent', WHERE WHAT IT READS IS OF BULK AT MOST 1048576: true; the input reads as it did. -/
def topEventUptoRow : OpenClaim := { program := "yteedopeniojppaagreatdoor", sum := "cfb612bd2bb5e8ccee87c873f10e7b0c8af0157cd091732d1ef0f373a5875608", func := "finesse/finessetop.TopEvent", spec := "topEvent", unfollowed := true, recurses := true, named := ["math/bits.deBruijn32tab", "finesse/imp.scale"], plainKeys := false, apart := false, laid := [("finesse/imp.scale", laid_finesse_imp_scale), ("math/bits.deBruijn32tab", laid_math_bits_deBruijn32tab)], narrowed := true }
def TopEventUptoSaid : Prop := topEventUptoRow.holds Tryz.pinned (OpenSpec.upto topEventSpec)

end Rows
end Go.Proofs.YteedopeniojppaaGreatDoor
