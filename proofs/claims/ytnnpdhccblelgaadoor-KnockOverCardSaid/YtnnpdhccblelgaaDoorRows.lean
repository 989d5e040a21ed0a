/-
  NARROWER THAN 'FOR EVERY INPUT', by the rows' own cells (each row's printed sentence says how): KnockCarries: laid · KnockSeeded: laid · KnockBrackets: laid · KnockCarry: laid · KnockWrong: laid · KnockGoes: laid · KnockOver: laid.
  DERIVED. THE GIVEN ROWS OF THIS SEAT. 7 by the template 'for every input the law returns true; each argument reads behind the call as it read before'; 0 by the template 'total and deterministic' (their statements: YtnnpdhccblelgaaDoorTotals.lean).
  GIVEN WITH THE SEED: the statements are not yours to turn. If you find one false, say at which input.
  Laid BY PROGRAM, IN A SANDBOX (cutbox-rows.mjs): the forced cells as the released guide's own fill.sh prints them over the translation ee8227f01e51f9b8… (all of the seat's roots in one cut). By AI agents, Wed Nov 11 2026. No macro, syntax, notation, axiom, sorry.
-/
import Derived.Test.YtnnpdhccblelgaaDoorChecked
import GoSem.Claim
import GoSem.ClaimJoined
import GoSem.ClaimMapViews
import Derived.JoinedTies
import Derived.KernelRfl
namespace Go.Proofs.YtnnpdhccblelgaaDoor
/- THE CELL 'sum', in the pinned program and in every row, IS THE sha256 OF THE DUMP (.gsa) THAT YtnnpdhccblelgaaDoorProg.lean LOADS. Nothing in Lean hashes anything: it is a label: what it is worth is what the hold of that sum in a sandbox is worth. -/
noncomputable def Tryd.pinned : Pinned := { name := "ytnnpdhccblelgaadoor", sum := "ee8227f01e51f9b8903191bac3d250766b93b0bcdd9a7f4561ee19c2a3cd6063", checked := Tryd.checked }
namespace Rows
def none {H : Type} : Left H := { results := [], args := [] }

/- WHAT THE LISTED PACKAGE-LEVEL VARIABLES READ AS WHEN THE CALL BEGINS. Each datum BY PROGRAM (the guide's laid-datum.mjs) off the statement by which the dump's own 'gosem.cut.vars' lays the variable. In a bare row this is a premise. The card (YtnnpdhccblelgaaDoorCards.lean) ties it to the program's text. -/
def laid_finesse_finesselaw38_zero {H : Type} : DataW H := .agg [.lit (.int .i64 0), .lit (.int .i64 1)]

/-- 'finesselaw38.KnockCarries': WHATEVER THE INPUT: true; the input reads as it did. -/
def knockCarriesSpec : ChangeSpec := { name := "knockCarries", fn := fun _ => fun
  | [d1, d2, d3] => { results := [.lit (.bool true)], args := [d1, d2, d3] }
  | _ => none }
def knockCarriesRow : OpenClaim := { program := "ytnnpdhccblelgaadoor", sum := "ee8227f01e51f9b8903191bac3d250766b93b0bcdd9a7f4561ee19c2a3cd6063", func := "finesse/finesselaw38.KnockCarries", spec := "knockCarries", unfollowed := true, recurses := true, named := ["finesse/finesselaw38.zero"], plainKeys := false, apart := false, laid := [("finesse/finesselaw38.zero", laid_finesse_finesselaw38_zero)] }
def KnockCarriesSaid : Prop := knockCarriesRow.holds Tryd.pinned (OpenSpec.ofChange knockCarriesSpec)

/-- ITS FALSE NEIGHBOUR: 'it returns false'. Refute it at one input. -/
def knockCarriesWrong : ChangeSpec := { name := "knockCarries", fn := fun _ => fun
  | [d1, d2, d3] => { results := [.lit (.bool false)], args := [d1, d2, d3] }
  | _ => none }
def KnockCarriesWrongFalsely : Prop := knockCarriesRow.holds Tryd.pinned (OpenSpec.ofChange knockCarriesWrong)

/-- 'finesselaw38.KnockSeeded': WHATEVER THE INPUT: true; the input reads as it did. -/
def knockSeededSpec : ChangeSpec := { name := "knockSeeded", fn := fun _ => fun
  | [d1, d2] => { results := [.lit (.bool true)], args := [d1, d2] }
  | _ => none }
def knockSeededRow : OpenClaim := { program := "ytnnpdhccblelgaadoor", sum := "ee8227f01e51f9b8903191bac3d250766b93b0bcdd9a7f4561ee19c2a3cd6063", func := "finesse/finesselaw38.KnockSeeded", spec := "knockSeeded", unfollowed := true, recurses := true, named := ["finesse/finesselaw38.zero"], plainKeys := false, apart := false, laid := [("finesse/finesselaw38.zero", laid_finesse_finesselaw38_zero)] }
def KnockSeededSaid : Prop := knockSeededRow.holds Tryd.pinned (OpenSpec.ofChange knockSeededSpec)

/-- ITS FALSE NEIGHBOUR: 'it returns false'. Refute it at one input. -/
def knockSeededWrong : ChangeSpec := { name := "knockSeeded", fn := fun _ => fun
  | [d1, d2] => { results := [.lit (.bool false)], args := [d1, d2] }
  | _ => none }
def KnockSeededWrongFalsely : Prop := knockSeededRow.holds Tryd.pinned (OpenSpec.ofChange knockSeededWrong)

/-- 'finesselaw38.KnockBrackets': WHATEVER THE INPUT: true; the input reads as it did. -/
def knockBracketsSpec : ChangeSpec := { name := "knockBrackets", fn := fun _ => fun
  | [d1, d2] => { results := [.lit (.bool true)], args := [d1, d2] }
  | _ => none }
def knockBracketsRow : OpenClaim := { program := "ytnnpdhccblelgaadoor", sum := "ee8227f01e51f9b8903191bac3d250766b93b0bcdd9a7f4561ee19c2a3cd6063", func := "finesse/finesselaw38.KnockBrackets", spec := "knockBrackets", unfollowed := true, recurses := true, named := ["finesse/finesselaw38.zero"], plainKeys := false, apart := false, laid := [("finesse/finesselaw38.zero", laid_finesse_finesselaw38_zero)] }
def KnockBracketsSaid : Prop := knockBracketsRow.holds Tryd.pinned (OpenSpec.ofChange knockBracketsSpec)

/-- ITS FALSE NEIGHBOUR: 'it returns false'. Refute it at one input. -/
def knockBracketsWrong : ChangeSpec := { name := "knockBrackets", fn := fun _ => fun
  | [d1, d2] => { results := [.lit (.bool false)], args := [d1, d2] }
  | _ => none }
def KnockBracketsWrongFalsely : Prop := knockBracketsRow.holds Tryd.pinned (OpenSpec.ofChange knockBracketsWrong)

/-- 'finesselaw38.KnockCarry': WHATEVER THE INPUT: true; the input reads as it did. -/
def knockCarrySpec : ChangeSpec := { name := "knockCarry", fn := fun _ => fun
  | [d1, d2, d3] => { results := [.lit (.bool true)], args := [d1, d2, d3] }
  | _ => none }
def knockCarryRow : OpenClaim := { program := "ytnnpdhccblelgaadoor", sum := "ee8227f01e51f9b8903191bac3d250766b93b0bcdd9a7f4561ee19c2a3cd6063", func := "finesse/finesselaw38.KnockCarry", spec := "knockCarry", unfollowed := true, recurses := true, named := ["finesse/finesselaw38.zero"], plainKeys := false, apart := false, laid := [("finesse/finesselaw38.zero", laid_finesse_finesselaw38_zero)] }
def KnockCarrySaid : Prop := knockCarryRow.holds Tryd.pinned (OpenSpec.ofChange knockCarrySpec)

/-- ITS FALSE NEIGHBOUR: 'it returns false'. Refute it at one input. -/
def knockCarryWrong : ChangeSpec := { name := "knockCarry", fn := fun _ => fun
  | [d1, d2, d3] => { results := [.lit (.bool false)], args := [d1, d2, d3] }
  | _ => none }
def KnockCarryWrongFalsely : Prop := knockCarryRow.holds Tryd.pinned (OpenSpec.ofChange knockCarryWrong)

/-- 'finesselaw38.KnockWrong': WHATEVER THE INPUT: true; the input reads as it did. -/
def knockWrongSpec : ChangeSpec := { name := "knockWrong", fn := fun _ => fun
  | [d1, d2, d3, d4, d5] => { results := [.lit (.bool true)], args := [d1, d2, d3, d4, d5] }
  | _ => none }
def knockWrongRow : OpenClaim := { program := "ytnnpdhccblelgaadoor", sum := "ee8227f01e51f9b8903191bac3d250766b93b0bcdd9a7f4561ee19c2a3cd6063", func := "finesse/finesselaw38.KnockWrong", spec := "knockWrong", unfollowed := true, recurses := true, named := ["finesse/finesselaw38.zero"], plainKeys := false, apart := false, laid := [("finesse/finesselaw38.zero", laid_finesse_finesselaw38_zero)] }
def KnockWrongSaid : Prop := knockWrongRow.holds Tryd.pinned (OpenSpec.ofChange knockWrongSpec)

/-- ITS FALSE NEIGHBOUR: 'it returns false'. Refute it at one input. -/
def knockWrongWrong : ChangeSpec := { name := "knockWrong", fn := fun _ => fun
  | [d1, d2, d3, d4, d5] => { results := [.lit (.bool false)], args := [d1, d2, d3, d4, d5] }
  | _ => none }
def KnockWrongWrongFalsely : Prop := knockWrongRow.holds Tryd.pinned (OpenSpec.ofChange knockWrongWrong)

/-- 'finesselaw38.KnockGoes': WHATEVER THE INPUT: true; the input reads as it did. -/
def knockGoesSpec : ChangeSpec := { name := "knockGoes", fn := fun _ => fun
  | [d1, d2] => { results := [.lit (.bool true)], args := [d1, d2] }
  | _ => none }
def knockGoesRow : OpenClaim := { program := "ytnnpdhccblelgaadoor", sum := "ee8227f01e51f9b8903191bac3d250766b93b0bcdd9a7f4561ee19c2a3cd6063", func := "finesse/finesselaw38.KnockGoes", spec := "knockGoes", unfollowed := true, recurses := true, named := ["finesse/finesselaw38.zero"], plainKeys := false, apart := false, laid := [("finesse/finesselaw38.zero", laid_finesse_finesselaw38_zero)] }
def KnockGoesSaid : Prop := knockGoesRow.holds Tryd.pinned (OpenSpec.ofChange knockGoesSpec)

/-- ITS FALSE NEIGHBOUR: 'it returns false'. Refute it at one input. -/
def knockGoesWrong : ChangeSpec := { name := "knockGoes", fn := fun _ => fun
  | [d1, d2] => { results := [.lit (.bool false)], args := [d1, d2] }
  | _ => none }
def KnockGoesWrongFalsely : Prop := knockGoesRow.holds Tryd.pinned (OpenSpec.ofChange knockGoesWrong)

/-- 'finesselaw38.KnockOver': WHATEVER THE INPUT: true; the input reads as it did. -/
def knockOverSpec : ChangeSpec := { name := "knockOver", fn := fun _ => fun
  | [d1, d2, d3] => { results := [.lit (.bool true)], args := [d1, d2, d3] }
  | _ => none }
def knockOverRow : OpenClaim := { program := "ytnnpdhccblelgaadoor", sum := "ee8227f01e51f9b8903191bac3d250766b93b0bcdd9a7f4561ee19c2a3cd6063", func := "finesse/finesselaw38.KnockOver", spec := "knockOver", inPlace := ["math/bits.Add64", "math/bits.Sub64"], unfollowed := true, recurses := true, named := ["finesse/finesselaw38.zero", "math/bits.divideError", "math/bits.overflowError"], plainKeys := false, apart := false, laid := [("finesse/finesselaw38.zero", laid_finesse_finesselaw38_zero)] }
def KnockOverSaid : Prop := knockOverRow.holds Tryd.pinned (OpenSpec.ofChange knockOverSpec)

/-- ITS FALSE NEIGHBOUR: 'it returns false'. Refute it at one input. -/
def knockOverWrong : ChangeSpec := { name := "knockOver", fn := fun _ => fun
  | [d1, d2, d3] => { results := [.lit (.bool false)], args := [d1, d2, d3] }
  | _ => none }
def KnockOverWrongFalsely : Prop := knockOverRow.holds Tryd.pinned (OpenSpec.ofChange knockOverWrong)

/- THE SECOND FORM. 'bulk': how many values and letters a reading holds, each counted each time it is reached (what is shared counts as often as it is met; a slice's spare places count too). A statement '..UptoSaid' is the law's where the arguments, and the package variables that the reading takes, are together of bulk at most 1048576: NARROWER than '..Said'. Prove '..Said' where nothing that the law and all that it calls make is longer than what came in: it says more and counts as full. Else prove '..UptoSaid'. A law counts once. -/
mutual
def uptoBulk {H : Type} : DataW H → Nat
  | .lit (.string bytes) => bytes.length + 1
  | .lit _ => 1
  | .nil => 1
  | .ptr d => uptoBulk d + 1
  | .slice elems spare => uptoBulkAll elems + uptoBulkAll spare + 1
  | .agg parts => uptoBulkAll parts + 1
  | .iface _ d => uptoBulk d + 1
  | .map entries => uptoBulkEntries entries + 1
  | .held _ => 1
def uptoBulkAll {H : Type} : List (DataW H) → Nat
  | [] => 0
  | d :: r => uptoBulk d + uptoBulkAll r
def uptoBulkEntries {H : Type} : List (Lit × DataW H) → Nat
  | [] => 0
  | x :: r => uptoBulkEntry x + uptoBulkEntries r
def uptoBulkEntry {H : Type} : Lit × DataW H → Nat
  | (.string bytes, d) => bytes.length + uptoBulk d + 1
  | (_, d) => uptoBulk d + 1
 end
def uptoSmall : (H : Type) → List (DataW H) → Bool := fun _ ds => decide (uptoBulkAll ds ≤ 1048576)
def OpenSpec.upto (s : _root_.Go.ChangeSpec) : _root_.Go.OpenSpec := { _root_.Go.OpenSpec.ofChange s with cond := some uptoSmall }

/-- 'finesselaw38.KnockCarries', WHERE WHAT IT READS IS OF BULK AT MOST 1048576: true; the input reads as it did. -/
def knockCarriesUptoRow : OpenClaim := { program := "ytnnpdhccblelgaadoor", sum := "ee8227f01e51f9b8903191bac3d250766b93b0bcdd9a7f4561ee19c2a3cd6063", func := "finesse/finesselaw38.KnockCarries", spec := "knockCarries", unfollowed := true, recurses := true, named := ["finesse/finesselaw38.zero"], plainKeys := false, apart := false, laid := [("finesse/finesselaw38.zero", laid_finesse_finesselaw38_zero)], narrowed := true }
def KnockCarriesUptoSaid : Prop := knockCarriesUptoRow.holds Tryd.pinned (OpenSpec.upto knockCarriesSpec)

/-- 'finesselaw38.KnockSeeded', WHERE WHAT IT READS IS OF BULK AT MOST 1048576: true; the input reads as it did. -/
def knockSeededUptoRow : OpenClaim := { program := "ytnnpdhccblelgaadoor", sum := "ee8227f01e51f9b8903191bac3d250766b93b0bcdd9a7f4561ee19c2a3cd6063", func := "finesse/finesselaw38.KnockSeeded", spec := "knockSeeded", unfollowed := true, recurses := true, named := ["finesse/finesselaw38.zero"], plainKeys := false, apart := false, laid := [("finesse/finesselaw38.zero", laid_finesse_finesselaw38_zero)], narrowed := true }
def KnockSeededUptoSaid : Prop := knockSeededUptoRow.holds Tryd.pinned (OpenSpec.upto knockSeededSpec)

/-- 'finesselaw38.KnockBrackets', WHERE WHAT IT READS IS OF BULK AT MOST 1048576: true; the input reads as it did. -/
def knockBracketsUptoRow : OpenClaim := { program := "ytnnpdhccblelgaadoor", sum := "ee8227f01e51f9b8903191bac3d250766b93b0bcdd9a7f4561ee19c2a3cd6063", func := "finesse/finesselaw38.KnockBrackets", spec := "knockBrackets", unfollowed := true, recurses := true, named := ["finesse/finesselaw38.zero"], plainKeys := false, apart := false, laid := [("finesse/finesselaw38.zero", laid_finesse_finesselaw38_zero)], narrowed := true }
def KnockBracketsUptoSaid : Prop := knockBracketsUptoRow.holds Tryd.pinned (OpenSpec.upto knockBracketsSpec)

/-- 'finesselaw38.KnockCarry', WHERE WHAT IT READS IS OF BULK AT MOST 1048576: true; the input reads as it did. -/
def knockCarryUptoRow : OpenClaim := { program := "ytnnpdhccblelgaadoor", sum := "ee8227f01e51f9b8903191bac3d250766b93b0bcdd9a7f4561ee19c2a3cd6063", func := "finesse/finesselaw38.KnockCarry", spec := "knockCarry", unfollowed := true, recurses := true, named := ["finesse/finesselaw38.zero"], plainKeys := false, apart := false, laid := [("finesse/finesselaw38.zero", laid_finesse_finesselaw38_zero)], narrowed := true }
def KnockCarryUptoSaid : Prop := knockCarryUptoRow.holds Tryd.pinned (OpenSpec.upto knockCarrySpec)

/-- 'finesselaw38.KnockWrong', WHERE WHAT IT READS IS OF BULK AT MOST 1048576: true; the input reads as it did. -/
def knockWrongUptoRow : OpenClaim := { program := "ytnnpdhccblelgaadoor", sum := "ee8227f01e51f9b8903191bac3d250766b93b0bcdd9a7f4561ee19c2a3cd6063", func := "finesse/finesselaw38.KnockWrong", spec := "knockWrong", unfollowed := true, recurses := true, named := ["finesse/finesselaw38.zero"], plainKeys := false, apart := false, laid := [("finesse/finesselaw38.zero", laid_finesse_finesselaw38_zero)], narrowed := true }
def KnockWrongUptoSaid : Prop := knockWrongUptoRow.holds Tryd.pinned (OpenSpec.upto knockWrongSpec)

/-- 'finesselaw38.KnockGoes', WHERE WHAT IT READS IS OF BULK AT MOST 1048576: true; the input reads as it did. -/
def knockGoesUptoRow : OpenClaim := { program := "ytnnpdhccblelgaadoor", sum := "ee8227f01e51f9b8903191bac3d250766b93b0bcdd9a7f4561ee19c2a3cd6063", func := "finesse/finesselaw38.KnockGoes", spec := "knockGoes", unfollowed := true, recurses := true, named := ["finesse/finesselaw38.zero"], plainKeys := false, apart := false, laid := [("finesse/finesselaw38.zero", laid_finesse_finesselaw38_zero)], narrowed := true }
def KnockGoesUptoSaid : Prop := knockGoesUptoRow.holds Tryd.pinned (OpenSpec.upto knockGoesSpec)

/-- 'finesselaw38.KnockOver', WHERE WHAT IT READS IS OF BULK AT MOST 1048576: true; the input reads as it did. -/
def knockOverUptoRow : OpenClaim := { program := "ytnnpdhccblelgaadoor", sum := "ee8227f01e51f9b8903191bac3d250766b93b0bcdd9a7f4561ee19c2a3cd6063", func := "finesse/finesselaw38.KnockOver", spec := "knockOver", inPlace := ["math/bits.Add64", "math/bits.Sub64"], unfollowed := true, recurses := true, named := ["finesse/finesselaw38.zero", "math/bits.divideError", "math/bits.overflowError"], plainKeys := false, apart := false, laid := [("finesse/finesselaw38.zero", laid_finesse_finesselaw38_zero)], narrowed := true }
def KnockOverUptoSaid : Prop := knockOverUptoRow.holds Tryd.pinned (OpenSpec.upto knockOverSpec)

end Rows
end Go.Proofs.YtnnpdhccblelgaaDoor
