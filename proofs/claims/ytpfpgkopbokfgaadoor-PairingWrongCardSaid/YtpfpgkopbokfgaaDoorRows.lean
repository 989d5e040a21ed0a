/-
  NARROWER THAN 'FOR EVERY INPUT', by the rows' own cells (each row's printed sentence says how): PairingDraws: laid · PairingNamed: laid · PairingWrong: laid · PairingTells: laid · PairingSmall: laid · PairingBack: laid · PairingBest: laid · PairingFewer: laid · PairingRounds: laid.
  DERIVED. THE GIVEN ROWS OF THIS SEAT. 9 by the template 'for every input the law returns true; each argument reads behind the call as it read before'; 0 by the template 'total and deterministic' (their statements: YtpfpgkopbokfgaaDoorTotals.lean).
  GIVEN WITH THE SEED: the statements are not yours to turn. If you find one false, say at which input.
  Laid BY PROGRAM, IN A SANDBOX (cutbox-rows.mjs): the forced cells as the released guide's own fill.sh prints them over the translation 6188ddb5bc80bf31… (all of the seat's roots in one cut). By AI agents, Wed Nov 11 2026. No macro, syntax, notation, axiom, sorry.
-/
import Derived.Test.YtpfpgkopbokfgaaDoorChecked
import GoSem.Claim
import GoSem.ClaimJoined
import GoSem.ClaimMapViews
import Derived.JoinedTies
import Derived.KernelRfl
namespace Go.Proofs.YtpfpgkopbokfgaaDoor
/- THE CELL 'sum', in the pinned program and in every row, IS THE sha256 OF THE DUMP (.gsa) THAT YtpfpgkopbokfgaaDoorProg.lean LOADS. Nothing in Lean hashes anything: it is a label: what it is worth is what the hold of that sum in a sandbox is worth. -/
noncomputable def Tryd.pinned : Pinned := { name := "ytpfpgkopbokfgaadoor", sum := "6188ddb5bc80bf31ddd2f00e863affd31e582a58917f70b78480323a1064c754", checked := Tryd.checked }
namespace Rows
def none {H : Type} : Left H := { results := [], args := [] }

/- WHAT THE LISTED PACKAGE-LEVEL VARIABLES READ AS WHEN THE CALL BEGINS. Each datum BY PROGRAM (the guide's laid-datum.mjs) off the statement by which the dump's own 'gosem.cut.vars' lays the variable. In a bare row this is a premise. The card (YtpfpgkopbokfgaaDoorCards.lean) ties it to the program's text. -/
def laid_math_bits_deBruijn32tab {H : Type} : DataW H := .agg [.lit (.int .u8 0), .lit (.int .u8 1), .lit (.int .u8 28), .lit (.int .u8 2), .lit (.int .u8 29), .lit (.int .u8 14), .lit (.int .u8 24), .lit (.int .u8 3), .lit (.int .u8 30), .lit (.int .u8 22), .lit (.int .u8 20), .lit (.int .u8 15), .lit (.int .u8 25), .lit (.int .u8 17), .lit (.int .u8 4), .lit (.int .u8 8), .lit (.int .u8 31), .lit (.int .u8 27), .lit (.int .u8 13), .lit (.int .u8 23), .lit (.int .u8 21), .lit (.int .u8 19), .lit (.int .u8 16), .lit (.int .u8 7), .lit (.int .u8 26), .lit (.int .u8 12), .lit (.int .u8 18), .lit (.int .u8 6), .lit (.int .u8 11), .lit (.int .u8 5), .lit (.int .u8 10), .lit (.int .u8 9)]

/-- 'finesselaw36.PairingDraws': WHATEVER THE INPUT: true; the input reads as it did. -/
def pairingDrawsSpec : ChangeSpec := { name := "pairingDraws", fn := fun _ => fun
  | [d1, d2, d3] => { results := [.lit (.bool true)], args := [d1, d2, d3] }
  | _ => none }
def pairingDrawsRow : OpenClaim := { program := "ytpfpgkopbokfgaadoor", sum := "6188ddb5bc80bf31ddd2f00e863affd31e582a58917f70b78480323a1064c754", func := "finesse/finesselaw36.PairingDraws", spec := "pairingDraws", unfollowed := true, recurses := true, named := ["math/bits.deBruijn32tab"], apart := false, laid := [("math/bits.deBruijn32tab", laid_math_bits_deBruijn32tab)] }
def PairingDrawsSaid : Prop := pairingDrawsRow.holds Tryd.pinned (OpenSpec.ofChange pairingDrawsSpec)

/-- ITS FALSE NEIGHBOUR: 'it returns false'. Refute it at one input. -/
def pairingDrawsWrong : ChangeSpec := { name := "pairingDraws", fn := fun _ => fun
  | [d1, d2, d3] => { results := [.lit (.bool false)], args := [d1, d2, d3] }
  | _ => none }
def PairingDrawsWrongFalsely : Prop := pairingDrawsRow.holds Tryd.pinned (OpenSpec.ofChange pairingDrawsWrong)

/-- 'finesselaw36.PairingNamed': WHATEVER THE INPUT: true; the input reads as it did. -/
def pairingNamedSpec : ChangeSpec := { name := "pairingNamed", fn := fun _ => fun
  | [d1, d2, d3] => { results := [.lit (.bool true)], args := [d1, d2, d3] }
  | _ => none }
def pairingNamedRow : OpenClaim := { program := "ytpfpgkopbokfgaadoor", sum := "6188ddb5bc80bf31ddd2f00e863affd31e582a58917f70b78480323a1064c754", func := "finesse/finesselaw36.PairingNamed", spec := "pairingNamed", unfollowed := true, recurses := true, named := ["math/bits.deBruijn32tab"], apart := false, laid := [("math/bits.deBruijn32tab", laid_math_bits_deBruijn32tab)] }
def PairingNamedSaid : Prop := pairingNamedRow.holds Tryd.pinned (OpenSpec.ofChange pairingNamedSpec)

/-- ITS FALSE NEIGHBOUR: 'it returns false'. Refute it at one input. -/
def pairingNamedWrong : ChangeSpec := { name := "pairingNamed", fn := fun _ => fun
  | [d1, d2, d3] => { results := [.lit (.bool false)], args := [d1, d2, d3] }
  | _ => none }
def PairingNamedWrongFalsely : Prop := pairingNamedRow.holds Tryd.pinned (OpenSpec.ofChange pairingNamedWrong)

/-- 'finesselaw36.PairingWrong': WHATEVER THE INPUT: true; the input reads as it did. -/
def pairingWrongSpec : ChangeSpec := { name := "pairingWrong", fn := fun _ => fun
  | [d1, d2, d3] => { results := [.lit (.bool true)], args := [d1, d2, d3] }
  | _ => none }
def pairingWrongRow : OpenClaim := { program := "ytpfpgkopbokfgaadoor", sum := "6188ddb5bc80bf31ddd2f00e863affd31e582a58917f70b78480323a1064c754", func := "finesse/finesselaw36.PairingWrong", spec := "pairingWrong", unfollowed := true, recurses := true, named := ["math/bits.deBruijn32tab"], apart := false, laid := [("math/bits.deBruijn32tab", laid_math_bits_deBruijn32tab)] }
def PairingWrongSaid : Prop := pairingWrongRow.holds Tryd.pinned (OpenSpec.ofChange pairingWrongSpec)

/-- ITS FALSE NEIGHBOUR: 'it returns false'. Refute it at one input. -/
def pairingWrongWrong : ChangeSpec := { name := "pairingWrong", fn := fun _ => fun
  | [d1, d2, d3] => { results := [.lit (.bool false)], args := [d1, d2, d3] }
  | _ => none }
def PairingWrongWrongFalsely : Prop := pairingWrongRow.holds Tryd.pinned (OpenSpec.ofChange pairingWrongWrong)

/-- 'finesselaw36.PairingTells': WHATEVER THE INPUT: true; the input reads as it did. -/
def pairingTellsSpec : ChangeSpec := { name := "pairingTells", fn := fun _ => fun
  | [d1, d2, d3, d4, d5, d6] => { results := [.lit (.bool true)], args := [d1, d2, d3, d4, d5, d6] }
  | _ => none }
def pairingTellsRow : OpenClaim := { program := "ytpfpgkopbokfgaadoor", sum := "6188ddb5bc80bf31ddd2f00e863affd31e582a58917f70b78480323a1064c754", func := "finesse/finesselaw36.PairingTells", spec := "pairingTells", unfollowed := true, recurses := true, named := ["math/bits.deBruijn32tab"], apart := false, laid := [("math/bits.deBruijn32tab", laid_math_bits_deBruijn32tab)] }
def PairingTellsSaid : Prop := pairingTellsRow.holds Tryd.pinned (OpenSpec.ofChange pairingTellsSpec)

/-- ITS FALSE NEIGHBOUR: 'it returns false'. Refute it at one input. -/
def pairingTellsWrong : ChangeSpec := { name := "pairingTells", fn := fun _ => fun
  | [d1, d2, d3, d4, d5, d6] => { results := [.lit (.bool false)], args := [d1, d2, d3, d4, d5, d6] }
  | _ => none }
def PairingTellsWrongFalsely : Prop := pairingTellsRow.holds Tryd.pinned (OpenSpec.ofChange pairingTellsWrong)

/-- 'finesselaw36.PairingSmall': WHATEVER THE INPUT: true; the input reads as it did. -/
def pairingSmallSpec : ChangeSpec := { name := "pairingSmall", fn := fun _ => fun
  | [] => { results := [.lit (.bool true)], args := [] }
  | _ => none }
def pairingSmallRow : OpenClaim := { program := "ytpfpgkopbokfgaadoor", sum := "6188ddb5bc80bf31ddd2f00e863affd31e582a58917f70b78480323a1064c754", func := "finesse/finesselaw36.PairingSmall", spec := "pairingSmall", unfollowed := true, recurses := true, named := ["math/bits.deBruijn32tab"], apart := false, laid := [("math/bits.deBruijn32tab", laid_math_bits_deBruijn32tab)] }
def PairingSmallSaid : Prop := pairingSmallRow.holds Tryd.pinned (OpenSpec.ofChange pairingSmallSpec)

/-- ITS FALSE NEIGHBOUR: 'it returns false'. Refute it at one input. -/
def pairingSmallWrong : ChangeSpec := { name := "pairingSmall", fn := fun _ => fun
  | [] => { results := [.lit (.bool false)], args := [] }
  | _ => none }
def PairingSmallWrongFalsely : Prop := pairingSmallRow.holds Tryd.pinned (OpenSpec.ofChange pairingSmallWrong)

/-- 'finesselaw36.PairingBack': WHATEVER THE INPUT: true; the input reads as it did. -/
def pairingBackSpec : ChangeSpec := { name := "pairingBack", fn := fun _ => fun
  | [d1, d2] => { results := [.lit (.bool true)], args := [d1, d2] }
  | _ => none }
def pairingBackRow : OpenClaim := { program := "ytpfpgkopbokfgaadoor", sum := "6188ddb5bc80bf31ddd2f00e863affd31e582a58917f70b78480323a1064c754", func := "finesse/finesselaw36.PairingBack", spec := "pairingBack", unfollowed := true, recurses := true, named := ["math/bits.deBruijn32tab"], apart := false, laid := [("math/bits.deBruijn32tab", laid_math_bits_deBruijn32tab)] }
def PairingBackSaid : Prop := pairingBackRow.holds Tryd.pinned (OpenSpec.ofChange pairingBackSpec)

/-- ITS FALSE NEIGHBOUR: 'it returns false'. Refute it at one input. -/
def pairingBackWrong : ChangeSpec := { name := "pairingBack", fn := fun _ => fun
  | [d1, d2] => { results := [.lit (.bool false)], args := [d1, d2] }
  | _ => none }
def PairingBackWrongFalsely : Prop := pairingBackRow.holds Tryd.pinned (OpenSpec.ofChange pairingBackWrong)

/-- 'finesselaw36.PairingBest': WHATEVER THE INPUT: true; the input reads as it did. -/
def pairingBestSpec : ChangeSpec := { name := "pairingBest", fn := fun _ => fun
  | [d1, d2] => { results := [.lit (.bool true)], args := [d1, d2] }
  | _ => none }
def pairingBestRow : OpenClaim := { program := "ytpfpgkopbokfgaadoor", sum := "6188ddb5bc80bf31ddd2f00e863affd31e582a58917f70b78480323a1064c754", func := "finesse/finesselaw36.PairingBest", spec := "pairingBest", unfollowed := true, recurses := true, named := ["math/bits.deBruijn32tab"], apart := false, laid := [("math/bits.deBruijn32tab", laid_math_bits_deBruijn32tab)] }
def PairingBestSaid : Prop := pairingBestRow.holds Tryd.pinned (OpenSpec.ofChange pairingBestSpec)

/-- ITS FALSE NEIGHBOUR: 'it returns false'. Refute it at one input. -/
def pairingBestWrong : ChangeSpec := { name := "pairingBest", fn := fun _ => fun
  | [d1, d2] => { results := [.lit (.bool false)], args := [d1, d2] }
  | _ => none }
def PairingBestWrongFalsely : Prop := pairingBestRow.holds Tryd.pinned (OpenSpec.ofChange pairingBestWrong)

/-- 'finesselaw36.PairingFewer': WHATEVER THE INPUT: true; the input reads as it did. -/
def pairingFewerSpec : ChangeSpec := { name := "pairingFewer", fn := fun _ => fun
  | [d1, d2, d3, d4] => { results := [.lit (.bool true)], args := [d1, d2, d3, d4] }
  | _ => none }
def pairingFewerRow : OpenClaim := { program := "ytpfpgkopbokfgaadoor", sum := "6188ddb5bc80bf31ddd2f00e863affd31e582a58917f70b78480323a1064c754", func := "finesse/finesselaw36.PairingFewer", spec := "pairingFewer", unfollowed := true, recurses := true, named := ["math/bits.deBruijn32tab"], apart := false, laid := [("math/bits.deBruijn32tab", laid_math_bits_deBruijn32tab)] }
def PairingFewerSaid : Prop := pairingFewerRow.holds Tryd.pinned (OpenSpec.ofChange pairingFewerSpec)

/-- ITS FALSE NEIGHBOUR: 'it returns false'. Refute it at one input. -/
def pairingFewerWrong : ChangeSpec := { name := "pairingFewer", fn := fun _ => fun
  | [d1, d2, d3, d4] => { results := [.lit (.bool false)], args := [d1, d2, d3, d4] }
  | _ => none }
def PairingFewerWrongFalsely : Prop := pairingFewerRow.holds Tryd.pinned (OpenSpec.ofChange pairingFewerWrong)

/-- 'finesselaw36.PairingRounds': WHATEVER THE INPUT: true; the input reads as it did. -/
def pairingRoundsSpec : ChangeSpec := { name := "pairingRounds", fn := fun _ => fun
  | [d] => { results := [.lit (.bool true)], args := [d] }
  | _ => none }
def pairingRoundsRow : OpenClaim := { program := "ytpfpgkopbokfgaadoor", sum := "6188ddb5bc80bf31ddd2f00e863affd31e582a58917f70b78480323a1064c754", func := "finesse/finesselaw36.PairingRounds", spec := "pairingRounds", unfollowed := true, recurses := true, named := ["math/bits.deBruijn32tab"], apart := false, laid := [("math/bits.deBruijn32tab", laid_math_bits_deBruijn32tab)] }
def PairingRoundsSaid : Prop := pairingRoundsRow.holds Tryd.pinned (OpenSpec.ofChange pairingRoundsSpec)

/-- ITS FALSE NEIGHBOUR: 'it returns false'. Refute it at one input. -/
def pairingRoundsWrong : ChangeSpec := { name := "pairingRounds", fn := fun _ => fun
  | [d] => { results := [.lit (.bool false)], args := [d] }
  | _ => none }
def PairingRoundsWrongFalsely : Prop := pairingRoundsRow.holds Tryd.pinned (OpenSpec.ofChange pairingRoundsWrong)

/- THE SECOND FORM. 'bulk': how many values and letters a reading holds, each counted each time it is reached (what is shared counts as often as it is met; a slice's spare places count too). A statement '..UptoSaid' is the law's where the arguments, and the package variables that the reading takes, are together of bulk at most 1048576: NARROWER than '..Said'. Prove '..Said' where nothing that the law and all that it calls make is longer than what came in: it says more and counts as full. Else prove '..UptoSaid'. A law counts once. -/
mutual
def uptoBulk {H : Type} : DataW H → Nat
  | .lit (.string bytes) => bytes.length + 1
  | .lit _ => 1
  | .nil => 1
  | .ptr d => uptoBulk d + 1
  | .slice elems spare => uptoBulkAll elems + uptoBulkAll spare + 1
  | .agg parts => uptoBulkAll parts + 1
  | .iface _ d => uptoBulk d + 1
  | .map entries => uptoBulkEntries entries + 1
  | .held _ => 1
def uptoBulkAll {H : Type} : List (DataW H) → Nat
  | [] => 0
  | d :: r => uptoBulk d + uptoBulkAll r
def uptoBulkEntries {H : Type} : List (Lit × DataW H) → Nat
  | [] => 0
  | x :: r => uptoBulkEntry x + uptoBulkEntries r
def uptoBulkEntry {H : Type} : Lit × DataW H → Nat
  | (.string bytes, d) => bytes.length + uptoBulk d + 1
  | (_, d) => uptoBulk d + 1
 end
def uptoSmall : (H : Type) → List (DataW H) → Bool := fun _ ds => decide (uptoBulkAll ds ≤ 1048576)
def OpenSpec.upto (s : _root_.Go.ChangeSpec) : _root_.Go.OpenSpec := { _root_.Go.OpenSpec.ofChange s with cond := some uptoSmall }

/-- 'finesselaw36.PairingDraws', WHERE WHAT IT READS IS OF BULK AT MOST 1048576: true; the input reads as it did. -/
def pairingDrawsUptoRow : OpenClaim := { program := "ytpfpgkopbokfgaadoor", sum := "6188ddb5bc80bf31ddd2f00e863affd31e582a58917f70b78480323a1064c754", func := "finesse/finesselaw36.PairingDraws", spec := "pairingDraws", unfollowed := true, recurses := true, named := ["math/bits.deBruijn32tab"], apart := false, laid := [("math/bits.deBruijn32tab", laid_math_bits_deBruijn32tab)], narrowed := true }
def PairingDrawsUptoSaid : Prop := pairingDrawsUptoRow.holds Tryd.pinned (OpenSpec.upto pairingDrawsSpec)

/-- 'finesselaw36.PairingNamed', WHERE WHAT IT READS IS OF BULK AT MOST 1048576: true; the input reads as it did. -/
def pairingNamedUptoRow : OpenClaim := { program := "ytpfpgkopbokfgaadoor", sum := "6188ddb5bc80bf31ddd2f00e863affd31e582a58917f70b78480323a1064c754", func := "finesse/finesselaw36.PairingNamed", spec := "pairingNamed", unfollowed := true, recurses := true, named := ["math/bits.deBruijn32tab"], apart := false, laid := [("math/bits.deBruijn32tab", laid_math_bits_deBruijn32tab)], narrowed := true }
def PairingNamedUptoSaid : Prop := pairingNamedUptoRow.holds Tryd.pinned (OpenSpec.upto pairingNamedSpec)

/-- 'finesselaw36.PairingWrong', WHERE WHAT IT READS IS OF BULK AT MOST 1048576: true; the input reads as it did. -/
def pairingWrongUptoRow : OpenClaim := { program := "ytpfpgkopbokfgaadoor", sum := "6188ddb5bc80bf31ddd2f00e863affd31e582a58917f70b78480323a1064c754", func := "finesse/finesselaw36.PairingWrong", spec := "pairingWrong", unfollowed := true, recurses := true, named := ["math/bits.deBruijn32tab"], apart := false, laid := [("math/bits.deBruijn32tab", laid_math_bits_deBruijn32tab)], narrowed := true }
def PairingWrongUptoSaid : Prop := pairingWrongUptoRow.holds Tryd.pinned (OpenSpec.upto pairingWrongSpec)

/-- 'finesselaw36.PairingTells', WHERE WHAT IT READS IS OF BULK AT MOST 1048576: true; the input reads as it did. -/
def pairingTellsUptoRow : OpenClaim := { program := "ytpfpgkopbokfgaadoor", sum := "6188ddb5bc80bf31ddd2f00e863affd31e582a58917f70b78480323a1064c754", func := "finesse/finesselaw36.PairingTells", spec := "pairingTells", unfollowed := true, recurses := true, named := ["math/bits.deBruijn32tab"], apart := false, laid := [("math/bits.deBruijn32tab", laid_math_bits_deBruijn32tab)], narrowed := true }
def PairingTellsUptoSaid : Prop := pairingTellsUptoRow.holds Tryd.pinned (OpenSpec.upto pairingTellsSpec)

/-- 'finesselaw36.PairingSmall', WHERE WHAT IT READS IS OF BULK AT MOST 1048576: true; the input reads as it did. -/
def pairingSmallUptoRow : OpenClaim := { program := "ytpfpgkopbokfgaadoor", sum := "6188ddb5bc80bf31ddd2f00e863affd31e582a58917f70b78480323a1064c754", func := "finesse/finesselaw36.PairingSmall", spec := "pairingSmall", unfollowed := true, recurses := true, named := ["math/bits.deBruijn32tab"], apart := false, laid := [("math/bits.deBruijn32tab", laid_math_bits_deBruijn32tab)], narrowed := true }
def PairingSmallUptoSaid : Prop := pairingSmallUptoRow.holds Tryd.pinned (OpenSpec.upto pairingSmallSpec)

/-- 'finesselaw36.PairingBack', WHERE WHAT IT READS IS OF BULK AT MOST 1048576: true; the input reads as it did. -/
def pairingBackUptoRow : OpenClaim := { program := "ytpfpgkopbokfgaadoor", sum := "6188ddb5bc80bf31ddd2f00e863affd31e582a58917f70b78480323a1064c754", func := "finesse/finesselaw36.PairingBack", spec := "pairingBack", unfollowed := true, recurses := true, named := ["math/bits.deBruijn32tab"], apart := false, laid := [("math/bits.deBruijn32tab", laid_math_bits_deBruijn32tab)], narrowed := true }
def PairingBackUptoSaid : Prop := pairingBackUptoRow.holds Tryd.pinned (OpenSpec.upto pairingBackSpec)

/-- 'finesselaw36.PairingBest', WHERE WHAT IT READS IS OF BULK AT MOST 1048576: true; the input reads as it did. -/
def pairingBestUptoRow : OpenClaim := { program := "ytpfpgkopbokfgaadoor", sum := "6188ddb5bc80bf31ddd2f00e863affd31e582a58917f70b78480323a1064c754", func := "finesse/finesselaw36.PairingBest", spec := "pairingBest", unfollowed := true, recurses := true, named := ["math/bits.deBruijn32tab"], apart := false, laid := [("math/bits.deBruijn32tab", laid_math_bits_deBruijn32tab)], narrowed := true }
def PairingBestUptoSaid : Prop := pairingBestUptoRow.holds Tryd.pinned (OpenSpec.upto pairingBestSpec)

/-- 'finesselaw36.PairingFewer', WHERE WHAT IT READS IS OF BULK AT MOST 1048576: true; the input reads as it did. -/
def pairingFewerUptoRow : OpenClaim := { program := "ytpfpgkopbokfgaadoor", sum := "6188ddb5bc80bf31ddd2f00e863affd31e582a58917f70b78480323a1064c754", func := "finesse/finesselaw36.PairingFewer", spec := "pairingFewer", unfollowed := true, recurses := true, named := ["math/bits.deBruijn32tab"], apart := false, laid := [("math/bits.deBruijn32tab", laid_math_bits_deBruijn32tab)], narrowed := true }
def PairingFewerUptoSaid : Prop := pairingFewerUptoRow.holds Tryd.pinned (OpenSpec.upto pairingFewerSpec)

/-- 'finesselaw36.PairingRounds', WHERE WHAT IT READS IS OF BULK AT MOST 1048576: true; the input reads as it did. -/
def pairingRoundsUptoRow : OpenClaim := { program := "ytpfpgkopbokfgaadoor", sum := "6188ddb5bc80bf31ddd2f00e863affd31e582a58917f70b78480323a1064c754", func := "finesse/finesselaw36.PairingRounds", spec := "pairingRounds", unfollowed := true, recurses := true, named := ["math/bits.deBruijn32tab"], apart := false, laid := [("math/bits.deBruijn32tab", laid_math_bits_deBruijn32tab)], narrowed := true }
def PairingRoundsUptoSaid : Prop := pairingRoundsUptoRow.holds Tryd.pinned (OpenSpec.upto pairingRoundsSpec)

end Rows
end Go.Proofs.YtpfpgkopbokfgaaDoor
