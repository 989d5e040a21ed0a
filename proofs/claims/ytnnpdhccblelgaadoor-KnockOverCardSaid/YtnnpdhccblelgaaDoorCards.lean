/-
  DERIVED. GIVEN WITH THE SEED: THE CARDS: each row of YtnnpdhccblelgaaDoorRows.lean that lists a variable, with what it lists TIED to the program's text (the seventh form; the later family's looks); each row that meets fmt, with fmt's text TOLD by the authors' own Lean function (tested against real Go, not proved from fmt's source: count such statements apart). THE CARD IS WHAT COUNTS. Prove the row's statement (the work); the ties are given (YtnnpdhccblelgaaDoorTie.lean); close each card by the builder's one call (the guide's Derived/Test/ToyasCard.lean, 'card_holds'). Laid BY PROGRAM, IN A SANDBOX (cutbox-door.mjs). By AI agents, Wed Nov 11 2026. No macro, syntax, notation, axiom, sorry.
-/
import Derived.Test.YtnnpdhccblelgaaDoorRows
import GoSem.ClaimSeven
namespace Go.Proofs.YtnnpdhccblelgaaDoor
namespace Rows

/-- THE TIED CARD OF 'finesselaw38.KnockCarries'. -/
def knockCarriesCard : Claim7 := { stood := { row := knockCarriesRow, standIns := [], harness := (true, "d5969b4cae48b4c80dff2325d90b0ebe294412b26d02c27febe0172310b156d7"), looks := false }, kinds := [], alts := [], laidByText := true, laidKinds := [.data], laidTests := true, laidLooks := .later }
def KnockCarriesCardSaid : Prop := Claim7.holds Tryd.pinned (.plain (OpenSpec.ofChange knockCarriesSpec)) knockCarriesCard

/-- THE TIED CARD OF 'finesselaw38.KnockSeeded'. -/
def knockSeededCard : Claim7 := { stood := { row := knockSeededRow, standIns := [], harness := (true, "d5969b4cae48b4c80dff2325d90b0ebe294412b26d02c27febe0172310b156d7"), looks := false }, kinds := [], alts := [], laidByText := true, laidKinds := [.data], laidTests := true, laidLooks := .later }
def KnockSeededCardSaid : Prop := Claim7.holds Tryd.pinned (.plain (OpenSpec.ofChange knockSeededSpec)) knockSeededCard

/-- THE TIED CARD OF 'finesselaw38.KnockBrackets'. -/
def knockBracketsCard : Claim7 := { stood := { row := knockBracketsRow, standIns := [], harness := (true, "d5969b4cae48b4c80dff2325d90b0ebe294412b26d02c27febe0172310b156d7"), looks := false }, kinds := [], alts := [], laidByText := true, laidKinds := [.data], laidTests := true, laidLooks := .later }
def KnockBracketsCardSaid : Prop := Claim7.holds Tryd.pinned (.plain (OpenSpec.ofChange knockBracketsSpec)) knockBracketsCard

/-- THE TIED CARD OF 'finesselaw38.KnockCarry'. -/
def knockCarryCard : Claim7 := { stood := { row := knockCarryRow, standIns := [], harness := (true, "d5969b4cae48b4c80dff2325d90b0ebe294412b26d02c27febe0172310b156d7"), looks := false }, kinds := [], alts := [], laidByText := true, laidKinds := [.data], laidTests := true, laidLooks := .later }
def KnockCarryCardSaid : Prop := Claim7.holds Tryd.pinned (.plain (OpenSpec.ofChange knockCarrySpec)) knockCarryCard

/-- THE TIED CARD OF 'finesselaw38.KnockWrong'. -/
def knockWrongCard : Claim7 := { stood := { row := knockWrongRow, standIns := [], harness := (true, "d5969b4cae48b4c80dff2325d90b0ebe294412b26d02c27febe0172310b156d7"), looks := false }, kinds := [], alts := [], laidByText := true, laidKinds := [.data], laidTests := true, laidLooks := .later }
def KnockWrongCardSaid : Prop := Claim7.holds Tryd.pinned (.plain (OpenSpec.ofChange knockWrongSpec)) knockWrongCard

/-- THE TIED CARD OF 'finesselaw38.KnockGoes'. -/
def knockGoesCard : Claim7 := { stood := { row := knockGoesRow, standIns := [], harness := (true, "d5969b4cae48b4c80dff2325d90b0ebe294412b26d02c27febe0172310b156d7"), looks := false }, kinds := [], alts := [], laidByText := true, laidKinds := [.data], laidTests := true, laidLooks := .later }
def KnockGoesCardSaid : Prop := Claim7.holds Tryd.pinned (.plain (OpenSpec.ofChange knockGoesSpec)) knockGoesCard

/-- THE TIED CARD OF 'finesselaw38.KnockOver'. -/
def knockOverCard : Claim7 := { stood := { row := knockOverRow, standIns := [], harness := (true, "d5969b4cae48b4c80dff2325d90b0ebe294412b26d02c27febe0172310b156d7"), looks := false }, kinds := [], alts := [], laidByText := true, laidKinds := [.data], laidTests := true, laidLooks := .later }
def KnockOverCardSaid : Prop := Claim7.holds Tryd.pinned (.plain (OpenSpec.ofChange knockOverSpec)) knockOverCard

/-- THE SECOND FORM's CARD OF 'finesselaw38.KnockCarries'. -/
def knockCarriesUptoCard : Claim7 := { stood := { row := knockCarriesUptoRow, standIns := [], harness := (true, "d5969b4cae48b4c80dff2325d90b0ebe294412b26d02c27febe0172310b156d7"), looks := false }, kinds := [], alts := [], laidByText := true, laidKinds := [.data], laidTests := true, laidLooks := .later }
def KnockCarriesUptoCardSaid : Prop := Claim7.holds Tryd.pinned (.plain (OpenSpec.upto knockCarriesSpec)) knockCarriesUptoCard

/-- THE SECOND FORM's CARD OF 'finesselaw38.KnockSeeded'. -/
def knockSeededUptoCard : Claim7 := { stood := { row := knockSeededUptoRow, standIns := [], harness := (true, "d5969b4cae48b4c80dff2325d90b0ebe294412b26d02c27febe0172310b156d7"), looks := false }, kinds := [], alts := [], laidByText := true, laidKinds := [.data], laidTests := true, laidLooks := .later }
def KnockSeededUptoCardSaid : Prop := Claim7.holds Tryd.pinned (.plain (OpenSpec.upto knockSeededSpec)) knockSeededUptoCard

/-- THE SECOND FORM's CARD OF 'finesselaw38.KnockBrackets'. -/
def knockBracketsUptoCard : Claim7 := { stood := { row := knockBracketsUptoRow, standIns := [], harness := (true, "d5969b4cae48b4c80dff2325d90b0ebe294412b26d02c27febe0172310b156d7"), looks := false }, kinds := [], alts := [], laidByText := true, laidKinds := [.data], laidTests := true, laidLooks := .later }
def KnockBracketsUptoCardSaid : Prop := Claim7.holds Tryd.pinned (.plain (OpenSpec.upto knockBracketsSpec)) knockBracketsUptoCard

/-- THE SECOND FORM's CARD OF 'finesselaw38.KnockCarry'. -/
def knockCarryUptoCard : Claim7 := { stood := { row := knockCarryUptoRow, standIns := [], harness := (true, "d5969b4cae48b4c80dff2325d90b0ebe294412b26d02c27febe0172310b156d7"), looks := false }, kinds := [], alts := [], laidByText := true, laidKinds := [.data], laidTests := true, laidLooks := .later }
def KnockCarryUptoCardSaid : Prop := Claim7.holds Tryd.pinned (.plain (OpenSpec.upto knockCarrySpec)) knockCarryUptoCard

/-- THE SECOND FORM's CARD OF 'finesselaw38.KnockWrong'. -/
def knockWrongUptoCard : Claim7 := { stood := { row := knockWrongUptoRow, standIns := [], harness := (true, "d5969b4cae48b4c80dff2325d90b0ebe294412b26d02c27febe0172310b156d7"), looks := false }, kinds := [], alts := [], laidByText := true, laidKinds := [.data], laidTests := true, laidLooks := .later }
def KnockWrongUptoCardSaid : Prop := Claim7.holds Tryd.pinned (.plain (OpenSpec.upto knockWrongSpec)) knockWrongUptoCard

/-- THE SECOND FORM's CARD OF 'finesselaw38.KnockGoes'. -/
def knockGoesUptoCard : Claim7 := { stood := { row := knockGoesUptoRow, standIns := [], harness := (true, "d5969b4cae48b4c80dff2325d90b0ebe294412b26d02c27febe0172310b156d7"), looks := false }, kinds := [], alts := [], laidByText := true, laidKinds := [.data], laidTests := true, laidLooks := .later }
def KnockGoesUptoCardSaid : Prop := Claim7.holds Tryd.pinned (.plain (OpenSpec.upto knockGoesSpec)) knockGoesUptoCard

/-- THE SECOND FORM's CARD OF 'finesselaw38.KnockOver'. -/
def knockOverUptoCard : Claim7 := { stood := { row := knockOverUptoRow, standIns := [], harness := (true, "d5969b4cae48b4c80dff2325d90b0ebe294412b26d02c27febe0172310b156d7"), looks := false }, kinds := [], alts := [], laidByText := true, laidKinds := [.data], laidTests := true, laidLooks := .later }
def KnockOverUptoCardSaid : Prop := Claim7.holds Tryd.pinned (.plain (OpenSpec.upto knockOverSpec)) knockOverUptoCard
end Rows
end Go.Proofs.YtnnpdhccblelgaaDoor
