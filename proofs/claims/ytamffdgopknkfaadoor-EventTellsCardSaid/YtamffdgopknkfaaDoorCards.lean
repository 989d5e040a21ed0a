/-
  DERIVED. GIVEN WITH THE SEED: THE CARDS: each row of YtamffdgopknkfaaDoorRows.lean that lists a variable, with what it lists TIED to the program's text (the seventh form; the later family's looks); each row that meets fmt, with fmt's text TOLD by the authors' own Lean function (tested against real Go, not proved from fmt's source: count such statements apart). THE CARD IS WHAT COUNTS. Prove the row's statement (the work); the ties are given (YtamffdgopknkfaaDoorTie.lean); close each card by the builder's one call (the guide's Derived/Test/ToyasCard.lean, 'card_holds'). Laid BY PROGRAM, IN A SANDBOX (cutbox-door.mjs). By AI agents, Wed Nov 11 2026. No macro, syntax, notation, axiom, sorry.
-/
import Derived.Test.YtamffdgopknkfaaDoorRows
import GoSem.ClaimSeven
namespace Go.Proofs.YtamffdgopknkfaaDoor
namespace Rows

/-- THE TIED CARD OF 'finesselaw39.EventMeets'. -/
def eventMeetsCard : Claim7 := { stood := { row := eventMeetsRow, standIns := [], harness := (true, "e6354b7134a46f3be342d7173802817f904f0c4b1f8b9b8c95794b6e541b30e1"), looks := false }, kinds := [], alts := [], laidByText := true, laidKinds := [.data], laidTests := true, laidLooks := .later }
def EventMeetsCardSaid : Prop := Claim7.holds Tryd.pinned (.plain (OpenSpec.ofChange eventMeetsSpec)) eventMeetsCard

/-- THE TIED CARD OF 'finesselaw39.EventTable'. -/
def eventTableCard : Claim7 := { stood := { row := eventTableRow, standIns := [], harness := (true, "e6354b7134a46f3be342d7173802817f904f0c4b1f8b9b8c95794b6e541b30e1"), looks := false }, kinds := [], alts := [], laidByText := true, laidKinds := [.data], laidTests := true, laidLooks := .later }
def EventTableCardSaid : Prop := Claim7.holds Tryd.pinned (.plain (OpenSpec.ofChange eventTableSpec)) eventTableCard

/-- THE TIED CARD OF 'finesselaw39.EventEarly'. -/
def eventEarlyCard : Claim7 := { stood := { row := eventEarlyRow, standIns := [], harness := (true, "e6354b7134a46f3be342d7173802817f904f0c4b1f8b9b8c95794b6e541b30e1"), looks := false }, kinds := [], alts := [], laidByText := true, laidKinds := [.data], laidTests := true, laidLooks := .later }
def EventEarlyCardSaid : Prop := Claim7.holds Tryd.pinned (.plain (OpenSpec.ofChange eventEarlySpec)) eventEarlyCard

/-- THE TIED CARD OF 'finesselaw39.EventTells'. -/
def eventTellsCard : Claim7 := { stood := { row := eventTellsRow, standIns := [], harness := (true, "e6354b7134a46f3be342d7173802817f904f0c4b1f8b9b8c95794b6e541b30e1"), looks := false }, kinds := [], alts := [], laidByText := true, laidKinds := [.data], laidTests := true, laidLooks := .later }
def EventTellsCardSaid : Prop := Claim7.holds Tryd.pinned (.plain (OpenSpec.ofChange eventTellsSpec)) eventTellsCard

/-- THE TIED CARD OF 'finesselaw39.EventOrder'. -/
def eventOrderCard : Claim7 := { stood := { row := eventOrderRow, standIns := [], harness := (true, "e6354b7134a46f3be342d7173802817f904f0c4b1f8b9b8c95794b6e541b30e1"), looks := false }, kinds := [], alts := [], laidByText := true, laidKinds := [.data], laidTests := true, laidLooks := .later }
def EventOrderCardSaid : Prop := Claim7.holds Tryd.pinned (.plain (OpenSpec.ofChange eventOrderSpec)) eventOrderCard

/-- THE TIED CARD OF 'finesselaw39.EventWrong'. -/
def eventWrongCard : Claim7 := { stood := { row := eventWrongRow, standIns := [], harness := (true, "e6354b7134a46f3be342d7173802817f904f0c4b1f8b9b8c95794b6e541b30e1"), looks := false }, kinds := [], alts := [], laidByText := true, laidKinds := [.data], laidTests := true, laidLooks := .later }
def EventWrongCardSaid : Prop := Claim7.holds Tryd.pinned (.plain (OpenSpec.ofChange eventWrongSpec)) eventWrongCard

/-- THE TIED CARD OF 'finesselaw39.EventForward'. -/
def eventForwardCard : Claim7 := { stood := { row := eventForwardRow, standIns := [], harness := (true, "e6354b7134a46f3be342d7173802817f904f0c4b1f8b9b8c95794b6e541b30e1"), looks := false }, kinds := [], alts := [], laidByText := true, laidKinds := [.data], laidTests := true, laidLooks := .later }
def EventForwardCardSaid : Prop := Claim7.holds Tryd.pinned (.plain (OpenSpec.ofChange eventForwardSpec)) eventForwardCard

/-- THE SECOND FORM's CARD OF 'finesselaw39.EventMeets'. -/
def eventMeetsUptoCard : Claim7 := { stood := { row := eventMeetsUptoRow, standIns := [], harness := (true, "e6354b7134a46f3be342d7173802817f904f0c4b1f8b9b8c95794b6e541b30e1"), looks := false }, kinds := [], alts := [], laidByText := true, laidKinds := [.data], laidTests := true, laidLooks := .later }
def EventMeetsUptoCardSaid : Prop := Claim7.holds Tryd.pinned (.plain (OpenSpec.upto eventMeetsSpec)) eventMeetsUptoCard

/-- THE SECOND FORM's CARD OF 'finesselaw39.EventTable'. -/
def eventTableUptoCard : Claim7 := { stood := { row := eventTableUptoRow, standIns := [], harness := (true, "e6354b7134a46f3be342d7173802817f904f0c4b1f8b9b8c95794b6e541b30e1"), looks := false }, kinds := [], alts := [], laidByText := true, laidKinds := [.data], laidTests := true, laidLooks := .later }
def EventTableUptoCardSaid : Prop := Claim7.holds Tryd.pinned (.plain (OpenSpec.upto eventTableSpec)) eventTableUptoCard

/-- THE SECOND FORM's CARD OF 'finesselaw39.EventEarly'. -/
def eventEarlyUptoCard : Claim7 := { stood := { row := eventEarlyUptoRow, standIns := [], harness := (true, "e6354b7134a46f3be342d7173802817f904f0c4b1f8b9b8c95794b6e541b30e1"), looks := false }, kinds := [], alts := [], laidByText := true, laidKinds := [.data], laidTests := true, laidLooks := .later }
def EventEarlyUptoCardSaid : Prop := Claim7.holds Tryd.pinned (.plain (OpenSpec.upto eventEarlySpec)) eventEarlyUptoCard

/-- THE SECOND FORM's CARD OF 'finesselaw39.EventTells'. -/
def eventTellsUptoCard : Claim7 := { stood := { row := eventTellsUptoRow, standIns := [], harness := (true, "e6354b7134a46f3be342d7173802817f904f0c4b1f8b9b8c95794b6e541b30e1"), looks := false }, kinds := [], alts := [], laidByText := true, laidKinds := [.data], laidTests := true, laidLooks := .later }
def EventTellsUptoCardSaid : Prop := Claim7.holds Tryd.pinned (.plain (OpenSpec.upto eventTellsSpec)) eventTellsUptoCard

/-- THE SECOND FORM's CARD OF 'finesselaw39.EventOrder'. -/
def eventOrderUptoCard : Claim7 := { stood := { row := eventOrderUptoRow, standIns := [], harness := (true, "e6354b7134a46f3be342d7173802817f904f0c4b1f8b9b8c95794b6e541b30e1"), looks := false }, kinds := [], alts := [], laidByText := true, laidKinds := [.data], laidTests := true, laidLooks := .later }
def EventOrderUptoCardSaid : Prop := Claim7.holds Tryd.pinned (.plain (OpenSpec.upto eventOrderSpec)) eventOrderUptoCard

/-- THE SECOND FORM's CARD OF 'finesselaw39.EventWrong'. -/
def eventWrongUptoCard : Claim7 := { stood := { row := eventWrongUptoRow, standIns := [], harness := (true, "e6354b7134a46f3be342d7173802817f904f0c4b1f8b9b8c95794b6e541b30e1"), looks := false }, kinds := [], alts := [], laidByText := true, laidKinds := [.data], laidTests := true, laidLooks := .later }
def EventWrongUptoCardSaid : Prop := Claim7.holds Tryd.pinned (.plain (OpenSpec.upto eventWrongSpec)) eventWrongUptoCard

/-- THE SECOND FORM's CARD OF 'finesselaw39.EventForward'. -/
def eventForwardUptoCard : Claim7 := { stood := { row := eventForwardUptoRow, standIns := [], harness := (true, "e6354b7134a46f3be342d7173802817f904f0c4b1f8b9b8c95794b6e541b30e1"), looks := false }, kinds := [], alts := [], laidByText := true, laidKinds := [.data], laidTests := true, laidLooks := .later }
def EventForwardUptoCardSaid : Prop := Claim7.holds Tryd.pinned (.plain (OpenSpec.upto eventForwardSpec)) eventForwardUptoCard
end Rows
end Go.Proofs.YtamffdgopknkfaaDoor
