/-
  DERIVED. GIVEN WITH THE SEED: THE CARDS: each row of YtamffdgopknkfaaGreatDoorRows.lean that lists a variable, with what it lists TIED to the program's text (the seventh form; the later family's looks); each row that meets fmt, with fmt's text TOLD by the authors' own Lean function (tested against real Go, not proved from fmt's source: count such statements apart). THE CARD IS WHAT COUNTS. Prove the row's statement (the work); the ties are given (YtamffdgopknkfaaGreatDoorTie.lean); close each card by the builder's one call (the guide's Derived/Test/ToyasCard.lean, 'card_holds'). Laid BY PROGRAM, IN A SANDBOX (cutbox-door.mjs). By AI agents, Wed Nov 11 2026. No macro, syntax, notation, axiom, sorry.
-/
import Derived.Test.YtamffdgopknkfaaGreatDoorRows
import GoSem.ClaimSeven
namespace Go.Proofs.YtamffdgopknkfaaGreatDoor
namespace Rows

/-- THE TIED CARD OF 'finesselaw39.EventCarries'. -/
def eventCarriesCard : Claim7 := { stood := { row := eventCarriesRow, standIns := [], harness := (true, "3e490dc0ee2b3c5546633fea5ccb78a6c3fa2b241d22d711ed66fe6bd0d75fc7"), looks := false }, kinds := [], alts := [], laidByText := true, laidKinds := [.data], laidTests := true, laidLooks := .later }
def EventCarriesCardSaid : Prop := Claim7.holds Tryz.pinned (.plain (OpenSpec.ofChange eventCarriesSpec)) eventCarriesCard

/-- THE TIED CARD OF 'finesselaw39.EventSmall'. -/
def eventSmallCard : Claim7 := { stood := { row := eventSmallRow, standIns := [], harness := (true, "3e490dc0ee2b3c5546633fea5ccb78a6c3fa2b241d22d711ed66fe6bd0d75fc7"), looks := false }, kinds := [], alts := [], laidByText := true, laidKinds := [.data], laidTests := true, laidLooks := .later }
def EventSmallCardSaid : Prop := Claim7.holds Tryz.pinned (.plain (OpenSpec.ofChange eventSmallSpec)) eventSmallCard

/-- THE SECOND FORM's CARD OF 'finesselaw39.EventCarries'. -/
def eventCarriesUptoCard : Claim7 := { stood := { row := eventCarriesUptoRow, standIns := [], harness := (true, "3e490dc0ee2b3c5546633fea5ccb78a6c3fa2b241d22d711ed66fe6bd0d75fc7"), looks := false }, kinds := [], alts := [], laidByText := true, laidKinds := [.data], laidTests := true, laidLooks := .later }
def EventCarriesUptoCardSaid : Prop := Claim7.holds Tryz.pinned (.plain (OpenSpec.upto eventCarriesSpec)) eventCarriesUptoCard

/-- THE SECOND FORM's CARD OF 'finesselaw39.EventSmall'. -/
def eventSmallUptoCard : Claim7 := { stood := { row := eventSmallUptoRow, standIns := [], harness := (true, "3e490dc0ee2b3c5546633fea5ccb78a6c3fa2b241d22d711ed66fe6bd0d75fc7"), looks := false }, kinds := [], alts := [], laidByText := true, laidKinds := [.data], laidTests := true, laidLooks := .later }
def EventSmallUptoCardSaid : Prop := Claim7.holds Tryz.pinned (.plain (OpenSpec.upto eventSmallSpec)) eventSmallUptoCard
end Rows
end Go.Proofs.YtamffdgopknkfaaGreatDoor
