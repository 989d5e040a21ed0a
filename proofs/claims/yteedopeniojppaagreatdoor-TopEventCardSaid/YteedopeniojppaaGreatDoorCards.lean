/-
  DERIVED. GIVEN WITH THE SEED: THE CARDS: each row of YteedopeniojppaaGreatDoorRows.lean that lists a variable, with what it lists TIED to the program's text (the seventh form; the later family's looks); each row that meets fmt, with fmt's text TOLD by the authors' own Lean function (tested against real Go, not proved from fmt's source: count such statements apart). THE CARD IS WHAT COUNTS. Prove the row's statement (the work); the ties are given (YteedopeniojppaaGreatDoorTie.lean); close each card by the builder's one call (the guide's Derived/Test/ToyasCard.lean, 'card_holds'). Laid BY PROGRAM, IN A SANDBOX (cutbox-door.mjs). By AI agents, Wed Nov 11 2026. No macro, syntax, notation, axiom, sorry.
-/
import Derived.Test.YteedopeniojppaaGreatDoorRows
import GoSem.ClaimSeven
namespace Go.Proofs.YteedopeniojppaaGreatDoor
namespace Rows

/-- THE TIED CARD OF 'finessetop.TopEvent'. -/
def topEventCard : Claim7 := { stood := { row := topEventRow, standIns := [], harness := (true, "37a4ab67b139104a1ee7dee6214c53cb12677ae9ef3e34351685deaf27247ee5"), looks := false }, kinds := [], alts := [], laidByText := true, laidKinds := [.data, .data], laidTests := true, laidLooks := .later }
def TopEventCardSaid : Prop := Claim7.holds Tryz.pinned (.plain (OpenSpec.ofChange topEventSpec)) topEventCard

/-- THE SECOND FORM's CARD OF 'finessetop.TopEvent'. -/
def topEventUptoCard : Claim7 := { stood := { row := topEventUptoRow, standIns := [], harness := (true, "37a4ab67b139104a1ee7dee6214c53cb12677ae9ef3e34351685deaf27247ee5"), looks := false }, kinds := [], alts := [], laidByText := true, laidKinds := [.data, .data], laidTests := true, laidLooks := .later }
def TopEventUptoCardSaid : Prop := Claim7.holds Tryz.pinned (.plain (OpenSpec.upto topEventSpec)) topEventUptoCard
end Rows
end Go.Proofs.YteedopeniojppaaGreatDoor
