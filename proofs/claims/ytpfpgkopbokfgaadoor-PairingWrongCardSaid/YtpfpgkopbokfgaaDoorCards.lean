/-
  DERIVED. GIVEN WITH THE SEED: THE CARDS: each row of YtpfpgkopbokfgaaDoorRows.lean that lists a variable, with what it lists TIED to the program's text (the seventh form; the later family's looks); each row that meets fmt, with fmt's text TOLD by the authors' own Lean function (tested against real Go, not proved from fmt's source: count such statements apart). THE CARD IS WHAT COUNTS. Prove the row's statement (the work); the ties are given (YtpfpgkopbokfgaaDoorTie.lean); close each card by the builder's one call (the guide's Derived/Test/ToyasCard.lean, 'card_holds'). Laid BY PROGRAM, IN A SANDBOX (cutbox-door.mjs). By AI agents, Wed Nov 11 2026. No macro, syntax, notation, axiom, sorry.
-/
import Derived.Test.YtpfpgkopbokfgaaDoorRows
import GoSem.ClaimSeven
namespace Go.Proofs.YtpfpgkopbokfgaaDoor
namespace Rows

/-- THE TIED CARD OF 'finesselaw36.PairingDraws'. -/
def pairingDrawsCard : Claim7 := { stood := { row := pairingDrawsRow, standIns := [], harness := (true, "1013e1003566c1ae88aa8db85278b8633ccde28bd43c4e57c13654a54b7c53bc"), looks := false }, kinds := [], alts := [], laidByText := true, laidKinds := [.data], laidTests := true, laidLooks := .later }
def PairingDrawsCardSaid : Prop := Claim7.holds Tryd.pinned (.plain (OpenSpec.ofChange pairingDrawsSpec)) pairingDrawsCard

/-- THE TIED CARD OF 'finesselaw36.PairingNamed'. -/
def pairingNamedCard : Claim7 := { stood := { row := pairingNamedRow, standIns := [], harness := (true, "1013e1003566c1ae88aa8db85278b8633ccde28bd43c4e57c13654a54b7c53bc"), looks := false }, kinds := [], alts := [], laidByText := true, laidKinds := [.data], laidTests := true, laidLooks := .later }
def PairingNamedCardSaid : Prop := Claim7.holds Tryd.pinned (.plain (OpenSpec.ofChange pairingNamedSpec)) pairingNamedCard

/-- THE TIED CARD OF 'finesselaw36.PairingWrong'. -/
def pairingWrongCard : Claim7 := { stood := { row := pairingWrongRow, standIns := [], harness := (true, "1013e1003566c1ae88aa8db85278b8633ccde28bd43c4e57c13654a54b7c53bc"), looks := false }, kinds := [], alts := [], laidByText := true, laidKinds := [.data], laidTests := true, laidLooks := .later }
def PairingWrongCardSaid : Prop := Claim7.holds Tryd.pinned (.plain (OpenSpec.ofChange pairingWrongSpec)) pairingWrongCard

/-- THE TIED CARD OF 'finesselaw36.PairingTells'. -/
def pairingTellsCard : Claim7 := { stood := { row := pairingTellsRow, standIns := [], harness := (true, "1013e1003566c1ae88aa8db85278b8633ccde28bd43c4e57c13654a54b7c53bc"), looks := false }, kinds := [], alts := [], laidByText := true, laidKinds := [.data], laidTests := true, laidLooks := .later }
def PairingTellsCardSaid : Prop := Claim7.holds Tryd.pinned (.plain (OpenSpec.ofChange pairingTellsSpec)) pairingTellsCard

/-- THE TIED CARD OF 'finesselaw36.PairingSmall'. -/
def pairingSmallCard : Claim7 := { stood := { row := pairingSmallRow, standIns := [], harness := (true, "1013e1003566c1ae88aa8db85278b8633ccde28bd43c4e57c13654a54b7c53bc"), looks := false }, kinds := [], alts := [], laidByText := true, laidKinds := [.data], laidTests := true, laidLooks := .later }
def PairingSmallCardSaid : Prop := Claim7.holds Tryd.pinned (.plain (OpenSpec.ofChange pairingSmallSpec)) pairingSmallCard

/-- THE TIED CARD OF 'finesselaw36.PairingBack'. -/
def pairingBackCard : Claim7 := { stood := { row := pairingBackRow, standIns := [], harness := (true, "1013e1003566c1ae88aa8db85278b8633ccde28bd43c4e57c13654a54b7c53bc"), looks := false }, kinds := [], alts := [], laidByText := true, laidKinds := [.data], laidTests := true, laidLooks := .later }
def PairingBackCardSaid : Prop := Claim7.holds Tryd.pinned (.plain (OpenSpec.ofChange pairingBackSpec)) pairingBackCard

/-- THE TIED CARD OF 'finesselaw36.PairingBest'. -/
def pairingBestCard : Claim7 := { stood := { row := pairingBestRow, standIns := [], harness := (true, "1013e1003566c1ae88aa8db85278b8633ccde28bd43c4e57c13654a54b7c53bc"), looks := false }, kinds := [], alts := [], laidByText := true, laidKinds := [.data], laidTests := true, laidLooks := .later }
def PairingBestCardSaid : Prop := Claim7.holds Tryd.pinned (.plain (OpenSpec.ofChange pairingBestSpec)) pairingBestCard

/-- THE TIED CARD OF 'finesselaw36.PairingFewer'. -/
def pairingFewerCard : Claim7 := { stood := { row := pairingFewerRow, standIns := [], harness := (true, "1013e1003566c1ae88aa8db85278b8633ccde28bd43c4e57c13654a54b7c53bc"), looks := false }, kinds := [], alts := [], laidByText := true, laidKinds := [.data], laidTests := true, laidLooks := .later }
def PairingFewerCardSaid : Prop := Claim7.holds Tryd.pinned (.plain (OpenSpec.ofChange pairingFewerSpec)) pairingFewerCard

/-- THE TIED CARD OF 'finesselaw36.PairingRounds'. -/
def pairingRoundsCard : Claim7 := { stood := { row := pairingRoundsRow, standIns := [], harness := (true, "1013e1003566c1ae88aa8db85278b8633ccde28bd43c4e57c13654a54b7c53bc"), looks := false }, kinds := [], alts := [], laidByText := true, laidKinds := [.data], laidTests := true, laidLooks := .later }
def PairingRoundsCardSaid : Prop := Claim7.holds Tryd.pinned (.plain (OpenSpec.ofChange pairingRoundsSpec)) pairingRoundsCard

/-- THE SECOND FORM's CARD OF 'finesselaw36.PairingDraws'. -/
def pairingDrawsUptoCard : Claim7 := { stood := { row := pairingDrawsUptoRow, standIns := [], harness := (true, "1013e1003566c1ae88aa8db85278b8633ccde28bd43c4e57c13654a54b7c53bc"), looks := false }, kinds := [], alts := [], laidByText := true, laidKinds := [.data], laidTests := true, laidLooks := .later }
def PairingDrawsUptoCardSaid : Prop := Claim7.holds Tryd.pinned (.plain (OpenSpec.upto pairingDrawsSpec)) pairingDrawsUptoCard

/-- THE SECOND FORM's CARD OF 'finesselaw36.PairingNamed'. -/
def pairingNamedUptoCard : Claim7 := { stood := { row := pairingNamedUptoRow, standIns := [], harness := (true, "1013e1003566c1ae88aa8db85278b8633ccde28bd43c4e57c13654a54b7c53bc"), looks := false }, kinds := [], alts := [], laidByText := true, laidKinds := [.data], laidTests := true, laidLooks := .later }
def PairingNamedUptoCardSaid : Prop := Claim7.holds Tryd.pinned (.plain (OpenSpec.upto pairingNamedSpec)) pairingNamedUptoCard

/-- THE SECOND FORM's CARD OF 'finesselaw36.PairingWrong'. -/
def pairingWrongUptoCard : Claim7 := { stood := { row := pairingWrongUptoRow, standIns := [], harness := (true, "1013e1003566c1ae88aa8db85278b8633ccde28bd43c4e57c13654a54b7c53bc"), looks := false }, kinds := [], alts := [], laidByText := true, laidKinds := [.data], laidTests := true, laidLooks := .later }
def PairingWrongUptoCardSaid : Prop := Claim7.holds Tryd.pinned (.plain (OpenSpec.upto pairingWrongSpec)) pairingWrongUptoCard

/-- THE SECOND FORM's CARD OF 'finesselaw36.PairingTells'. -/
def pairingTellsUptoCard : Claim7 := { stood := { row := pairingTellsUptoRow, standIns := [], harness := (true, "1013e1003566c1ae88aa8db85278b8633ccde28bd43c4e57c13654a54b7c53bc"), looks := false }, kinds := [], alts := [], laidByText := true, laidKinds := [.data], laidTests := true, laidLooks := .later }
def PairingTellsUptoCardSaid : Prop := Claim7.holds Tryd.pinned (.plain (OpenSpec.upto pairingTellsSpec)) pairingTellsUptoCard

/-- THE SECOND FORM's CARD OF 'finesselaw36.PairingSmall'. -/
def pairingSmallUptoCard : Claim7 := { stood := { row := pairingSmallUptoRow, standIns := [], harness := (true, "1013e1003566c1ae88aa8db85278b8633ccde28bd43c4e57c13654a54b7c53bc"), looks := false }, kinds := [], alts := [], laidByText := true, laidKinds := [.data], laidTests := true, laidLooks := .later }
def PairingSmallUptoCardSaid : Prop := Claim7.holds Tryd.pinned (.plain (OpenSpec.upto pairingSmallSpec)) pairingSmallUptoCard

/-- THE SECOND FORM's CARD OF 'finesselaw36.PairingBack'. -/
def pairingBackUptoCard : Claim7 := { stood := { row := pairingBackUptoRow, standIns := [], harness := (true, "1013e1003566c1ae88aa8db85278b8633ccde28bd43c4e57c13654a54b7c53bc"), looks := false }, kinds := [], alts := [], laidByText := true, laidKinds := [.data], laidTests := true, laidLooks := .later }
def PairingBackUptoCardSaid : Prop := Claim7.holds Tryd.pinned (.plain (OpenSpec.upto pairingBackSpec)) pairingBackUptoCard

/-- THE SECOND FORM's CARD OF 'finesselaw36.PairingBest'. -/
def pairingBestUptoCard : Claim7 := { stood := { row := pairingBestUptoRow, standIns := [], harness := (true, "1013e1003566c1ae88aa8db85278b8633ccde28bd43c4e57c13654a54b7c53bc"), looks := false }, kinds := [], alts := [], laidByText := true, laidKinds := [.data], laidTests := true, laidLooks := .later }
def PairingBestUptoCardSaid : Prop := Claim7.holds Tryd.pinned (.plain (OpenSpec.upto pairingBestSpec)) pairingBestUptoCard

/-- THE SECOND FORM's CARD OF 'finesselaw36.PairingFewer'. -/
def pairingFewerUptoCard : Claim7 := { stood := { row := pairingFewerUptoRow, standIns := [], harness := (true, "1013e1003566c1ae88aa8db85278b8633ccde28bd43c4e57c13654a54b7c53bc"), looks := false }, kinds := [], alts := [], laidByText := true, laidKinds := [.data], laidTests := true, laidLooks := .later }
def PairingFewerUptoCardSaid : Prop := Claim7.holds Tryd.pinned (.plain (OpenSpec.upto pairingFewerSpec)) pairingFewerUptoCard

/-- THE SECOND FORM's CARD OF 'finesselaw36.PairingRounds'. -/
def pairingRoundsUptoCard : Claim7 := { stood := { row := pairingRoundsUptoRow, standIns := [], harness := (true, "1013e1003566c1ae88aa8db85278b8633ccde28bd43c4e57c13654a54b7c53bc"), looks := false }, kinds := [], alts := [], laidByText := true, laidKinds := [.data], laidTests := true, laidLooks := .later }
def PairingRoundsUptoCardSaid : Prop := Claim7.holds Tryd.pinned (.plain (OpenSpec.upto pairingRoundsSpec)) pairingRoundsUptoCard
end Rows
end Go.Proofs.YtpfpgkopbokfgaaDoor
