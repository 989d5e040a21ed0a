/-
  DERIVED. GIVEN WITH THE SEED: THE CARDS: each row of YthjpnfemaefhnaaDoorRows.lean that lists a variable, with what it lists TIED to the program's text (the seventh form; the later family's looks); each row that meets fmt, with fmt's text TOLD by the authors' own Lean function (tested against real Go, not proved from fmt's source: count such statements apart). THE CARD IS WHAT COUNTS. Prove the row's statement (the work); the ties are given (YthjpnfemaefhnaaDoorTie.lean); close each card by the builder's one call (the guide's Derived/Test/ToyasCard.lean, 'card_holds'). Laid BY PROGRAM, IN A SANDBOX (cutbox-door.mjs). By AI agents, Wed Nov 11 2026. No macro, syntax, notation, axiom, sorry.
-/
import Derived.Test.YthjpnfemaefhnaaDoorRows
import GoSem.ClaimSeven
namespace Go.Proofs.YthjpnfemaefhnaaDoor
namespace Rows

/-- THE TIED CARD OF 'finesselaw24.CrossTells'. -/
def crossTellsCard : Claim7 := { stood := { row := crossTellsRow, standIns := [], harness := (true, "a844b3ee4ca74b0154adf78ba6c95a37dfc8a0938151cf5ac8a1f80d001f2bdd"), looks := false }, kinds := [], alts := [], laidByText := true, laidKinds := [.data], laidTests := true, laidLooks := .later }
def CrossTellsCardSaid : Prop := Claim7.holds Tryd.pinned (.plain (OpenSpec.ofChange crossTellsSpec)) crossTellsCard

/-- THE TIED CARD OF 'finesselaw24.CrossSmall'. -/
def crossSmallCard : Claim7 := { stood := { row := crossSmallRow, standIns := [], harness := (true, "a844b3ee4ca74b0154adf78ba6c95a37dfc8a0938151cf5ac8a1f80d001f2bdd"), looks := false }, kinds := [], alts := [], laidByText := true, laidKinds := [.data], laidTests := true, laidLooks := .later }
def CrossSmallCardSaid : Prop := Claim7.holds Tryd.pinned (.plain (OpenSpec.ofChange crossSmallSpec)) crossSmallCard

/-- THE TIED CARD OF 'finesselaw24.CrossTurned'. -/
def crossTurnedCard : Claim7 := { stood := { row := crossTurnedRow, standIns := [], harness := (true, "a844b3ee4ca74b0154adf78ba6c95a37dfc8a0938151cf5ac8a1f80d001f2bdd"), looks := false }, kinds := [], alts := [], laidByText := true, laidKinds := [.data], laidTests := true, laidLooks := .later }
def CrossTurnedCardSaid : Prop := Claim7.holds Tryd.pinned (.plain (OpenSpec.ofChange crossTurnedSpec)) crossTurnedCard

/-- THE TIED CARD OF 'finesselaw24.CrossDatum'. -/
def crossDatumCard : Claim7 := { stood := { row := crossDatumRow, standIns := [], harness := (true, "a844b3ee4ca74b0154adf78ba6c95a37dfc8a0938151cf5ac8a1f80d001f2bdd"), looks := false }, kinds := [], alts := [], laidByText := true, laidKinds := [.data], laidTests := true, laidLooks := .later }
def CrossDatumCardSaid : Prop := Claim7.holds Tryd.pinned (.plain (OpenSpec.ofChange crossDatumSpec)) crossDatumCard

/-- THE TIED CARD OF 'finesselaw24.CrossWrong'. -/
def crossWrongCard : Claim7 := { stood := { row := crossWrongRow, standIns := [], harness := (true, "a844b3ee4ca74b0154adf78ba6c95a37dfc8a0938151cf5ac8a1f80d001f2bdd"), looks := false }, kinds := [], alts := [], laidByText := true, laidKinds := [.data], laidTests := true, laidLooks := .later }
def CrossWrongCardSaid : Prop := Claim7.holds Tryd.pinned (.plain (OpenSpec.ofChange crossWrongSpec)) crossWrongCard

/-- THE TIED CARD OF 'finesselaw24.CrossOrder'. -/
def crossOrderCard : Claim7 := { stood := { row := crossOrderRow, standIns := [], harness := (true, "a844b3ee4ca74b0154adf78ba6c95a37dfc8a0938151cf5ac8a1f80d001f2bdd"), looks := false }, kinds := [], alts := [], laidByText := true, laidKinds := [.data], laidTests := true, laidLooks := .later }
def CrossOrderCardSaid : Prop := Claim7.holds Tryd.pinned (.plain (OpenSpec.ofChange crossOrderSpec)) crossOrderCard

/-- THE TIED CARD OF 'finesselaw24.CrossSums'. -/
def crossSumsCard : Claim7 := { stood := { row := crossSumsRow, standIns := [], harness := (true, "a844b3ee4ca74b0154adf78ba6c95a37dfc8a0938151cf5ac8a1f80d001f2bdd"), looks := false }, kinds := [], alts := [], laidByText := true, laidKinds := [.data], laidTests := true, laidLooks := .later }
def CrossSumsCardSaid : Prop := Claim7.holds Tryd.pinned (.plain (OpenSpec.ofChange crossSumsSpec)) crossSumsCard

/-- THE SECOND FORM's CARD OF 'finesselaw24.CrossTells'. -/
def crossTellsUptoCard : Claim7 := { stood := { row := crossTellsUptoRow, standIns := [], harness := (true, "a844b3ee4ca74b0154adf78ba6c95a37dfc8a0938151cf5ac8a1f80d001f2bdd"), looks := false }, kinds := [], alts := [], laidByText := true, laidKinds := [.data], laidTests := true, laidLooks := .later }
def CrossTellsUptoCardSaid : Prop := Claim7.holds Tryd.pinned (.plain (OpenSpec.upto crossTellsSpec)) crossTellsUptoCard

/-- THE SECOND FORM's CARD OF 'finesselaw24.CrossSmall'. -/
def crossSmallUptoCard : Claim7 := { stood := { row := crossSmallUptoRow, standIns := [], harness := (true, "a844b3ee4ca74b0154adf78ba6c95a37dfc8a0938151cf5ac8a1f80d001f2bdd"), looks := false }, kinds := [], alts := [], laidByText := true, laidKinds := [.data], laidTests := true, laidLooks := .later }
def CrossSmallUptoCardSaid : Prop := Claim7.holds Tryd.pinned (.plain (OpenSpec.upto crossSmallSpec)) crossSmallUptoCard

/-- THE SECOND FORM's CARD OF 'finesselaw24.CrossTurned'. -/
def crossTurnedUptoCard : Claim7 := { stood := { row := crossTurnedUptoRow, standIns := [], harness := (true, "a844b3ee4ca74b0154adf78ba6c95a37dfc8a0938151cf5ac8a1f80d001f2bdd"), looks := false }, kinds := [], alts := [], laidByText := true, laidKinds := [.data], laidTests := true, laidLooks := .later }
def CrossTurnedUptoCardSaid : Prop := Claim7.holds Tryd.pinned (.plain (OpenSpec.upto crossTurnedSpec)) crossTurnedUptoCard

/-- THE SECOND FORM's CARD OF 'finesselaw24.CrossDatum'. -/
def crossDatumUptoCard : Claim7 := { stood := { row := crossDatumUptoRow, standIns := [], harness := (true, "a844b3ee4ca74b0154adf78ba6c95a37dfc8a0938151cf5ac8a1f80d001f2bdd"), looks := false }, kinds := [], alts := [], laidByText := true, laidKinds := [.data], laidTests := true, laidLooks := .later }
def CrossDatumUptoCardSaid : Prop := Claim7.holds Tryd.pinned (.plain (OpenSpec.upto crossDatumSpec)) crossDatumUptoCard

/-- THE SECOND FORM's CARD OF 'finesselaw24.CrossWrong'. -/
def crossWrongUptoCard : Claim7 := { stood := { row := crossWrongUptoRow, standIns := [], harness := (true, "a844b3ee4ca74b0154adf78ba6c95a37dfc8a0938151cf5ac8a1f80d001f2bdd"), looks := false }, kinds := [], alts := [], laidByText := true, laidKinds := [.data], laidTests := true, laidLooks := .later }
def CrossWrongUptoCardSaid : Prop := Claim7.holds Tryd.pinned (.plain (OpenSpec.upto crossWrongSpec)) crossWrongUptoCard

/-- THE SECOND FORM's CARD OF 'finesselaw24.CrossOrder'. -/
def crossOrderUptoCard : Claim7 := { stood := { row := crossOrderUptoRow, standIns := [], harness := (true, "a844b3ee4ca74b0154adf78ba6c95a37dfc8a0938151cf5ac8a1f80d001f2bdd"), looks := false }, kinds := [], alts := [], laidByText := true, laidKinds := [.data], laidTests := true, laidLooks := .later }
def CrossOrderUptoCardSaid : Prop := Claim7.holds Tryd.pinned (.plain (OpenSpec.upto crossOrderSpec)) crossOrderUptoCard

/-- THE SECOND FORM's CARD OF 'finesselaw24.CrossSums'. -/
def crossSumsUptoCard : Claim7 := { stood := { row := crossSumsUptoRow, standIns := [], harness := (true, "a844b3ee4ca74b0154adf78ba6c95a37dfc8a0938151cf5ac8a1f80d001f2bdd"), looks := false }, kinds := [], alts := [], laidByText := true, laidKinds := [.data], laidTests := true, laidLooks := .later }
def CrossSumsUptoCardSaid : Prop := Claim7.holds Tryd.pinned (.plain (OpenSpec.upto crossSumsSpec)) crossSumsUptoCard
end Rows
end Go.Proofs.YthjpnfemaefhnaaDoor
