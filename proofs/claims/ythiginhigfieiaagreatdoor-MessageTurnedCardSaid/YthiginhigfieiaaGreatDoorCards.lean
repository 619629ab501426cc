/-
  DERIVED. GIVEN WITH THE SEED: THE CARDS: each row of YthiginhigfieiaaGreatDoorRows.lean that lists a variable, with what it lists TIED to the program's text (the seventh form; the later family's looks); each row that meets fmt, with fmt's text TOLD by the authors' own Lean function (tested against real Go, not proved from fmt's source: count such statements apart). THE CARD IS WHAT COUNTS. Prove the row's statement (the work); the ties are given (YthiginhigfieiaaGreatDoorTie.lean); close each card by the builder's one call (the guide's Derived/Test/ToyasCard.lean, 'card_holds'). Laid BY PROGRAM, IN A SANDBOX (cutbox-door.mjs). By AI agents, Wed Nov 11 2026. No macro, syntax, notation, axiom, sorry.
-/
import Derived.Test.YthiginhigfieiaaGreatDoorRows
import GoSem.ClaimSeven
namespace Go.Proofs.YthiginhigfieiaaGreatDoor
namespace Rows

/-- THE TIED CARD OF 'tallylaw8.MessageExact'. -/
def messageExactCard : Claim7 := { stood := { row := messageExactRow, standIns := [], harness := (true, "62ad5b59f07af0078d6f4ecb443e9776471d8e6027ac5ac78dde8f98da5a14a0"), looks := false }, kinds := [], alts := [], laidByText := true, laidKinds := [.data, .data], laidTests := true, laidLooks := .later }
def MessageExactCardSaid : Prop := Claim7.holds Tryz.pinned (.plain (OpenSpec.ofChange messageExactSpec)) messageExactCard

/-- THE TIED CARD OF 'tallylaw8.MessagePlaced'. -/
def messagePlacedCard : Claim7 := { stood := { row := messagePlacedRow, standIns := [], harness := (true, "62ad5b59f07af0078d6f4ecb443e9776471d8e6027ac5ac78dde8f98da5a14a0"), looks := false }, kinds := [], alts := [], laidByText := true, laidKinds := [.data, .data], laidTests := true, laidLooks := .later }
def MessagePlacedCardSaid : Prop := Claim7.holds Tryz.pinned (.plain (OpenSpec.ofChange messagePlacedSpec)) messagePlacedCard

/-- THE TIED CARD OF 'tallylaw8.MessageBack'. -/
def messageBackCard : Claim7 := { stood := { row := messageBackRow, standIns := [], harness := (true, "62ad5b59f07af0078d6f4ecb443e9776471d8e6027ac5ac78dde8f98da5a14a0"), looks := false }, kinds := [], alts := [], laidByText := true, laidKinds := [.data, .data], laidTests := true, laidLooks := .later }
def MessageBackCardSaid : Prop := Claim7.holds Tryz.pinned (.plain (OpenSpec.ofChange messageBackSpec)) messageBackCard

/-- THE TIED CARD OF 'tallylaw8.MessageTurned'. -/
def messageTurnedCard : Claim7 := { stood := { row := messageTurnedRow, standIns := [], harness := (true, "62ad5b59f07af0078d6f4ecb443e9776471d8e6027ac5ac78dde8f98da5a14a0"), looks := false }, kinds := [], alts := [], laidByText := true, laidKinds := [.data, .data], laidTests := true, laidLooks := .later }
def MessageTurnedCardSaid : Prop := Claim7.holds Tryz.pinned (.plain (OpenSpec.ofChange messageTurnedSpec)) messageTurnedCard

/-- THE SECOND FORM's CARD OF 'tallylaw8.MessageExact'. -/
def messageExactUptoCard : Claim7 := { stood := { row := messageExactUptoRow, standIns := [], harness := (true, "62ad5b59f07af0078d6f4ecb443e9776471d8e6027ac5ac78dde8f98da5a14a0"), looks := false }, kinds := [], alts := [], laidByText := true, laidKinds := [.data, .data], laidTests := true, laidLooks := .later }
def MessageExactUptoCardSaid : Prop := Claim7.holds Tryz.pinned (.plain (OpenSpec.upto messageExactSpec)) messageExactUptoCard

/-- THE SECOND FORM's CARD OF 'tallylaw8.MessagePlaced'. -/
def messagePlacedUptoCard : Claim7 := { stood := { row := messagePlacedUptoRow, standIns := [], harness := (true, "62ad5b59f07af0078d6f4ecb443e9776471d8e6027ac5ac78dde8f98da5a14a0"), looks := false }, kinds := [], alts := [], laidByText := true, laidKinds := [.data, .data], laidTests := true, laidLooks := .later }
def MessagePlacedUptoCardSaid : Prop := Claim7.holds Tryz.pinned (.plain (OpenSpec.upto messagePlacedSpec)) messagePlacedUptoCard

/-- THE SECOND FORM's CARD OF 'tallylaw8.MessageBack'. -/
def messageBackUptoCard : Claim7 := { stood := { row := messageBackUptoRow, standIns := [], harness := (true, "62ad5b59f07af0078d6f4ecb443e9776471d8e6027ac5ac78dde8f98da5a14a0"), looks := false }, kinds := [], alts := [], laidByText := true, laidKinds := [.data, .data], laidTests := true, laidLooks := .later }
def MessageBackUptoCardSaid : Prop := Claim7.holds Tryz.pinned (.plain (OpenSpec.upto messageBackSpec)) messageBackUptoCard

/-- THE SECOND FORM's CARD OF 'tallylaw8.MessageTurned'. -/
def messageTurnedUptoCard : Claim7 := { stood := { row := messageTurnedUptoRow, standIns := [], harness := (true, "62ad5b59f07af0078d6f4ecb443e9776471d8e6027ac5ac78dde8f98da5a14a0"), looks := false }, kinds := [], alts := [], laidByText := true, laidKinds := [.data, .data], laidTests := true, laidLooks := .later }
def MessageTurnedUptoCardSaid : Prop := Claim7.holds Tryz.pinned (.plain (OpenSpec.upto messageTurnedSpec)) messageTurnedUptoCard
end Rows
end Go.Proofs.YthiginhigfieiaaGreatDoor
