/-
  DERIVED. GIVEN WITH THE SEED: THE CARDS: each row of YtnmimagninhkkaaGreatDoorRows.lean that lists a variable, with what it lists TIED to the program's text (the seventh form; the later family's looks); each row that meets fmt, with fmt's text TOLD by the authors' own Lean function (tested against real Go, not proved from fmt's source: count such statements apart). THE CARD IS WHAT COUNTS. Prove the row's statement (the work); the ties are given (YtnmimagninhkkaaGreatDoorTie.lean); close each card by the builder's one call (the guide's Derived/Test/ToyasCard.lean, 'card_holds'). Laid BY PROGRAM, IN A SANDBOX (cutbox-door.mjs). By AI agents, Wed Nov 11 2026. No macro, syntax, notation, axiom, sorry.
-/
import Derived.Test.YtnmimagninhkkaaGreatDoorRows
import GoSem.ClaimSeven
namespace Go.Proofs.YtnmimagninhkkaaGreatDoor
namespace Rows

/-- THE TIED CARD OF 'rfkeep1.TimesAddUp'. -/
def timesAddUpCard : Claim7 := { stood := { row := timesAddUpRow, standIns := [], harness := (true, "ef9b408e0ef1d8ee385fe0c4518ed384cc5ed48d05d09bbfcdc890ec739e479e"), looks := true }, kinds := [], alts := [], laidByText := true, laidKinds := [.data, .pinned], laidTests := true, laidLooks := .later }
def TimesAddUpCardSaid : Prop := Claim7.holds Tryz.pinned (.plain (OpenSpec.ofChange timesAddUpSpec)) timesAddUpCard

/-- THE TIED CARD OF 'rfkeep1.NoBoardIsHeatedTooOften'. -/
def noBoardIsHeatedTooOftenCard : Claim7 := { stood := { row := noBoardIsHeatedTooOftenRow, standIns := [], harness := (true, "ef9b408e0ef1d8ee385fe0c4518ed384cc5ed48d05d09bbfcdc890ec739e479e"), looks := true }, kinds := [], alts := [], laidByText := true, laidKinds := [.data, .pinned], laidTests := true, laidLooks := .later }
def NoBoardIsHeatedTooOftenCardSaid : Prop := Claim7.holds Tryz.pinned (.plain (OpenSpec.ofChange noBoardIsHeatedTooOftenSpec)) noBoardIsHeatedTooOftenCard

/-- THE TIED CARD OF 'rfkeep1.HopelessOnesWait'. -/
def hopelessOnesWaitCard : Claim7 := { stood := { row := hopelessOnesWaitRow, standIns := [], harness := (true, "ef9b408e0ef1d8ee385fe0c4518ed384cc5ed48d05d09bbfcdc890ec739e479e"), looks := true }, kinds := [], alts := [], laidByText := true, laidKinds := [.data, .pinned], laidTests := true, laidLooks := .later }
def HopelessOnesWaitCardSaid : Prop := Claim7.holds Tryz.pinned (.plain (OpenSpec.ofChange hopelessOnesWaitSpec)) hopelessOnesWaitCard

/-- THE TIED CARD OF 'rflaw1.BoardsFollowed'. -/
def boardsFollowedCard : Claim7 := { stood := { row := boardsFollowedRow, standIns := [], harness := (true, "ef9b408e0ef1d8ee385fe0c4518ed384cc5ed48d05d09bbfcdc890ec739e479e"), looks := true }, kinds := [], alts := [], laidByText := true, laidKinds := [.data, .pinned], laidTests := true, laidLooks := .later }
def BoardsFollowedCardSaid : Prop := Claim7.holds Tryz.pinned (.plain (OpenSpec.ofChange boardsFollowedSpec)) boardsFollowedCard

/-- THE TIED CARD OF 'rfkeep1.BoardsStay'. -/
def boardsStayCard : Claim7 := { stood := { row := boardsStayRow, standIns := [], harness := (true, "ef9b408e0ef1d8ee385fe0c4518ed384cc5ed48d05d09bbfcdc890ec739e479e"), looks := true }, kinds := [], alts := [], laidByText := true, laidKinds := [.data, .pinned], laidTests := true, laidLooks := .later }
def BoardsStayCardSaid : Prop := Claim7.holds Tryz.pinned (.plain (OpenSpec.ofChange boardsStaySpec)) boardsStayCard

/-- THE TIED CARD OF 'rfkeep1.ChosenAreInTime'. -/
def chosenAreInTimeCard : Claim7 := { stood := { row := chosenAreInTimeRow, standIns := [], harness := (true, "ef9b408e0ef1d8ee385fe0c4518ed384cc5ed48d05d09bbfcdc890ec739e479e"), looks := true }, kinds := [], alts := [], laidByText := true, laidKinds := [.data, .pinned], laidTests := true, laidLooks := .later }
def ChosenAreInTimeCardSaid : Prop := Claim7.holds Tryz.pinned (.plain (OpenSpec.ofChange chosenAreInTimeSpec)) chosenAreInTimeCard

/-- THE TIED CARD OF 'rfkeep1.StepsComeBack'. -/
def stepsComeBackCard : Claim7 := { stood := { row := stepsComeBackRow, standIns := [], harness := (true, "ef9b408e0ef1d8ee385fe0c4518ed384cc5ed48d05d09bbfcdc890ec739e479e"), looks := true }, kinds := [], alts := [], laidByText := true, laidKinds := [.data, .data, .data, .data, .sentinel, .sentinel, .pinned], laidTests := true, laidLooks := .later }
def StepsComeBackCardSaid : Prop := Claim7.holds Tryz.pinned (.plain (OpenSpec.ofChange stepsComeBackSpec)) stepsComeBackCard

/-- THE TIED CARD OF 'rflaw1.StepsChecked'. -/
def stepsCheckedCard : Claim7 := { stood := { row := stepsCheckedRow, standIns := [], harness := (true, "ef9b408e0ef1d8ee385fe0c4518ed384cc5ed48d05d09bbfcdc890ec739e479e"), looks := true }, kinds := [], alts := [], laidByText := true, laidKinds := [.data, .data, .data, .data, .sentinel, .sentinel, .pinned], laidTests := true, laidLooks := .later }
def StepsCheckedCardSaid : Prop := Claim7.holds Tryz.pinned (.plain (OpenSpec.ofChange stepsCheckedSpec)) stepsCheckedCard

/-- THE TIED CARD OF 'rflaw1.ReworkCounted'. -/
def reworkCountedCard : Claim7 := { stood := { row := reworkCountedRow, standIns := [], harness := (true, "ef9b408e0ef1d8ee385fe0c4518ed384cc5ed48d05d09bbfcdc890ec739e479e"), looks := true }, kinds := [], alts := [], laidByText := true, laidKinds := [.data, .data, .data, .data, .pinned], laidTests := true, laidLooks := .later }
def ReworkCountedCardSaid : Prop := Claim7.holds Tryz.pinned (.plain (OpenSpec.ofChange reworkCountedSpec)) reworkCountedCard

/-- THE TIED CARD OF 'rftop.TopFloorsAreRework'. -/
def topFloorsAreReworkCard : Claim7 := { stood := { row := topFloorsAreReworkRow, standIns := [], harness := (true, "ef9b408e0ef1d8ee385fe0c4518ed384cc5ed48d05d09bbfcdc890ec739e479e"), looks := true }, kinds := [], alts := [], laidByText := true, laidKinds := [.data, .data, .data, .data, .pinned], laidTests := true, laidLooks := .later }
def TopFloorsAreReworkCardSaid : Prop := Claim7.holds Tryz.pinned (.plain (OpenSpec.ofChange topFloorsAreReworkSpec)) topFloorsAreReworkCard

/-- THE SECOND FORM's CARD OF 'rfkeep1.TimesAddUp'. -/
def timesAddUpUptoCard : Claim7 := { stood := { row := timesAddUpUptoRow, standIns := [], harness := (true, "ef9b408e0ef1d8ee385fe0c4518ed384cc5ed48d05d09bbfcdc890ec739e479e"), looks := true }, kinds := [], alts := [], laidByText := true, laidKinds := [.data, .pinned], laidTests := true, laidLooks := .later }
def TimesAddUpUptoCardSaid : Prop := Claim7.holds Tryz.pinned (.plain (OpenSpec.upto timesAddUpSpec)) timesAddUpUptoCard

/-- THE SECOND FORM's CARD OF 'rfkeep1.NoBoardIsHeatedTooOften'. -/
def noBoardIsHeatedTooOftenUptoCard : Claim7 := { stood := { row := noBoardIsHeatedTooOftenUptoRow, standIns := [], harness := (true, "ef9b408e0ef1d8ee385fe0c4518ed384cc5ed48d05d09bbfcdc890ec739e479e"), looks := true }, kinds := [], alts := [], laidByText := true, laidKinds := [.data, .pinned], laidTests := true, laidLooks := .later }
def NoBoardIsHeatedTooOftenUptoCardSaid : Prop := Claim7.holds Tryz.pinned (.plain (OpenSpec.upto noBoardIsHeatedTooOftenSpec)) noBoardIsHeatedTooOftenUptoCard

/-- THE SECOND FORM's CARD OF 'rfkeep1.HopelessOnesWait'. -/
def hopelessOnesWaitUptoCard : Claim7 := { stood := { row := hopelessOnesWaitUptoRow, standIns := [], harness := (true, "ef9b408e0ef1d8ee385fe0c4518ed384cc5ed48d05d09bbfcdc890ec739e479e"), looks := true }, kinds := [], alts := [], laidByText := true, laidKinds := [.data, .pinned], laidTests := true, laidLooks := .later }
def HopelessOnesWaitUptoCardSaid : Prop := Claim7.holds Tryz.pinned (.plain (OpenSpec.upto hopelessOnesWaitSpec)) hopelessOnesWaitUptoCard

/-- THE SECOND FORM's CARD OF 'rflaw1.BoardsFollowed'. -/
def boardsFollowedUptoCard : Claim7 := { stood := { row := boardsFollowedUptoRow, standIns := [], harness := (true, "ef9b408e0ef1d8ee385fe0c4518ed384cc5ed48d05d09bbfcdc890ec739e479e"), looks := true }, kinds := [], alts := [], laidByText := true, laidKinds := [.data, .pinned], laidTests := true, laidLooks := .later }
def BoardsFollowedUptoCardSaid : Prop := Claim7.holds Tryz.pinned (.plain (OpenSpec.upto boardsFollowedSpec)) boardsFollowedUptoCard

/-- THE SECOND FORM's CARD OF 'rfkeep1.BoardsStay'. -/
def boardsStayUptoCard : Claim7 := { stood := { row := boardsStayUptoRow, standIns := [], harness := (true, "ef9b408e0ef1d8ee385fe0c4518ed384cc5ed48d05d09bbfcdc890ec739e479e"), looks := true }, kinds := [], alts := [], laidByText := true, laidKinds := [.data, .pinned], laidTests := true, laidLooks := .later }
def BoardsStayUptoCardSaid : Prop := Claim7.holds Tryz.pinned (.plain (OpenSpec.upto boardsStaySpec)) boardsStayUptoCard

/-- THE SECOND FORM's CARD OF 'rfkeep1.ChosenAreInTime'. -/
def chosenAreInTimeUptoCard : Claim7 := { stood := { row := chosenAreInTimeUptoRow, standIns := [], harness := (true, "ef9b408e0ef1d8ee385fe0c4518ed384cc5ed48d05d09bbfcdc890ec739e479e"), looks := true }, kinds := [], alts := [], laidByText := true, laidKinds := [.data, .pinned], laidTests := true, laidLooks := .later }
def ChosenAreInTimeUptoCardSaid : Prop := Claim7.holds Tryz.pinned (.plain (OpenSpec.upto chosenAreInTimeSpec)) chosenAreInTimeUptoCard

/-- THE SECOND FORM's CARD OF 'rfkeep1.StepsComeBack'. -/
def stepsComeBackUptoCard : Claim7 := { stood := { row := stepsComeBackUptoRow, standIns := [], harness := (true, "ef9b408e0ef1d8ee385fe0c4518ed384cc5ed48d05d09bbfcdc890ec739e479e"), looks := true }, kinds := [], alts := [], laidByText := true, laidKinds := [.data, .data, .data, .data, .sentinel, .sentinel, .pinned], laidTests := true, laidLooks := .later }
def StepsComeBackUptoCardSaid : Prop := Claim7.holds Tryz.pinned (.plain (OpenSpec.upto stepsComeBackSpec)) stepsComeBackUptoCard

/-- THE SECOND FORM's CARD OF 'rflaw1.StepsChecked'. -/
def stepsCheckedUptoCard : Claim7 := { stood := { row := stepsCheckedUptoRow, standIns := [], harness := (true, "ef9b408e0ef1d8ee385fe0c4518ed384cc5ed48d05d09bbfcdc890ec739e479e"), looks := true }, kinds := [], alts := [], laidByText := true, laidKinds := [.data, .data, .data, .data, .sentinel, .sentinel, .pinned], laidTests := true, laidLooks := .later }
def StepsCheckedUptoCardSaid : Prop := Claim7.holds Tryz.pinned (.plain (OpenSpec.upto stepsCheckedSpec)) stepsCheckedUptoCard

/-- THE SECOND FORM's CARD OF 'rflaw1.ReworkCounted'. -/
def reworkCountedUptoCard : Claim7 := { stood := { row := reworkCountedUptoRow, standIns := [], harness := (true, "ef9b408e0ef1d8ee385fe0c4518ed384cc5ed48d05d09bbfcdc890ec739e479e"), looks := true }, kinds := [], alts := [], laidByText := true, laidKinds := [.data, .data, .data, .data, .pinned], laidTests := true, laidLooks := .later }
def ReworkCountedUptoCardSaid : Prop := Claim7.holds Tryz.pinned (.plain (OpenSpec.upto reworkCountedSpec)) reworkCountedUptoCard

/-- THE SECOND FORM's CARD OF 'rftop.TopFloorsAreRework'. -/
def topFloorsAreReworkUptoCard : Claim7 := { stood := { row := topFloorsAreReworkUptoRow, standIns := [], harness := (true, "ef9b408e0ef1d8ee385fe0c4518ed384cc5ed48d05d09bbfcdc890ec739e479e"), looks := true }, kinds := [], alts := [], laidByText := true, laidKinds := [.data, .data, .data, .data, .pinned], laidTests := true, laidLooks := .later }
def TopFloorsAreReworkUptoCardSaid : Prop := Claim7.holds Tryz.pinned (.plain (OpenSpec.upto topFloorsAreReworkSpec)) topFloorsAreReworkUptoCard
end Rows
end Go.Proofs.YtnmimagninhkkaaGreatDoor
