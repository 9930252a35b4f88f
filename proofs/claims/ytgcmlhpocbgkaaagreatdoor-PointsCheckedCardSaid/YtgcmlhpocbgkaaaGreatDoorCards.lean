/-
  DERIVED. GIVEN WITH THE SEED: THE CARDS: each row of YtgcmlhpocbgkaaaGreatDoorRows.lean that lists a variable, with what it lists TIED to the program's text (the seventh form; the later family's looks); each row that meets fmt, with fmt's text TOLD by the authors' own Lean function (tested against real Go, not proved from fmt's source: count such statements apart). THE CARD IS WHAT COUNTS. Prove the row's statement (the work); the ties are given (YtgcmlhpocbgkaaaGreatDoorTie.lean); close each card by the builder's one call (the guide's Derived/Test/ToyasCard.lean, 'card_holds'). Laid BY PROGRAM, IN A SANDBOX (cutbox-door.mjs). By AI agents, Wed Nov 11 2026. No macro, syntax, notation, axiom, sorry.
-/
import Derived.Test.YtgcmlhpocbgkaaaGreatDoorRows
import GoSem.ClaimSeven
namespace Go.Proofs.YtgcmlhpocbgkaaaGreatDoor
namespace Rows

/-- THE TIED CARD OF 'rflaw1.NozzlesChanged'. -/
def nozzlesChangedCard : Claim7 := { stood := { row := nozzlesChangedRow, standIns := [], harness := (true, "717bef4992ae00988c64eb045860e6c64a43fa6255acf3d6f75714a09c04f315"), looks := true }, kinds := [], alts := [], laidByText := true, laidKinds := [.data, .pinned], laidTests := true, laidLooks := .later }
def NozzlesChangedCardSaid : Prop := Claim7.holds Tryz.pinned (.plain (OpenSpec.ofChange nozzlesChangedSpec)) nozzlesChangedCard

/-- THE TIED CARD OF 'rflaw1.PointsChecked'. -/
def pointsCheckedCard : Claim7 := { stood := { row := pointsCheckedRow, standIns := [], harness := (true, "717bef4992ae00988c64eb045860e6c64a43fa6255acf3d6f75714a09c04f315"), looks := true }, kinds := [], alts := [], laidByText := true, laidKinds := [.data, .data, .data, .data, .sentinel, .sentinel, .pinned], laidTests := true, laidLooks := .later }
def PointsCheckedCardSaid : Prop := Claim7.holds Tryz.pinned (.plain (OpenSpec.ofChange pointsCheckedSpec)) pointsCheckedCard

/-- THE TIED CARD OF 'rfkeep1.StrokesTakeAll'. -/
def strokesTakeAllCard : Claim7 := { stood := { row := strokesTakeAllRow, standIns := [], harness := (true, "717bef4992ae00988c64eb045860e6c64a43fa6255acf3d6f75714a09c04f315"), looks := true }, kinds := [], alts := [], laidByText := true, laidKinds := [.data, .pinned], laidTests := true, laidLooks := .later }
def StrokesTakeAllCardSaid : Prop := Claim7.holds Tryz.pinned (.plain (OpenSpec.ofChange strokesTakeAllSpec)) strokesTakeAllCard

/-- THE TIED CARD OF 'rfkeep1.NoTourIsShorter'. -/
def noTourIsShorterCard : Claim7 := { stood := { row := noTourIsShorterRow, standIns := [], harness := (true, "717bef4992ae00988c64eb045860e6c64a43fa6255acf3d6f75714a09c04f315"), looks := true }, kinds := [], alts := [], laidByText := true, laidKinds := [.data, .pinned], laidTests := true, laidLooks := .later }
def NoTourIsShorterCardSaid : Prop := Claim7.holds Tryz.pinned (.plain (OpenSpec.ofChange noTourIsShorterSpec)) noTourIsShorterCard

/-- THE TIED CARD OF 'rfkeep1.HoldersHoldWhatIsNeeded'. -/
def holdersHoldWhatIsNeededCard : Claim7 := { stood := { row := holdersHoldWhatIsNeededRow, standIns := [], harness := (true, "717bef4992ae00988c64eb045860e6c64a43fa6255acf3d6f75714a09c04f315"), looks := true }, kinds := [], alts := [], laidByText := true, laidKinds := [.data, .pinned], laidTests := true, laidLooks := .later }
def HoldersHoldWhatIsNeededCardSaid : Prop := Claim7.holds Tryz.pinned (.plain (OpenSpec.ofChange holdersHoldWhatIsNeededSpec)) holdersHoldWhatIsNeededCard

/-- THE TIED CARD OF 'rfkeep1.CyclesHaveAllPoints'. -/
def cyclesHaveAllPointsCard : Claim7 := { stood := { row := cyclesHaveAllPointsRow, standIns := [], harness := (true, "717bef4992ae00988c64eb045860e6c64a43fa6255acf3d6f75714a09c04f315"), looks := true }, kinds := [], alts := [], laidByText := true, laidKinds := [.data, .pinned], laidTests := true, laidLooks := .later }
def CyclesHaveAllPointsCardSaid : Prop := Claim7.holds Tryz.pinned (.plain (OpenSpec.ofChange cyclesHaveAllPointsSpec)) cyclesHaveAllPointsCard

/-- THE TIED CARD OF 'rfkeep1.ToursStay'. -/
def toursStayCard : Claim7 := { stood := { row := toursStayRow, standIns := [], harness := (true, "717bef4992ae00988c64eb045860e6c64a43fa6255acf3d6f75714a09c04f315"), looks := true }, kinds := [], alts := [], laidByText := true, laidKinds := [.data, .pinned], laidTests := true, laidLooks := .later }
def ToursStayCardSaid : Prop := Claim7.holds Tryz.pinned (.plain (OpenSpec.ofChange toursStaySpec)) toursStayCard

/-- THE TIED CARD OF 'rfkeep1.PointsComeBack'. -/
def pointsComeBackCard : Claim7 := { stood := { row := pointsComeBackRow, standIns := [], harness := (true, "717bef4992ae00988c64eb045860e6c64a43fa6255acf3d6f75714a09c04f315"), looks := true }, kinds := [], alts := [], laidByText := true, laidKinds := [.data, .data, .data, .data, .sentinel, .sentinel, .pinned], laidTests := true, laidLooks := .later }
def PointsComeBackCardSaid : Prop := Claim7.holds Tryz.pinned (.plain (OpenSpec.ofChange pointsComeBackSpec)) pointsComeBackCard

/-- THE SECOND FORM's CARD OF 'rflaw1.NozzlesChanged'. -/
def nozzlesChangedUptoCard : Claim7 := { stood := { row := nozzlesChangedUptoRow, standIns := [], harness := (true, "717bef4992ae00988c64eb045860e6c64a43fa6255acf3d6f75714a09c04f315"), looks := true }, kinds := [], alts := [], laidByText := true, laidKinds := [.data, .pinned], laidTests := true, laidLooks := .later }
def NozzlesChangedUptoCardSaid : Prop := Claim7.holds Tryz.pinned (.plain (OpenSpec.upto nozzlesChangedSpec)) nozzlesChangedUptoCard

/-- THE SECOND FORM's CARD OF 'rflaw1.PointsChecked'. -/
def pointsCheckedUptoCard : Claim7 := { stood := { row := pointsCheckedUptoRow, standIns := [], harness := (true, "717bef4992ae00988c64eb045860e6c64a43fa6255acf3d6f75714a09c04f315"), looks := true }, kinds := [], alts := [], laidByText := true, laidKinds := [.data, .data, .data, .data, .sentinel, .sentinel, .pinned], laidTests := true, laidLooks := .later }
def PointsCheckedUptoCardSaid : Prop := Claim7.holds Tryz.pinned (.plain (OpenSpec.upto pointsCheckedSpec)) pointsCheckedUptoCard

/-- THE SECOND FORM's CARD OF 'rfkeep1.StrokesTakeAll'. -/
def strokesTakeAllUptoCard : Claim7 := { stood := { row := strokesTakeAllUptoRow, standIns := [], harness := (true, "717bef4992ae00988c64eb045860e6c64a43fa6255acf3d6f75714a09c04f315"), looks := true }, kinds := [], alts := [], laidByText := true, laidKinds := [.data, .pinned], laidTests := true, laidLooks := .later }
def StrokesTakeAllUptoCardSaid : Prop := Claim7.holds Tryz.pinned (.plain (OpenSpec.upto strokesTakeAllSpec)) strokesTakeAllUptoCard

/-- THE SECOND FORM's CARD OF 'rfkeep1.NoTourIsShorter'. -/
def noTourIsShorterUptoCard : Claim7 := { stood := { row := noTourIsShorterUptoRow, standIns := [], harness := (true, "717bef4992ae00988c64eb045860e6c64a43fa6255acf3d6f75714a09c04f315"), looks := true }, kinds := [], alts := [], laidByText := true, laidKinds := [.data, .pinned], laidTests := true, laidLooks := .later }
def NoTourIsShorterUptoCardSaid : Prop := Claim7.holds Tryz.pinned (.plain (OpenSpec.upto noTourIsShorterSpec)) noTourIsShorterUptoCard

/-- THE SECOND FORM's CARD OF 'rfkeep1.HoldersHoldWhatIsNeeded'. -/
def holdersHoldWhatIsNeededUptoCard : Claim7 := { stood := { row := holdersHoldWhatIsNeededUptoRow, standIns := [], harness := (true, "717bef4992ae00988c64eb045860e6c64a43fa6255acf3d6f75714a09c04f315"), looks := true }, kinds := [], alts := [], laidByText := true, laidKinds := [.data, .pinned], laidTests := true, laidLooks := .later }
def HoldersHoldWhatIsNeededUptoCardSaid : Prop := Claim7.holds Tryz.pinned (.plain (OpenSpec.upto holdersHoldWhatIsNeededSpec)) holdersHoldWhatIsNeededUptoCard

/-- THE SECOND FORM's CARD OF 'rfkeep1.CyclesHaveAllPoints'. -/
def cyclesHaveAllPointsUptoCard : Claim7 := { stood := { row := cyclesHaveAllPointsUptoRow, standIns := [], harness := (true, "717bef4992ae00988c64eb045860e6c64a43fa6255acf3d6f75714a09c04f315"), looks := true }, kinds := [], alts := [], laidByText := true, laidKinds := [.data, .pinned], laidTests := true, laidLooks := .later }
def CyclesHaveAllPointsUptoCardSaid : Prop := Claim7.holds Tryz.pinned (.plain (OpenSpec.upto cyclesHaveAllPointsSpec)) cyclesHaveAllPointsUptoCard

/-- THE SECOND FORM's CARD OF 'rfkeep1.ToursStay'. -/
def toursStayUptoCard : Claim7 := { stood := { row := toursStayUptoRow, standIns := [], harness := (true, "717bef4992ae00988c64eb045860e6c64a43fa6255acf3d6f75714a09c04f315"), looks := true }, kinds := [], alts := [], laidByText := true, laidKinds := [.data, .pinned], laidTests := true, laidLooks := .later }
def ToursStayUptoCardSaid : Prop := Claim7.holds Tryz.pinned (.plain (OpenSpec.upto toursStaySpec)) toursStayUptoCard

/-- THE SECOND FORM's CARD OF 'rfkeep1.PointsComeBack'. -/
def pointsComeBackUptoCard : Claim7 := { stood := { row := pointsComeBackUptoRow, standIns := [], harness := (true, "717bef4992ae00988c64eb045860e6c64a43fa6255acf3d6f75714a09c04f315"), looks := true }, kinds := [], alts := [], laidByText := true, laidKinds := [.data, .data, .data, .data, .sentinel, .sentinel, .pinned], laidTests := true, laidLooks := .later }
def PointsComeBackUptoCardSaid : Prop := Claim7.holds Tryz.pinned (.plain (OpenSpec.upto pointsComeBackSpec)) pointsComeBackUptoCard
end Rows
end Go.Proofs.YtgcmlhpocbgkaaaGreatDoor
