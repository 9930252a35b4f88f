/-
  DERIVED. GIVEN WITH THE SEED: THE CARDS: each row of YtbkglhakhahfpaaGreatDoorRows.lean that lists a variable, with what it lists TIED to the program's text (the seventh form; the later family's looks); each row that meets fmt, with fmt's text TOLD by the authors' own Lean function (tested against real Go, not proved from fmt's source: count such statements apart). THE CARD IS WHAT COUNTS. Prove the row's statement (the work); the ties are given (YtbkglhakhahfpaaGreatDoorTie.lean); close each card by the builder's one call (the guide's Derived/Test/ToyasCard.lean, 'card_holds'). Laid BY PROGRAM, IN A SANDBOX (cutbox-door.mjs). By AI agents, Wed Nov 11 2026. No macro, syntax, notation, axiom, sorry.
-/
import Derived.Test.YtbkglhakhahfpaaGreatDoorRows
import GoSem.ClaimSeven
namespace Go.Proofs.YtbkglhakhahfpaaGreatDoor
namespace Rows

/-- THE TIED CARD OF 'rflaw1.ReworkCounted'. -/
def reworkCountedCard : Claim7 := { stood := { row := reworkCountedRow, standIns := [], harness := (true, "d6c4fc81ffc11be73bd476188b12572b69e997bbaf5597b2b2bc4b5e17de2d7b"), looks := false }, kinds := [], alts := [], laidByText := true, laidKinds := [.data, .data, .data, .data, .pinned], laidTests := true, laidLooks := .later }
def ReworkCountedCardSaid : Prop := Claim7.holds Tryz.pinned (.plain (OpenSpec.ofChange reworkCountedSpec)) reworkCountedCard

/-- THE TIED CARD OF 'rflaw1.NozzlesChanged'. -/
def nozzlesChangedCard : Claim7 := { stood := { row := nozzlesChangedRow, standIns := [], harness := (true, "d6c4fc81ffc11be73bd476188b12572b69e997bbaf5597b2b2bc4b5e17de2d7b"), looks := false }, kinds := [], alts := [], laidByText := true, laidKinds := [.data, .pinned], laidTests := true, laidLooks := .later }
def NozzlesChangedCardSaid : Prop := Claim7.holds Tryz.pinned (.plain (OpenSpec.ofChange nozzlesChangedSpec)) nozzlesChangedCard

/-- THE TIED CARD OF 'rfkeep1.ToursStay'. -/
def toursStayCard : Claim7 := { stood := { row := toursStayRow, standIns := [], harness := (true, "d6c4fc81ffc11be73bd476188b12572b69e997bbaf5597b2b2bc4b5e17de2d7b"), looks := false }, kinds := [], alts := [], laidByText := true, laidKinds := [.data, .pinned], laidTests := true, laidLooks := .later }
def ToursStayCardSaid : Prop := Claim7.holds Tryz.pinned (.plain (OpenSpec.ofChange toursStaySpec)) toursStayCard

/-- THE TIED CARD OF 'rflaw1.FeedersKnown'. -/
def feedersKnownCard : Claim7 := { stood := { row := feedersKnownRow, standIns := [], harness := (true, "d6c4fc81ffc11be73bd476188b12572b69e997bbaf5597b2b2bc4b5e17de2d7b"), looks := false }, kinds := [], alts := [], laidByText := true, laidKinds := [.data, .pinned], laidTests := true, laidLooks := .later }
def FeedersKnownCardSaid : Prop := Claim7.holds Tryz.pinned (.plain (OpenSpec.ofChange feedersKnownSpec)) feedersKnownCard

/-- THE SECOND FORM's CARD OF 'rflaw1.ReworkCounted'. -/
def reworkCountedUptoCard : Claim7 := { stood := { row := reworkCountedUptoRow, standIns := [], harness := (true, "d6c4fc81ffc11be73bd476188b12572b69e997bbaf5597b2b2bc4b5e17de2d7b"), looks := false }, kinds := [], alts := [], laidByText := true, laidKinds := [.data, .data, .data, .data, .pinned], laidTests := true, laidLooks := .later }
def ReworkCountedUptoCardSaid : Prop := Claim7.holds Tryz.pinned (.plain (OpenSpec.upto reworkCountedSpec)) reworkCountedUptoCard

/-- THE SECOND FORM's CARD OF 'rflaw1.NozzlesChanged'. -/
def nozzlesChangedUptoCard : Claim7 := { stood := { row := nozzlesChangedUptoRow, standIns := [], harness := (true, "d6c4fc81ffc11be73bd476188b12572b69e997bbaf5597b2b2bc4b5e17de2d7b"), looks := false }, kinds := [], alts := [], laidByText := true, laidKinds := [.data, .pinned], laidTests := true, laidLooks := .later }
def NozzlesChangedUptoCardSaid : Prop := Claim7.holds Tryz.pinned (.plain (OpenSpec.upto nozzlesChangedSpec)) nozzlesChangedUptoCard

/-- THE SECOND FORM's CARD OF 'rfkeep1.ToursStay'. -/
def toursStayUptoCard : Claim7 := { stood := { row := toursStayUptoRow, standIns := [], harness := (true, "d6c4fc81ffc11be73bd476188b12572b69e997bbaf5597b2b2bc4b5e17de2d7b"), looks := false }, kinds := [], alts := [], laidByText := true, laidKinds := [.data, .pinned], laidTests := true, laidLooks := .later }
def ToursStayUptoCardSaid : Prop := Claim7.holds Tryz.pinned (.plain (OpenSpec.upto toursStaySpec)) toursStayUptoCard

/-- THE SECOND FORM's CARD OF 'rflaw1.FeedersKnown'. -/
def feedersKnownUptoCard : Claim7 := { stood := { row := feedersKnownUptoRow, standIns := [], harness := (true, "d6c4fc81ffc11be73bd476188b12572b69e997bbaf5597b2b2bc4b5e17de2d7b"), looks := false }, kinds := [], alts := [], laidByText := true, laidKinds := [.data, .pinned], laidTests := true, laidLooks := .later }
def FeedersKnownUptoCardSaid : Prop := Claim7.holds Tryz.pinned (.plain (OpenSpec.upto feedersKnownSpec)) feedersKnownUptoCard
end Rows
end Go.Proofs.YtbkglhakhahfpaaGreatDoor
