/-
  DERIVED. GIVEN WITH THE SEED: THE CARDS: each row of YtfhfncnnendnfaaGreatDoorRows.lean that lists a variable, with what it lists TIED to the program's text (the seventh form; the later family's looks); each row that meets fmt, with fmt's text TOLD by the authors' own Lean function (tested against real Go, not proved from fmt's source: count such statements apart). THE CARD IS WHAT COUNTS. Prove the row's statement (the work); the ties are given (YtfhfncnnendnfaaGreatDoorTie.lean); close each card by the builder's one call (the guide's Derived/Test/ToyasCard.lean, 'card_holds'). Laid BY PROGRAM, IN A SANDBOX (cutbox-door.mjs). By AI agents, Wed Nov 11 2026. No macro, syntax, notation, axiom, sorry.
-/
import Derived.Test.YtfhfncnnendnfaaGreatDoorRows
import GoSem.ClaimSeven
namespace Go.Proofs.YtfhfncnnendnfaaGreatDoor
namespace Rows

/-- THE TIED CARD OF 'rftop.TopReelsWithinLife'. -/
def topReelsWithinLifeCard : Claim7 := { stood := { row := topReelsWithinLifeRow, standIns := [], harness := (true, "f502451538f064dfdad0c30721c372b587ba67493b83b5b7aea4916e90807ec4"), looks := false }, kinds := [], alts := [], laidByText := true, laidKinds := [.data, .pinned], laidTests := true, laidLooks := .later }
def TopReelsWithinLifeCardSaid : Prop := Claim7.holds Tryz.pinned (.plain (OpenSpec.ofChange topReelsWithinLifeSpec)) topReelsWithinLifeCard

/-- THE SECOND FORM's CARD OF 'rftop.TopReelsWithinLife'. -/
def topReelsWithinLifeUptoCard : Claim7 := { stood := { row := topReelsWithinLifeUptoRow, standIns := [], harness := (true, "f502451538f064dfdad0c30721c372b587ba67493b83b5b7aea4916e90807ec4"), looks := false }, kinds := [], alts := [], laidByText := true, laidKinds := [.data, .pinned], laidTests := true, laidLooks := .later }
def TopReelsWithinLifeUptoCardSaid : Prop := Claim7.holds Tryz.pinned (.plain (OpenSpec.upto topReelsWithinLifeSpec)) topReelsWithinLifeUptoCard
end Rows
end Go.Proofs.YtfhfncnnendnfaaGreatDoor
