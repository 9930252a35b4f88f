/-
  DERIVED. GIVEN WITH THE SEED: THE CARDS: each row of YthdolfnfiggkjaaGreatDoorRows.lean that lists a variable, with what it lists TIED to the program's text (the seventh form; the later family's looks); each row that meets fmt, with fmt's text TOLD by the authors' own Lean function (tested against real Go, not proved from fmt's source: count such statements apart). THE CARD IS WHAT COUNTS. Prove the row's statement (the work); the ties are given (YthdolfnfiggkjaaGreatDoorTie.lean); close each card by the builder's one call (the guide's Derived/Test/ToyasCard.lean, 'card_holds'). Laid BY PROGRAM, IN A SANDBOX (cutbox-door.mjs). By AI agents, Wed Nov 11 2026. No macro, syntax, notation, axiom, sorry.
-/
import Derived.Test.YthdolfnfiggkjaaGreatDoorRows
import GoSem.ClaimSeven
namespace Go.Proofs.YthdolfnfiggkjaaGreatDoor
namespace Rows

/-- THE TIED CARD OF 'rflaw1.StepsChecked'. -/
def stepsCheckedCard : Claim7 := { stood := { row := stepsCheckedRow, standIns := [], harness := (true, "31d22ae3401ca3a1632aff894c34df0660f1d242c7b8bc9557c4555394e32a38"), looks := true }, kinds := [], alts := [], laidByText := true, laidKinds := [.data, .data, .data, .data, .sentinel, .sentinel, .pinned], laidTests := true, laidLooks := .later }
def StepsCheckedCardSaid : Prop := Claim7.holds Tryz.pinned (.plain (OpenSpec.ofChange stepsCheckedSpec)) stepsCheckedCard

/-- THE TIED CARD OF 'rflaw1.BoardsFollowed'. -/
def boardsFollowedCard : Claim7 := { stood := { row := boardsFollowedRow, standIns := [], harness := (true, "31d22ae3401ca3a1632aff894c34df0660f1d242c7b8bc9557c4555394e32a38"), looks := true }, kinds := [], alts := [], laidByText := true, laidKinds := [.data, .pinned], laidTests := true, laidLooks := .later }
def BoardsFollowedCardSaid : Prop := Claim7.holds Tryz.pinned (.plain (OpenSpec.ofChange boardsFollowedSpec)) boardsFollowedCard

/-- THE TIED CARD OF 'rflaw1.ReworkCounted'. -/
def reworkCountedCard : Claim7 := { stood := { row := reworkCountedRow, standIns := [], harness := (true, "31d22ae3401ca3a1632aff894c34df0660f1d242c7b8bc9557c4555394e32a38"), looks := true }, kinds := [], alts := [], laidByText := true, laidKinds := [.data, .data, .data, .data, .pinned], laidTests := true, laidLooks := .later }
def ReworkCountedCardSaid : Prop := Claim7.holds Tryz.pinned (.plain (OpenSpec.ofChange reworkCountedSpec)) reworkCountedCard

/-- THE SECOND FORM's CARD OF 'rflaw1.StepsChecked'. -/
def stepsCheckedUptoCard : Claim7 := { stood := { row := stepsCheckedUptoRow, standIns := [], harness := (true, "31d22ae3401ca3a1632aff894c34df0660f1d242c7b8bc9557c4555394e32a38"), looks := true }, kinds := [], alts := [], laidByText := true, laidKinds := [.data, .data, .data, .data, .sentinel, .sentinel, .pinned], laidTests := true, laidLooks := .later }
def StepsCheckedUptoCardSaid : Prop := Claim7.holds Tryz.pinned (.plain (OpenSpec.upto stepsCheckedSpec)) stepsCheckedUptoCard

/-- THE SECOND FORM's CARD OF 'rflaw1.BoardsFollowed'. -/
def boardsFollowedUptoCard : Claim7 := { stood := { row := boardsFollowedUptoRow, standIns := [], harness := (true, "31d22ae3401ca3a1632aff894c34df0660f1d242c7b8bc9557c4555394e32a38"), looks := true }, kinds := [], alts := [], laidByText := true, laidKinds := [.data, .pinned], laidTests := true, laidLooks := .later }
def BoardsFollowedUptoCardSaid : Prop := Claim7.holds Tryz.pinned (.plain (OpenSpec.upto boardsFollowedSpec)) boardsFollowedUptoCard

/-- THE SECOND FORM's CARD OF 'rflaw1.ReworkCounted'. -/
def reworkCountedUptoCard : Claim7 := { stood := { row := reworkCountedUptoRow, standIns := [], harness := (true, "31d22ae3401ca3a1632aff894c34df0660f1d242c7b8bc9557c4555394e32a38"), looks := true }, kinds := [], alts := [], laidByText := true, laidKinds := [.data, .data, .data, .data, .pinned], laidTests := true, laidLooks := .later }
def ReworkCountedUptoCardSaid : Prop := Claim7.holds Tryz.pinned (.plain (OpenSpec.upto reworkCountedSpec)) reworkCountedUptoCard
end Rows
end Go.Proofs.YthdolfnfiggkjaaGreatDoor
