/-
  DERIVED. GIVEN WITH THE SEED: THE CARDS: each row of YtjegfebolhjghaaGreatDoorRows.lean that lists a variable, with what it lists TIED to the program's text (the seventh form; the later family's looks); each row that meets fmt, with fmt's text TOLD by the authors' own Lean function (tested against real Go, not proved from fmt's source: count such statements apart). THE CARD IS WHAT COUNTS. Prove the row's statement (the work); the ties are given (YtjegfebolhjghaaGreatDoorTie.lean); close each card by the builder's one call (the guide's Derived/Test/ToyasCard.lean, 'card_holds'). Laid BY PROGRAM, IN A SANDBOX (cutbox-door.mjs). By AI agents, Wed Nov 11 2026. No macro, syntax, notation, axiom, sorry.
-/
import Derived.Test.YtjegfebolhjghaaGreatDoorRows
import GoSem.ClaimSeven
namespace Go.Proofs.YtjegfebolhjghaaGreatDoor
namespace Rows

/-- THE TIED CARD OF 'rfkeep1.ChainsAreChains'. -/
def chainsAreChainsCard : Claim7 := { stood := { row := chainsAreChainsRow, standIns := [], harness := (true, "e656e4afb940c99cff01175164c81dec4b4016f898653ee4c25d8a354e099ae4"), looks := true }, kinds := [], alts := [], laidByText := true, laidKinds := [.data, .pinned], laidTests := true, laidLooks := .later }
def ChainsAreChainsCardSaid : Prop := Claim7.holds Tryz.pinned (.plain (OpenSpec.ofChange chainsAreChainsSpec)) chainsAreChainsCard

/-- THE TIED CARD OF 'rfkeep1.GroupsReplaceOneAnother'. -/
def groupsReplaceOneAnotherCard : Claim7 := { stood := { row := groupsReplaceOneAnotherRow, standIns := [], harness := (true, "e656e4afb940c99cff01175164c81dec4b4016f898653ee4c25d8a354e099ae4"), looks := true }, kinds := [], alts := [], laidByText := true, laidKinds := [.data, .pinned], laidTests := true, laidLooks := .later }
def GroupsReplaceOneAnotherCardSaid : Prop := Claim7.holds Tryz.pinned (.plain (OpenSpec.ofChange groupsReplaceOneAnotherSpec)) groupsReplaceOneAnotherCard

/-- THE TIED CARD OF 'rflaw1.PartsReplaced'. -/
def partsReplacedCard : Claim7 := { stood := { row := partsReplacedRow, standIns := [], harness := (true, "e656e4afb940c99cff01175164c81dec4b4016f898653ee4c25d8a354e099ae4"), looks := true }, kinds := [], alts := [], laidByText := true, laidKinds := [.data, .data, .data, .data, .sentinel, .sentinel, .pinned], laidTests := true, laidLooks := .later }
def PartsReplacedCardSaid : Prop := Claim7.holds Tryz.pinned (.plain (OpenSpec.ofChange partsReplacedSpec)) partsReplacedCard

/-- THE SECOND FORM's CARD OF 'rfkeep1.ChainsAreChains'. -/
def chainsAreChainsUptoCard : Claim7 := { stood := { row := chainsAreChainsUptoRow, standIns := [], harness := (true, "e656e4afb940c99cff01175164c81dec4b4016f898653ee4c25d8a354e099ae4"), looks := true }, kinds := [], alts := [], laidByText := true, laidKinds := [.data, .pinned], laidTests := true, laidLooks := .later }
def ChainsAreChainsUptoCardSaid : Prop := Claim7.holds Tryz.pinned (.plain (OpenSpec.upto chainsAreChainsSpec)) chainsAreChainsUptoCard

/-- THE SECOND FORM's CARD OF 'rfkeep1.GroupsReplaceOneAnother'. -/
def groupsReplaceOneAnotherUptoCard : Claim7 := { stood := { row := groupsReplaceOneAnotherUptoRow, standIns := [], harness := (true, "e656e4afb940c99cff01175164c81dec4b4016f898653ee4c25d8a354e099ae4"), looks := true }, kinds := [], alts := [], laidByText := true, laidKinds := [.data, .pinned], laidTests := true, laidLooks := .later }
def GroupsReplaceOneAnotherUptoCardSaid : Prop := Claim7.holds Tryz.pinned (.plain (OpenSpec.upto groupsReplaceOneAnotherSpec)) groupsReplaceOneAnotherUptoCard

/-- THE SECOND FORM's CARD OF 'rflaw1.PartsReplaced'. -/
def partsReplacedUptoCard : Claim7 := { stood := { row := partsReplacedUptoRow, standIns := [], harness := (true, "e656e4afb940c99cff01175164c81dec4b4016f898653ee4c25d8a354e099ae4"), looks := true }, kinds := [], alts := [], laidByText := true, laidKinds := [.data, .data, .data, .data, .sentinel, .sentinel, .pinned], laidTests := true, laidLooks := .later }
def PartsReplacedUptoCardSaid : Prop := Claim7.holds Tryz.pinned (.plain (OpenSpec.upto partsReplacedSpec)) partsReplacedUptoCard
end Rows
end Go.Proofs.YtjegfebolhjghaaGreatDoor
