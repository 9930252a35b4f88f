/-
  DERIVED. GIVEN WITH THE SEED: THE CARDS: each row of YteojmljggoplkaaGreatDoorRows.lean that lists a variable, with what it lists TIED to the program's text (the seventh form; the later family's looks); each row that meets fmt, with fmt's text TOLD by the authors' own Lean function (tested against real Go, not proved from fmt's source: count such statements apart). THE CARD IS WHAT COUNTS. Prove the row's statement (the work); the ties are given (YteojmljggoplkaaGreatDoorTie.lean); close each card by the builder's one call (the guide's Derived/Test/ToyasCard.lean, 'card_holds'). Laid BY PROGRAM, IN A SANDBOX (cutbox-door.mjs). By AI agents, Wed Nov 11 2026. No macro, syntax, notation, axiom, sorry.
-/
import Derived.Test.YteojmljggoplkaaGreatDoorRows
import GoSem.ClaimSeven
namespace Go.Proofs.YteojmljggoplkaaGreatDoor
namespace Rows

/-- THE TIED CARD OF 'rflaw1.PartsReplaced'. -/
def partsReplacedCard : Claim7 := { stood := { row := partsReplacedRow, standIns := [], harness := (true, "29158173b6d2998a7d50fefa7618441897ab7f1fdaa372bd3a78ee167cb97722"), looks := true }, kinds := [], alts := [], laidByText := true, laidKinds := [.data, .data, .data, .data, .sentinel, .sentinel, .pinned], laidTests := true, laidLooks := .later }
def PartsReplacedCardSaid : Prop := Claim7.holds Tryz.pinned (.plain (OpenSpec.ofChange partsReplacedSpec)) partsReplacedCard

/-- THE TIED CARD OF 'rflaw1.CataloguesChecked'. -/
def cataloguesCheckedCard : Claim7 := { stood := { row := cataloguesCheckedRow, standIns := [], harness := (true, "29158173b6d2998a7d50fefa7618441897ab7f1fdaa372bd3a78ee167cb97722"), looks := true }, kinds := [], alts := [], laidByText := true, laidKinds := [.data, .data, .data, .data, .sentinel, .sentinel, .pinned], laidTests := true, laidLooks := .later }
def CataloguesCheckedCardSaid : Prop := Claim7.holds Tryz.pinned (.plain (OpenSpec.ofChange cataloguesCheckedSpec)) cataloguesCheckedCard

/-- THE SECOND FORM's CARD OF 'rflaw1.PartsReplaced'. -/
def partsReplacedUptoCard : Claim7 := { stood := { row := partsReplacedUptoRow, standIns := [], harness := (true, "29158173b6d2998a7d50fefa7618441897ab7f1fdaa372bd3a78ee167cb97722"), looks := true }, kinds := [], alts := [], laidByText := true, laidKinds := [.data, .data, .data, .data, .sentinel, .sentinel, .pinned], laidTests := true, laidLooks := .later }
def PartsReplacedUptoCardSaid : Prop := Claim7.holds Tryz.pinned (.plain (OpenSpec.upto partsReplacedSpec)) partsReplacedUptoCard

/-- THE SECOND FORM's CARD OF 'rflaw1.CataloguesChecked'. -/
def cataloguesCheckedUptoCard : Claim7 := { stood := { row := cataloguesCheckedUptoRow, standIns := [], harness := (true, "29158173b6d2998a7d50fefa7618441897ab7f1fdaa372bd3a78ee167cb97722"), looks := true }, kinds := [], alts := [], laidByText := true, laidKinds := [.data, .data, .data, .data, .sentinel, .sentinel, .pinned], laidTests := true, laidLooks := .later }
def CataloguesCheckedUptoCardSaid : Prop := Claim7.holds Tryz.pinned (.plain (OpenSpec.upto cataloguesCheckedSpec)) cataloguesCheckedUptoCard
end Rows
end Go.Proofs.YteojmljggoplkaaGreatDoor
