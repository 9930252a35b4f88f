/-
  DERIVED. GIVEN WITH THE SEED: THE CARDS: each row of YtilhonppgedoiaaGreatDoorRows.lean that lists a variable, with what it lists TIED to the program's text (the seventh form; the later family's looks); each row that meets fmt, with fmt's text TOLD by the authors' own Lean function (tested against real Go, not proved from fmt's source: count such statements apart). THE CARD IS WHAT COUNTS. Prove the row's statement (the work); the ties are given (YtilhonppgedoiaaGreatDoorTie.lean); close each card by the builder's one call (the guide's Derived/Test/ToyasCard.lean, 'card_holds'). Laid BY PROGRAM, IN A SANDBOX (cutbox-door.mjs). By AI agents, Wed Nov 11 2026. No macro, syntax, notation, axiom, sorry.
-/
import Derived.Test.YtilhonppgedoiaaGreatDoorRows
import GoSem.ClaimSeven
namespace Go.Proofs.YtilhonppgedoiaaGreatDoor
namespace Rows

/-- THE TIED CARD OF 'rfkeep1.FeedsComeBack'. -/
def feedsComeBackCard : Claim7 := { stood := { row := feedsComeBackRow, standIns := [], harness := (true, "42ce26b1f8d4b91822045f60f7d80b6accd6af3293549c4ea87d972250d18eca"), looks := true }, kinds := [], alts := [], laidByText := true, laidKinds := [.data, .data, .data, .data, .sentinel, .sentinel, .pinned], laidTests := true, laidLooks := .later }
def FeedsComeBackCardSaid : Prop := Claim7.holds Tryz.pinned (.plain (OpenSpec.ofChange feedsComeBackSpec)) feedsComeBackCard

/-- THE TIED CARD OF 'rflaw1.FeedsChecked'. -/
def feedsCheckedCard : Claim7 := { stood := { row := feedsCheckedRow, standIns := [], harness := (true, "42ce26b1f8d4b91822045f60f7d80b6accd6af3293549c4ea87d972250d18eca"), looks := true }, kinds := [], alts := [], laidByText := true, laidKinds := [.data, .data, .data, .data, .sentinel, .sentinel, .pinned], laidTests := true, laidLooks := .later }
def FeedsCheckedCardSaid : Prop := Claim7.holds Tryz.pinned (.plain (OpenSpec.ofChange feedsCheckedSpec)) feedsCheckedCard

/-- THE SECOND FORM's CARD OF 'rfkeep1.FeedsComeBack'. -/
def feedsComeBackUptoCard : Claim7 := { stood := { row := feedsComeBackUptoRow, standIns := [], harness := (true, "42ce26b1f8d4b91822045f60f7d80b6accd6af3293549c4ea87d972250d18eca"), looks := true }, kinds := [], alts := [], laidByText := true, laidKinds := [.data, .data, .data, .data, .sentinel, .sentinel, .pinned], laidTests := true, laidLooks := .later }
def FeedsComeBackUptoCardSaid : Prop := Claim7.holds Tryz.pinned (.plain (OpenSpec.upto feedsComeBackSpec)) feedsComeBackUptoCard

/-- THE SECOND FORM's CARD OF 'rflaw1.FeedsChecked'. -/
def feedsCheckedUptoCard : Claim7 := { stood := { row := feedsCheckedUptoRow, standIns := [], harness := (true, "42ce26b1f8d4b91822045f60f7d80b6accd6af3293549c4ea87d972250d18eca"), looks := true }, kinds := [], alts := [], laidByText := true, laidKinds := [.data, .data, .data, .data, .sentinel, .sentinel, .pinned], laidTests := true, laidLooks := .later }
def FeedsCheckedUptoCardSaid : Prop := Claim7.holds Tryz.pinned (.plain (OpenSpec.upto feedsCheckedSpec)) feedsCheckedUptoCard
end Rows
end Go.Proofs.YtilhonppgedoiaaGreatDoor
