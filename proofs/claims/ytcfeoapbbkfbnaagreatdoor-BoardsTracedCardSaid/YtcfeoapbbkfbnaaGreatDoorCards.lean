/-
  DERIVED. GIVEN WITH THE SEED: THE CARDS: each row of YtcfeoapbbkfbnaaGreatDoorRows.lean that lists a variable, with what it lists TIED to the program's text (the seventh form; the later family's looks); each row that meets fmt, with fmt's text TOLD by the authors' own Lean function (tested against real Go, not proved from fmt's source: count such statements apart). THE CARD IS WHAT COUNTS. Prove the row's statement (the work); the ties are given (YtcfeoapbbkfbnaaGreatDoorTie.lean); close each card by the builder's one call (the guide's Derived/Test/ToyasCard.lean, 'card_holds'). Laid BY PROGRAM, IN A SANDBOX (cutbox-door.mjs). By AI agents, Wed Nov 11 2026. No macro, syntax, notation, axiom, sorry.
-/
import Derived.Test.YtcfeoapbbkfbnaaGreatDoorRows
import GoSem.ClaimSeven
namespace Go.Proofs.YtcfeoapbbkfbnaaGreatDoor
namespace Rows

/-- THE TIED CARD OF 'rflaw1.FeedersKnown'. -/
def feedersKnownCard : Claim7 := { stood := { row := feedersKnownRow, standIns := [], harness := (true, "789f849c41f522a84636e7b7d6683da0088ca0ebe442948540f3ebcdc0791f12"), looks := false }, kinds := [], alts := [], laidByText := true, laidKinds := [.data, .pinned], laidTests := true, laidLooks := .later }
def FeedersKnownCardSaid : Prop := Claim7.holds Tryz.pinned (.plain (OpenSpec.ofChange feedersKnownSpec)) feedersKnownCard

/-- THE TIED CARD OF 'rfkeep1.ReelsStay'. -/
def reelsStayCard : Claim7 := { stood := { row := reelsStayRow, standIns := [], harness := (true, "789f849c41f522a84636e7b7d6683da0088ca0ebe442948540f3ebcdc0791f12"), looks := false }, kinds := [], alts := [], laidByText := true, laidKinds := [.data, .pinned], laidTests := true, laidLooks := .later }
def ReelsStayCardSaid : Prop := Claim7.holds Tryz.pinned (.plain (OpenSpec.ofChange reelsStaySpec)) reelsStayCard

/-- THE TIED CARD OF 'rfkeep1.RefusedFeedsChangeNothing'. -/
def refusedFeedsChangeNothingCard : Claim7 := { stood := { row := refusedFeedsChangeNothingRow, standIns := [], harness := (true, "789f849c41f522a84636e7b7d6683da0088ca0ebe442948540f3ebcdc0791f12"), looks := false }, kinds := [], alts := [], laidByText := true, laidKinds := [.data, .pinned], laidTests := true, laidLooks := .later }
def RefusedFeedsChangeNothingCardSaid : Prop := Claim7.holds Tryz.pinned (.plain (OpenSpec.ofChange refusedFeedsChangeNothingSpec)) refusedFeedsChangeNothingCard

/-- THE TIED CARD OF 'rfkeep1.ComponentsAddUp'. -/
def componentsAddUpCard : Claim7 := { stood := { row := componentsAddUpRow, standIns := [], harness := (true, "789f849c41f522a84636e7b7d6683da0088ca0ebe442948540f3ebcdc0791f12"), looks := false }, kinds := [], alts := [], laidByText := true, laidKinds := [.data, .pinned], laidTests := true, laidLooks := .later }
def ComponentsAddUpCardSaid : Prop := Claim7.holds Tryz.pinned (.plain (OpenSpec.ofChange componentsAddUpSpec)) componentsAddUpCard

/-- THE TIED CARD OF 'rflaw1.BoardsTraced'. -/
def boardsTracedCard : Claim7 := { stood := { row := boardsTracedRow, standIns := [], harness := (true, "789f849c41f522a84636e7b7d6683da0088ca0ebe442948540f3ebcdc0791f12"), looks := false }, kinds := [], alts := [], laidByText := true, laidKinds := [.data, .data, .data, .data, .pinned], laidTests := true, laidLooks := .later }
def BoardsTracedCardSaid : Prop := Claim7.holds Tryz.pinned (.plain (OpenSpec.ofChange boardsTracedSpec)) boardsTracedCard

/-- THE SECOND FORM's CARD OF 'rflaw1.FeedersKnown'. -/
def feedersKnownUptoCard : Claim7 := { stood := { row := feedersKnownUptoRow, standIns := [], harness := (true, "789f849c41f522a84636e7b7d6683da0088ca0ebe442948540f3ebcdc0791f12"), looks := false }, kinds := [], alts := [], laidByText := true, laidKinds := [.data, .pinned], laidTests := true, laidLooks := .later }
def FeedersKnownUptoCardSaid : Prop := Claim7.holds Tryz.pinned (.plain (OpenSpec.upto feedersKnownSpec)) feedersKnownUptoCard

/-- THE SECOND FORM's CARD OF 'rfkeep1.ReelsStay'. -/
def reelsStayUptoCard : Claim7 := { stood := { row := reelsStayUptoRow, standIns := [], harness := (true, "789f849c41f522a84636e7b7d6683da0088ca0ebe442948540f3ebcdc0791f12"), looks := false }, kinds := [], alts := [], laidByText := true, laidKinds := [.data, .pinned], laidTests := true, laidLooks := .later }
def ReelsStayUptoCardSaid : Prop := Claim7.holds Tryz.pinned (.plain (OpenSpec.upto reelsStaySpec)) reelsStayUptoCard

/-- THE SECOND FORM's CARD OF 'rfkeep1.RefusedFeedsChangeNothing'. -/
def refusedFeedsChangeNothingUptoCard : Claim7 := { stood := { row := refusedFeedsChangeNothingUptoRow, standIns := [], harness := (true, "789f849c41f522a84636e7b7d6683da0088ca0ebe442948540f3ebcdc0791f12"), looks := false }, kinds := [], alts := [], laidByText := true, laidKinds := [.data, .pinned], laidTests := true, laidLooks := .later }
def RefusedFeedsChangeNothingUptoCardSaid : Prop := Claim7.holds Tryz.pinned (.plain (OpenSpec.upto refusedFeedsChangeNothingSpec)) refusedFeedsChangeNothingUptoCard

/-- THE SECOND FORM's CARD OF 'rfkeep1.ComponentsAddUp'. -/
def componentsAddUpUptoCard : Claim7 := { stood := { row := componentsAddUpUptoRow, standIns := [], harness := (true, "789f849c41f522a84636e7b7d6683da0088ca0ebe442948540f3ebcdc0791f12"), looks := false }, kinds := [], alts := [], laidByText := true, laidKinds := [.data, .pinned], laidTests := true, laidLooks := .later }
def ComponentsAddUpUptoCardSaid : Prop := Claim7.holds Tryz.pinned (.plain (OpenSpec.upto componentsAddUpSpec)) componentsAddUpUptoCard

/-- THE SECOND FORM's CARD OF 'rflaw1.BoardsTraced'. -/
def boardsTracedUptoCard : Claim7 := { stood := { row := boardsTracedUptoRow, standIns := [], harness := (true, "789f849c41f522a84636e7b7d6683da0088ca0ebe442948540f3ebcdc0791f12"), looks := false }, kinds := [], alts := [], laidByText := true, laidKinds := [.data, .data, .data, .data, .pinned], laidTests := true, laidLooks := .later }
def BoardsTracedUptoCardSaid : Prop := Claim7.holds Tryz.pinned (.plain (OpenSpec.upto boardsTracedSpec)) boardsTracedUptoCard
end Rows
end Go.Proofs.YtcfeoapbbkfbnaaGreatDoor
