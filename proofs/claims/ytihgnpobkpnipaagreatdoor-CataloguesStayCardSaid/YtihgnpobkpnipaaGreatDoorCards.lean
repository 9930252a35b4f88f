/-
  DERIVED. GIVEN WITH THE SEED: THE CARDS: each row of YtihgnpobkpnipaaGreatDoorRows.lean that lists a variable, with what it lists TIED to the program's text (the seventh form; the later family's looks); each row that meets fmt, with fmt's text TOLD by the authors' own Lean function (tested against real Go, not proved from fmt's source: count such statements apart). THE CARD IS WHAT COUNTS. Prove the row's statement (the work); the ties are given (YtihgnpobkpnipaaGreatDoorTie.lean); close each card by the builder's one call (the guide's Derived/Test/ToyasCard.lean, 'card_holds'). Laid BY PROGRAM, IN A SANDBOX (cutbox-door.mjs). By AI agents, Wed Nov 11 2026. No macro, syntax, notation, axiom, sorry.
-/
import Derived.Test.YtihgnpobkpnipaaGreatDoorRows
import GoSem.ClaimSeven
namespace Go.Proofs.YtihgnpobkpnipaaGreatDoor
namespace Rows

/-- THE TIED CARD OF 'rflaw1.CataloguesChecked'. -/
def cataloguesCheckedCard : Claim7 := { stood := { row := cataloguesCheckedRow, standIns := [], harness := (true, "b85f7799089c2354a7f44af7506ae1647446a96d114aa9fc805fea69fb5bce0a"), looks := true }, kinds := [], alts := [], laidByText := true, laidKinds := [.data, .data, .data, .data, .sentinel, .sentinel, .pinned], laidTests := true, laidLooks := .later }
def CataloguesCheckedCardSaid : Prop := Claim7.holds Tryz.pinned (.plain (OpenSpec.ofChange cataloguesCheckedSpec)) cataloguesCheckedCard

/-- THE TIED CARD OF 'rfkeep1.CataloguesComeBack'. -/
def cataloguesComeBackCard : Claim7 := { stood := { row := cataloguesComeBackRow, standIns := [], harness := (true, "b85f7799089c2354a7f44af7506ae1647446a96d114aa9fc805fea69fb5bce0a"), looks := true }, kinds := [], alts := [], laidByText := true, laidKinds := [.data, .data, .data, .data, .sentinel, .sentinel, .pinned], laidTests := true, laidLooks := .later }
def CataloguesComeBackCardSaid : Prop := Claim7.holds Tryz.pinned (.plain (OpenSpec.ofChange cataloguesComeBackSpec)) cataloguesComeBackCard

/-- THE TIED CARD OF 'rfkeep1.MoreStockIsNoShorter'. -/
def moreStockIsNoShorterCard : Claim7 := { stood := { row := moreStockIsNoShorterRow, standIns := [], harness := (true, "b85f7799089c2354a7f44af7506ae1647446a96d114aa9fc805fea69fb5bce0a"), looks := true }, kinds := [], alts := [], laidByText := true, laidKinds := [.data, .data, .data, .data, .sentinel, .sentinel, .pinned], laidTests := true, laidLooks := .later }
def MoreStockIsNoShorterCardSaid : Prop := Claim7.holds Tryz.pinned (.plain (OpenSpec.ofChange moreStockIsNoShorterSpec)) moreStockIsNoShorterCard

/-- THE TIED CARD OF 'rfkeep1.CataloguesStay'. -/
def cataloguesStayCard : Claim7 := { stood := { row := cataloguesStayRow, standIns := [], harness := (true, "b85f7799089c2354a7f44af7506ae1647446a96d114aa9fc805fea69fb5bce0a"), looks := true }, kinds := [], alts := [], laidByText := true, laidKinds := [.data, .data, .data, .data, .sentinel, .sentinel, .pinned], laidTests := true, laidLooks := .later }
def CataloguesStayCardSaid : Prop := Claim7.holds Tryz.pinned (.plain (OpenSpec.ofChange cataloguesStaySpec)) cataloguesStayCard

/-- THE SECOND FORM's CARD OF 'rflaw1.CataloguesChecked'. -/
def cataloguesCheckedUptoCard : Claim7 := { stood := { row := cataloguesCheckedUptoRow, standIns := [], harness := (true, "b85f7799089c2354a7f44af7506ae1647446a96d114aa9fc805fea69fb5bce0a"), looks := true }, kinds := [], alts := [], laidByText := true, laidKinds := [.data, .data, .data, .data, .sentinel, .sentinel, .pinned], laidTests := true, laidLooks := .later }
def CataloguesCheckedUptoCardSaid : Prop := Claim7.holds Tryz.pinned (.plain (OpenSpec.upto cataloguesCheckedSpec)) cataloguesCheckedUptoCard

/-- THE SECOND FORM's CARD OF 'rfkeep1.CataloguesComeBack'. -/
def cataloguesComeBackUptoCard : Claim7 := { stood := { row := cataloguesComeBackUptoRow, standIns := [], harness := (true, "b85f7799089c2354a7f44af7506ae1647446a96d114aa9fc805fea69fb5bce0a"), looks := true }, kinds := [], alts := [], laidByText := true, laidKinds := [.data, .data, .data, .data, .sentinel, .sentinel, .pinned], laidTests := true, laidLooks := .later }
def CataloguesComeBackUptoCardSaid : Prop := Claim7.holds Tryz.pinned (.plain (OpenSpec.upto cataloguesComeBackSpec)) cataloguesComeBackUptoCard

/-- THE SECOND FORM's CARD OF 'rfkeep1.MoreStockIsNoShorter'. -/
def moreStockIsNoShorterUptoCard : Claim7 := { stood := { row := moreStockIsNoShorterUptoRow, standIns := [], harness := (true, "b85f7799089c2354a7f44af7506ae1647446a96d114aa9fc805fea69fb5bce0a"), looks := true }, kinds := [], alts := [], laidByText := true, laidKinds := [.data, .data, .data, .data, .sentinel, .sentinel, .pinned], laidTests := true, laidLooks := .later }
def MoreStockIsNoShorterUptoCardSaid : Prop := Claim7.holds Tryz.pinned (.plain (OpenSpec.upto moreStockIsNoShorterSpec)) moreStockIsNoShorterUptoCard

/-- THE SECOND FORM's CARD OF 'rfkeep1.CataloguesStay'. -/
def cataloguesStayUptoCard : Claim7 := { stood := { row := cataloguesStayUptoRow, standIns := [], harness := (true, "b85f7799089c2354a7f44af7506ae1647446a96d114aa9fc805fea69fb5bce0a"), looks := true }, kinds := [], alts := [], laidByText := true, laidKinds := [.data, .data, .data, .data, .sentinel, .sentinel, .pinned], laidTests := true, laidLooks := .later }
def CataloguesStayUptoCardSaid : Prop := Claim7.holds Tryz.pinned (.plain (OpenSpec.upto cataloguesStaySpec)) cataloguesStayUptoCard
end Rows
end Go.Proofs.YtihgnpobkpnipaaGreatDoor
