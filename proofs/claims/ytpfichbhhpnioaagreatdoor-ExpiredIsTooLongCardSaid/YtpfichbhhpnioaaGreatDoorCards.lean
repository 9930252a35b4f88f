/-
  DERIVED. GIVEN WITH THE SEED: THE CARDS: each row of YtpfichbhhpnioaaGreatDoorRows.lean that lists a variable, with what it lists TIED to the program's text (the seventh form; the later family's looks); each row that meets fmt, with fmt's text TOLD by the authors' own Lean function (tested against real Go, not proved from fmt's source: count such statements apart). THE CARD IS WHAT COUNTS. Prove the row's statement (the work); the ties are given (YtpfichbhhpnioaaGreatDoorTie.lean); close each card by the builder's one call (the guide's Derived/Test/ToyasCard.lean, 'card_holds'). Laid BY PROGRAM, IN A SANDBOX (cutbox-door.mjs). By AI agents, Wed Nov 11 2026. No macro, syntax, notation, axiom, sorry.
-/
import Derived.Test.YtpfichbhhpnioaaGreatDoorRows
import GoSem.ClaimSeven
namespace Go.Proofs.YtpfichbhhpnioaaGreatDoor
namespace Rows

/-- THE TIED CARD OF 'rfkeep1.ExposureGrowsOnTheFloorAlone'. -/
def exposureGrowsOnTheFloorAloneCard : Claim7 := { stood := { row := exposureGrowsOnTheFloorAloneRow, standIns := [], harness := (true, "3db9f3ee98a5e3b4d0eee479284a86ab7717c2380edf4a541db8152c7b801968"), looks := true }, kinds := [], alts := [], laidByText := true, laidKinds := [.data, .pinned], laidTests := true, laidLooks := .later }
def ExposureGrowsOnTheFloorAloneCardSaid : Prop := Claim7.holds Tryz.pinned (.plain (OpenSpec.ofChange exposureGrowsOnTheFloorAloneSpec)) exposureGrowsOnTheFloorAloneCard

/-- THE TIED CARD OF 'rfkeep1.ExpiredIsTooLong'. -/
def expiredIsTooLongCard : Claim7 := { stood := { row := expiredIsTooLongRow, standIns := [], harness := (true, "3db9f3ee98a5e3b4d0eee479284a86ab7717c2380edf4a541db8152c7b801968"), looks := true }, kinds := [], alts := [], laidByText := true, laidKinds := [.data, .pinned], laidTests := true, laidLooks := .later }
def ExpiredIsTooLongCardSaid : Prop := Claim7.holds Tryz.pinned (.plain (OpenSpec.ofChange expiredIsTooLongSpec)) expiredIsTooLongCard

/-- THE TIED CARD OF 'rftop.TopReelsWithinLife'. -/
def topReelsWithinLifeCard : Claim7 := { stood := { row := topReelsWithinLifeRow, standIns := [], harness := (true, "3db9f3ee98a5e3b4d0eee479284a86ab7717c2380edf4a541db8152c7b801968"), looks := true }, kinds := [], alts := [], laidByText := true, laidKinds := [.data, .pinned], laidTests := true, laidLooks := .later }
def TopReelsWithinLifeCardSaid : Prop := Claim7.holds Tryz.pinned (.plain (OpenSpec.ofChange topReelsWithinLifeSpec)) topReelsWithinLifeCard

/-- THE TIED CARD OF 'rflaw1.CataloguesChecked'. -/
def cataloguesCheckedCard : Claim7 := { stood := { row := cataloguesCheckedRow, standIns := [], harness := (true, "3db9f3ee98a5e3b4d0eee479284a86ab7717c2380edf4a541db8152c7b801968"), looks := true }, kinds := [], alts := [], laidByText := true, laidKinds := [.data, .data, .data, .data, .sentinel, .sentinel, .pinned], laidTests := true, laidLooks := .later }
def CataloguesCheckedCardSaid : Prop := Claim7.holds Tryz.pinned (.plain (OpenSpec.ofChange cataloguesCheckedSpec)) cataloguesCheckedCard

/-- THE TIED CARD OF 'rflaw1.PartsReplaced'. -/
def partsReplacedCard : Claim7 := { stood := { row := partsReplacedRow, standIns := [], harness := (true, "3db9f3ee98a5e3b4d0eee479284a86ab7717c2380edf4a541db8152c7b801968"), looks := true }, kinds := [], alts := [], laidByText := true, laidKinds := [.data, .data, .data, .data, .sentinel, .sentinel, .pinned], laidTests := true, laidLooks := .later }
def PartsReplacedCardSaid : Prop := Claim7.holds Tryz.pinned (.plain (OpenSpec.ofChange partsReplacedSpec)) partsReplacedCard

/-- THE TIED CARD OF 'rfkeep1.ChainsAreChains'. -/
def chainsAreChainsCard : Claim7 := { stood := { row := chainsAreChainsRow, standIns := [], harness := (true, "3db9f3ee98a5e3b4d0eee479284a86ab7717c2380edf4a541db8152c7b801968"), looks := true }, kinds := [], alts := [], laidByText := true, laidKinds := [.data, .pinned], laidTests := true, laidLooks := .later }
def ChainsAreChainsCardSaid : Prop := Claim7.holds Tryz.pinned (.plain (OpenSpec.ofChange chainsAreChainsSpec)) chainsAreChainsCard

/-- THE TIED CARD OF 'rfkeep1.GroupsReplaceOneAnother'. -/
def groupsReplaceOneAnotherCard : Claim7 := { stood := { row := groupsReplaceOneAnotherRow, standIns := [], harness := (true, "3db9f3ee98a5e3b4d0eee479284a86ab7717c2380edf4a541db8152c7b801968"), looks := true }, kinds := [], alts := [], laidByText := true, laidKinds := [.data, .pinned], laidTests := true, laidLooks := .later }
def GroupsReplaceOneAnotherCardSaid : Prop := Claim7.holds Tryz.pinned (.plain (OpenSpec.ofChange groupsReplaceOneAnotherSpec)) groupsReplaceOneAnotherCard

/-- THE TIED CARD OF 'rfkeep1.MoreStockIsNoShorter'. -/
def moreStockIsNoShorterCard : Claim7 := { stood := { row := moreStockIsNoShorterRow, standIns := [], harness := (true, "3db9f3ee98a5e3b4d0eee479284a86ab7717c2380edf4a541db8152c7b801968"), looks := true }, kinds := [], alts := [], laidByText := true, laidKinds := [.data, .data, .data, .data, .sentinel, .sentinel, .pinned], laidTests := true, laidLooks := .later }
def MoreStockIsNoShorterCardSaid : Prop := Claim7.holds Tryz.pinned (.plain (OpenSpec.ofChange moreStockIsNoShorterSpec)) moreStockIsNoShorterCard

/-- THE TIED CARD OF 'rfkeep1.CataloguesComeBack'. -/
def cataloguesComeBackCard : Claim7 := { stood := { row := cataloguesComeBackRow, standIns := [], harness := (true, "3db9f3ee98a5e3b4d0eee479284a86ab7717c2380edf4a541db8152c7b801968"), looks := true }, kinds := [], alts := [], laidByText := true, laidKinds := [.data, .data, .data, .data, .sentinel, .sentinel, .pinned], laidTests := true, laidLooks := .later }
def CataloguesComeBackCardSaid : Prop := Claim7.holds Tryz.pinned (.plain (OpenSpec.ofChange cataloguesComeBackSpec)) cataloguesComeBackCard

/-- THE TIED CARD OF 'rfkeep1.CataloguesStay'. -/
def cataloguesStayCard : Claim7 := { stood := { row := cataloguesStayRow, standIns := [], harness := (true, "3db9f3ee98a5e3b4d0eee479284a86ab7717c2380edf4a541db8152c7b801968"), looks := true }, kinds := [], alts := [], laidByText := true, laidKinds := [.data, .data, .data, .data, .sentinel, .sentinel, .pinned], laidTests := true, laidLooks := .later }
def CataloguesStayCardSaid : Prop := Claim7.holds Tryz.pinned (.plain (OpenSpec.ofChange cataloguesStaySpec)) cataloguesStayCard

/-- THE SECOND FORM's CARD OF 'rfkeep1.ExposureGrowsOnTheFloorAlone'. -/
def exposureGrowsOnTheFloorAloneUptoCard : Claim7 := { stood := { row := exposureGrowsOnTheFloorAloneUptoRow, standIns := [], harness := (true, "3db9f3ee98a5e3b4d0eee479284a86ab7717c2380edf4a541db8152c7b801968"), looks := true }, kinds := [], alts := [], laidByText := true, laidKinds := [.data, .pinned], laidTests := true, laidLooks := .later }
def ExposureGrowsOnTheFloorAloneUptoCardSaid : Prop := Claim7.holds Tryz.pinned (.plain (OpenSpec.upto exposureGrowsOnTheFloorAloneSpec)) exposureGrowsOnTheFloorAloneUptoCard

/-- THE SECOND FORM's CARD OF 'rfkeep1.ExpiredIsTooLong'. -/
def expiredIsTooLongUptoCard : Claim7 := { stood := { row := expiredIsTooLongUptoRow, standIns := [], harness := (true, "3db9f3ee98a5e3b4d0eee479284a86ab7717c2380edf4a541db8152c7b801968"), looks := true }, kinds := [], alts := [], laidByText := true, laidKinds := [.data, .pinned], laidTests := true, laidLooks := .later }
def ExpiredIsTooLongUptoCardSaid : Prop := Claim7.holds Tryz.pinned (.plain (OpenSpec.upto expiredIsTooLongSpec)) expiredIsTooLongUptoCard

/-- THE SECOND FORM's CARD OF 'rftop.TopReelsWithinLife'. -/
def topReelsWithinLifeUptoCard : Claim7 := { stood := { row := topReelsWithinLifeUptoRow, standIns := [], harness := (true, "3db9f3ee98a5e3b4d0eee479284a86ab7717c2380edf4a541db8152c7b801968"), looks := true }, kinds := [], alts := [], laidByText := true, laidKinds := [.data, .pinned], laidTests := true, laidLooks := .later }
def TopReelsWithinLifeUptoCardSaid : Prop := Claim7.holds Tryz.pinned (.plain (OpenSpec.upto topReelsWithinLifeSpec)) topReelsWithinLifeUptoCard

/-- THE SECOND FORM's CARD OF 'rflaw1.CataloguesChecked'. -/
def cataloguesCheckedUptoCard : Claim7 := { stood := { row := cataloguesCheckedUptoRow, standIns := [], harness := (true, "3db9f3ee98a5e3b4d0eee479284a86ab7717c2380edf4a541db8152c7b801968"), looks := true }, kinds := [], alts := [], laidByText := true, laidKinds := [.data, .data, .data, .data, .sentinel, .sentinel, .pinned], laidTests := true, laidLooks := .later }
def CataloguesCheckedUptoCardSaid : Prop := Claim7.holds Tryz.pinned (.plain (OpenSpec.upto cataloguesCheckedSpec)) cataloguesCheckedUptoCard

/-- THE SECOND FORM's CARD OF 'rflaw1.PartsReplaced'. -/
def partsReplacedUptoCard : Claim7 := { stood := { row := partsReplacedUptoRow, standIns := [], harness := (true, "3db9f3ee98a5e3b4d0eee479284a86ab7717c2380edf4a541db8152c7b801968"), looks := true }, kinds := [], alts := [], laidByText := true, laidKinds := [.data, .data, .data, .data, .sentinel, .sentinel, .pinned], laidTests := true, laidLooks := .later }
def PartsReplacedUptoCardSaid : Prop := Claim7.holds Tryz.pinned (.plain (OpenSpec.upto partsReplacedSpec)) partsReplacedUptoCard

/-- THE SECOND FORM's CARD OF 'rfkeep1.ChainsAreChains'. -/
def chainsAreChainsUptoCard : Claim7 := { stood := { row := chainsAreChainsUptoRow, standIns := [], harness := (true, "3db9f3ee98a5e3b4d0eee479284a86ab7717c2380edf4a541db8152c7b801968"), looks := true }, kinds := [], alts := [], laidByText := true, laidKinds := [.data, .pinned], laidTests := true, laidLooks := .later }
def ChainsAreChainsUptoCardSaid : Prop := Claim7.holds Tryz.pinned (.plain (OpenSpec.upto chainsAreChainsSpec)) chainsAreChainsUptoCard

/-- THE SECOND FORM's CARD OF 'rfkeep1.GroupsReplaceOneAnother'. -/
def groupsReplaceOneAnotherUptoCard : Claim7 := { stood := { row := groupsReplaceOneAnotherUptoRow, standIns := [], harness := (true, "3db9f3ee98a5e3b4d0eee479284a86ab7717c2380edf4a541db8152c7b801968"), looks := true }, kinds := [], alts := [], laidByText := true, laidKinds := [.data, .pinned], laidTests := true, laidLooks := .later }
def GroupsReplaceOneAnotherUptoCardSaid : Prop := Claim7.holds Tryz.pinned (.plain (OpenSpec.upto groupsReplaceOneAnotherSpec)) groupsReplaceOneAnotherUptoCard

/-- THE SECOND FORM's CARD OF 'rfkeep1.MoreStockIsNoShorter'. -/
def moreStockIsNoShorterUptoCard : Claim7 := { stood := { row := moreStockIsNoShorterUptoRow, standIns := [], harness := (true, "3db9f3ee98a5e3b4d0eee479284a86ab7717c2380edf4a541db8152c7b801968"), looks := true }, kinds := [], alts := [], laidByText := true, laidKinds := [.data, .data, .data, .data, .sentinel, .sentinel, .pinned], laidTests := true, laidLooks := .later }
def MoreStockIsNoShorterUptoCardSaid : Prop := Claim7.holds Tryz.pinned (.plain (OpenSpec.upto moreStockIsNoShorterSpec)) moreStockIsNoShorterUptoCard

/-- THE SECOND FORM's CARD OF 'rfkeep1.CataloguesComeBack'. -/
def cataloguesComeBackUptoCard : Claim7 := { stood := { row := cataloguesComeBackUptoRow, standIns := [], harness := (true, "3db9f3ee98a5e3b4d0eee479284a86ab7717c2380edf4a541db8152c7b801968"), looks := true }, kinds := [], alts := [], laidByText := true, laidKinds := [.data, .data, .data, .data, .sentinel, .sentinel, .pinned], laidTests := true, laidLooks := .later }
def CataloguesComeBackUptoCardSaid : Prop := Claim7.holds Tryz.pinned (.plain (OpenSpec.upto cataloguesComeBackSpec)) cataloguesComeBackUptoCard

/-- THE SECOND FORM's CARD OF 'rfkeep1.CataloguesStay'. -/
def cataloguesStayUptoCard : Claim7 := { stood := { row := cataloguesStayUptoRow, standIns := [], harness := (true, "3db9f3ee98a5e3b4d0eee479284a86ab7717c2380edf4a541db8152c7b801968"), looks := true }, kinds := [], alts := [], laidByText := true, laidKinds := [.data, .data, .data, .data, .sentinel, .sentinel, .pinned], laidTests := true, laidLooks := .later }
def CataloguesStayUptoCardSaid : Prop := Claim7.holds Tryz.pinned (.plain (OpenSpec.upto cataloguesStaySpec)) cataloguesStayUptoCard
end Rows
end Go.Proofs.YtpfichbhhpnioaaGreatDoor
