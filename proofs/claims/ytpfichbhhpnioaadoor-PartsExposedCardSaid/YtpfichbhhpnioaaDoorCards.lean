/-
  DERIVED. GIVEN WITH THE SEED: THE CARDS: each row of YtpfichbhhpnioaaDoorRows.lean that lists a variable, with what it lists TIED to the program's text (the seventh form; the later family's looks); each row that meets fmt, with fmt's text TOLD by the authors' own Lean function (tested against real Go, not proved from fmt's source: count such statements apart). THE CARD IS WHAT COUNTS. Prove the row's statement (the work); the ties are given (YtpfichbhhpnioaaDoorTie.lean); close each card by the builder's one call (the guide's Derived/Test/ToyasCard.lean, 'card_holds'). Laid BY PROGRAM, IN A SANDBOX (cutbox-door.mjs). By AI agents, Wed Nov 11 2026. No macro, syntax, notation, axiom, sorry.
-/
import Derived.Test.YtpfichbhhpnioaaDoorRows
import GoSem.ClaimSeven
namespace Go.Proofs.YtpfichbhhpnioaaDoor
namespace Rows

/-- THE TIED CARD OF 'rflaw1.PartsExposed'. -/
def partsExposedCard : Claim7 := { stood := { row := partsExposedRow, standIns := [], harness := (true, "e815229bbdd7aa1680200bb871579a8a19c68f06fe40b9ff27e6ab3a80eed6da"), looks := false }, kinds := [], alts := [], laidByText := true, laidKinds := [.data, .pinned], laidTests := true, laidLooks := .later }
def PartsExposedCardSaid : Prop := Claim7.holds Tryd.pinned (.plain (OpenSpec.ofChange partsExposedSpec)) partsExposedCard

/-- THE SECOND FORM's CARD OF 'rflaw1.PartsExposed'. -/
def partsExposedUptoCard : Claim7 := { stood := { row := partsExposedUptoRow, standIns := [], harness := (true, "e815229bbdd7aa1680200bb871579a8a19c68f06fe40b9ff27e6ab3a80eed6da"), looks := false }, kinds := [], alts := [], laidByText := true, laidKinds := [.data, .pinned], laidTests := true, laidLooks := .later }
def PartsExposedUptoCardSaid : Prop := Claim7.holds Tryd.pinned (.plain (OpenSpec.upto partsExposedSpec)) partsExposedUptoCard
end Rows
end Go.Proofs.YtpfichbhhpnioaaDoor
