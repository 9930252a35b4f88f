/- Closed facts on the row of the law PartsReplaced: no walk. No conditions. -/
import Derived.Test.YteojmljggoplkaaGreatDoorPz46
import Derived.Test.YteojmljggoplkaaGreatDoorRows
import Derived.Test.YteojmljggoplkaaGreatDoorCards
import Derived.Test.YteojmljggoplkaaGreatDoorTie
namespace Go.Proofs.YteojmljggoplkaaGreatDoor
open Go.ChangeShapes Go.WideShapes Go.ChangeAt Go.RowKit

/-! closed facts, each alone (together they outgrow the kernel's memory) -/
theorem PartsReplaced_jf0 : (Rows.partsReplacedRow.wf (OpenSpec.ofChange Rows.partsReplacedSpec)) = true := by kernel_rfl
theorem PartsReplaced_jf1 : (laidOutB Tryz.prog) = true := by kernel_rfl
theorem PartsReplaced_jf2 : (mapsRowed Tryz.prog) = true := by kernel_rfl
theorem PartsReplaced_jf3 : (Tryz.f3.params.all (Tryz.prog.readableRec ·)) = true := by kernel_rfl
theorem PartsReplaced_jf4 : (namedTie Tryz.prog Rows.partsReplacedRow.named Rows.partsReplacedSpec.vars) = true := by kernel_rfl
theorem PartsReplaced_jf5 : ((Rows.partsReplacedRow.stops == [])) = true := by kernel_rfl
theorem PartsReplaced_jf6 : ((Tryz.prog.stops == [])) = true := by kernel_rfl
theorem PartsReplaced_jf7 : ((Rows.partsReplacedRow.knobs == [])) = true := by kernel_rfl
theorem PartsReplaced_jf8 : ((Tryz.prog.stopKnobs == [])) = true := by kernel_rfl
theorem PartsReplaced_jf9 : ((Rows.partsReplacedRow.inPlace == Tryz.prog.inPlace 3)) = true := by kernel_rfl
theorem PartsReplaced_jf10 : ((Rows.partsReplacedRow.unfollowed == Tryz.prog.unfollowed 3)) = true := by kernel_rfl
theorem PartsReplaced_jf11 : ((Rows.partsReplacedRow.recurses == Tryz.prog.recurses 3)) = true := by kernel_rfl
theorem PartsReplaced_jf12 : ((Rows.partsReplacedRow.named == Tryz.prog.varsNamed 3)) = true := by kernel_rfl
theorem PartsReplaced_jf13 : ((Rows.partsReplacedRow.maps == (Tryz.f3.params.toList ++ Rows.partsReplacedSpec.plain.varTypes Tryz.prog).any (Tryz.prog.mapsRec ·))) = true := by kernel_rfl
theorem PartsReplaced_jf14 : ((Rows.partsReplacedRow.ifaces == (Tryz.f3.params.toList ++ Rows.partsReplacedSpec.plain.varTypes Tryz.prog).any (Tryz.prog.ifacesRec ·))) = true := by kernel_rfl
theorem PartsReplaced_jf15 : ((Rows.partsReplacedRow.mapsOut == Tryz.prog.mapsAmong Tryz.f3.resultTypes.toList)) = true := by kernel_rfl
theorem PartsReplaced_jf16 : ((Rows.partsReplacedRow.loops == (Tryz.f3.params.toList ++ Rows.partsReplacedSpec.plain.varTypes Tryz.prog).any (Tryz.prog.loopsFrom ·))) = true := by kernel_rfl
theorem PartsReplaced_jf17 : ((Rows.partsReplacedRow.wideKeys == (Tryz.f3.params.toList ++ Rows.partsReplacedSpec.plain.varTypes Tryz.prog ++ Tryz.f3.resultTypes.toList).any (Tryz.prog.wideKeysFrom ·))) = true := by kernel_rfl
theorem PartsReplaced_jf18 : (Rows.partsReplacedSpec.vars.all (Tryz.prog.varReadable ·)) = true := by kernel_rfl
theorem PartsReplaced_jf19 : (Tryz.f3.resultTypes.all (fun t => Tryz.prog.readableRec t && decide (t < Tryz.prog.types.size))) = true := by kernel_rfl
theorem PartsReplaced_jf20 : ((Rows.partsReplacedRow.ifacesOut == Tryz.f3.resultTypes.toList.any (Tryz.prog.ifacesRec ·))) = true := by kernel_rfl
theorem PartsReplaced_jf21 : ((Rows.partsReplacedRow.loopsOut == Tryz.f3.resultTypes.toList.any (Tryz.prog.loopsFrom ·))) = true := by kernel_rfl
theorem PartsReplaced_jf22 : ((Rows.partsReplacedRow.plainKeys == Tryz.prog.plainKeys)) = true := by kernel_rfl
theorem PartsReplaced_jf23 : (Rows.partsReplacedRow.shortTexts.isNone) = true := by kernel_rfl
theorem PartsReplaced_jf24 : (Tryz.prog.stopsHeard) = true := by kernel_rfl
theorem PartsReplaced_jf25 : (Tryz.prog.mayEnter) = true := by kernel_rfl
theorem PartsReplaced_jf26 : ((Rows.partsReplacedRow.lifted == Tryz.prog.liftsFinal)) = true := by kernel_rfl
theorem PartsReplaced_jf27 : ((Tryz.prog.make == some Rows.partsReplacedRow.make)) = true := by kernel_rfl
theorem PartsReplaced_jf28 : ((Rows.partsReplacedRow.kinds == (if Rows.partsReplacedRow.domain.isEmpty then [] else Tryz.f3.params.toList.map fun t => match Tryz.prog.underlying t with | some (.int k) => some k | _ => none))) = true := by kernel_rfl
theorem PartsReplaced_jf29 : ((Rows.partsReplacedRow.pinned == Rows.partsReplacedRow.pinnedBy)) = true := by kernel_rfl
theorem PartsReplaced_jf30 : ((Rows.partsReplacedRow.veiled == (Tryz.f3.params.toList ++ Rows.partsReplacedSpec.plain.varTypes Tryz.prog ++ Tryz.f3.resultTypes.toList).any (Tryz.prog.veiledRec ·))) = true := by kernel_rfl
theorem PartsReplaced_jf31 : (Rows.partsReplacedRow.veiledFits Tryz.prog Tryz.f3.params.toList (Tryz.f3.params.toList ++ Rows.partsReplacedSpec.plain.varTypes Tryz.prog ++ Tryz.f3.resultTypes.toList)) = true := by kernel_rfl
theorem PartsReplaced_hnm : Tryz.prog.funcNamed "reelfeeder/rflaw1.PartsReplaced" = some 3 := by kernel_rfl
theorem PartsReplaced_hin : Tryz.f3.isInstance Tryz.prog Rows.partsReplacedRow.origin Rows.partsReplacedRow.targs := of_decide_eq_true (by kernel_rfl)
theorem PartsReplaced_hwr : Tryz.f3.isWrapper Tryz.prog Rows.partsReplacedRow.wrapper Rows.partsReplacedRow.mainSum := by unfold Func.isWrapper; first | (rw [if_pos (by decide +kernel)]; kernel_rfl) | (rw [if_neg (by decide +kernel)]; exact ⟨rfl, rfl⟩)
theorem PartsReplaced_hwf : Rows.partsReplacedRow.wfByText (OpenSpec.ofChange Rows.partsReplacedSpec) = true := by kernel_rfl
theorem PartsReplaced_hmi : Tryz.prog.mainIs = some (true, "29158173b6d2998a7d50fefa7618441897ab7f1fdaa372bd3a78ee167cb97722".toList) := by kernel_rfl
theorem PartsReplaced_hlo : true = Tryz.prog.looks [] := by kernel_rfl
theorem PartsReplaced_hst : ([22].all fun u => !Tryz.prog.wantsStandIn u) = true := by kernel_rfl
theorem PartsReplaced_hgo : false = Rows.partsReplacedRow.goesBy Tryz.prog := by kernel_rfl
end Go.Proofs.YteojmljggoplkaaGreatDoor
