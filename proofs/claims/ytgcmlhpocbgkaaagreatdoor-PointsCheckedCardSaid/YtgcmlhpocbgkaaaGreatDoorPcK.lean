/- Closed facts on the row of the law PointsChecked: no walk. No conditions. -/
import Derived.Test.YtgcmlhpocbgkaaaGreatDoorRows
import Derived.Test.YtgcmlhpocbgkaaaGreatDoorCards
import Derived.Test.YtgcmlhpocbgkaaaGreatDoorTie
import Derived.Test.YtgcmlhpocbgkaaaGreatDoorFrame
namespace Go.Proofs.YtgcmlhpocbgkaaaGreatDoor
open Go.ChangeShapes Go.WideShapes Go.ChangeAt Go.RowKit

/-! closed facts, each alone (together they outgrow the kernel's memory) -/
theorem PointsChecked_jf0 : (Rows.pointsCheckedRow.wf (OpenSpec.ofChange Rows.pointsCheckedSpec)) = true := by kernel_rfl
theorem PointsChecked_jf1 : (laidOutB Tryz.prog) = true := by kernel_rfl
theorem PointsChecked_jf2 : (mapsRowed Tryz.prog) = true := by kernel_rfl
theorem PointsChecked_jf3 : (Tryz.f4.params.all (Tryz.prog.readableRec ·)) = true := by kernel_rfl
theorem PointsChecked_jf4 : (namedTie Tryz.prog Rows.pointsCheckedRow.named Rows.pointsCheckedSpec.vars) = true := by kernel_rfl
theorem PointsChecked_jf5 : ((Rows.pointsCheckedRow.stops == [])) = true := by kernel_rfl
theorem PointsChecked_jf6 : ((Tryz.prog.stops == [])) = true := by kernel_rfl
theorem PointsChecked_jf7 : ((Rows.pointsCheckedRow.knobs == [])) = true := by kernel_rfl
theorem PointsChecked_jf8 : ((Tryz.prog.stopKnobs == [])) = true := by kernel_rfl
theorem PointsChecked_jf9 : ((Rows.pointsCheckedRow.inPlace == Tryz.prog.inPlace 4)) = true := by kernel_rfl
theorem PointsChecked_jf10 : ((Rows.pointsCheckedRow.unfollowed == Tryz.prog.unfollowed 4)) = true := by kernel_rfl
theorem PointsChecked_jf11 : ((Rows.pointsCheckedRow.recurses == Tryz.prog.recurses 4)) = true := by kernel_rfl
theorem PointsChecked_jf12 : ((Rows.pointsCheckedRow.named == Tryz.prog.varsNamed 4)) = true := by kernel_rfl
theorem PointsChecked_jf13 : ((Rows.pointsCheckedRow.maps == (Tryz.f4.params.toList ++ Rows.pointsCheckedSpec.plain.varTypes Tryz.prog).any (Tryz.prog.mapsRec ·))) = true := by kernel_rfl
theorem PointsChecked_jf14 : ((Rows.pointsCheckedRow.ifaces == (Tryz.f4.params.toList ++ Rows.pointsCheckedSpec.plain.varTypes Tryz.prog).any (Tryz.prog.ifacesRec ·))) = true := by kernel_rfl
theorem PointsChecked_jf15 : ((Rows.pointsCheckedRow.mapsOut == Tryz.prog.mapsAmong Tryz.f4.resultTypes.toList)) = true := by kernel_rfl
theorem PointsChecked_jf16 : ((Rows.pointsCheckedRow.loops == (Tryz.f4.params.toList ++ Rows.pointsCheckedSpec.plain.varTypes Tryz.prog).any (Tryz.prog.loopsFrom ·))) = true := by kernel_rfl
theorem PointsChecked_jf17 : ((Rows.pointsCheckedRow.wideKeys == (Tryz.f4.params.toList ++ Rows.pointsCheckedSpec.plain.varTypes Tryz.prog ++ Tryz.f4.resultTypes.toList).any (Tryz.prog.wideKeysFrom ·))) = true := by kernel_rfl
theorem PointsChecked_jf18 : (Rows.pointsCheckedSpec.vars.all (Tryz.prog.varReadable ·)) = true := by kernel_rfl
theorem PointsChecked_jf19 : (Tryz.f4.resultTypes.all (fun t => Tryz.prog.readableRec t && decide (t < Tryz.prog.types.size))) = true := by kernel_rfl
theorem PointsChecked_jf20 : ((Rows.pointsCheckedRow.ifacesOut == Tryz.f4.resultTypes.toList.any (Tryz.prog.ifacesRec ·))) = true := by kernel_rfl
theorem PointsChecked_jf21 : ((Rows.pointsCheckedRow.loopsOut == Tryz.f4.resultTypes.toList.any (Tryz.prog.loopsFrom ·))) = true := by kernel_rfl
theorem PointsChecked_jf22 : ((Rows.pointsCheckedRow.plainKeys == Tryz.prog.plainKeys)) = true := by kernel_rfl
theorem PointsChecked_jf23 : (Rows.pointsCheckedRow.shortTexts.isNone) = true := by kernel_rfl
theorem PointsChecked_jf24 : (Tryz.prog.stopsHeard) = true := by kernel_rfl
theorem PointsChecked_jf25 : (Tryz.prog.mayEnter) = true := by kernel_rfl
theorem PointsChecked_jf26 : ((Rows.pointsCheckedRow.lifted == Tryz.prog.liftsFinal)) = true := by kernel_rfl
theorem PointsChecked_jf27 : ((Tryz.prog.make == some Rows.pointsCheckedRow.make)) = true := by kernel_rfl
theorem PointsChecked_jf28 : ((Rows.pointsCheckedRow.kinds == (if Rows.pointsCheckedRow.domain.isEmpty then [] else Tryz.f4.params.toList.map fun t => match Tryz.prog.underlying t with | some (.int k) => some k | _ => none))) = true := by kernel_rfl
theorem PointsChecked_jf29 : ((Rows.pointsCheckedRow.pinned == Rows.pointsCheckedRow.pinnedBy)) = true := by kernel_rfl
theorem PointsChecked_jf30 : ((Rows.pointsCheckedRow.veiled == (Tryz.f4.params.toList ++ Rows.pointsCheckedSpec.plain.varTypes Tryz.prog ++ Tryz.f4.resultTypes.toList).any (Tryz.prog.veiledRec ·))) = true := by kernel_rfl
theorem PointsChecked_jf31 : (Rows.pointsCheckedRow.veiledFits Tryz.prog Tryz.f4.params.toList (Tryz.f4.params.toList ++ Rows.pointsCheckedSpec.plain.varTypes Tryz.prog ++ Tryz.f4.resultTypes.toList)) = true := by kernel_rfl
theorem PointsChecked_hnm : Tryz.prog.funcNamed "reelfeeder/rflaw1.PointsChecked" = some 4 := by kernel_rfl
theorem PointsChecked_hin : Tryz.f4.isInstance Tryz.prog Rows.pointsCheckedRow.origin Rows.pointsCheckedRow.targs := of_decide_eq_true (by kernel_rfl)
theorem PointsChecked_hwr : Tryz.f4.isWrapper Tryz.prog Rows.pointsCheckedRow.wrapper Rows.pointsCheckedRow.mainSum := by unfold Func.isWrapper; first | (rw [if_pos (by decide +kernel)]; kernel_rfl) | (rw [if_neg (by decide +kernel)]; exact ⟨rfl, rfl⟩)
theorem PointsChecked_hwf : Rows.pointsCheckedRow.wfByText (OpenSpec.ofChange Rows.pointsCheckedSpec) = true := by kernel_rfl
theorem PointsChecked_hmi : Tryz.prog.mainIs = some (true, "717bef4992ae00988c64eb045860e6c64a43fa6255acf3d6f75714a09c04f315".toList) := by kernel_rfl
theorem PointsChecked_hlo : true = Tryz.prog.looks [] := by kernel_rfl
theorem PointsChecked_hst : ([22].all fun u => !Tryz.prog.wantsStandIn u) = true := by kernel_rfl
theorem PointsChecked_hgo : false = Rows.pointsCheckedRow.goesBy Tryz.prog := by kernel_rfl
end Go.Proofs.YtgcmlhpocbgkaaaGreatDoor
