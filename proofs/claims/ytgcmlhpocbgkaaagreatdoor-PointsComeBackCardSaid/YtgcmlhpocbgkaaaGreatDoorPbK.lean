/- Closed facts on the row of the law PointsComeBack: no walk. No conditions. -/
import Derived.Test.YtgcmlhpocbgkaaaGreatDoorRows
import Derived.Test.YtgcmlhpocbgkaaaGreatDoorCards
import Derived.Test.YtgcmlhpocbgkaaaGreatDoorTie
import Derived.Test.YtgcmlhpocbgkaaaGreatDoorFrame
namespace Go.Proofs.YtgcmlhpocbgkaaaGreatDoor
open Go.ChangeShapes Go.WideShapes Go.ChangeAt Go.RowKit

/-! closed facts, each alone (together they outgrow the kernel's memory) -/
theorem PointsComeBack_jf0 : (Rows.pointsComeBackRow.wf (OpenSpec.ofChange Rows.pointsComeBackSpec)) = true := by kernel_rfl
theorem PointsComeBack_jf1 : (laidOutB Tryz.prog) = true := by kernel_rfl
theorem PointsComeBack_jf2 : (mapsRowed Tryz.prog) = true := by kernel_rfl
theorem PointsComeBack_jf3 : (Tryz.f10.params.all (Tryz.prog.readableRec ·)) = true := by kernel_rfl
theorem PointsComeBack_jf4 : (namedTie Tryz.prog Rows.pointsComeBackRow.named Rows.pointsComeBackSpec.vars) = true := by kernel_rfl
theorem PointsComeBack_jf5 : ((Rows.pointsComeBackRow.stops == [])) = true := by kernel_rfl
theorem PointsComeBack_jf6 : ((Tryz.prog.stops == [])) = true := by kernel_rfl
theorem PointsComeBack_jf7 : ((Rows.pointsComeBackRow.knobs == [])) = true := by kernel_rfl
theorem PointsComeBack_jf8 : ((Tryz.prog.stopKnobs == [])) = true := by kernel_rfl
theorem PointsComeBack_jf9 : ((Rows.pointsComeBackRow.inPlace == Tryz.prog.inPlace 10)) = true := by kernel_rfl
theorem PointsComeBack_jf10 : ((Rows.pointsComeBackRow.unfollowed == Tryz.prog.unfollowed 10)) = true := by kernel_rfl
theorem PointsComeBack_jf11 : ((Rows.pointsComeBackRow.recurses == Tryz.prog.recurses 10)) = true := by kernel_rfl
theorem PointsComeBack_jf12 : ((Rows.pointsComeBackRow.named == Tryz.prog.varsNamed 10)) = true := by kernel_rfl
theorem PointsComeBack_jf13 : ((Rows.pointsComeBackRow.maps == (Tryz.f10.params.toList ++ Rows.pointsComeBackSpec.plain.varTypes Tryz.prog).any (Tryz.prog.mapsRec ·))) = true := by kernel_rfl
theorem PointsComeBack_jf14 : ((Rows.pointsComeBackRow.ifaces == (Tryz.f10.params.toList ++ Rows.pointsComeBackSpec.plain.varTypes Tryz.prog).any (Tryz.prog.ifacesRec ·))) = true := by kernel_rfl
theorem PointsComeBack_jf15 : ((Rows.pointsComeBackRow.mapsOut == Tryz.prog.mapsAmong Tryz.f10.resultTypes.toList)) = true := by kernel_rfl
theorem PointsComeBack_jf16 : ((Rows.pointsComeBackRow.loops == (Tryz.f10.params.toList ++ Rows.pointsComeBackSpec.plain.varTypes Tryz.prog).any (Tryz.prog.loopsFrom ·))) = true := by kernel_rfl
theorem PointsComeBack_jf17 : ((Rows.pointsComeBackRow.wideKeys == (Tryz.f10.params.toList ++ Rows.pointsComeBackSpec.plain.varTypes Tryz.prog ++ Tryz.f10.resultTypes.toList).any (Tryz.prog.wideKeysFrom ·))) = true := by kernel_rfl
theorem PointsComeBack_jf18 : (Rows.pointsComeBackSpec.vars.all (Tryz.prog.varReadable ·)) = true := by kernel_rfl
theorem PointsComeBack_jf19 : (Tryz.f10.resultTypes.all (fun t => Tryz.prog.readableRec t && decide (t < Tryz.prog.types.size))) = true := by kernel_rfl
theorem PointsComeBack_jf20 : ((Rows.pointsComeBackRow.ifacesOut == Tryz.f10.resultTypes.toList.any (Tryz.prog.ifacesRec ·))) = true := by kernel_rfl
theorem PointsComeBack_jf21 : ((Rows.pointsComeBackRow.loopsOut == Tryz.f10.resultTypes.toList.any (Tryz.prog.loopsFrom ·))) = true := by kernel_rfl
theorem PointsComeBack_jf22 : ((Rows.pointsComeBackRow.plainKeys == Tryz.prog.plainKeys)) = true := by kernel_rfl
theorem PointsComeBack_jf23 : (Rows.pointsComeBackRow.shortTexts.isNone) = true := by kernel_rfl
theorem PointsComeBack_jf24 : (Tryz.prog.stopsHeard) = true := by kernel_rfl
theorem PointsComeBack_jf25 : (Tryz.prog.mayEnter) = true := by kernel_rfl
theorem PointsComeBack_jf26 : ((Rows.pointsComeBackRow.lifted == Tryz.prog.liftsFinal)) = true := by kernel_rfl
theorem PointsComeBack_jf27 : ((Tryz.prog.make == some Rows.pointsComeBackRow.make)) = true := by kernel_rfl
theorem PointsComeBack_jf28 : ((Rows.pointsComeBackRow.kinds == (if Rows.pointsComeBackRow.domain.isEmpty then [] else Tryz.f10.params.toList.map fun t => match Tryz.prog.underlying t with | some (.int k) => some k | _ => none))) = true := by kernel_rfl
theorem PointsComeBack_jf29 : ((Rows.pointsComeBackRow.pinned == Rows.pointsComeBackRow.pinnedBy)) = true := by kernel_rfl
theorem PointsComeBack_jf30 : ((Rows.pointsComeBackRow.veiled == (Tryz.f10.params.toList ++ Rows.pointsComeBackSpec.plain.varTypes Tryz.prog ++ Tryz.f10.resultTypes.toList).any (Tryz.prog.veiledRec ·))) = true := by kernel_rfl
theorem PointsComeBack_jf31 : (Rows.pointsComeBackRow.veiledFits Tryz.prog Tryz.f10.params.toList (Tryz.f10.params.toList ++ Rows.pointsComeBackSpec.plain.varTypes Tryz.prog ++ Tryz.f10.resultTypes.toList)) = true := by kernel_rfl
theorem PointsComeBack_hnm : Tryz.prog.funcNamed "reelfeeder/rfkeep1.PointsComeBack" = some 10 := by kernel_rfl
theorem PointsComeBack_hin : Tryz.f10.isInstance Tryz.prog Rows.pointsComeBackRow.origin Rows.pointsComeBackRow.targs := of_decide_eq_true (by kernel_rfl)
theorem PointsComeBack_hwr : Tryz.f10.isWrapper Tryz.prog Rows.pointsComeBackRow.wrapper Rows.pointsComeBackRow.mainSum := by unfold Func.isWrapper; first | (rw [if_pos (by decide +kernel)]; kernel_rfl) | (rw [if_neg (by decide +kernel)]; exact ⟨rfl, rfl⟩)
theorem PointsComeBack_hwf : Rows.pointsComeBackRow.wfByText (OpenSpec.ofChange Rows.pointsComeBackSpec) = true := by kernel_rfl
theorem PointsComeBack_hmi : Tryz.prog.mainIs = some (true, "717bef4992ae00988c64eb045860e6c64a43fa6255acf3d6f75714a09c04f315".toList) := by kernel_rfl
theorem PointsComeBack_hlo : true = Tryz.prog.looks [] := by kernel_rfl
theorem PointsComeBack_hst : ([22].all fun u => !Tryz.prog.wantsStandIn u) = true := by kernel_rfl
theorem PointsComeBack_hgo : false = Rows.pointsComeBackRow.goesBy Tryz.prog := by kernel_rfl
end Go.Proofs.YtgcmlhpocbgkaaaGreatDoor
