/- Closed facts on the row of the law StepsComeBack: no walk. No conditions. -/
import Derived.Test.YtnmimagninhkkaaGreatDoorRows
import Derived.Test.YtnmimagninhkkaaGreatDoorCards
import Derived.Test.YtnmimagninhkkaaGreatDoorTie
import Derived.Test.YtnmimagninhkkaaGreatDoorFrame
namespace Go.Proofs.YtnmimagninhkkaaGreatDoor
open Go.ChangeShapes Go.WideShapes Go.ChangeAt Go.RowKit

/-! closed facts, each alone (together they outgrow the kernel's memory) -/
theorem StepsComeBack_jf0 : (Rows.stepsComeBackRow.wf (OpenSpec.ofChange Rows.stepsComeBackSpec)) = true := by kernel_rfl
theorem StepsComeBack_jf1 : (laidOutB Tryz.prog) = true := by kernel_rfl
theorem StepsComeBack_jf2 : (mapsRowed Tryz.prog) = true := by kernel_rfl
theorem StepsComeBack_jf3 : (Tryz.f9.params.all (Tryz.prog.readableRec ·)) = true := by kernel_rfl
theorem StepsComeBack_jf4 : (namedTie Tryz.prog Rows.stepsComeBackRow.named Rows.stepsComeBackSpec.vars) = true := by kernel_rfl
theorem StepsComeBack_jf5 : ((Rows.stepsComeBackRow.stops == [])) = true := by kernel_rfl
theorem StepsComeBack_jf6 : ((Tryz.prog.stops == [])) = true := by kernel_rfl
theorem StepsComeBack_jf7 : ((Rows.stepsComeBackRow.knobs == [])) = true := by kernel_rfl
theorem StepsComeBack_jf8 : ((Tryz.prog.stopKnobs == [])) = true := by kernel_rfl
theorem StepsComeBack_jf9 : ((Rows.stepsComeBackRow.inPlace == Tryz.prog.inPlace 9)) = true := by kernel_rfl
theorem StepsComeBack_jf10 : ((Rows.stepsComeBackRow.unfollowed == Tryz.prog.unfollowed 9)) = true := by kernel_rfl
theorem StepsComeBack_jf11 : ((Rows.stepsComeBackRow.recurses == Tryz.prog.recurses 9)) = true := by kernel_rfl
theorem StepsComeBack_jf12 : ((Rows.stepsComeBackRow.named == Tryz.prog.varsNamed 9)) = true := by kernel_rfl
theorem StepsComeBack_jf13 : ((Rows.stepsComeBackRow.maps == (Tryz.f9.params.toList ++ Rows.stepsComeBackSpec.plain.varTypes Tryz.prog).any (Tryz.prog.mapsRec ·))) = true := by kernel_rfl
theorem StepsComeBack_jf14 : ((Rows.stepsComeBackRow.ifaces == (Tryz.f9.params.toList ++ Rows.stepsComeBackSpec.plain.varTypes Tryz.prog).any (Tryz.prog.ifacesRec ·))) = true := by kernel_rfl
theorem StepsComeBack_jf15 : ((Rows.stepsComeBackRow.mapsOut == Tryz.prog.mapsAmong Tryz.f9.resultTypes.toList)) = true := by kernel_rfl
theorem StepsComeBack_jf16 : ((Rows.stepsComeBackRow.loops == (Tryz.f9.params.toList ++ Rows.stepsComeBackSpec.plain.varTypes Tryz.prog).any (Tryz.prog.loopsFrom ·))) = true := by kernel_rfl
theorem StepsComeBack_jf17 : ((Rows.stepsComeBackRow.wideKeys == (Tryz.f9.params.toList ++ Rows.stepsComeBackSpec.plain.varTypes Tryz.prog ++ Tryz.f9.resultTypes.toList).any (Tryz.prog.wideKeysFrom ·))) = true := by kernel_rfl
theorem StepsComeBack_jf18 : (Rows.stepsComeBackSpec.vars.all (Tryz.prog.varReadable ·)) = true := by kernel_rfl
theorem StepsComeBack_jf19 : (Tryz.f9.resultTypes.all (fun t => Tryz.prog.readableRec t && decide (t < Tryz.prog.types.size))) = true := by kernel_rfl
theorem StepsComeBack_jf20 : ((Rows.stepsComeBackRow.ifacesOut == Tryz.f9.resultTypes.toList.any (Tryz.prog.ifacesRec ·))) = true := by kernel_rfl
theorem StepsComeBack_jf21 : ((Rows.stepsComeBackRow.loopsOut == Tryz.f9.resultTypes.toList.any (Tryz.prog.loopsFrom ·))) = true := by kernel_rfl
theorem StepsComeBack_jf22 : ((Rows.stepsComeBackRow.plainKeys == Tryz.prog.plainKeys)) = true := by kernel_rfl
theorem StepsComeBack_jf23 : (Rows.stepsComeBackRow.shortTexts.isNone) = true := by kernel_rfl
theorem StepsComeBack_jf24 : (Tryz.prog.stopsHeard) = true := by kernel_rfl
theorem StepsComeBack_jf25 : (Tryz.prog.mayEnter) = true := by kernel_rfl
theorem StepsComeBack_jf26 : ((Rows.stepsComeBackRow.lifted == Tryz.prog.liftsFinal)) = true := by kernel_rfl
theorem StepsComeBack_jf27 : ((Tryz.prog.make == some Rows.stepsComeBackRow.make)) = true := by kernel_rfl
theorem StepsComeBack_jf28 : ((Rows.stepsComeBackRow.kinds == (if Rows.stepsComeBackRow.domain.isEmpty then [] else Tryz.f9.params.toList.map fun t => match Tryz.prog.underlying t with | some (.int k) => some k | _ => none))) = true := by kernel_rfl
theorem StepsComeBack_jf29 : ((Rows.stepsComeBackRow.pinned == Rows.stepsComeBackRow.pinnedBy)) = true := by kernel_rfl
theorem StepsComeBack_jf30 : ((Rows.stepsComeBackRow.veiled == (Tryz.f9.params.toList ++ Rows.stepsComeBackSpec.plain.varTypes Tryz.prog ++ Tryz.f9.resultTypes.toList).any (Tryz.prog.veiledRec ·))) = true := by kernel_rfl
theorem StepsComeBack_jf31 : (Rows.stepsComeBackRow.veiledFits Tryz.prog Tryz.f9.params.toList (Tryz.f9.params.toList ++ Rows.stepsComeBackSpec.plain.varTypes Tryz.prog ++ Tryz.f9.resultTypes.toList)) = true := by kernel_rfl
theorem StepsComeBack_hnm : Tryz.prog.funcNamed "reelfeeder/rfkeep1.StepsComeBack" = some 9 := by kernel_rfl
theorem StepsComeBack_hin : Tryz.f9.isInstance Tryz.prog Rows.stepsComeBackRow.origin Rows.stepsComeBackRow.targs := of_decide_eq_true (by kernel_rfl)
theorem StepsComeBack_hwr : Tryz.f9.isWrapper Tryz.prog Rows.stepsComeBackRow.wrapper Rows.stepsComeBackRow.mainSum := by unfold Func.isWrapper; first | (rw [if_pos (by decide +kernel)]; kernel_rfl) | (rw [if_neg (by decide +kernel)]; exact ⟨rfl, rfl⟩)
theorem StepsComeBack_hwf : Rows.stepsComeBackRow.wfByText (OpenSpec.ofChange Rows.stepsComeBackSpec) = true := by kernel_rfl
theorem StepsComeBack_hmi : Tryz.prog.mainIs = some (true, "ef9b408e0ef1d8ee385fe0c4518ed384cc5ed48d05d09bbfcdc890ec739e479e".toList) := by kernel_rfl
theorem StepsComeBack_hlo : true = Tryz.prog.looks [] := by kernel_rfl
theorem StepsComeBack_hst : ([22].all fun u => !Tryz.prog.wantsStandIn u) = true := by kernel_rfl
theorem StepsComeBack_hgo : false = Rows.stepsComeBackRow.goesBy Tryz.prog := by kernel_rfl
end Go.Proofs.YtnmimagninhkkaaGreatDoor
