/- Closed facts on the row of the law StepsChecked: no walk. No conditions. -/
import Derived.Test.YthdolfnfiggkjaaGreatDoorRows
import Derived.Test.YthdolfnfiggkjaaGreatDoorCards
import Derived.Test.YthdolfnfiggkjaaGreatDoorTie
import Derived.Test.YthdolfnfiggkjaaGreatDoorFrame
namespace Go.Proofs.YthdolfnfiggkjaaGreatDoor
open Go.ChangeShapes Go.WideShapes Go.ChangeAt Go.RowKit

/-! closed facts, each alone (together they outgrow the kernel's memory) -/
theorem StepsChecked_jf0 : (Rows.stepsCheckedRow.wf (OpenSpec.ofChange Rows.stepsCheckedSpec)) = true := by kernel_rfl
theorem StepsChecked_jf1 : (laidOutB Tryz.prog) = true := by kernel_rfl
theorem StepsChecked_jf2 : (mapsRowed Tryz.prog) = true := by kernel_rfl
theorem StepsChecked_jf3 : (Tryz.f3.params.all (Tryz.prog.readableRec ·)) = true := by kernel_rfl
theorem StepsChecked_jf4 : (namedTie Tryz.prog Rows.stepsCheckedRow.named Rows.stepsCheckedSpec.vars) = true := by kernel_rfl
theorem StepsChecked_jf5 : ((Rows.stepsCheckedRow.stops == [])) = true := by kernel_rfl
theorem StepsChecked_jf6 : ((Tryz.prog.stops == [])) = true := by kernel_rfl
theorem StepsChecked_jf7 : ((Rows.stepsCheckedRow.knobs == [])) = true := by kernel_rfl
theorem StepsChecked_jf8 : ((Tryz.prog.stopKnobs == [])) = true := by kernel_rfl
theorem StepsChecked_jf9 : ((Rows.stepsCheckedRow.inPlace == Tryz.prog.inPlace 3)) = true := by kernel_rfl
theorem StepsChecked_jf10 : ((Rows.stepsCheckedRow.unfollowed == Tryz.prog.unfollowed 3)) = true := by kernel_rfl
theorem StepsChecked_jf11 : ((Rows.stepsCheckedRow.recurses == Tryz.prog.recurses 3)) = true := by kernel_rfl
theorem StepsChecked_jf12 : ((Rows.stepsCheckedRow.named == Tryz.prog.varsNamed 3)) = true := by kernel_rfl
theorem StepsChecked_jf13 : ((Rows.stepsCheckedRow.maps == (Tryz.f3.params.toList ++ Rows.stepsCheckedSpec.plain.varTypes Tryz.prog).any (Tryz.prog.mapsRec ·))) = true := by kernel_rfl
theorem StepsChecked_jf14 : ((Rows.stepsCheckedRow.ifaces == (Tryz.f3.params.toList ++ Rows.stepsCheckedSpec.plain.varTypes Tryz.prog).any (Tryz.prog.ifacesRec ·))) = true := by kernel_rfl
theorem StepsChecked_jf15 : ((Rows.stepsCheckedRow.mapsOut == Tryz.prog.mapsAmong Tryz.f3.resultTypes.toList)) = true := by kernel_rfl
theorem StepsChecked_jf16 : ((Rows.stepsCheckedRow.loops == (Tryz.f3.params.toList ++ Rows.stepsCheckedSpec.plain.varTypes Tryz.prog).any (Tryz.prog.loopsFrom ·))) = true := by kernel_rfl
theorem StepsChecked_jf17 : ((Rows.stepsCheckedRow.wideKeys == (Tryz.f3.params.toList ++ Rows.stepsCheckedSpec.plain.varTypes Tryz.prog ++ Tryz.f3.resultTypes.toList).any (Tryz.prog.wideKeysFrom ·))) = true := by kernel_rfl
theorem StepsChecked_jf18 : (Rows.stepsCheckedSpec.vars.all (Tryz.prog.varReadable ·)) = true := by kernel_rfl
theorem StepsChecked_jf19 : (Tryz.f3.resultTypes.all (fun t => Tryz.prog.readableRec t && decide (t < Tryz.prog.types.size))) = true := by kernel_rfl
theorem StepsChecked_jf20 : ((Rows.stepsCheckedRow.ifacesOut == Tryz.f3.resultTypes.toList.any (Tryz.prog.ifacesRec ·))) = true := by kernel_rfl
theorem StepsChecked_jf21 : ((Rows.stepsCheckedRow.loopsOut == Tryz.f3.resultTypes.toList.any (Tryz.prog.loopsFrom ·))) = true := by kernel_rfl
theorem StepsChecked_jf22 : ((Rows.stepsCheckedRow.plainKeys == Tryz.prog.plainKeys)) = true := by kernel_rfl
theorem StepsChecked_jf23 : (Rows.stepsCheckedRow.shortTexts.isNone) = true := by kernel_rfl
theorem StepsChecked_jf24 : (Tryz.prog.stopsHeard) = true := by kernel_rfl
theorem StepsChecked_jf25 : (Tryz.prog.mayEnter) = true := by kernel_rfl
theorem StepsChecked_jf26 : ((Rows.stepsCheckedRow.lifted == Tryz.prog.liftsFinal)) = true := by kernel_rfl
theorem StepsChecked_jf27 : ((Tryz.prog.make == some Rows.stepsCheckedRow.make)) = true := by kernel_rfl
theorem StepsChecked_jf28 : ((Rows.stepsCheckedRow.kinds == (if Rows.stepsCheckedRow.domain.isEmpty then [] else Tryz.f3.params.toList.map fun t => match Tryz.prog.underlying t with | some (.int k) => some k | _ => none))) = true := by kernel_rfl
theorem StepsChecked_jf29 : ((Rows.stepsCheckedRow.pinned == Rows.stepsCheckedRow.pinnedBy)) = true := by kernel_rfl
theorem StepsChecked_jf30 : ((Rows.stepsCheckedRow.veiled == (Tryz.f3.params.toList ++ Rows.stepsCheckedSpec.plain.varTypes Tryz.prog ++ Tryz.f3.resultTypes.toList).any (Tryz.prog.veiledRec ·))) = true := by kernel_rfl
theorem StepsChecked_jf31 : (Rows.stepsCheckedRow.veiledFits Tryz.prog Tryz.f3.params.toList (Tryz.f3.params.toList ++ Rows.stepsCheckedSpec.plain.varTypes Tryz.prog ++ Tryz.f3.resultTypes.toList)) = true := by kernel_rfl
theorem StepsChecked_hnm : Tryz.prog.funcNamed "reelfeeder/rflaw1.StepsChecked" = some 3 := by kernel_rfl
theorem StepsChecked_hin : Tryz.f3.isInstance Tryz.prog Rows.stepsCheckedRow.origin Rows.stepsCheckedRow.targs := of_decide_eq_true (by kernel_rfl)
theorem StepsChecked_hwr : Tryz.f3.isWrapper Tryz.prog Rows.stepsCheckedRow.wrapper Rows.stepsCheckedRow.mainSum := by unfold Func.isWrapper; first | (rw [if_pos (by decide +kernel)]; kernel_rfl) | (rw [if_neg (by decide +kernel)]; exact ⟨rfl, rfl⟩)
theorem StepsChecked_hwf : Rows.stepsCheckedRow.wfByText (OpenSpec.ofChange Rows.stepsCheckedSpec) = true := by kernel_rfl
theorem StepsChecked_hmi : Tryz.prog.mainIs = some (true, "31d22ae3401ca3a1632aff894c34df0660f1d242c7b8bc9557c4555394e32a38".toList) := by kernel_rfl
theorem StepsChecked_hlo : true = Tryz.prog.looks [] := by kernel_rfl
theorem StepsChecked_hst : ([22].all fun u => !Tryz.prog.wantsStandIn u) = true := by kernel_rfl
theorem StepsChecked_hgo : false = Rows.stepsCheckedRow.goesBy Tryz.prog := by kernel_rfl
end Go.Proofs.YthdolfnfiggkjaaGreatDoor
