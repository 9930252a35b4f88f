/- Closed facts on the row of the law ChosenAreInTime: no walk. No conditions. -/
import Derived.Test.YtnmimagninhkkaaGreatDoorRows
import Derived.Test.YtnmimagninhkkaaGreatDoorCards
import Derived.Test.YtnmimagninhkkaaGreatDoorTie
import Derived.Test.YtnmimagninhkkaaGreatDoorFrame
namespace Go.Proofs.YtnmimagninhkkaaGreatDoor
open Go.ChangeShapes Go.WideShapes Go.ChangeAt Go.RowKit

/-! closed facts, each alone (together they outgrow the kernel's memory) -/
theorem ChosenAreInTime_jf0 : (Rows.chosenAreInTimeRow.wf (OpenSpec.ofChange Rows.chosenAreInTimeSpec)) = true := by kernel_rfl
theorem ChosenAreInTime_jf1 : (laidOutB Tryz.prog) = true := by kernel_rfl
theorem ChosenAreInTime_jf2 : (mapsRowed Tryz.prog) = true := by kernel_rfl
theorem ChosenAreInTime_jf3 : (Tryz.f8.params.all (Tryz.prog.readableRec ·)) = true := by kernel_rfl
theorem ChosenAreInTime_jf4 : (namedTie Tryz.prog Rows.chosenAreInTimeRow.named Rows.chosenAreInTimeSpec.vars) = true := by kernel_rfl
theorem ChosenAreInTime_jf5 : ((Rows.chosenAreInTimeRow.stops == [])) = true := by kernel_rfl
theorem ChosenAreInTime_jf6 : ((Tryz.prog.stops == [])) = true := by kernel_rfl
theorem ChosenAreInTime_jf7 : ((Rows.chosenAreInTimeRow.knobs == [])) = true := by kernel_rfl
theorem ChosenAreInTime_jf8 : ((Tryz.prog.stopKnobs == [])) = true := by kernel_rfl
theorem ChosenAreInTime_jf9 : ((Rows.chosenAreInTimeRow.inPlace == Tryz.prog.inPlace 8)) = true := by kernel_rfl
theorem ChosenAreInTime_jf10 : ((Rows.chosenAreInTimeRow.unfollowed == Tryz.prog.unfollowed 8)) = true := by kernel_rfl
theorem ChosenAreInTime_jf11 : ((Rows.chosenAreInTimeRow.recurses == Tryz.prog.recurses 8)) = true := by kernel_rfl
theorem ChosenAreInTime_jf12 : ((Rows.chosenAreInTimeRow.named == Tryz.prog.varsNamed 8)) = true := by kernel_rfl
theorem ChosenAreInTime_jf13 : ((Rows.chosenAreInTimeRow.maps == (Tryz.f8.params.toList ++ Rows.chosenAreInTimeSpec.plain.varTypes Tryz.prog).any (Tryz.prog.mapsRec ·))) = true := by kernel_rfl
theorem ChosenAreInTime_jf14 : ((Rows.chosenAreInTimeRow.ifaces == (Tryz.f8.params.toList ++ Rows.chosenAreInTimeSpec.plain.varTypes Tryz.prog).any (Tryz.prog.ifacesRec ·))) = true := by kernel_rfl
theorem ChosenAreInTime_jf15 : ((Rows.chosenAreInTimeRow.mapsOut == Tryz.prog.mapsAmong Tryz.f8.resultTypes.toList)) = true := by kernel_rfl
theorem ChosenAreInTime_jf16 : ((Rows.chosenAreInTimeRow.loops == (Tryz.f8.params.toList ++ Rows.chosenAreInTimeSpec.plain.varTypes Tryz.prog).any (Tryz.prog.loopsFrom ·))) = true := by kernel_rfl
theorem ChosenAreInTime_jf17 : ((Rows.chosenAreInTimeRow.wideKeys == (Tryz.f8.params.toList ++ Rows.chosenAreInTimeSpec.plain.varTypes Tryz.prog ++ Tryz.f8.resultTypes.toList).any (Tryz.prog.wideKeysFrom ·))) = true := by kernel_rfl
theorem ChosenAreInTime_jf18 : (Rows.chosenAreInTimeSpec.vars.all (Tryz.prog.varReadable ·)) = true := by kernel_rfl
theorem ChosenAreInTime_jf19 : (Tryz.f8.resultTypes.all (fun t => Tryz.prog.readableRec t && decide (t < Tryz.prog.types.size))) = true := by kernel_rfl
theorem ChosenAreInTime_jf20 : ((Rows.chosenAreInTimeRow.ifacesOut == Tryz.f8.resultTypes.toList.any (Tryz.prog.ifacesRec ·))) = true := by kernel_rfl
theorem ChosenAreInTime_jf21 : ((Rows.chosenAreInTimeRow.loopsOut == Tryz.f8.resultTypes.toList.any (Tryz.prog.loopsFrom ·))) = true := by kernel_rfl
theorem ChosenAreInTime_jf22 : ((Rows.chosenAreInTimeRow.plainKeys == Tryz.prog.plainKeys)) = true := by kernel_rfl
theorem ChosenAreInTime_jf23 : (Rows.chosenAreInTimeRow.shortTexts.isNone) = true := by kernel_rfl
theorem ChosenAreInTime_jf24 : (Tryz.prog.stopsHeard) = true := by kernel_rfl
theorem ChosenAreInTime_jf25 : (Tryz.prog.mayEnter) = true := by kernel_rfl
theorem ChosenAreInTime_jf26 : ((Rows.chosenAreInTimeRow.lifted == Tryz.prog.liftsFinal)) = true := by kernel_rfl
theorem ChosenAreInTime_jf27 : ((Tryz.prog.make == some Rows.chosenAreInTimeRow.make)) = true := by kernel_rfl
theorem ChosenAreInTime_jf28 : ((Rows.chosenAreInTimeRow.kinds == (if Rows.chosenAreInTimeRow.domain.isEmpty then [] else Tryz.f8.params.toList.map fun t => match Tryz.prog.underlying t with | some (.int k) => some k | _ => none))) = true := by kernel_rfl
theorem ChosenAreInTime_jf29 : ((Rows.chosenAreInTimeRow.pinned == Rows.chosenAreInTimeRow.pinnedBy)) = true := by kernel_rfl
theorem ChosenAreInTime_jf30 : ((Rows.chosenAreInTimeRow.veiled == (Tryz.f8.params.toList ++ Rows.chosenAreInTimeSpec.plain.varTypes Tryz.prog ++ Tryz.f8.resultTypes.toList).any (Tryz.prog.veiledRec ·))) = true := by kernel_rfl
theorem ChosenAreInTime_jf31 : (Rows.chosenAreInTimeRow.veiledFits Tryz.prog Tryz.f8.params.toList (Tryz.f8.params.toList ++ Rows.chosenAreInTimeSpec.plain.varTypes Tryz.prog ++ Tryz.f8.resultTypes.toList)) = true := by kernel_rfl
theorem ChosenAreInTime_hnm : Tryz.prog.funcNamed "reelfeeder/rfkeep1.ChosenAreInTime" = some 8 := by kernel_rfl
theorem ChosenAreInTime_hin : Tryz.f8.isInstance Tryz.prog Rows.chosenAreInTimeRow.origin Rows.chosenAreInTimeRow.targs := of_decide_eq_true (by kernel_rfl)
theorem ChosenAreInTime_hwr : Tryz.f8.isWrapper Tryz.prog Rows.chosenAreInTimeRow.wrapper Rows.chosenAreInTimeRow.mainSum := by unfold Func.isWrapper; first | (rw [if_pos (by decide +kernel)]; kernel_rfl) | (rw [if_neg (by decide +kernel)]; exact ⟨rfl, rfl⟩)
theorem ChosenAreInTime_hwf : Rows.chosenAreInTimeRow.wfByText (OpenSpec.ofChange Rows.chosenAreInTimeSpec) = true := by kernel_rfl
theorem ChosenAreInTime_hmi : Tryz.prog.mainIs = some (true, "ef9b408e0ef1d8ee385fe0c4518ed384cc5ed48d05d09bbfcdc890ec739e479e".toList) := by kernel_rfl
theorem ChosenAreInTime_hlo : true = Tryz.prog.looks [] := by kernel_rfl
theorem ChosenAreInTime_hst : ([22].all fun u => !Tryz.prog.wantsStandIn u) = true := by kernel_rfl
theorem ChosenAreInTime_hgo : false = Rows.chosenAreInTimeRow.goesBy Tryz.prog := by kernel_rfl
end Go.Proofs.YtnmimagninhkkaaGreatDoor
