/- Closed facts on the row of the law RefusedFeedsChangeNothing: no walk. No conditions. -/
import Derived.Test.YtcfeoapbbkfbnaaGreatDoorRows
import Derived.Test.YtcfeoapbbkfbnaaGreatDoorCards
import Derived.Test.YtcfeoapbbkfbnaaGreatDoorTie
import Derived.Test.YtcfeoapbbkfbnaaGreatDoorFrame
namespace Go.Proofs.YtcfeoapbbkfbnaaGreatDoor
open Go.ChangeShapes Go.WideShapes Go.ChangeAt Go.RowKit

/-! closed facts, each alone (together they outgrow the kernel's memory) -/
theorem RefusedFeedsChangeNothing_jf0 : (Rows.refusedFeedsChangeNothingRow.wf (OpenSpec.ofChange Rows.refusedFeedsChangeNothingSpec)) = true := by kernel_rfl
theorem RefusedFeedsChangeNothing_jf1 : (laidOutB Tryz.prog) = true := by kernel_rfl
theorem RefusedFeedsChangeNothing_jf2 : (mapsRowed Tryz.prog) = true := by kernel_rfl
theorem RefusedFeedsChangeNothing_jf3 : (Tryz.f5.params.all (Tryz.prog.readableRec ·)) = true := by kernel_rfl
theorem RefusedFeedsChangeNothing_jf4 : (namedTie Tryz.prog Rows.refusedFeedsChangeNothingRow.named Rows.refusedFeedsChangeNothingSpec.vars) = true := by kernel_rfl
theorem RefusedFeedsChangeNothing_jf5 : ((Rows.refusedFeedsChangeNothingRow.stops == [])) = true := by kernel_rfl
theorem RefusedFeedsChangeNothing_jf6 : ((Tryz.prog.stops == [])) = true := by kernel_rfl
theorem RefusedFeedsChangeNothing_jf7 : ((Rows.refusedFeedsChangeNothingRow.knobs == [])) = true := by kernel_rfl
theorem RefusedFeedsChangeNothing_jf8 : ((Tryz.prog.stopKnobs == [])) = true := by kernel_rfl
theorem RefusedFeedsChangeNothing_jf9 : ((Rows.refusedFeedsChangeNothingRow.inPlace == Tryz.prog.inPlace 5)) = true := by kernel_rfl
theorem RefusedFeedsChangeNothing_jf10 : ((Rows.refusedFeedsChangeNothingRow.unfollowed == Tryz.prog.unfollowed 5)) = true := by kernel_rfl
theorem RefusedFeedsChangeNothing_jf11 : ((Rows.refusedFeedsChangeNothingRow.recurses == Tryz.prog.recurses 5)) = true := by kernel_rfl
theorem RefusedFeedsChangeNothing_jf12 : ((Rows.refusedFeedsChangeNothingRow.named == Tryz.prog.varsNamed 5)) = true := by kernel_rfl
theorem RefusedFeedsChangeNothing_jf13 : ((Rows.refusedFeedsChangeNothingRow.maps == (Tryz.f5.params.toList ++ Rows.refusedFeedsChangeNothingSpec.plain.varTypes Tryz.prog).any (Tryz.prog.mapsRec ·))) = true := by kernel_rfl
theorem RefusedFeedsChangeNothing_jf14 : ((Rows.refusedFeedsChangeNothingRow.ifaces == (Tryz.f5.params.toList ++ Rows.refusedFeedsChangeNothingSpec.plain.varTypes Tryz.prog).any (Tryz.prog.ifacesRec ·))) = true := by kernel_rfl
theorem RefusedFeedsChangeNothing_jf15 : ((Rows.refusedFeedsChangeNothingRow.mapsOut == Tryz.prog.mapsAmong Tryz.f5.resultTypes.toList)) = true := by kernel_rfl
theorem RefusedFeedsChangeNothing_jf16 : ((Rows.refusedFeedsChangeNothingRow.loops == (Tryz.f5.params.toList ++ Rows.refusedFeedsChangeNothingSpec.plain.varTypes Tryz.prog).any (Tryz.prog.loopsFrom ·))) = true := by kernel_rfl
theorem RefusedFeedsChangeNothing_jf17 : ((Rows.refusedFeedsChangeNothingRow.wideKeys == (Tryz.f5.params.toList ++ Rows.refusedFeedsChangeNothingSpec.plain.varTypes Tryz.prog ++ Tryz.f5.resultTypes.toList).any (Tryz.prog.wideKeysFrom ·))) = true := by kernel_rfl
theorem RefusedFeedsChangeNothing_jf18 : (Rows.refusedFeedsChangeNothingSpec.vars.all (Tryz.prog.varReadable ·)) = true := by kernel_rfl
theorem RefusedFeedsChangeNothing_jf19 : (Tryz.f5.resultTypes.all (fun t => Tryz.prog.readableRec t && decide (t < Tryz.prog.types.size))) = true := by kernel_rfl
theorem RefusedFeedsChangeNothing_jf20 : ((Rows.refusedFeedsChangeNothingRow.ifacesOut == Tryz.f5.resultTypes.toList.any (Tryz.prog.ifacesRec ·))) = true := by kernel_rfl
theorem RefusedFeedsChangeNothing_jf21 : ((Rows.refusedFeedsChangeNothingRow.loopsOut == Tryz.f5.resultTypes.toList.any (Tryz.prog.loopsFrom ·))) = true := by kernel_rfl
theorem RefusedFeedsChangeNothing_jf22 : ((Rows.refusedFeedsChangeNothingRow.plainKeys == Tryz.prog.plainKeys)) = true := by kernel_rfl
theorem RefusedFeedsChangeNothing_jf23 : (Rows.refusedFeedsChangeNothingRow.shortTexts.isNone) = true := by kernel_rfl
theorem RefusedFeedsChangeNothing_jf24 : (Tryz.prog.stopsHeard) = true := by kernel_rfl
theorem RefusedFeedsChangeNothing_jf25 : (Tryz.prog.mayEnter) = true := by kernel_rfl
theorem RefusedFeedsChangeNothing_jf26 : ((Rows.refusedFeedsChangeNothingRow.lifted == Tryz.prog.liftsFinal)) = true := by kernel_rfl
theorem RefusedFeedsChangeNothing_jf27 : ((Tryz.prog.make == some Rows.refusedFeedsChangeNothingRow.make)) = true := by kernel_rfl
theorem RefusedFeedsChangeNothing_jf28 : ((Rows.refusedFeedsChangeNothingRow.kinds == (if Rows.refusedFeedsChangeNothingRow.domain.isEmpty then [] else Tryz.f5.params.toList.map fun t => match Tryz.prog.underlying t with | some (.int k) => some k | _ => none))) = true := by kernel_rfl
theorem RefusedFeedsChangeNothing_jf29 : ((Rows.refusedFeedsChangeNothingRow.pinned == Rows.refusedFeedsChangeNothingRow.pinnedBy)) = true := by kernel_rfl
theorem RefusedFeedsChangeNothing_jf30 : ((Rows.refusedFeedsChangeNothingRow.veiled == (Tryz.f5.params.toList ++ Rows.refusedFeedsChangeNothingSpec.plain.varTypes Tryz.prog ++ Tryz.f5.resultTypes.toList).any (Tryz.prog.veiledRec ·))) = true := by kernel_rfl
theorem RefusedFeedsChangeNothing_jf31 : (Rows.refusedFeedsChangeNothingRow.veiledFits Tryz.prog Tryz.f5.params.toList (Tryz.f5.params.toList ++ Rows.refusedFeedsChangeNothingSpec.plain.varTypes Tryz.prog ++ Tryz.f5.resultTypes.toList)) = true := by kernel_rfl
theorem RefusedFeedsChangeNothing_hnm : Tryz.prog.funcNamed "reelfeeder/rfkeep1.RefusedFeedsChangeNothing" = some 5 := by kernel_rfl
theorem RefusedFeedsChangeNothing_hin : Tryz.f5.isInstance Tryz.prog Rows.refusedFeedsChangeNothingRow.origin Rows.refusedFeedsChangeNothingRow.targs := of_decide_eq_true (by kernel_rfl)
theorem RefusedFeedsChangeNothing_hwr : Tryz.f5.isWrapper Tryz.prog Rows.refusedFeedsChangeNothingRow.wrapper Rows.refusedFeedsChangeNothingRow.mainSum := by unfold Func.isWrapper; first | (rw [if_pos (by decide +kernel)]; kernel_rfl) | (rw [if_neg (by decide +kernel)]; exact ⟨rfl, rfl⟩)
theorem RefusedFeedsChangeNothing_hwf : Rows.refusedFeedsChangeNothingRow.wfByText (OpenSpec.ofChange Rows.refusedFeedsChangeNothingSpec) = true := by kernel_rfl
theorem RefusedFeedsChangeNothing_hmi : Tryz.prog.mainIs = some (true, "789f849c41f522a84636e7b7d6683da0088ca0ebe442948540f3ebcdc0791f12".toList) := by kernel_rfl
theorem RefusedFeedsChangeNothing_hlo : false = Tryz.prog.looks [] := by kernel_rfl
theorem RefusedFeedsChangeNothing_hst : ([22].all fun u => !Tryz.prog.wantsStandIn u) = true := by kernel_rfl
theorem RefusedFeedsChangeNothing_hgo : false = Rows.refusedFeedsChangeNothingRow.goesBy Tryz.prog := by kernel_rfl
end Go.Proofs.YtcfeoapbbkfbnaaGreatDoor
