/- Closed facts on the row of the law ComponentsAddUp: no walk. No conditions. -/
import Derived.Test.YtcfeoapbbkfbnaaGreatDoorRows
import Derived.Test.YtcfeoapbbkfbnaaGreatDoorCards
import Derived.Test.YtcfeoapbbkfbnaaGreatDoorTie
import Derived.Test.YtcfeoapbbkfbnaaGreatDoorFrame
namespace Go.Proofs.YtcfeoapbbkfbnaaGreatDoor
open Go.ChangeShapes Go.WideShapes Go.ChangeAt Go.RowKit

/-! closed facts, each alone (together they outgrow the kernel's memory) -/
theorem ComponentsAddUp_jf0 : (Rows.componentsAddUpRow.wf (OpenSpec.ofChange Rows.componentsAddUpSpec)) = true := by kernel_rfl
theorem ComponentsAddUp_jf1 : (laidOutB Tryz.prog) = true := by kernel_rfl
theorem ComponentsAddUp_jf2 : (mapsRowed Tryz.prog) = true := by kernel_rfl
theorem ComponentsAddUp_jf3 : (Tryz.f6.params.all (Tryz.prog.readableRec ·)) = true := by kernel_rfl
theorem ComponentsAddUp_jf4 : (namedTie Tryz.prog Rows.componentsAddUpRow.named Rows.componentsAddUpSpec.vars) = true := by kernel_rfl
theorem ComponentsAddUp_jf5 : ((Rows.componentsAddUpRow.stops == [])) = true := by kernel_rfl
theorem ComponentsAddUp_jf6 : ((Tryz.prog.stops == [])) = true := by kernel_rfl
theorem ComponentsAddUp_jf7 : ((Rows.componentsAddUpRow.knobs == [])) = true := by kernel_rfl
theorem ComponentsAddUp_jf8 : ((Tryz.prog.stopKnobs == [])) = true := by kernel_rfl
theorem ComponentsAddUp_jf9 : ((Rows.componentsAddUpRow.inPlace == Tryz.prog.inPlace 6)) = true := by kernel_rfl
theorem ComponentsAddUp_jf10 : ((Rows.componentsAddUpRow.unfollowed == Tryz.prog.unfollowed 6)) = true := by kernel_rfl
theorem ComponentsAddUp_jf11 : ((Rows.componentsAddUpRow.recurses == Tryz.prog.recurses 6)) = true := by kernel_rfl
theorem ComponentsAddUp_jf12 : ((Rows.componentsAddUpRow.named == Tryz.prog.varsNamed 6)) = true := by kernel_rfl
theorem ComponentsAddUp_jf13 : ((Rows.componentsAddUpRow.maps == (Tryz.f6.params.toList ++ Rows.componentsAddUpSpec.plain.varTypes Tryz.prog).any (Tryz.prog.mapsRec ·))) = true := by kernel_rfl
theorem ComponentsAddUp_jf14 : ((Rows.componentsAddUpRow.ifaces == (Tryz.f6.params.toList ++ Rows.componentsAddUpSpec.plain.varTypes Tryz.prog).any (Tryz.prog.ifacesRec ·))) = true := by kernel_rfl
theorem ComponentsAddUp_jf15 : ((Rows.componentsAddUpRow.mapsOut == Tryz.prog.mapsAmong Tryz.f6.resultTypes.toList)) = true := by kernel_rfl
theorem ComponentsAddUp_jf16 : ((Rows.componentsAddUpRow.loops == (Tryz.f6.params.toList ++ Rows.componentsAddUpSpec.plain.varTypes Tryz.prog).any (Tryz.prog.loopsFrom ·))) = true := by kernel_rfl
theorem ComponentsAddUp_jf17 : ((Rows.componentsAddUpRow.wideKeys == (Tryz.f6.params.toList ++ Rows.componentsAddUpSpec.plain.varTypes Tryz.prog ++ Tryz.f6.resultTypes.toList).any (Tryz.prog.wideKeysFrom ·))) = true := by kernel_rfl
theorem ComponentsAddUp_jf18 : (Rows.componentsAddUpSpec.vars.all (Tryz.prog.varReadable ·)) = true := by kernel_rfl
theorem ComponentsAddUp_jf19 : (Tryz.f6.resultTypes.all (fun t => Tryz.prog.readableRec t && decide (t < Tryz.prog.types.size))) = true := by kernel_rfl
theorem ComponentsAddUp_jf20 : ((Rows.componentsAddUpRow.ifacesOut == Tryz.f6.resultTypes.toList.any (Tryz.prog.ifacesRec ·))) = true := by kernel_rfl
theorem ComponentsAddUp_jf21 : ((Rows.componentsAddUpRow.loopsOut == Tryz.f6.resultTypes.toList.any (Tryz.prog.loopsFrom ·))) = true := by kernel_rfl
theorem ComponentsAddUp_jf22 : ((Rows.componentsAddUpRow.plainKeys == Tryz.prog.plainKeys)) = true := by kernel_rfl
theorem ComponentsAddUp_jf23 : (Rows.componentsAddUpRow.shortTexts.isNone) = true := by kernel_rfl
theorem ComponentsAddUp_jf24 : (Tryz.prog.stopsHeard) = true := by kernel_rfl
theorem ComponentsAddUp_jf25 : (Tryz.prog.mayEnter) = true := by kernel_rfl
theorem ComponentsAddUp_jf26 : ((Rows.componentsAddUpRow.lifted == Tryz.prog.liftsFinal)) = true := by kernel_rfl
theorem ComponentsAddUp_jf27 : ((Tryz.prog.make == some Rows.componentsAddUpRow.make)) = true := by kernel_rfl
theorem ComponentsAddUp_jf28 : ((Rows.componentsAddUpRow.kinds == (if Rows.componentsAddUpRow.domain.isEmpty then [] else Tryz.f6.params.toList.map fun t => match Tryz.prog.underlying t with | some (.int k) => some k | _ => none))) = true := by kernel_rfl
theorem ComponentsAddUp_jf29 : ((Rows.componentsAddUpRow.pinned == Rows.componentsAddUpRow.pinnedBy)) = true := by kernel_rfl
theorem ComponentsAddUp_jf30 : ((Rows.componentsAddUpRow.veiled == (Tryz.f6.params.toList ++ Rows.componentsAddUpSpec.plain.varTypes Tryz.prog ++ Tryz.f6.resultTypes.toList).any (Tryz.prog.veiledRec ·))) = true := by kernel_rfl
theorem ComponentsAddUp_jf31 : (Rows.componentsAddUpRow.veiledFits Tryz.prog Tryz.f6.params.toList (Tryz.f6.params.toList ++ Rows.componentsAddUpSpec.plain.varTypes Tryz.prog ++ Tryz.f6.resultTypes.toList)) = true := by kernel_rfl
theorem ComponentsAddUp_hnm : Tryz.prog.funcNamed "reelfeeder/rfkeep1.ComponentsAddUp" = some 6 := by kernel_rfl
theorem ComponentsAddUp_hin : Tryz.f6.isInstance Tryz.prog Rows.componentsAddUpRow.origin Rows.componentsAddUpRow.targs := of_decide_eq_true (by kernel_rfl)
theorem ComponentsAddUp_hwr : Tryz.f6.isWrapper Tryz.prog Rows.componentsAddUpRow.wrapper Rows.componentsAddUpRow.mainSum := by unfold Func.isWrapper; first | (rw [if_pos (by decide +kernel)]; kernel_rfl) | (rw [if_neg (by decide +kernel)]; exact ⟨rfl, rfl⟩)
theorem ComponentsAddUp_hwf : Rows.componentsAddUpRow.wfByText (OpenSpec.ofChange Rows.componentsAddUpSpec) = true := by kernel_rfl
theorem ComponentsAddUp_hmi : Tryz.prog.mainIs = some (true, "789f849c41f522a84636e7b7d6683da0088ca0ebe442948540f3ebcdc0791f12".toList) := by kernel_rfl
theorem ComponentsAddUp_hlo : false = Tryz.prog.looks [] := by kernel_rfl
theorem ComponentsAddUp_hst : ([22].all fun u => !Tryz.prog.wantsStandIn u) = true := by kernel_rfl
theorem ComponentsAddUp_hgo : false = Rows.componentsAddUpRow.goesBy Tryz.prog := by kernel_rfl
end Go.Proofs.YtcfeoapbbkfbnaaGreatDoor
