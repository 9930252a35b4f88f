/- Closed facts on the row of the law TopReelsWithinLife: no walk. No conditions. -/
import Derived.Test.YtfhfncnnendnfaaGreatDoorRows
import Derived.Test.YtfhfncnnendnfaaGreatDoorCards
import Derived.Test.YtfhfncnnendnfaaGreatDoorTie
import Derived.Test.YtfhfncnnendnfaaGreatDoorFrame
namespace Go.Proofs.YtfhfncnnendnfaaGreatDoor
open Go.ChangeShapes Go.WideShapes Go.ChangeAt Go.RowKit

/-! closed facts, each alone (together they outgrow the kernel's memory) -/
theorem TopReelsWithinLife_jf0 : (Rows.topReelsWithinLifeRow.wf (OpenSpec.ofChange Rows.topReelsWithinLifeSpec)) = true := by kernel_rfl
theorem TopReelsWithinLife_jf1 : (laidOutB Tryz.prog) = true := by kernel_rfl
theorem TopReelsWithinLife_jf2 : (mapsRowed Tryz.prog) = true := by kernel_rfl
theorem TopReelsWithinLife_jf3 : (Tryz.f3.params.all (Tryz.prog.readableRec ·)) = true := by kernel_rfl
theorem TopReelsWithinLife_jf4 : (namedTie Tryz.prog Rows.topReelsWithinLifeRow.named Rows.topReelsWithinLifeSpec.vars) = true := by kernel_rfl
theorem TopReelsWithinLife_jf5 : ((Rows.topReelsWithinLifeRow.stops == [])) = true := by kernel_rfl
theorem TopReelsWithinLife_jf6 : ((Tryz.prog.stops == [])) = true := by kernel_rfl
theorem TopReelsWithinLife_jf7 : ((Rows.topReelsWithinLifeRow.knobs == [])) = true := by kernel_rfl
theorem TopReelsWithinLife_jf8 : ((Tryz.prog.stopKnobs == [])) = true := by kernel_rfl
theorem TopReelsWithinLife_jf9 : ((Rows.topReelsWithinLifeRow.inPlace == Tryz.prog.inPlace 3)) = true := by kernel_rfl
theorem TopReelsWithinLife_jf10 : ((Rows.topReelsWithinLifeRow.unfollowed == Tryz.prog.unfollowed 3)) = true := by kernel_rfl
theorem TopReelsWithinLife_jf11 : ((Rows.topReelsWithinLifeRow.recurses == Tryz.prog.recurses 3)) = true := by kernel_rfl
theorem TopReelsWithinLife_jf12 : ((Rows.topReelsWithinLifeRow.named == Tryz.prog.varsNamed 3)) = true := by kernel_rfl
theorem TopReelsWithinLife_jf13 : ((Rows.topReelsWithinLifeRow.maps == (Tryz.f3.params.toList ++ Rows.topReelsWithinLifeSpec.plain.varTypes Tryz.prog).any (Tryz.prog.mapsRec ·))) = true := by kernel_rfl
theorem TopReelsWithinLife_jf14 : ((Rows.topReelsWithinLifeRow.ifaces == (Tryz.f3.params.toList ++ Rows.topReelsWithinLifeSpec.plain.varTypes Tryz.prog).any (Tryz.prog.ifacesRec ·))) = true := by kernel_rfl
theorem TopReelsWithinLife_jf15 : ((Rows.topReelsWithinLifeRow.mapsOut == Tryz.prog.mapsAmong Tryz.f3.resultTypes.toList)) = true := by kernel_rfl
theorem TopReelsWithinLife_jf16 : ((Rows.topReelsWithinLifeRow.loops == (Tryz.f3.params.toList ++ Rows.topReelsWithinLifeSpec.plain.varTypes Tryz.prog).any (Tryz.prog.loopsFrom ·))) = true := by kernel_rfl
theorem TopReelsWithinLife_jf17 : ((Rows.topReelsWithinLifeRow.wideKeys == (Tryz.f3.params.toList ++ Rows.topReelsWithinLifeSpec.plain.varTypes Tryz.prog ++ Tryz.f3.resultTypes.toList).any (Tryz.prog.wideKeysFrom ·))) = true := by kernel_rfl
theorem TopReelsWithinLife_jf18 : (Rows.topReelsWithinLifeSpec.vars.all (Tryz.prog.varReadable ·)) = true := by kernel_rfl
theorem TopReelsWithinLife_jf19 : (Tryz.f3.resultTypes.all (fun t => Tryz.prog.readableRec t && decide (t < Tryz.prog.types.size))) = true := by kernel_rfl
theorem TopReelsWithinLife_jf20 : ((Rows.topReelsWithinLifeRow.ifacesOut == Tryz.f3.resultTypes.toList.any (Tryz.prog.ifacesRec ·))) = true := by kernel_rfl
theorem TopReelsWithinLife_jf21 : ((Rows.topReelsWithinLifeRow.loopsOut == Tryz.f3.resultTypes.toList.any (Tryz.prog.loopsFrom ·))) = true := by kernel_rfl
theorem TopReelsWithinLife_jf22 : ((Rows.topReelsWithinLifeRow.plainKeys == Tryz.prog.plainKeys)) = true := by kernel_rfl
theorem TopReelsWithinLife_jf23 : (Rows.topReelsWithinLifeRow.shortTexts.isNone) = true := by kernel_rfl
theorem TopReelsWithinLife_jf24 : (Tryz.prog.stopsHeard) = true := by kernel_rfl
theorem TopReelsWithinLife_jf25 : (Tryz.prog.mayEnter) = true := by kernel_rfl
theorem TopReelsWithinLife_jf26 : ((Rows.topReelsWithinLifeRow.lifted == Tryz.prog.liftsFinal)) = true := by kernel_rfl
theorem TopReelsWithinLife_jf27 : ((Tryz.prog.make == some Rows.topReelsWithinLifeRow.make)) = true := by kernel_rfl
theorem TopReelsWithinLife_jf28 : ((Rows.topReelsWithinLifeRow.kinds == (if Rows.topReelsWithinLifeRow.domain.isEmpty then [] else Tryz.f3.params.toList.map fun t => match Tryz.prog.underlying t with | some (.int k) => some k | _ => none))) = true := by kernel_rfl
theorem TopReelsWithinLife_jf29 : ((Rows.topReelsWithinLifeRow.pinned == Rows.topReelsWithinLifeRow.pinnedBy)) = true := by kernel_rfl
theorem TopReelsWithinLife_jf30 : ((Rows.topReelsWithinLifeRow.veiled == (Tryz.f3.params.toList ++ Rows.topReelsWithinLifeSpec.plain.varTypes Tryz.prog ++ Tryz.f3.resultTypes.toList).any (Tryz.prog.veiledRec ·))) = true := by kernel_rfl
theorem TopReelsWithinLife_jf31 : (Rows.topReelsWithinLifeRow.veiledFits Tryz.prog Tryz.f3.params.toList (Tryz.f3.params.toList ++ Rows.topReelsWithinLifeSpec.plain.varTypes Tryz.prog ++ Tryz.f3.resultTypes.toList)) = true := by kernel_rfl
theorem TopReelsWithinLife_hnm : Tryz.prog.funcNamed "reelfeeder/rftop.TopReelsWithinLife" = some 3 := by kernel_rfl
theorem TopReelsWithinLife_hin : Tryz.f3.isInstance Tryz.prog Rows.topReelsWithinLifeRow.origin Rows.topReelsWithinLifeRow.targs := of_decide_eq_true (by kernel_rfl)
theorem TopReelsWithinLife_hwr : Tryz.f3.isWrapper Tryz.prog Rows.topReelsWithinLifeRow.wrapper Rows.topReelsWithinLifeRow.mainSum := by unfold Func.isWrapper; first | (rw [if_pos (by decide +kernel)]; kernel_rfl) | (rw [if_neg (by decide +kernel)]; exact ⟨rfl, rfl⟩)
theorem TopReelsWithinLife_hwf : Rows.topReelsWithinLifeRow.wfByText (OpenSpec.ofChange Rows.topReelsWithinLifeSpec) = true := by kernel_rfl
theorem TopReelsWithinLife_hmi : Tryz.prog.mainIs = some (true, "f502451538f064dfdad0c30721c372b587ba67493b83b5b7aea4916e90807ec4".toList) := by kernel_rfl
theorem TopReelsWithinLife_hlo : false = Tryz.prog.looks [] := by kernel_rfl
theorem TopReelsWithinLife_hst : ([22].all fun u => !Tryz.prog.wantsStandIn u) = true := by kernel_rfl
theorem TopReelsWithinLife_hgo : false = Rows.topReelsWithinLifeRow.goesBy Tryz.prog := by kernel_rfl
end Go.Proofs.YtfhfncnnendnfaaGreatDoor
