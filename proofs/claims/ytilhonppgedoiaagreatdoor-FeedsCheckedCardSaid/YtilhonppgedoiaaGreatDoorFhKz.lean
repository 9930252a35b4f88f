/- Closed facts on the row of the law FeedsChecked: no walk. No conditions. -/
import Derived.Test.YtilhonppgedoiaaGreatDoorFz46
import Derived.Test.YtilhonppgedoiaaGreatDoorRows
import Derived.Test.YtilhonppgedoiaaGreatDoorCards
import Derived.Test.YtilhonppgedoiaaGreatDoorTie
namespace Go.Proofs.YtilhonppgedoiaaGreatDoor
open Go.ChangeShapes Go.WideShapes Go.ChangeAt Go.RowKit

/-! closed facts, each alone (together they outgrow the kernel's memory) -/
theorem FeedsChecked_jf0 : (Rows.feedsCheckedRow.wf (OpenSpec.ofChange Rows.feedsCheckedSpec)) = true := by kernel_rfl
theorem FeedsChecked_jf1 : (laidOutB Tryz.prog) = true := by kernel_rfl
theorem FeedsChecked_jf2 : (mapsRowed Tryz.prog) = true := by kernel_rfl
theorem FeedsChecked_jf3 : (Tryz.f4.params.all (Tryz.prog.readableRec ·)) = true := by kernel_rfl
theorem FeedsChecked_jf4 : (namedTie Tryz.prog Rows.feedsCheckedRow.named Rows.feedsCheckedSpec.vars) = true := by kernel_rfl
theorem FeedsChecked_jf5 : ((Rows.feedsCheckedRow.stops == [])) = true := by kernel_rfl
theorem FeedsChecked_jf6 : ((Tryz.prog.stops == [])) = true := by kernel_rfl
theorem FeedsChecked_jf7 : ((Rows.feedsCheckedRow.knobs == [])) = true := by kernel_rfl
theorem FeedsChecked_jf8 : ((Tryz.prog.stopKnobs == [])) = true := by kernel_rfl
theorem FeedsChecked_jf9 : ((Rows.feedsCheckedRow.inPlace == Tryz.prog.inPlace 4)) = true := by kernel_rfl
theorem FeedsChecked_jf10 : ((Rows.feedsCheckedRow.unfollowed == Tryz.prog.unfollowed 4)) = true := by kernel_rfl
theorem FeedsChecked_jf11 : ((Rows.feedsCheckedRow.recurses == Tryz.prog.recurses 4)) = true := by kernel_rfl
theorem FeedsChecked_jf12 : ((Rows.feedsCheckedRow.named == Tryz.prog.varsNamed 4)) = true := by kernel_rfl
theorem FeedsChecked_jf13 : ((Rows.feedsCheckedRow.maps == (Tryz.f4.params.toList ++ Rows.feedsCheckedSpec.plain.varTypes Tryz.prog).any (Tryz.prog.mapsRec ·))) = true := by kernel_rfl
theorem FeedsChecked_jf14 : ((Rows.feedsCheckedRow.ifaces == (Tryz.f4.params.toList ++ Rows.feedsCheckedSpec.plain.varTypes Tryz.prog).any (Tryz.prog.ifacesRec ·))) = true := by kernel_rfl
theorem FeedsChecked_jf15 : ((Rows.feedsCheckedRow.mapsOut == Tryz.prog.mapsAmong Tryz.f4.resultTypes.toList)) = true := by kernel_rfl
theorem FeedsChecked_jf16 : ((Rows.feedsCheckedRow.loops == (Tryz.f4.params.toList ++ Rows.feedsCheckedSpec.plain.varTypes Tryz.prog).any (Tryz.prog.loopsFrom ·))) = true := by kernel_rfl
theorem FeedsChecked_jf17 : ((Rows.feedsCheckedRow.wideKeys == (Tryz.f4.params.toList ++ Rows.feedsCheckedSpec.plain.varTypes Tryz.prog ++ Tryz.f4.resultTypes.toList).any (Tryz.prog.wideKeysFrom ·))) = true := by kernel_rfl
theorem FeedsChecked_jf18 : (Rows.feedsCheckedSpec.vars.all (Tryz.prog.varReadable ·)) = true := by kernel_rfl
theorem FeedsChecked_jf19 : (Tryz.f4.resultTypes.all (fun t => Tryz.prog.readableRec t && decide (t < Tryz.prog.types.size))) = true := by kernel_rfl
theorem FeedsChecked_jf20 : ((Rows.feedsCheckedRow.ifacesOut == Tryz.f4.resultTypes.toList.any (Tryz.prog.ifacesRec ·))) = true := by kernel_rfl
theorem FeedsChecked_jf21 : ((Rows.feedsCheckedRow.loopsOut == Tryz.f4.resultTypes.toList.any (Tryz.prog.loopsFrom ·))) = true := by kernel_rfl
theorem FeedsChecked_jf22 : ((Rows.feedsCheckedRow.plainKeys == Tryz.prog.plainKeys)) = true := by kernel_rfl
theorem FeedsChecked_jf23 : (Rows.feedsCheckedRow.shortTexts.isNone) = true := by kernel_rfl
theorem FeedsChecked_jf24 : (Tryz.prog.stopsHeard) = true := by kernel_rfl
theorem FeedsChecked_jf25 : (Tryz.prog.mayEnter) = true := by kernel_rfl
theorem FeedsChecked_jf26 : ((Rows.feedsCheckedRow.lifted == Tryz.prog.liftsFinal)) = true := by kernel_rfl
theorem FeedsChecked_jf27 : ((Tryz.prog.make == some Rows.feedsCheckedRow.make)) = true := by kernel_rfl
theorem FeedsChecked_jf28 : ((Rows.feedsCheckedRow.kinds == (if Rows.feedsCheckedRow.domain.isEmpty then [] else Tryz.f4.params.toList.map fun t => match Tryz.prog.underlying t with | some (.int k) => some k | _ => none))) = true := by kernel_rfl
theorem FeedsChecked_jf29 : ((Rows.feedsCheckedRow.pinned == Rows.feedsCheckedRow.pinnedBy)) = true := by kernel_rfl
theorem FeedsChecked_jf30 : ((Rows.feedsCheckedRow.veiled == (Tryz.f4.params.toList ++ Rows.feedsCheckedSpec.plain.varTypes Tryz.prog ++ Tryz.f4.resultTypes.toList).any (Tryz.prog.veiledRec ·))) = true := by kernel_rfl
theorem FeedsChecked_jf31 : (Rows.feedsCheckedRow.veiledFits Tryz.prog Tryz.f4.params.toList (Tryz.f4.params.toList ++ Rows.feedsCheckedSpec.plain.varTypes Tryz.prog ++ Tryz.f4.resultTypes.toList)) = true := by kernel_rfl
theorem FeedsChecked_hnm : Tryz.prog.funcNamed "reelfeeder/rflaw1.FeedsChecked" = some 4 := by kernel_rfl
theorem FeedsChecked_hin : Tryz.f4.isInstance Tryz.prog Rows.feedsCheckedRow.origin Rows.feedsCheckedRow.targs := of_decide_eq_true (by kernel_rfl)
theorem FeedsChecked_hwr : Tryz.f4.isWrapper Tryz.prog Rows.feedsCheckedRow.wrapper Rows.feedsCheckedRow.mainSum := by unfold Func.isWrapper; first | (rw [if_pos (by decide +kernel)]; kernel_rfl) | (rw [if_neg (by decide +kernel)]; exact ⟨rfl, rfl⟩)
theorem FeedsChecked_hwf : Rows.feedsCheckedRow.wfByText (OpenSpec.ofChange Rows.feedsCheckedSpec) = true := by kernel_rfl
theorem FeedsChecked_hmi : Tryz.prog.mainIs = some (true, "42ce26b1f8d4b91822045f60f7d80b6accd6af3293549c4ea87d972250d18eca".toList) := by kernel_rfl
theorem FeedsChecked_hlo : true = Tryz.prog.looks [] := by kernel_rfl
theorem FeedsChecked_hst : ([22].all fun u => !Tryz.prog.wantsStandIn u) = true := by kernel_rfl
theorem FeedsChecked_hgo : false = Rows.feedsCheckedRow.goesBy Tryz.prog := by kernel_rfl
end Go.Proofs.YtilhonppgedoiaaGreatDoor
