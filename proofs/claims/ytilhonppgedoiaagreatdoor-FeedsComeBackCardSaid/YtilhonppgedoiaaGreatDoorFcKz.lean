/- Closed facts on the row of the law FeedsComeBack: no walk. No conditions. -/
import Derived.Test.YtilhonppgedoiaaGreatDoorFz46
import Derived.Test.YtilhonppgedoiaaGreatDoorRows
import Derived.Test.YtilhonppgedoiaaGreatDoorCards
import Derived.Test.YtilhonppgedoiaaGreatDoorTie
namespace Go.Proofs.YtilhonppgedoiaaGreatDoor
open Go.ChangeShapes Go.WideShapes Go.ChangeAt Go.RowKit

/-! closed facts, each alone (together they outgrow the kernel's memory) -/
theorem FeedsComeBack_jf0 : (Rows.feedsComeBackRow.wf (OpenSpec.ofChange Rows.feedsComeBackSpec)) = true := by kernel_rfl
theorem FeedsComeBack_jf1 : (laidOutB Tryz.prog) = true := by kernel_rfl
theorem FeedsComeBack_jf2 : (mapsRowed Tryz.prog) = true := by kernel_rfl
theorem FeedsComeBack_jf3 : (Tryz.f3.params.all (Tryz.prog.readableRec ·)) = true := by kernel_rfl
theorem FeedsComeBack_jf4 : (namedTie Tryz.prog Rows.feedsComeBackRow.named Rows.feedsComeBackSpec.vars) = true := by kernel_rfl
theorem FeedsComeBack_jf5 : ((Rows.feedsComeBackRow.stops == [])) = true := by kernel_rfl
theorem FeedsComeBack_jf6 : ((Tryz.prog.stops == [])) = true := by kernel_rfl
theorem FeedsComeBack_jf7 : ((Rows.feedsComeBackRow.knobs == [])) = true := by kernel_rfl
theorem FeedsComeBack_jf8 : ((Tryz.prog.stopKnobs == [])) = true := by kernel_rfl
theorem FeedsComeBack_jf9 : ((Rows.feedsComeBackRow.inPlace == Tryz.prog.inPlace 3)) = true := by kernel_rfl
theorem FeedsComeBack_jf10 : ((Rows.feedsComeBackRow.unfollowed == Tryz.prog.unfollowed 3)) = true := by kernel_rfl
theorem FeedsComeBack_jf11 : ((Rows.feedsComeBackRow.recurses == Tryz.prog.recurses 3)) = true := by kernel_rfl
theorem FeedsComeBack_jf12 : ((Rows.feedsComeBackRow.named == Tryz.prog.varsNamed 3)) = true := by kernel_rfl
theorem FeedsComeBack_jf13 : ((Rows.feedsComeBackRow.maps == (Tryz.f3.params.toList ++ Rows.feedsComeBackSpec.plain.varTypes Tryz.prog).any (Tryz.prog.mapsRec ·))) = true := by kernel_rfl
theorem FeedsComeBack_jf14 : ((Rows.feedsComeBackRow.ifaces == (Tryz.f3.params.toList ++ Rows.feedsComeBackSpec.plain.varTypes Tryz.prog).any (Tryz.prog.ifacesRec ·))) = true := by kernel_rfl
theorem FeedsComeBack_jf15 : ((Rows.feedsComeBackRow.mapsOut == Tryz.prog.mapsAmong Tryz.f3.resultTypes.toList)) = true := by kernel_rfl
theorem FeedsComeBack_jf16 : ((Rows.feedsComeBackRow.loops == (Tryz.f3.params.toList ++ Rows.feedsComeBackSpec.plain.varTypes Tryz.prog).any (Tryz.prog.loopsFrom ·))) = true := by kernel_rfl
theorem FeedsComeBack_jf17 : ((Rows.feedsComeBackRow.wideKeys == (Tryz.f3.params.toList ++ Rows.feedsComeBackSpec.plain.varTypes Tryz.prog ++ Tryz.f3.resultTypes.toList).any (Tryz.prog.wideKeysFrom ·))) = true := by kernel_rfl
theorem FeedsComeBack_jf18 : (Rows.feedsComeBackSpec.vars.all (Tryz.prog.varReadable ·)) = true := by kernel_rfl
theorem FeedsComeBack_jf19 : (Tryz.f3.resultTypes.all (fun t => Tryz.prog.readableRec t && decide (t < Tryz.prog.types.size))) = true := by kernel_rfl
theorem FeedsComeBack_jf20 : ((Rows.feedsComeBackRow.ifacesOut == Tryz.f3.resultTypes.toList.any (Tryz.prog.ifacesRec ·))) = true := by kernel_rfl
theorem FeedsComeBack_jf21 : ((Rows.feedsComeBackRow.loopsOut == Tryz.f3.resultTypes.toList.any (Tryz.prog.loopsFrom ·))) = true := by kernel_rfl
theorem FeedsComeBack_jf22 : ((Rows.feedsComeBackRow.plainKeys == Tryz.prog.plainKeys)) = true := by kernel_rfl
theorem FeedsComeBack_jf23 : (Rows.feedsComeBackRow.shortTexts.isNone) = true := by kernel_rfl
theorem FeedsComeBack_jf24 : (Tryz.prog.stopsHeard) = true := by kernel_rfl
theorem FeedsComeBack_jf25 : (Tryz.prog.mayEnter) = true := by kernel_rfl
theorem FeedsComeBack_jf26 : ((Rows.feedsComeBackRow.lifted == Tryz.prog.liftsFinal)) = true := by kernel_rfl
theorem FeedsComeBack_jf27 : ((Tryz.prog.make == some Rows.feedsComeBackRow.make)) = true := by kernel_rfl
theorem FeedsComeBack_jf28 : ((Rows.feedsComeBackRow.kinds == (if Rows.feedsComeBackRow.domain.isEmpty then [] else Tryz.f3.params.toList.map fun t => match Tryz.prog.underlying t with | some (.int k) => some k | _ => none))) = true := by kernel_rfl
theorem FeedsComeBack_jf29 : ((Rows.feedsComeBackRow.pinned == Rows.feedsComeBackRow.pinnedBy)) = true := by kernel_rfl
theorem FeedsComeBack_jf30 : ((Rows.feedsComeBackRow.veiled == (Tryz.f3.params.toList ++ Rows.feedsComeBackSpec.plain.varTypes Tryz.prog ++ Tryz.f3.resultTypes.toList).any (Tryz.prog.veiledRec ·))) = true := by kernel_rfl
theorem FeedsComeBack_jf31 : (Rows.feedsComeBackRow.veiledFits Tryz.prog Tryz.f3.params.toList (Tryz.f3.params.toList ++ Rows.feedsComeBackSpec.plain.varTypes Tryz.prog ++ Tryz.f3.resultTypes.toList)) = true := by kernel_rfl
theorem FeedsComeBack_hnm : Tryz.prog.funcNamed "reelfeeder/rfkeep1.FeedsComeBack" = some 3 := by kernel_rfl
theorem FeedsComeBack_hin : Tryz.f3.isInstance Tryz.prog Rows.feedsComeBackRow.origin Rows.feedsComeBackRow.targs := of_decide_eq_true (by kernel_rfl)
theorem FeedsComeBack_hwr : Tryz.f3.isWrapper Tryz.prog Rows.feedsComeBackRow.wrapper Rows.feedsComeBackRow.mainSum := by unfold Func.isWrapper; first | (rw [if_pos (by decide +kernel)]; kernel_rfl) | (rw [if_neg (by decide +kernel)]; exact ⟨rfl, rfl⟩)
theorem FeedsComeBack_hwf : Rows.feedsComeBackRow.wfByText (OpenSpec.ofChange Rows.feedsComeBackSpec) = true := by kernel_rfl
theorem FeedsComeBack_hmi : Tryz.prog.mainIs = some (true, "42ce26b1f8d4b91822045f60f7d80b6accd6af3293549c4ea87d972250d18eca".toList) := by kernel_rfl
theorem FeedsComeBack_hlo : true = Tryz.prog.looks [] := by kernel_rfl
theorem FeedsComeBack_hst : ([22].all fun u => !Tryz.prog.wantsStandIn u) = true := by kernel_rfl
theorem FeedsComeBack_hgo : false = Rows.feedsComeBackRow.goesBy Tryz.prog := by kernel_rfl
end Go.Proofs.YtilhonppgedoiaaGreatDoor
