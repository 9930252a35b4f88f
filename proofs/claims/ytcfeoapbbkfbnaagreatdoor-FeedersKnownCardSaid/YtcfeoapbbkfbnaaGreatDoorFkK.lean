/- Closed facts on the row of the law FeedersKnown: no walk. No conditions. -/
import Derived.Test.YtcfeoapbbkfbnaaGreatDoorRows
import Derived.Test.YtcfeoapbbkfbnaaGreatDoorCards
import Derived.Test.YtcfeoapbbkfbnaaGreatDoorTie
import Derived.Test.YtcfeoapbbkfbnaaGreatDoorFrame
namespace Go.Proofs.YtcfeoapbbkfbnaaGreatDoor
open Go.ChangeShapes Go.WideShapes Go.ChangeAt Go.RowKit

/-! closed facts, each alone (together they outgrow the kernel's memory) -/
theorem FeedersKnown_jf0 : (Rows.feedersKnownRow.wf (OpenSpec.ofChange Rows.feedersKnownSpec)) = true := by kernel_rfl
theorem FeedersKnown_jf1 : (laidOutB Tryz.prog) = true := by kernel_rfl
theorem FeedersKnown_jf2 : (mapsRowed Tryz.prog) = true := by kernel_rfl
theorem FeedersKnown_jf3 : (Tryz.f3.params.all (Tryz.prog.readableRec ·)) = true := by kernel_rfl
theorem FeedersKnown_jf4 : (namedTie Tryz.prog Rows.feedersKnownRow.named Rows.feedersKnownSpec.vars) = true := by kernel_rfl
theorem FeedersKnown_jf5 : ((Rows.feedersKnownRow.stops == [])) = true := by kernel_rfl
theorem FeedersKnown_jf6 : ((Tryz.prog.stops == [])) = true := by kernel_rfl
theorem FeedersKnown_jf7 : ((Rows.feedersKnownRow.knobs == [])) = true := by kernel_rfl
theorem FeedersKnown_jf8 : ((Tryz.prog.stopKnobs == [])) = true := by kernel_rfl
theorem FeedersKnown_jf9 : ((Rows.feedersKnownRow.inPlace == Tryz.prog.inPlace 3)) = true := by kernel_rfl
theorem FeedersKnown_jf10 : ((Rows.feedersKnownRow.unfollowed == Tryz.prog.unfollowed 3)) = true := by kernel_rfl
theorem FeedersKnown_jf11 : ((Rows.feedersKnownRow.recurses == Tryz.prog.recurses 3)) = true := by kernel_rfl
theorem FeedersKnown_jf12 : ((Rows.feedersKnownRow.named == Tryz.prog.varsNamed 3)) = true := by kernel_rfl
theorem FeedersKnown_jf13 : ((Rows.feedersKnownRow.maps == (Tryz.f3.params.toList ++ Rows.feedersKnownSpec.plain.varTypes Tryz.prog).any (Tryz.prog.mapsRec ·))) = true := by kernel_rfl
theorem FeedersKnown_jf14 : ((Rows.feedersKnownRow.ifaces == (Tryz.f3.params.toList ++ Rows.feedersKnownSpec.plain.varTypes Tryz.prog).any (Tryz.prog.ifacesRec ·))) = true := by kernel_rfl
theorem FeedersKnown_jf15 : ((Rows.feedersKnownRow.mapsOut == Tryz.prog.mapsAmong Tryz.f3.resultTypes.toList)) = true := by kernel_rfl
theorem FeedersKnown_jf16 : ((Rows.feedersKnownRow.loops == (Tryz.f3.params.toList ++ Rows.feedersKnownSpec.plain.varTypes Tryz.prog).any (Tryz.prog.loopsFrom ·))) = true := by kernel_rfl
theorem FeedersKnown_jf17 : ((Rows.feedersKnownRow.wideKeys == (Tryz.f3.params.toList ++ Rows.feedersKnownSpec.plain.varTypes Tryz.prog ++ Tryz.f3.resultTypes.toList).any (Tryz.prog.wideKeysFrom ·))) = true := by kernel_rfl
theorem FeedersKnown_jf18 : (Rows.feedersKnownSpec.vars.all (Tryz.prog.varReadable ·)) = true := by kernel_rfl
theorem FeedersKnown_jf19 : (Tryz.f3.resultTypes.all (fun t => Tryz.prog.readableRec t && decide (t < Tryz.prog.types.size))) = true := by kernel_rfl
theorem FeedersKnown_jf20 : ((Rows.feedersKnownRow.ifacesOut == Tryz.f3.resultTypes.toList.any (Tryz.prog.ifacesRec ·))) = true := by kernel_rfl
theorem FeedersKnown_jf21 : ((Rows.feedersKnownRow.loopsOut == Tryz.f3.resultTypes.toList.any (Tryz.prog.loopsFrom ·))) = true := by kernel_rfl
theorem FeedersKnown_jf22 : ((Rows.feedersKnownRow.plainKeys == Tryz.prog.plainKeys)) = true := by kernel_rfl
theorem FeedersKnown_jf23 : (Rows.feedersKnownRow.shortTexts.isNone) = true := by kernel_rfl
theorem FeedersKnown_jf24 : (Tryz.prog.stopsHeard) = true := by kernel_rfl
theorem FeedersKnown_jf25 : (Tryz.prog.mayEnter) = true := by kernel_rfl
theorem FeedersKnown_jf26 : ((Rows.feedersKnownRow.lifted == Tryz.prog.liftsFinal)) = true := by kernel_rfl
theorem FeedersKnown_jf27 : ((Tryz.prog.make == some Rows.feedersKnownRow.make)) = true := by kernel_rfl
theorem FeedersKnown_jf28 : ((Rows.feedersKnownRow.kinds == (if Rows.feedersKnownRow.domain.isEmpty then [] else Tryz.f3.params.toList.map fun t => match Tryz.prog.underlying t with | some (.int k) => some k | _ => none))) = true := by kernel_rfl
theorem FeedersKnown_jf29 : ((Rows.feedersKnownRow.pinned == Rows.feedersKnownRow.pinnedBy)) = true := by kernel_rfl
theorem FeedersKnown_jf30 : ((Rows.feedersKnownRow.veiled == (Tryz.f3.params.toList ++ Rows.feedersKnownSpec.plain.varTypes Tryz.prog ++ Tryz.f3.resultTypes.toList).any (Tryz.prog.veiledRec ·))) = true := by kernel_rfl
theorem FeedersKnown_jf31 : (Rows.feedersKnownRow.veiledFits Tryz.prog Tryz.f3.params.toList (Tryz.f3.params.toList ++ Rows.feedersKnownSpec.plain.varTypes Tryz.prog ++ Tryz.f3.resultTypes.toList)) = true := by kernel_rfl
theorem FeedersKnown_hnm : Tryz.prog.funcNamed "reelfeeder/rflaw1.FeedersKnown" = some 3 := by kernel_rfl
theorem FeedersKnown_hin : Tryz.f3.isInstance Tryz.prog Rows.feedersKnownRow.origin Rows.feedersKnownRow.targs := of_decide_eq_true (by kernel_rfl)
theorem FeedersKnown_hwr : Tryz.f3.isWrapper Tryz.prog Rows.feedersKnownRow.wrapper Rows.feedersKnownRow.mainSum := by unfold Func.isWrapper; first | (rw [if_pos (by decide +kernel)]; kernel_rfl) | (rw [if_neg (by decide +kernel)]; exact ⟨rfl, rfl⟩)
theorem FeedersKnown_hwf : Rows.feedersKnownRow.wfByText (OpenSpec.ofChange Rows.feedersKnownSpec) = true := by kernel_rfl
theorem FeedersKnown_hmi : Tryz.prog.mainIs = some (true, "789f849c41f522a84636e7b7d6683da0088ca0ebe442948540f3ebcdc0791f12".toList) := by kernel_rfl
theorem FeedersKnown_hlo : false = Tryz.prog.looks [] := by kernel_rfl
theorem FeedersKnown_hst : ([22].all fun u => !Tryz.prog.wantsStandIn u) = true := by kernel_rfl
theorem FeedersKnown_hgo : false = Rows.feedersKnownRow.goesBy Tryz.prog := by kernel_rfl
end Go.Proofs.YtcfeoapbbkfbnaaGreatDoor
