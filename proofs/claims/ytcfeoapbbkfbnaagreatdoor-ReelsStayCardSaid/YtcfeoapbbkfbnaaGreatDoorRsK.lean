/- Closed facts on the row of the law ReelsStay: no walk. No conditions. -/
import Derived.Test.YtcfeoapbbkfbnaaGreatDoorRows
import Derived.Test.YtcfeoapbbkfbnaaGreatDoorCards
import Derived.Test.YtcfeoapbbkfbnaaGreatDoorTie
import Derived.Test.YtcfeoapbbkfbnaaGreatDoorFrame
namespace Go.Proofs.YtcfeoapbbkfbnaaGreatDoor
open Go.ChangeShapes Go.WideShapes Go.ChangeAt Go.RowKit

/-! closed facts, each alone (together they outgrow the kernel's memory) -/
theorem ReelsStay_jf0 : (Rows.reelsStayRow.wf (OpenSpec.ofChange Rows.reelsStaySpec)) = true := by kernel_rfl
theorem ReelsStay_jf1 : (laidOutB Tryz.prog) = true := by kernel_rfl
theorem ReelsStay_jf2 : (mapsRowed Tryz.prog) = true := by kernel_rfl
theorem ReelsStay_jf3 : (Tryz.f4.params.all (Tryz.prog.readableRec ·)) = true := by kernel_rfl
theorem ReelsStay_jf4 : (namedTie Tryz.prog Rows.reelsStayRow.named Rows.reelsStaySpec.vars) = true := by kernel_rfl
theorem ReelsStay_jf5 : ((Rows.reelsStayRow.stops == [])) = true := by kernel_rfl
theorem ReelsStay_jf6 : ((Tryz.prog.stops == [])) = true := by kernel_rfl
theorem ReelsStay_jf7 : ((Rows.reelsStayRow.knobs == [])) = true := by kernel_rfl
theorem ReelsStay_jf8 : ((Tryz.prog.stopKnobs == [])) = true := by kernel_rfl
theorem ReelsStay_jf9 : ((Rows.reelsStayRow.inPlace == Tryz.prog.inPlace 4)) = true := by kernel_rfl
theorem ReelsStay_jf10 : ((Rows.reelsStayRow.unfollowed == Tryz.prog.unfollowed 4)) = true := by kernel_rfl
theorem ReelsStay_jf11 : ((Rows.reelsStayRow.recurses == Tryz.prog.recurses 4)) = true := by kernel_rfl
theorem ReelsStay_jf12 : ((Rows.reelsStayRow.named == Tryz.prog.varsNamed 4)) = true := by kernel_rfl
theorem ReelsStay_jf13 : ((Rows.reelsStayRow.maps == (Tryz.f4.params.toList ++ Rows.reelsStaySpec.plain.varTypes Tryz.prog).any (Tryz.prog.mapsRec ·))) = true := by kernel_rfl
theorem ReelsStay_jf14 : ((Rows.reelsStayRow.ifaces == (Tryz.f4.params.toList ++ Rows.reelsStaySpec.plain.varTypes Tryz.prog).any (Tryz.prog.ifacesRec ·))) = true := by kernel_rfl
theorem ReelsStay_jf15 : ((Rows.reelsStayRow.mapsOut == Tryz.prog.mapsAmong Tryz.f4.resultTypes.toList)) = true := by kernel_rfl
theorem ReelsStay_jf16 : ((Rows.reelsStayRow.loops == (Tryz.f4.params.toList ++ Rows.reelsStaySpec.plain.varTypes Tryz.prog).any (Tryz.prog.loopsFrom ·))) = true := by kernel_rfl
theorem ReelsStay_jf17 : ((Rows.reelsStayRow.wideKeys == (Tryz.f4.params.toList ++ Rows.reelsStaySpec.plain.varTypes Tryz.prog ++ Tryz.f4.resultTypes.toList).any (Tryz.prog.wideKeysFrom ·))) = true := by kernel_rfl
theorem ReelsStay_jf18 : (Rows.reelsStaySpec.vars.all (Tryz.prog.varReadable ·)) = true := by kernel_rfl
theorem ReelsStay_jf19 : (Tryz.f4.resultTypes.all (fun t => Tryz.prog.readableRec t && decide (t < Tryz.prog.types.size))) = true := by kernel_rfl
theorem ReelsStay_jf20 : ((Rows.reelsStayRow.ifacesOut == Tryz.f4.resultTypes.toList.any (Tryz.prog.ifacesRec ·))) = true := by kernel_rfl
theorem ReelsStay_jf21 : ((Rows.reelsStayRow.loopsOut == Tryz.f4.resultTypes.toList.any (Tryz.prog.loopsFrom ·))) = true := by kernel_rfl
theorem ReelsStay_jf22 : ((Rows.reelsStayRow.plainKeys == Tryz.prog.plainKeys)) = true := by kernel_rfl
theorem ReelsStay_jf23 : (Rows.reelsStayRow.shortTexts.isNone) = true := by kernel_rfl
theorem ReelsStay_jf24 : (Tryz.prog.stopsHeard) = true := by kernel_rfl
theorem ReelsStay_jf25 : (Tryz.prog.mayEnter) = true := by kernel_rfl
theorem ReelsStay_jf26 : ((Rows.reelsStayRow.lifted == Tryz.prog.liftsFinal)) = true := by kernel_rfl
theorem ReelsStay_jf27 : ((Tryz.prog.make == some Rows.reelsStayRow.make)) = true := by kernel_rfl
theorem ReelsStay_jf28 : ((Rows.reelsStayRow.kinds == (if Rows.reelsStayRow.domain.isEmpty then [] else Tryz.f4.params.toList.map fun t => match Tryz.prog.underlying t with | some (.int k) => some k | _ => none))) = true := by kernel_rfl
theorem ReelsStay_jf29 : ((Rows.reelsStayRow.pinned == Rows.reelsStayRow.pinnedBy)) = true := by kernel_rfl
theorem ReelsStay_jf30 : ((Rows.reelsStayRow.veiled == (Tryz.f4.params.toList ++ Rows.reelsStaySpec.plain.varTypes Tryz.prog ++ Tryz.f4.resultTypes.toList).any (Tryz.prog.veiledRec ·))) = true := by kernel_rfl
theorem ReelsStay_jf31 : (Rows.reelsStayRow.veiledFits Tryz.prog Tryz.f4.params.toList (Tryz.f4.params.toList ++ Rows.reelsStaySpec.plain.varTypes Tryz.prog ++ Tryz.f4.resultTypes.toList)) = true := by kernel_rfl
theorem ReelsStay_hnm : Tryz.prog.funcNamed "reelfeeder/rfkeep1.ReelsStay" = some 4 := by kernel_rfl
theorem ReelsStay_hin : Tryz.f4.isInstance Tryz.prog Rows.reelsStayRow.origin Rows.reelsStayRow.targs := of_decide_eq_true (by kernel_rfl)
theorem ReelsStay_hwr : Tryz.f4.isWrapper Tryz.prog Rows.reelsStayRow.wrapper Rows.reelsStayRow.mainSum := by unfold Func.isWrapper; first | (rw [if_pos (by decide +kernel)]; kernel_rfl) | (rw [if_neg (by decide +kernel)]; exact ⟨rfl, rfl⟩)
theorem ReelsStay_hwf : Rows.reelsStayRow.wfByText (OpenSpec.ofChange Rows.reelsStaySpec) = true := by kernel_rfl
theorem ReelsStay_hmi : Tryz.prog.mainIs = some (true, "789f849c41f522a84636e7b7d6683da0088ca0ebe442948540f3ebcdc0791f12".toList) := by kernel_rfl
theorem ReelsStay_hlo : false = Tryz.prog.looks [] := by kernel_rfl
theorem ReelsStay_hst : ([22].all fun u => !Tryz.prog.wantsStandIn u) = true := by kernel_rfl
theorem ReelsStay_hgo : false = Rows.reelsStayRow.goesBy Tryz.prog := by kernel_rfl
end Go.Proofs.YtcfeoapbbkfbnaaGreatDoor
