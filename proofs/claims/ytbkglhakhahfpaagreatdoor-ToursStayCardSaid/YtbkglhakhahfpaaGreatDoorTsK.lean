/- Closed facts on the row of the law ToursStay: no walk. No conditions. -/
import Derived.Test.YtbkglhakhahfpaaGreatDoorRows
import Derived.Test.YtbkglhakhahfpaaGreatDoorCards
import Derived.Test.YtbkglhakhahfpaaGreatDoorTie
import Derived.Test.YtbkglhakhahfpaaGreatDoorFrame
namespace Go.Proofs.YtbkglhakhahfpaaGreatDoor
open Go.ChangeShapes Go.WideShapes Go.ChangeAt Go.RowKit

/-! closed facts, each alone (together they outgrow the kernel's memory) -/
theorem ToursStay_jf0 : (Rows.toursStayRow.wf (OpenSpec.ofChange Rows.toursStaySpec)) = true := by kernel_rfl
theorem ToursStay_jf1 : (laidOutB Tryz.prog) = true := by kernel_rfl
theorem ToursStay_jf2 : (mapsRowed Tryz.prog) = true := by kernel_rfl
theorem ToursStay_jf3 : (Tryz.f5.params.all (Tryz.prog.readableRec ·)) = true := by kernel_rfl
theorem ToursStay_jf4 : (namedTie Tryz.prog Rows.toursStayRow.named Rows.toursStaySpec.vars) = true := by kernel_rfl
theorem ToursStay_jf5 : ((Rows.toursStayRow.stops == [])) = true := by kernel_rfl
theorem ToursStay_jf6 : ((Tryz.prog.stops == [])) = true := by kernel_rfl
theorem ToursStay_jf7 : ((Rows.toursStayRow.knobs == [])) = true := by kernel_rfl
theorem ToursStay_jf8 : ((Tryz.prog.stopKnobs == [])) = true := by kernel_rfl
theorem ToursStay_jf9 : ((Rows.toursStayRow.inPlace == Tryz.prog.inPlace 5)) = true := by kernel_rfl
theorem ToursStay_jf10 : ((Rows.toursStayRow.unfollowed == Tryz.prog.unfollowed 5)) = true := by kernel_rfl
theorem ToursStay_jf11 : ((Rows.toursStayRow.recurses == Tryz.prog.recurses 5)) = true := by kernel_rfl
theorem ToursStay_jf12 : ((Rows.toursStayRow.named == Tryz.prog.varsNamed 5)) = true := by kernel_rfl
theorem ToursStay_jf13 : ((Rows.toursStayRow.maps == (Tryz.f5.params.toList ++ Rows.toursStaySpec.plain.varTypes Tryz.prog).any (Tryz.prog.mapsRec ·))) = true := by kernel_rfl
theorem ToursStay_jf14 : ((Rows.toursStayRow.ifaces == (Tryz.f5.params.toList ++ Rows.toursStaySpec.plain.varTypes Tryz.prog).any (Tryz.prog.ifacesRec ·))) = true := by kernel_rfl
theorem ToursStay_jf15 : ((Rows.toursStayRow.mapsOut == Tryz.prog.mapsAmong Tryz.f5.resultTypes.toList)) = true := by kernel_rfl
theorem ToursStay_jf16 : ((Rows.toursStayRow.loops == (Tryz.f5.params.toList ++ Rows.toursStaySpec.plain.varTypes Tryz.prog).any (Tryz.prog.loopsFrom ·))) = true := by kernel_rfl
theorem ToursStay_jf17 : ((Rows.toursStayRow.wideKeys == (Tryz.f5.params.toList ++ Rows.toursStaySpec.plain.varTypes Tryz.prog ++ Tryz.f5.resultTypes.toList).any (Tryz.prog.wideKeysFrom ·))) = true := by kernel_rfl
theorem ToursStay_jf18 : (Rows.toursStaySpec.vars.all (Tryz.prog.varReadable ·)) = true := by kernel_rfl
theorem ToursStay_jf19 : (Tryz.f5.resultTypes.all (fun t => Tryz.prog.readableRec t && decide (t < Tryz.prog.types.size))) = true := by kernel_rfl
theorem ToursStay_jf20 : ((Rows.toursStayRow.ifacesOut == Tryz.f5.resultTypes.toList.any (Tryz.prog.ifacesRec ·))) = true := by kernel_rfl
theorem ToursStay_jf21 : ((Rows.toursStayRow.loopsOut == Tryz.f5.resultTypes.toList.any (Tryz.prog.loopsFrom ·))) = true := by kernel_rfl
theorem ToursStay_jf22 : ((Rows.toursStayRow.plainKeys == Tryz.prog.plainKeys)) = true := by kernel_rfl
theorem ToursStay_jf23 : (Rows.toursStayRow.shortTexts.isNone) = true := by kernel_rfl
theorem ToursStay_jf24 : (Tryz.prog.stopsHeard) = true := by kernel_rfl
theorem ToursStay_jf25 : (Tryz.prog.mayEnter) = true := by kernel_rfl
theorem ToursStay_jf26 : ((Rows.toursStayRow.lifted == Tryz.prog.liftsFinal)) = true := by kernel_rfl
theorem ToursStay_jf27 : ((Tryz.prog.make == some Rows.toursStayRow.make)) = true := by kernel_rfl
theorem ToursStay_jf28 : ((Rows.toursStayRow.kinds == (if Rows.toursStayRow.domain.isEmpty then [] else Tryz.f5.params.toList.map fun t => match Tryz.prog.underlying t with | some (.int k) => some k | _ => none))) = true := by kernel_rfl
theorem ToursStay_jf29 : ((Rows.toursStayRow.pinned == Rows.toursStayRow.pinnedBy)) = true := by kernel_rfl
theorem ToursStay_jf30 : ((Rows.toursStayRow.veiled == (Tryz.f5.params.toList ++ Rows.toursStaySpec.plain.varTypes Tryz.prog ++ Tryz.f5.resultTypes.toList).any (Tryz.prog.veiledRec ·))) = true := by kernel_rfl
theorem ToursStay_jf31 : (Rows.toursStayRow.veiledFits Tryz.prog Tryz.f5.params.toList (Tryz.f5.params.toList ++ Rows.toursStaySpec.plain.varTypes Tryz.prog ++ Tryz.f5.resultTypes.toList)) = true := by kernel_rfl
theorem ToursStay_hnm : Tryz.prog.funcNamed "reelfeeder/rfkeep1.ToursStay" = some 5 := by kernel_rfl
theorem ToursStay_hin : Tryz.f5.isInstance Tryz.prog Rows.toursStayRow.origin Rows.toursStayRow.targs := of_decide_eq_true (by kernel_rfl)
theorem ToursStay_hwr : Tryz.f5.isWrapper Tryz.prog Rows.toursStayRow.wrapper Rows.toursStayRow.mainSum := by unfold Func.isWrapper; first | (rw [if_pos (by decide +kernel)]; kernel_rfl) | (rw [if_neg (by decide +kernel)]; exact ⟨rfl, rfl⟩)
theorem ToursStay_hwf : Rows.toursStayRow.wfByText (OpenSpec.ofChange Rows.toursStaySpec) = true := by kernel_rfl
theorem ToursStay_hmi : Tryz.prog.mainIs = some (true, "d6c4fc81ffc11be73bd476188b12572b69e997bbaf5597b2b2bc4b5e17de2d7b".toList) := by kernel_rfl
theorem ToursStay_hlo : false = Tryz.prog.looks [] := by kernel_rfl
theorem ToursStay_hst : ([22].all fun u => !Tryz.prog.wantsStandIn u) = true := by kernel_rfl
theorem ToursStay_hgo : false = Rows.toursStayRow.goesBy Tryz.prog := by kernel_rfl
end Go.Proofs.YtbkglhakhahfpaaGreatDoor
