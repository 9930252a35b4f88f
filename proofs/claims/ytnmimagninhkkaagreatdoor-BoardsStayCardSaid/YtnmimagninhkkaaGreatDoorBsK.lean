/- Closed facts on the row of the law BoardsStay: no walk. No conditions. -/
import Derived.Test.YtnmimagninhkkaaGreatDoorRows
import Derived.Test.YtnmimagninhkkaaGreatDoorCards
import Derived.Test.YtnmimagninhkkaaGreatDoorTie
import Derived.Test.YtnmimagninhkkaaGreatDoorFrame
namespace Go.Proofs.YtnmimagninhkkaaGreatDoor
open Go.ChangeShapes Go.WideShapes Go.ChangeAt Go.RowKit

/-! closed facts, each alone (together they outgrow the kernel's memory) -/
theorem BoardsStay_jf0 : (Rows.boardsStayRow.wf (OpenSpec.ofChange Rows.boardsStaySpec)) = true := by kernel_rfl
theorem BoardsStay_jf1 : (laidOutB Tryz.prog) = true := by kernel_rfl
theorem BoardsStay_jf2 : (mapsRowed Tryz.prog) = true := by kernel_rfl
theorem BoardsStay_jf3 : (Tryz.f7.params.all (Tryz.prog.readableRec ·)) = true := by kernel_rfl
theorem BoardsStay_jf4 : (namedTie Tryz.prog Rows.boardsStayRow.named Rows.boardsStaySpec.vars) = true := by kernel_rfl
theorem BoardsStay_jf5 : ((Rows.boardsStayRow.stops == [])) = true := by kernel_rfl
theorem BoardsStay_jf6 : ((Tryz.prog.stops == [])) = true := by kernel_rfl
theorem BoardsStay_jf7 : ((Rows.boardsStayRow.knobs == [])) = true := by kernel_rfl
theorem BoardsStay_jf8 : ((Tryz.prog.stopKnobs == [])) = true := by kernel_rfl
theorem BoardsStay_jf9 : ((Rows.boardsStayRow.inPlace == Tryz.prog.inPlace 7)) = true := by kernel_rfl
theorem BoardsStay_jf10 : ((Rows.boardsStayRow.unfollowed == Tryz.prog.unfollowed 7)) = true := by kernel_rfl
theorem BoardsStay_jf11 : ((Rows.boardsStayRow.recurses == Tryz.prog.recurses 7)) = true := by kernel_rfl
theorem BoardsStay_jf12 : ((Rows.boardsStayRow.named == Tryz.prog.varsNamed 7)) = true := by kernel_rfl
theorem BoardsStay_jf13 : ((Rows.boardsStayRow.maps == (Tryz.f7.params.toList ++ Rows.boardsStaySpec.plain.varTypes Tryz.prog).any (Tryz.prog.mapsRec ·))) = true := by kernel_rfl
theorem BoardsStay_jf14 : ((Rows.boardsStayRow.ifaces == (Tryz.f7.params.toList ++ Rows.boardsStaySpec.plain.varTypes Tryz.prog).any (Tryz.prog.ifacesRec ·))) = true := by kernel_rfl
theorem BoardsStay_jf15 : ((Rows.boardsStayRow.mapsOut == Tryz.prog.mapsAmong Tryz.f7.resultTypes.toList)) = true := by kernel_rfl
theorem BoardsStay_jf16 : ((Rows.boardsStayRow.loops == (Tryz.f7.params.toList ++ Rows.boardsStaySpec.plain.varTypes Tryz.prog).any (Tryz.prog.loopsFrom ·))) = true := by kernel_rfl
theorem BoardsStay_jf17 : ((Rows.boardsStayRow.wideKeys == (Tryz.f7.params.toList ++ Rows.boardsStaySpec.plain.varTypes Tryz.prog ++ Tryz.f7.resultTypes.toList).any (Tryz.prog.wideKeysFrom ·))) = true := by kernel_rfl
theorem BoardsStay_jf18 : (Rows.boardsStaySpec.vars.all (Tryz.prog.varReadable ·)) = true := by kernel_rfl
theorem BoardsStay_jf19 : (Tryz.f7.resultTypes.all (fun t => Tryz.prog.readableRec t && decide (t < Tryz.prog.types.size))) = true := by kernel_rfl
theorem BoardsStay_jf20 : ((Rows.boardsStayRow.ifacesOut == Tryz.f7.resultTypes.toList.any (Tryz.prog.ifacesRec ·))) = true := by kernel_rfl
theorem BoardsStay_jf21 : ((Rows.boardsStayRow.loopsOut == Tryz.f7.resultTypes.toList.any (Tryz.prog.loopsFrom ·))) = true := by kernel_rfl
theorem BoardsStay_jf22 : ((Rows.boardsStayRow.plainKeys == Tryz.prog.plainKeys)) = true := by kernel_rfl
theorem BoardsStay_jf23 : (Rows.boardsStayRow.shortTexts.isNone) = true := by kernel_rfl
theorem BoardsStay_jf24 : (Tryz.prog.stopsHeard) = true := by kernel_rfl
theorem BoardsStay_jf25 : (Tryz.prog.mayEnter) = true := by kernel_rfl
theorem BoardsStay_jf26 : ((Rows.boardsStayRow.lifted == Tryz.prog.liftsFinal)) = true := by kernel_rfl
theorem BoardsStay_jf27 : ((Tryz.prog.make == some Rows.boardsStayRow.make)) = true := by kernel_rfl
theorem BoardsStay_jf28 : ((Rows.boardsStayRow.kinds == (if Rows.boardsStayRow.domain.isEmpty then [] else Tryz.f7.params.toList.map fun t => match Tryz.prog.underlying t with | some (.int k) => some k | _ => none))) = true := by kernel_rfl
theorem BoardsStay_jf29 : ((Rows.boardsStayRow.pinned == Rows.boardsStayRow.pinnedBy)) = true := by kernel_rfl
theorem BoardsStay_jf30 : ((Rows.boardsStayRow.veiled == (Tryz.f7.params.toList ++ Rows.boardsStaySpec.plain.varTypes Tryz.prog ++ Tryz.f7.resultTypes.toList).any (Tryz.prog.veiledRec ·))) = true := by kernel_rfl
theorem BoardsStay_jf31 : (Rows.boardsStayRow.veiledFits Tryz.prog Tryz.f7.params.toList (Tryz.f7.params.toList ++ Rows.boardsStaySpec.plain.varTypes Tryz.prog ++ Tryz.f7.resultTypes.toList)) = true := by kernel_rfl
theorem BoardsStay_hnm : Tryz.prog.funcNamed "reelfeeder/rfkeep1.BoardsStay" = some 7 := by kernel_rfl
theorem BoardsStay_hin : Tryz.f7.isInstance Tryz.prog Rows.boardsStayRow.origin Rows.boardsStayRow.targs := of_decide_eq_true (by kernel_rfl)
theorem BoardsStay_hwr : Tryz.f7.isWrapper Tryz.prog Rows.boardsStayRow.wrapper Rows.boardsStayRow.mainSum := by unfold Func.isWrapper; first | (rw [if_pos (by decide +kernel)]; kernel_rfl) | (rw [if_neg (by decide +kernel)]; exact ⟨rfl, rfl⟩)
theorem BoardsStay_hwf : Rows.boardsStayRow.wfByText (OpenSpec.ofChange Rows.boardsStaySpec) = true := by kernel_rfl
theorem BoardsStay_hmi : Tryz.prog.mainIs = some (true, "ef9b408e0ef1d8ee385fe0c4518ed384cc5ed48d05d09bbfcdc890ec739e479e".toList) := by kernel_rfl
theorem BoardsStay_hlo : true = Tryz.prog.looks [] := by kernel_rfl
theorem BoardsStay_hst : ([22].all fun u => !Tryz.prog.wantsStandIn u) = true := by kernel_rfl
theorem BoardsStay_hgo : false = Rows.boardsStayRow.goesBy Tryz.prog := by kernel_rfl
end Go.Proofs.YtnmimagninhkkaaGreatDoor
