/- Closed facts on the row of the law BoardsTraced: no walk. No conditions. -/
import Derived.Test.YtcfeoapbbkfbnaaGreatDoorRows
import Derived.Test.YtcfeoapbbkfbnaaGreatDoorCards
import Derived.Test.YtcfeoapbbkfbnaaGreatDoorTie
import Derived.Test.YtcfeoapbbkfbnaaGreatDoorFrame
namespace Go.Proofs.YtcfeoapbbkfbnaaGreatDoor
open Go.ChangeShapes Go.WideShapes Go.ChangeAt Go.RowKit

/-! closed facts, each alone (together they outgrow the kernel's memory) -/
theorem BoardsTraced_jf0 : (Rows.boardsTracedRow.wf (OpenSpec.ofChange Rows.boardsTracedSpec)) = true := by kernel_rfl
theorem BoardsTraced_jf1 : (laidOutB Tryz.prog) = true := by kernel_rfl
theorem BoardsTraced_jf2 : (mapsRowed Tryz.prog) = true := by kernel_rfl
theorem BoardsTraced_jf3 : (Tryz.f7.params.all (Tryz.prog.readableRec ·)) = true := by kernel_rfl
theorem BoardsTraced_jf4 : (namedTie Tryz.prog Rows.boardsTracedRow.named Rows.boardsTracedSpec.vars) = true := by kernel_rfl
theorem BoardsTraced_jf5 : ((Rows.boardsTracedRow.stops == [])) = true := by kernel_rfl
theorem BoardsTraced_jf6 : ((Tryz.prog.stops == [])) = true := by kernel_rfl
theorem BoardsTraced_jf7 : ((Rows.boardsTracedRow.knobs == [])) = true := by kernel_rfl
theorem BoardsTraced_jf8 : ((Tryz.prog.stopKnobs == [])) = true := by kernel_rfl
theorem BoardsTraced_jf9 : ((Rows.boardsTracedRow.inPlace == Tryz.prog.inPlace 7)) = true := by kernel_rfl
theorem BoardsTraced_jf10 : ((Rows.boardsTracedRow.unfollowed == Tryz.prog.unfollowed 7)) = true := by kernel_rfl
theorem BoardsTraced_jf11 : ((Rows.boardsTracedRow.recurses == Tryz.prog.recurses 7)) = true := by kernel_rfl
theorem BoardsTraced_jf12 : ((Rows.boardsTracedRow.named == Tryz.prog.varsNamed 7)) = true := by kernel_rfl
theorem BoardsTraced_jf13 : ((Rows.boardsTracedRow.maps == (Tryz.f7.params.toList ++ Rows.boardsTracedSpec.plain.varTypes Tryz.prog).any (Tryz.prog.mapsRec ·))) = true := by kernel_rfl
theorem BoardsTraced_jf14 : ((Rows.boardsTracedRow.ifaces == (Tryz.f7.params.toList ++ Rows.boardsTracedSpec.plain.varTypes Tryz.prog).any (Tryz.prog.ifacesRec ·))) = true := by kernel_rfl
theorem BoardsTraced_jf15 : ((Rows.boardsTracedRow.mapsOut == Tryz.prog.mapsAmong Tryz.f7.resultTypes.toList)) = true := by kernel_rfl
theorem BoardsTraced_jf16 : ((Rows.boardsTracedRow.loops == (Tryz.f7.params.toList ++ Rows.boardsTracedSpec.plain.varTypes Tryz.prog).any (Tryz.prog.loopsFrom ·))) = true := by kernel_rfl
theorem BoardsTraced_jf17 : ((Rows.boardsTracedRow.wideKeys == (Tryz.f7.params.toList ++ Rows.boardsTracedSpec.plain.varTypes Tryz.prog ++ Tryz.f7.resultTypes.toList).any (Tryz.prog.wideKeysFrom ·))) = true := by kernel_rfl
theorem BoardsTraced_jf18 : (Rows.boardsTracedSpec.vars.all (Tryz.prog.varReadable ·)) = true := by kernel_rfl
theorem BoardsTraced_jf19 : (Tryz.f7.resultTypes.all (fun t => Tryz.prog.readableRec t && decide (t < Tryz.prog.types.size))) = true := by kernel_rfl
theorem BoardsTraced_jf20 : ((Rows.boardsTracedRow.ifacesOut == Tryz.f7.resultTypes.toList.any (Tryz.prog.ifacesRec ·))) = true := by kernel_rfl
theorem BoardsTraced_jf21 : ((Rows.boardsTracedRow.loopsOut == Tryz.f7.resultTypes.toList.any (Tryz.prog.loopsFrom ·))) = true := by kernel_rfl
theorem BoardsTraced_jf22 : ((Rows.boardsTracedRow.plainKeys == Tryz.prog.plainKeys)) = true := by kernel_rfl
theorem BoardsTraced_jf23 : (Rows.boardsTracedRow.shortTexts.isNone) = true := by kernel_rfl
theorem BoardsTraced_jf24 : (Tryz.prog.stopsHeard) = true := by kernel_rfl
theorem BoardsTraced_jf25 : (Tryz.prog.mayEnter) = true := by kernel_rfl
theorem BoardsTraced_jf26 : ((Rows.boardsTracedRow.lifted == Tryz.prog.liftsFinal)) = true := by kernel_rfl
theorem BoardsTraced_jf27 : ((Tryz.prog.make == some Rows.boardsTracedRow.make)) = true := by kernel_rfl
theorem BoardsTraced_jf28 : ((Rows.boardsTracedRow.kinds == (if Rows.boardsTracedRow.domain.isEmpty then [] else Tryz.f7.params.toList.map fun t => match Tryz.prog.underlying t with | some (.int k) => some k | _ => none))) = true := by kernel_rfl
theorem BoardsTraced_jf29 : ((Rows.boardsTracedRow.pinned == Rows.boardsTracedRow.pinnedBy)) = true := by kernel_rfl
theorem BoardsTraced_jf30 : ((Rows.boardsTracedRow.veiled == (Tryz.f7.params.toList ++ Rows.boardsTracedSpec.plain.varTypes Tryz.prog ++ Tryz.f7.resultTypes.toList).any (Tryz.prog.veiledRec ·))) = true := by kernel_rfl
theorem BoardsTraced_jf31 : (Rows.boardsTracedRow.veiledFits Tryz.prog Tryz.f7.params.toList (Tryz.f7.params.toList ++ Rows.boardsTracedSpec.plain.varTypes Tryz.prog ++ Tryz.f7.resultTypes.toList)) = true := by kernel_rfl
theorem BoardsTraced_hnm : Tryz.prog.funcNamed "reelfeeder/rflaw1.BoardsTraced" = some 7 := by kernel_rfl
theorem BoardsTraced_hin : Tryz.f7.isInstance Tryz.prog Rows.boardsTracedRow.origin Rows.boardsTracedRow.targs := of_decide_eq_true (by kernel_rfl)
theorem BoardsTraced_hwr : Tryz.f7.isWrapper Tryz.prog Rows.boardsTracedRow.wrapper Rows.boardsTracedRow.mainSum := by unfold Func.isWrapper; first | (rw [if_pos (by decide +kernel)]; kernel_rfl) | (rw [if_neg (by decide +kernel)]; exact ⟨rfl, rfl⟩)
theorem BoardsTraced_hwf : Rows.boardsTracedRow.wfByText (OpenSpec.ofChange Rows.boardsTracedSpec) = true := by kernel_rfl
theorem BoardsTraced_hmi : Tryz.prog.mainIs = some (true, "789f849c41f522a84636e7b7d6683da0088ca0ebe442948540f3ebcdc0791f12".toList) := by kernel_rfl
theorem BoardsTraced_hlo : false = Tryz.prog.looks [] := by kernel_rfl
theorem BoardsTraced_hst : ([22].all fun u => !Tryz.prog.wantsStandIn u) = true := by kernel_rfl
theorem BoardsTraced_hgo : false = Rows.boardsTracedRow.goesBy Tryz.prog := by kernel_rfl
end Go.Proofs.YtcfeoapbbkfbnaaGreatDoor
