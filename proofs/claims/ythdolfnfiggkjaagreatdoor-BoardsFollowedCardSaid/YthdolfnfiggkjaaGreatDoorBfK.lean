/- Closed facts on the row of the law BoardsFollowed: no walk. No conditions. -/
import Derived.Test.YthdolfnfiggkjaaGreatDoorRows
import Derived.Test.YthdolfnfiggkjaaGreatDoorCards
import Derived.Test.YthdolfnfiggkjaaGreatDoorTie
import Derived.Test.YthdolfnfiggkjaaGreatDoorFrame
namespace Go.Proofs.YthdolfnfiggkjaaGreatDoor
open Go.ChangeShapes Go.WideShapes Go.ChangeAt Go.RowKit

/-! closed facts, each alone (together they outgrow the kernel's memory) -/
theorem BoardsFollowed_jf0 : (Rows.boardsFollowedRow.wf (OpenSpec.ofChange Rows.boardsFollowedSpec)) = true := by kernel_rfl
theorem BoardsFollowed_jf1 : (laidOutB Tryz.prog) = true := by kernel_rfl
theorem BoardsFollowed_jf2 : (mapsRowed Tryz.prog) = true := by kernel_rfl
theorem BoardsFollowed_jf3 : (Tryz.f4.params.all (Tryz.prog.readableRec ·)) = true := by kernel_rfl
theorem BoardsFollowed_jf4 : (namedTie Tryz.prog Rows.boardsFollowedRow.named Rows.boardsFollowedSpec.vars) = true := by kernel_rfl
theorem BoardsFollowed_jf5 : ((Rows.boardsFollowedRow.stops == [])) = true := by kernel_rfl
theorem BoardsFollowed_jf6 : ((Tryz.prog.stops == [])) = true := by kernel_rfl
theorem BoardsFollowed_jf7 : ((Rows.boardsFollowedRow.knobs == [])) = true := by kernel_rfl
theorem BoardsFollowed_jf8 : ((Tryz.prog.stopKnobs == [])) = true := by kernel_rfl
theorem BoardsFollowed_jf9 : ((Rows.boardsFollowedRow.inPlace == Tryz.prog.inPlace 4)) = true := by kernel_rfl
theorem BoardsFollowed_jf10 : ((Rows.boardsFollowedRow.unfollowed == Tryz.prog.unfollowed 4)) = true := by kernel_rfl
theorem BoardsFollowed_jf11 : ((Rows.boardsFollowedRow.recurses == Tryz.prog.recurses 4)) = true := by kernel_rfl
theorem BoardsFollowed_jf12 : ((Rows.boardsFollowedRow.named == Tryz.prog.varsNamed 4)) = true := by kernel_rfl
theorem BoardsFollowed_jf13 : ((Rows.boardsFollowedRow.maps == (Tryz.f4.params.toList ++ Rows.boardsFollowedSpec.plain.varTypes Tryz.prog).any (Tryz.prog.mapsRec ·))) = true := by kernel_rfl
theorem BoardsFollowed_jf14 : ((Rows.boardsFollowedRow.ifaces == (Tryz.f4.params.toList ++ Rows.boardsFollowedSpec.plain.varTypes Tryz.prog).any (Tryz.prog.ifacesRec ·))) = true := by kernel_rfl
theorem BoardsFollowed_jf15 : ((Rows.boardsFollowedRow.mapsOut == Tryz.prog.mapsAmong Tryz.f4.resultTypes.toList)) = true := by kernel_rfl
theorem BoardsFollowed_jf16 : ((Rows.boardsFollowedRow.loops == (Tryz.f4.params.toList ++ Rows.boardsFollowedSpec.plain.varTypes Tryz.prog).any (Tryz.prog.loopsFrom ·))) = true := by kernel_rfl
theorem BoardsFollowed_jf17 : ((Rows.boardsFollowedRow.wideKeys == (Tryz.f4.params.toList ++ Rows.boardsFollowedSpec.plain.varTypes Tryz.prog ++ Tryz.f4.resultTypes.toList).any (Tryz.prog.wideKeysFrom ·))) = true := by kernel_rfl
theorem BoardsFollowed_jf18 : (Rows.boardsFollowedSpec.vars.all (Tryz.prog.varReadable ·)) = true := by kernel_rfl
theorem BoardsFollowed_jf19 : (Tryz.f4.resultTypes.all (fun t => Tryz.prog.readableRec t && decide (t < Tryz.prog.types.size))) = true := by kernel_rfl
theorem BoardsFollowed_jf20 : ((Rows.boardsFollowedRow.ifacesOut == Tryz.f4.resultTypes.toList.any (Tryz.prog.ifacesRec ·))) = true := by kernel_rfl
theorem BoardsFollowed_jf21 : ((Rows.boardsFollowedRow.loopsOut == Tryz.f4.resultTypes.toList.any (Tryz.prog.loopsFrom ·))) = true := by kernel_rfl
theorem BoardsFollowed_jf22 : ((Rows.boardsFollowedRow.plainKeys == Tryz.prog.plainKeys)) = true := by kernel_rfl
theorem BoardsFollowed_jf23 : (Rows.boardsFollowedRow.shortTexts.isNone) = true := by kernel_rfl
theorem BoardsFollowed_jf24 : (Tryz.prog.stopsHeard) = true := by kernel_rfl
theorem BoardsFollowed_jf25 : (Tryz.prog.mayEnter) = true := by kernel_rfl
theorem BoardsFollowed_jf26 : ((Rows.boardsFollowedRow.lifted == Tryz.prog.liftsFinal)) = true := by kernel_rfl
theorem BoardsFollowed_jf27 : ((Tryz.prog.make == some Rows.boardsFollowedRow.make)) = true := by kernel_rfl
theorem BoardsFollowed_jf28 : ((Rows.boardsFollowedRow.kinds == (if Rows.boardsFollowedRow.domain.isEmpty then [] else Tryz.f4.params.toList.map fun t => match Tryz.prog.underlying t with | some (.int k) => some k | _ => none))) = true := by kernel_rfl
theorem BoardsFollowed_jf29 : ((Rows.boardsFollowedRow.pinned == Rows.boardsFollowedRow.pinnedBy)) = true := by kernel_rfl
theorem BoardsFollowed_jf30 : ((Rows.boardsFollowedRow.veiled == (Tryz.f4.params.toList ++ Rows.boardsFollowedSpec.plain.varTypes Tryz.prog ++ Tryz.f4.resultTypes.toList).any (Tryz.prog.veiledRec ·))) = true := by kernel_rfl
theorem BoardsFollowed_jf31 : (Rows.boardsFollowedRow.veiledFits Tryz.prog Tryz.f4.params.toList (Tryz.f4.params.toList ++ Rows.boardsFollowedSpec.plain.varTypes Tryz.prog ++ Tryz.f4.resultTypes.toList)) = true := by kernel_rfl
theorem BoardsFollowed_hnm : Tryz.prog.funcNamed "reelfeeder/rflaw1.BoardsFollowed" = some 4 := by kernel_rfl
theorem BoardsFollowed_hin : Tryz.f4.isInstance Tryz.prog Rows.boardsFollowedRow.origin Rows.boardsFollowedRow.targs := of_decide_eq_true (by kernel_rfl)
theorem BoardsFollowed_hwr : Tryz.f4.isWrapper Tryz.prog Rows.boardsFollowedRow.wrapper Rows.boardsFollowedRow.mainSum := by unfold Func.isWrapper; first | (rw [if_pos (by decide +kernel)]; kernel_rfl) | (rw [if_neg (by decide +kernel)]; exact ⟨rfl, rfl⟩)
theorem BoardsFollowed_hwf : Rows.boardsFollowedRow.wfByText (OpenSpec.ofChange Rows.boardsFollowedSpec) = true := by kernel_rfl
theorem BoardsFollowed_hmi : Tryz.prog.mainIs = some (true, "31d22ae3401ca3a1632aff894c34df0660f1d242c7b8bc9557c4555394e32a38".toList) := by kernel_rfl
theorem BoardsFollowed_hlo : true = Tryz.prog.looks [] := by kernel_rfl
theorem BoardsFollowed_hst : ([22].all fun u => !Tryz.prog.wantsStandIn u) = true := by kernel_rfl
theorem BoardsFollowed_hgo : false = Rows.boardsFollowedRow.goesBy Tryz.prog := by kernel_rfl
end Go.Proofs.YthdolfnfiggkjaaGreatDoor
