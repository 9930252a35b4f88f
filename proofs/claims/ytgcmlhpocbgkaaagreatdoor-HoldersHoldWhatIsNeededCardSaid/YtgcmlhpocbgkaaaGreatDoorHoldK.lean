/- Closed facts on the row of the law HoldersHoldWhatIsNeeded: no walk. No conditions. -/
import Derived.Test.YtgcmlhpocbgkaaaGreatDoorRows
import Derived.Test.YtgcmlhpocbgkaaaGreatDoorCards
import Derived.Test.YtgcmlhpocbgkaaaGreatDoorTie
import Derived.Test.YtgcmlhpocbgkaaaGreatDoorFrame
namespace Go.Proofs.YtgcmlhpocbgkaaaGreatDoor
open Go.ChangeShapes Go.WideShapes Go.ChangeAt Go.RowKit

/-! closed facts, each alone (together they outgrow the kernel's memory) -/
theorem HoldersHoldWhatIsNeeded_jf0 : (Rows.holdersHoldWhatIsNeededRow.wf (OpenSpec.ofChange Rows.holdersHoldWhatIsNeededSpec)) = true := by kernel_rfl
theorem HoldersHoldWhatIsNeeded_jf1 : (laidOutB Tryz.prog) = true := by kernel_rfl
theorem HoldersHoldWhatIsNeeded_jf2 : (mapsRowed Tryz.prog) = true := by kernel_rfl
theorem HoldersHoldWhatIsNeeded_jf3 : (Tryz.f7.params.all (Tryz.prog.readableRec ·)) = true := by kernel_rfl
theorem HoldersHoldWhatIsNeeded_jf4 : (namedTie Tryz.prog Rows.holdersHoldWhatIsNeededRow.named Rows.holdersHoldWhatIsNeededSpec.vars) = true := by kernel_rfl
theorem HoldersHoldWhatIsNeeded_jf5 : ((Rows.holdersHoldWhatIsNeededRow.stops == [])) = true := by kernel_rfl
theorem HoldersHoldWhatIsNeeded_jf6 : ((Tryz.prog.stops == [])) = true := by kernel_rfl
theorem HoldersHoldWhatIsNeeded_jf7 : ((Rows.holdersHoldWhatIsNeededRow.knobs == [])) = true := by kernel_rfl
theorem HoldersHoldWhatIsNeeded_jf8 : ((Tryz.prog.stopKnobs == [])) = true := by kernel_rfl
theorem HoldersHoldWhatIsNeeded_jf9 : ((Rows.holdersHoldWhatIsNeededRow.inPlace == Tryz.prog.inPlace 7)) = true := by kernel_rfl
theorem HoldersHoldWhatIsNeeded_jf10 : ((Rows.holdersHoldWhatIsNeededRow.unfollowed == Tryz.prog.unfollowed 7)) = true := by kernel_rfl
theorem HoldersHoldWhatIsNeeded_jf11 : ((Rows.holdersHoldWhatIsNeededRow.recurses == Tryz.prog.recurses 7)) = true := by kernel_rfl
theorem HoldersHoldWhatIsNeeded_jf12 : ((Rows.holdersHoldWhatIsNeededRow.named == Tryz.prog.varsNamed 7)) = true := by kernel_rfl
theorem HoldersHoldWhatIsNeeded_jf13 : ((Rows.holdersHoldWhatIsNeededRow.maps == (Tryz.f7.params.toList ++ Rows.holdersHoldWhatIsNeededSpec.plain.varTypes Tryz.prog).any (Tryz.prog.mapsRec ·))) = true := by kernel_rfl
theorem HoldersHoldWhatIsNeeded_jf14 : ((Rows.holdersHoldWhatIsNeededRow.ifaces == (Tryz.f7.params.toList ++ Rows.holdersHoldWhatIsNeededSpec.plain.varTypes Tryz.prog).any (Tryz.prog.ifacesRec ·))) = true := by kernel_rfl
theorem HoldersHoldWhatIsNeeded_jf15 : ((Rows.holdersHoldWhatIsNeededRow.mapsOut == Tryz.prog.mapsAmong Tryz.f7.resultTypes.toList)) = true := by kernel_rfl
theorem HoldersHoldWhatIsNeeded_jf16 : ((Rows.holdersHoldWhatIsNeededRow.loops == (Tryz.f7.params.toList ++ Rows.holdersHoldWhatIsNeededSpec.plain.varTypes Tryz.prog).any (Tryz.prog.loopsFrom ·))) = true := by kernel_rfl
theorem HoldersHoldWhatIsNeeded_jf17 : ((Rows.holdersHoldWhatIsNeededRow.wideKeys == (Tryz.f7.params.toList ++ Rows.holdersHoldWhatIsNeededSpec.plain.varTypes Tryz.prog ++ Tryz.f7.resultTypes.toList).any (Tryz.prog.wideKeysFrom ·))) = true := by kernel_rfl
theorem HoldersHoldWhatIsNeeded_jf18 : (Rows.holdersHoldWhatIsNeededSpec.vars.all (Tryz.prog.varReadable ·)) = true := by kernel_rfl
theorem HoldersHoldWhatIsNeeded_jf19 : (Tryz.f7.resultTypes.all (fun t => Tryz.prog.readableRec t && decide (t < Tryz.prog.types.size))) = true := by kernel_rfl
theorem HoldersHoldWhatIsNeeded_jf20 : ((Rows.holdersHoldWhatIsNeededRow.ifacesOut == Tryz.f7.resultTypes.toList.any (Tryz.prog.ifacesRec ·))) = true := by kernel_rfl
theorem HoldersHoldWhatIsNeeded_jf21 : ((Rows.holdersHoldWhatIsNeededRow.loopsOut == Tryz.f7.resultTypes.toList.any (Tryz.prog.loopsFrom ·))) = true := by kernel_rfl
theorem HoldersHoldWhatIsNeeded_jf22 : ((Rows.holdersHoldWhatIsNeededRow.plainKeys == Tryz.prog.plainKeys)) = true := by kernel_rfl
theorem HoldersHoldWhatIsNeeded_jf23 : (Rows.holdersHoldWhatIsNeededRow.shortTexts.isNone) = true := by kernel_rfl
theorem HoldersHoldWhatIsNeeded_jf24 : (Tryz.prog.stopsHeard) = true := by kernel_rfl
theorem HoldersHoldWhatIsNeeded_jf25 : (Tryz.prog.mayEnter) = true := by kernel_rfl
theorem HoldersHoldWhatIsNeeded_jf26 : ((Rows.holdersHoldWhatIsNeededRow.lifted == Tryz.prog.liftsFinal)) = true := by kernel_rfl
theorem HoldersHoldWhatIsNeeded_jf27 : ((Tryz.prog.make == some Rows.holdersHoldWhatIsNeededRow.make)) = true := by kernel_rfl
theorem HoldersHoldWhatIsNeeded_jf28 : ((Rows.holdersHoldWhatIsNeededRow.kinds == (if Rows.holdersHoldWhatIsNeededRow.domain.isEmpty then [] else Tryz.f7.params.toList.map fun t => match Tryz.prog.underlying t with | some (.int k) => some k | _ => none))) = true := by kernel_rfl
theorem HoldersHoldWhatIsNeeded_jf29 : ((Rows.holdersHoldWhatIsNeededRow.pinned == Rows.holdersHoldWhatIsNeededRow.pinnedBy)) = true := by kernel_rfl
theorem HoldersHoldWhatIsNeeded_jf30 : ((Rows.holdersHoldWhatIsNeededRow.veiled == (Tryz.f7.params.toList ++ Rows.holdersHoldWhatIsNeededSpec.plain.varTypes Tryz.prog ++ Tryz.f7.resultTypes.toList).any (Tryz.prog.veiledRec ·))) = true := by kernel_rfl
theorem HoldersHoldWhatIsNeeded_jf31 : (Rows.holdersHoldWhatIsNeededRow.veiledFits Tryz.prog Tryz.f7.params.toList (Tryz.f7.params.toList ++ Rows.holdersHoldWhatIsNeededSpec.plain.varTypes Tryz.prog ++ Tryz.f7.resultTypes.toList)) = true := by kernel_rfl
theorem HoldersHoldWhatIsNeeded_hnm : Tryz.prog.funcNamed "reelfeeder/rfkeep1.HoldersHoldWhatIsNeeded" = some 7 := by kernel_rfl
theorem HoldersHoldWhatIsNeeded_hin : Tryz.f7.isInstance Tryz.prog Rows.holdersHoldWhatIsNeededRow.origin Rows.holdersHoldWhatIsNeededRow.targs := of_decide_eq_true (by kernel_rfl)
theorem HoldersHoldWhatIsNeeded_hwr : Tryz.f7.isWrapper Tryz.prog Rows.holdersHoldWhatIsNeededRow.wrapper Rows.holdersHoldWhatIsNeededRow.mainSum := by unfold Func.isWrapper; first | (rw [if_pos (by decide +kernel)]; kernel_rfl) | (rw [if_neg (by decide +kernel)]; exact ⟨rfl, rfl⟩)
theorem HoldersHoldWhatIsNeeded_hwf : Rows.holdersHoldWhatIsNeededRow.wfByText (OpenSpec.ofChange Rows.holdersHoldWhatIsNeededSpec) = true := by kernel_rfl
theorem HoldersHoldWhatIsNeeded_hmi : Tryz.prog.mainIs = some (true, "717bef4992ae00988c64eb045860e6c64a43fa6255acf3d6f75714a09c04f315".toList) := by kernel_rfl
theorem HoldersHoldWhatIsNeeded_hlo : true = Tryz.prog.looks [] := by kernel_rfl
theorem HoldersHoldWhatIsNeeded_hst : ([22].all fun u => !Tryz.prog.wantsStandIn u) = true := by kernel_rfl
theorem HoldersHoldWhatIsNeeded_hgo : false = Rows.holdersHoldWhatIsNeededRow.goesBy Tryz.prog := by kernel_rfl
end Go.Proofs.YtgcmlhpocbgkaaaGreatDoor
