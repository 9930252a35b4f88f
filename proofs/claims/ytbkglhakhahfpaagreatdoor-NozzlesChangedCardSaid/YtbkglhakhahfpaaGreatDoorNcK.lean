/- Closed facts on the row of the law NozzlesChanged: no walk. No conditions. -/
import Derived.Test.YtbkglhakhahfpaaGreatDoorRows
import Derived.Test.YtbkglhakhahfpaaGreatDoorCards
import Derived.Test.YtbkglhakhahfpaaGreatDoorTie
import Derived.Test.YtbkglhakhahfpaaGreatDoorFrame
namespace Go.Proofs.YtbkglhakhahfpaaGreatDoor
open Go.ChangeShapes Go.WideShapes Go.ChangeAt Go.RowKit

/-! closed facts, each alone (together they outgrow the kernel's memory) -/
theorem NozzlesChanged_jf0 : (Rows.nozzlesChangedRow.wf (OpenSpec.ofChange Rows.nozzlesChangedSpec)) = true := by kernel_rfl
theorem NozzlesChanged_jf1 : (laidOutB Tryz.prog) = true := by kernel_rfl
theorem NozzlesChanged_jf2 : (mapsRowed Tryz.prog) = true := by kernel_rfl
theorem NozzlesChanged_jf3 : (Tryz.f4.params.all (Tryz.prog.readableRec ·)) = true := by kernel_rfl
theorem NozzlesChanged_jf4 : (namedTie Tryz.prog Rows.nozzlesChangedRow.named Rows.nozzlesChangedSpec.vars) = true := by kernel_rfl
theorem NozzlesChanged_jf5 : ((Rows.nozzlesChangedRow.stops == [])) = true := by kernel_rfl
theorem NozzlesChanged_jf6 : ((Tryz.prog.stops == [])) = true := by kernel_rfl
theorem NozzlesChanged_jf7 : ((Rows.nozzlesChangedRow.knobs == [])) = true := by kernel_rfl
theorem NozzlesChanged_jf8 : ((Tryz.prog.stopKnobs == [])) = true := by kernel_rfl
theorem NozzlesChanged_jf9 : ((Rows.nozzlesChangedRow.inPlace == Tryz.prog.inPlace 4)) = true := by kernel_rfl
theorem NozzlesChanged_jf10 : ((Rows.nozzlesChangedRow.unfollowed == Tryz.prog.unfollowed 4)) = true := by kernel_rfl
theorem NozzlesChanged_jf11 : ((Rows.nozzlesChangedRow.recurses == Tryz.prog.recurses 4)) = true := by kernel_rfl
theorem NozzlesChanged_jf12 : ((Rows.nozzlesChangedRow.named == Tryz.prog.varsNamed 4)) = true := by kernel_rfl
theorem NozzlesChanged_jf13 : ((Rows.nozzlesChangedRow.maps == (Tryz.f4.params.toList ++ Rows.nozzlesChangedSpec.plain.varTypes Tryz.prog).any (Tryz.prog.mapsRec ·))) = true := by kernel_rfl
theorem NozzlesChanged_jf14 : ((Rows.nozzlesChangedRow.ifaces == (Tryz.f4.params.toList ++ Rows.nozzlesChangedSpec.plain.varTypes Tryz.prog).any (Tryz.prog.ifacesRec ·))) = true := by kernel_rfl
theorem NozzlesChanged_jf15 : ((Rows.nozzlesChangedRow.mapsOut == Tryz.prog.mapsAmong Tryz.f4.resultTypes.toList)) = true := by kernel_rfl
theorem NozzlesChanged_jf16 : ((Rows.nozzlesChangedRow.loops == (Tryz.f4.params.toList ++ Rows.nozzlesChangedSpec.plain.varTypes Tryz.prog).any (Tryz.prog.loopsFrom ·))) = true := by kernel_rfl
theorem NozzlesChanged_jf17 : ((Rows.nozzlesChangedRow.wideKeys == (Tryz.f4.params.toList ++ Rows.nozzlesChangedSpec.plain.varTypes Tryz.prog ++ Tryz.f4.resultTypes.toList).any (Tryz.prog.wideKeysFrom ·))) = true := by kernel_rfl
theorem NozzlesChanged_jf18 : (Rows.nozzlesChangedSpec.vars.all (Tryz.prog.varReadable ·)) = true := by kernel_rfl
theorem NozzlesChanged_jf19 : (Tryz.f4.resultTypes.all (fun t => Tryz.prog.readableRec t && decide (t < Tryz.prog.types.size))) = true := by kernel_rfl
theorem NozzlesChanged_jf20 : ((Rows.nozzlesChangedRow.ifacesOut == Tryz.f4.resultTypes.toList.any (Tryz.prog.ifacesRec ·))) = true := by kernel_rfl
theorem NozzlesChanged_jf21 : ((Rows.nozzlesChangedRow.loopsOut == Tryz.f4.resultTypes.toList.any (Tryz.prog.loopsFrom ·))) = true := by kernel_rfl
theorem NozzlesChanged_jf22 : ((Rows.nozzlesChangedRow.plainKeys == Tryz.prog.plainKeys)) = true := by kernel_rfl
theorem NozzlesChanged_jf23 : (Rows.nozzlesChangedRow.shortTexts.isNone) = true := by kernel_rfl
theorem NozzlesChanged_jf24 : (Tryz.prog.stopsHeard) = true := by kernel_rfl
theorem NozzlesChanged_jf25 : (Tryz.prog.mayEnter) = true := by kernel_rfl
theorem NozzlesChanged_jf26 : ((Rows.nozzlesChangedRow.lifted == Tryz.prog.liftsFinal)) = true := by kernel_rfl
theorem NozzlesChanged_jf27 : ((Tryz.prog.make == some Rows.nozzlesChangedRow.make)) = true := by kernel_rfl
theorem NozzlesChanged_jf28 : ((Rows.nozzlesChangedRow.kinds == (if Rows.nozzlesChangedRow.domain.isEmpty then [] else Tryz.f4.params.toList.map fun t => match Tryz.prog.underlying t with | some (.int k) => some k | _ => none))) = true := by kernel_rfl
theorem NozzlesChanged_jf29 : ((Rows.nozzlesChangedRow.pinned == Rows.nozzlesChangedRow.pinnedBy)) = true := by kernel_rfl
theorem NozzlesChanged_jf30 : ((Rows.nozzlesChangedRow.veiled == (Tryz.f4.params.toList ++ Rows.nozzlesChangedSpec.plain.varTypes Tryz.prog ++ Tryz.f4.resultTypes.toList).any (Tryz.prog.veiledRec ·))) = true := by kernel_rfl
theorem NozzlesChanged_jf31 : (Rows.nozzlesChangedRow.veiledFits Tryz.prog Tryz.f4.params.toList (Tryz.f4.params.toList ++ Rows.nozzlesChangedSpec.plain.varTypes Tryz.prog ++ Tryz.f4.resultTypes.toList)) = true := by kernel_rfl
theorem NozzlesChanged_hnm : Tryz.prog.funcNamed "reelfeeder/rflaw1.NozzlesChanged" = some 4 := by kernel_rfl
theorem NozzlesChanged_hin : Tryz.f4.isInstance Tryz.prog Rows.nozzlesChangedRow.origin Rows.nozzlesChangedRow.targs := of_decide_eq_true (by kernel_rfl)
theorem NozzlesChanged_hwr : Tryz.f4.isWrapper Tryz.prog Rows.nozzlesChangedRow.wrapper Rows.nozzlesChangedRow.mainSum := by unfold Func.isWrapper; first | (rw [if_pos (by decide +kernel)]; kernel_rfl) | (rw [if_neg (by decide +kernel)]; exact ⟨rfl, rfl⟩)
theorem NozzlesChanged_hwf : Rows.nozzlesChangedRow.wfByText (OpenSpec.ofChange Rows.nozzlesChangedSpec) = true := by kernel_rfl
theorem NozzlesChanged_hmi : Tryz.prog.mainIs = some (true, "d6c4fc81ffc11be73bd476188b12572b69e997bbaf5597b2b2bc4b5e17de2d7b".toList) := by kernel_rfl
theorem NozzlesChanged_hlo : false = Tryz.prog.looks [] := by kernel_rfl
theorem NozzlesChanged_hst : ([22].all fun u => !Tryz.prog.wantsStandIn u) = true := by kernel_rfl
theorem NozzlesChanged_hgo : false = Rows.nozzlesChangedRow.goesBy Tryz.prog := by kernel_rfl
end Go.Proofs.YtbkglhakhahfpaaGreatDoor
