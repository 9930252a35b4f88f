/- Closed facts on the row of the law ReworkCounted: no walk. No conditions. -/
import Derived.Test.YtbkglhakhahfpaaGreatDoorRows
import Derived.Test.YtbkglhakhahfpaaGreatDoorCards
import Derived.Test.YtbkglhakhahfpaaGreatDoorTie
import Derived.Test.YtbkglhakhahfpaaGreatDoorFrame
namespace Go.Proofs.YtbkglhakhahfpaaGreatDoor
open Go.ChangeShapes Go.WideShapes Go.ChangeAt Go.RowKit

/-! closed facts, each alone (together they outgrow the kernel's memory) -/
theorem ReworkCounted_jf0 : (Rows.reworkCountedRow.wf (OpenSpec.ofChange Rows.reworkCountedSpec)) = true := by kernel_rfl
theorem ReworkCounted_jf1 : (laidOutB Tryz.prog) = true := by kernel_rfl
theorem ReworkCounted_jf2 : (mapsRowed Tryz.prog) = true := by kernel_rfl
theorem ReworkCounted_jf3 : (Tryz.f3.params.all (Tryz.prog.readableRec ·)) = true := by kernel_rfl
theorem ReworkCounted_jf4 : (namedTie Tryz.prog Rows.reworkCountedRow.named Rows.reworkCountedSpec.vars) = true := by kernel_rfl
theorem ReworkCounted_jf5 : ((Rows.reworkCountedRow.stops == [])) = true := by kernel_rfl
theorem ReworkCounted_jf6 : ((Tryz.prog.stops == [])) = true := by kernel_rfl
theorem ReworkCounted_jf7 : ((Rows.reworkCountedRow.knobs == [])) = true := by kernel_rfl
theorem ReworkCounted_jf8 : ((Tryz.prog.stopKnobs == [])) = true := by kernel_rfl
theorem ReworkCounted_jf9 : ((Rows.reworkCountedRow.inPlace == Tryz.prog.inPlace 3)) = true := by kernel_rfl
theorem ReworkCounted_jf10 : ((Rows.reworkCountedRow.unfollowed == Tryz.prog.unfollowed 3)) = true := by kernel_rfl
theorem ReworkCounted_jf11 : ((Rows.reworkCountedRow.recurses == Tryz.prog.recurses 3)) = true := by kernel_rfl
theorem ReworkCounted_jf12 : ((Rows.reworkCountedRow.named == Tryz.prog.varsNamed 3)) = true := by kernel_rfl
theorem ReworkCounted_jf13 : ((Rows.reworkCountedRow.maps == (Tryz.f3.params.toList ++ Rows.reworkCountedSpec.plain.varTypes Tryz.prog).any (Tryz.prog.mapsRec ·))) = true := by kernel_rfl
theorem ReworkCounted_jf14 : ((Rows.reworkCountedRow.ifaces == (Tryz.f3.params.toList ++ Rows.reworkCountedSpec.plain.varTypes Tryz.prog).any (Tryz.prog.ifacesRec ·))) = true := by kernel_rfl
theorem ReworkCounted_jf15 : ((Rows.reworkCountedRow.mapsOut == Tryz.prog.mapsAmong Tryz.f3.resultTypes.toList)) = true := by kernel_rfl
theorem ReworkCounted_jf16 : ((Rows.reworkCountedRow.loops == (Tryz.f3.params.toList ++ Rows.reworkCountedSpec.plain.varTypes Tryz.prog).any (Tryz.prog.loopsFrom ·))) = true := by kernel_rfl
theorem ReworkCounted_jf17 : ((Rows.reworkCountedRow.wideKeys == (Tryz.f3.params.toList ++ Rows.reworkCountedSpec.plain.varTypes Tryz.prog ++ Tryz.f3.resultTypes.toList).any (Tryz.prog.wideKeysFrom ·))) = true := by kernel_rfl
theorem ReworkCounted_jf18 : (Rows.reworkCountedSpec.vars.all (Tryz.prog.varReadable ·)) = true := by kernel_rfl
theorem ReworkCounted_jf19 : (Tryz.f3.resultTypes.all (fun t => Tryz.prog.readableRec t && decide (t < Tryz.prog.types.size))) = true := by kernel_rfl
theorem ReworkCounted_jf20 : ((Rows.reworkCountedRow.ifacesOut == Tryz.f3.resultTypes.toList.any (Tryz.prog.ifacesRec ·))) = true := by kernel_rfl
theorem ReworkCounted_jf21 : ((Rows.reworkCountedRow.loopsOut == Tryz.f3.resultTypes.toList.any (Tryz.prog.loopsFrom ·))) = true := by kernel_rfl
theorem ReworkCounted_jf22 : ((Rows.reworkCountedRow.plainKeys == Tryz.prog.plainKeys)) = true := by kernel_rfl
theorem ReworkCounted_jf23 : (Rows.reworkCountedRow.shortTexts.isNone) = true := by kernel_rfl
theorem ReworkCounted_jf24 : (Tryz.prog.stopsHeard) = true := by kernel_rfl
theorem ReworkCounted_jf25 : (Tryz.prog.mayEnter) = true := by kernel_rfl
theorem ReworkCounted_jf26 : ((Rows.reworkCountedRow.lifted == Tryz.prog.liftsFinal)) = true := by kernel_rfl
theorem ReworkCounted_jf27 : ((Tryz.prog.make == some Rows.reworkCountedRow.make)) = true := by kernel_rfl
theorem ReworkCounted_jf28 : ((Rows.reworkCountedRow.kinds == (if Rows.reworkCountedRow.domain.isEmpty then [] else Tryz.f3.params.toList.map fun t => match Tryz.prog.underlying t with | some (.int k) => some k | _ => none))) = true := by kernel_rfl
theorem ReworkCounted_jf29 : ((Rows.reworkCountedRow.pinned == Rows.reworkCountedRow.pinnedBy)) = true := by kernel_rfl
theorem ReworkCounted_jf30 : ((Rows.reworkCountedRow.veiled == (Tryz.f3.params.toList ++ Rows.reworkCountedSpec.plain.varTypes Tryz.prog ++ Tryz.f3.resultTypes.toList).any (Tryz.prog.veiledRec ·))) = true := by kernel_rfl
theorem ReworkCounted_jf31 : (Rows.reworkCountedRow.veiledFits Tryz.prog Tryz.f3.params.toList (Tryz.f3.params.toList ++ Rows.reworkCountedSpec.plain.varTypes Tryz.prog ++ Tryz.f3.resultTypes.toList)) = true := by kernel_rfl
theorem ReworkCounted_hnm : Tryz.prog.funcNamed "reelfeeder/rflaw1.ReworkCounted" = some 3 := by kernel_rfl
theorem ReworkCounted_hin : Tryz.f3.isInstance Tryz.prog Rows.reworkCountedRow.origin Rows.reworkCountedRow.targs := of_decide_eq_true (by kernel_rfl)
theorem ReworkCounted_hwr : Tryz.f3.isWrapper Tryz.prog Rows.reworkCountedRow.wrapper Rows.reworkCountedRow.mainSum := by unfold Func.isWrapper; first | (rw [if_pos (by decide +kernel)]; kernel_rfl) | (rw [if_neg (by decide +kernel)]; exact ⟨rfl, rfl⟩)
theorem ReworkCounted_hwf : Rows.reworkCountedRow.wfByText (OpenSpec.ofChange Rows.reworkCountedSpec) = true := by kernel_rfl
theorem ReworkCounted_hmi : Tryz.prog.mainIs = some (true, "d6c4fc81ffc11be73bd476188b12572b69e997bbaf5597b2b2bc4b5e17de2d7b".toList) := by kernel_rfl
theorem ReworkCounted_hlo : false = Tryz.prog.looks [] := by kernel_rfl
theorem ReworkCounted_hst : ([22].all fun u => !Tryz.prog.wantsStandIn u) = true := by kernel_rfl
theorem ReworkCounted_hgo : false = Rows.reworkCountedRow.goesBy Tryz.prog := by kernel_rfl
end Go.Proofs.YtbkglhakhahfpaaGreatDoor
