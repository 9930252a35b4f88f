/- Closed facts on the row of the law NoBoardIsHeatedTooOften: no walk. No conditions. -/
import Derived.Test.YtnmimagninhkkaaGreatDoorRows
import Derived.Test.YtnmimagninhkkaaGreatDoorCards
import Derived.Test.YtnmimagninhkkaaGreatDoorTie
import Derived.Test.YtnmimagninhkkaaGreatDoorFrame
namespace Go.Proofs.YtnmimagninhkkaaGreatDoor
open Go.ChangeShapes Go.WideShapes Go.ChangeAt Go.RowKit

/-! closed facts, each alone (together they outgrow the kernel's memory) -/
theorem NoBoardIsHeatedTooOften_jf0 : (Rows.noBoardIsHeatedTooOftenRow.wf (OpenSpec.ofChange Rows.noBoardIsHeatedTooOftenSpec)) = true := by kernel_rfl
theorem NoBoardIsHeatedTooOften_jf1 : (laidOutB Tryz.prog) = true := by kernel_rfl
theorem NoBoardIsHeatedTooOften_jf2 : (mapsRowed Tryz.prog) = true := by kernel_rfl
theorem NoBoardIsHeatedTooOften_jf3 : (Tryz.f4.params.all (Tryz.prog.readableRec ·)) = true := by kernel_rfl
theorem NoBoardIsHeatedTooOften_jf4 : (namedTie Tryz.prog Rows.noBoardIsHeatedTooOftenRow.named Rows.noBoardIsHeatedTooOftenSpec.vars) = true := by kernel_rfl
theorem NoBoardIsHeatedTooOften_jf5 : ((Rows.noBoardIsHeatedTooOftenRow.stops == [])) = true := by kernel_rfl
theorem NoBoardIsHeatedTooOften_jf6 : ((Tryz.prog.stops == [])) = true := by kernel_rfl
theorem NoBoardIsHeatedTooOften_jf7 : ((Rows.noBoardIsHeatedTooOftenRow.knobs == [])) = true := by kernel_rfl
theorem NoBoardIsHeatedTooOften_jf8 : ((Tryz.prog.stopKnobs == [])) = true := by kernel_rfl
theorem NoBoardIsHeatedTooOften_jf9 : ((Rows.noBoardIsHeatedTooOftenRow.inPlace == Tryz.prog.inPlace 4)) = true := by kernel_rfl
theorem NoBoardIsHeatedTooOften_jf10 : ((Rows.noBoardIsHeatedTooOftenRow.unfollowed == Tryz.prog.unfollowed 4)) = true := by kernel_rfl
theorem NoBoardIsHeatedTooOften_jf11 : ((Rows.noBoardIsHeatedTooOftenRow.recurses == Tryz.prog.recurses 4)) = true := by kernel_rfl
theorem NoBoardIsHeatedTooOften_jf12 : ((Rows.noBoardIsHeatedTooOftenRow.named == Tryz.prog.varsNamed 4)) = true := by kernel_rfl
theorem NoBoardIsHeatedTooOften_jf13 : ((Rows.noBoardIsHeatedTooOftenRow.maps == (Tryz.f4.params.toList ++ Rows.noBoardIsHeatedTooOftenSpec.plain.varTypes Tryz.prog).any (Tryz.prog.mapsRec ·))) = true := by kernel_rfl
theorem NoBoardIsHeatedTooOften_jf14 : ((Rows.noBoardIsHeatedTooOftenRow.ifaces == (Tryz.f4.params.toList ++ Rows.noBoardIsHeatedTooOftenSpec.plain.varTypes Tryz.prog).any (Tryz.prog.ifacesRec ·))) = true := by kernel_rfl
theorem NoBoardIsHeatedTooOften_jf15 : ((Rows.noBoardIsHeatedTooOftenRow.mapsOut == Tryz.prog.mapsAmong Tryz.f4.resultTypes.toList)) = true := by kernel_rfl
theorem NoBoardIsHeatedTooOften_jf16 : ((Rows.noBoardIsHeatedTooOftenRow.loops == (Tryz.f4.params.toList ++ Rows.noBoardIsHeatedTooOftenSpec.plain.varTypes Tryz.prog).any (Tryz.prog.loopsFrom ·))) = true := by kernel_rfl
theorem NoBoardIsHeatedTooOften_jf17 : ((Rows.noBoardIsHeatedTooOftenRow.wideKeys == (Tryz.f4.params.toList ++ Rows.noBoardIsHeatedTooOftenSpec.plain.varTypes Tryz.prog ++ Tryz.f4.resultTypes.toList).any (Tryz.prog.wideKeysFrom ·))) = true := by kernel_rfl
theorem NoBoardIsHeatedTooOften_jf18 : (Rows.noBoardIsHeatedTooOftenSpec.vars.all (Tryz.prog.varReadable ·)) = true := by kernel_rfl
theorem NoBoardIsHeatedTooOften_jf19 : (Tryz.f4.resultTypes.all (fun t => Tryz.prog.readableRec t && decide (t < Tryz.prog.types.size))) = true := by kernel_rfl
theorem NoBoardIsHeatedTooOften_jf20 : ((Rows.noBoardIsHeatedTooOftenRow.ifacesOut == Tryz.f4.resultTypes.toList.any (Tryz.prog.ifacesRec ·))) = true := by kernel_rfl
theorem NoBoardIsHeatedTooOften_jf21 : ((Rows.noBoardIsHeatedTooOftenRow.loopsOut == Tryz.f4.resultTypes.toList.any (Tryz.prog.loopsFrom ·))) = true := by kernel_rfl
theorem NoBoardIsHeatedTooOften_jf22 : ((Rows.noBoardIsHeatedTooOftenRow.plainKeys == Tryz.prog.plainKeys)) = true := by kernel_rfl
theorem NoBoardIsHeatedTooOften_jf23 : (Rows.noBoardIsHeatedTooOftenRow.shortTexts.isNone) = true := by kernel_rfl
theorem NoBoardIsHeatedTooOften_jf24 : (Tryz.prog.stopsHeard) = true := by kernel_rfl
theorem NoBoardIsHeatedTooOften_jf25 : (Tryz.prog.mayEnter) = true := by kernel_rfl
theorem NoBoardIsHeatedTooOften_jf26 : ((Rows.noBoardIsHeatedTooOftenRow.lifted == Tryz.prog.liftsFinal)) = true := by kernel_rfl
theorem NoBoardIsHeatedTooOften_jf27 : ((Tryz.prog.make == some Rows.noBoardIsHeatedTooOftenRow.make)) = true := by kernel_rfl
theorem NoBoardIsHeatedTooOften_jf28 : ((Rows.noBoardIsHeatedTooOftenRow.kinds == (if Rows.noBoardIsHeatedTooOftenRow.domain.isEmpty then [] else Tryz.f4.params.toList.map fun t => match Tryz.prog.underlying t with | some (.int k) => some k | _ => none))) = true := by kernel_rfl
theorem NoBoardIsHeatedTooOften_jf29 : ((Rows.noBoardIsHeatedTooOftenRow.pinned == Rows.noBoardIsHeatedTooOftenRow.pinnedBy)) = true := by kernel_rfl
theorem NoBoardIsHeatedTooOften_jf30 : ((Rows.noBoardIsHeatedTooOftenRow.veiled == (Tryz.f4.params.toList ++ Rows.noBoardIsHeatedTooOftenSpec.plain.varTypes Tryz.prog ++ Tryz.f4.resultTypes.toList).any (Tryz.prog.veiledRec ·))) = true := by kernel_rfl
theorem NoBoardIsHeatedTooOften_jf31 : (Rows.noBoardIsHeatedTooOftenRow.veiledFits Tryz.prog Tryz.f4.params.toList (Tryz.f4.params.toList ++ Rows.noBoardIsHeatedTooOftenSpec.plain.varTypes Tryz.prog ++ Tryz.f4.resultTypes.toList)) = true := by kernel_rfl
theorem NoBoardIsHeatedTooOften_hnm : Tryz.prog.funcNamed "reelfeeder/rfkeep1.NoBoardIsHeatedTooOften" = some 4 := by kernel_rfl
theorem NoBoardIsHeatedTooOften_hin : Tryz.f4.isInstance Tryz.prog Rows.noBoardIsHeatedTooOftenRow.origin Rows.noBoardIsHeatedTooOftenRow.targs := of_decide_eq_true (by kernel_rfl)
theorem NoBoardIsHeatedTooOften_hwr : Tryz.f4.isWrapper Tryz.prog Rows.noBoardIsHeatedTooOftenRow.wrapper Rows.noBoardIsHeatedTooOftenRow.mainSum := by unfold Func.isWrapper; first | (rw [if_pos (by decide +kernel)]; kernel_rfl) | (rw [if_neg (by decide +kernel)]; exact ⟨rfl, rfl⟩)
theorem NoBoardIsHeatedTooOften_hwf : Rows.noBoardIsHeatedTooOftenRow.wfByText (OpenSpec.ofChange Rows.noBoardIsHeatedTooOftenSpec) = true := by kernel_rfl
theorem NoBoardIsHeatedTooOften_hmi : Tryz.prog.mainIs = some (true, "ef9b408e0ef1d8ee385fe0c4518ed384cc5ed48d05d09bbfcdc890ec739e479e".toList) := by kernel_rfl
theorem NoBoardIsHeatedTooOften_hlo : true = Tryz.prog.looks [] := by kernel_rfl
theorem NoBoardIsHeatedTooOften_hst : ([22].all fun u => !Tryz.prog.wantsStandIn u) = true := by kernel_rfl
theorem NoBoardIsHeatedTooOften_hgo : false = Rows.noBoardIsHeatedTooOftenRow.goesBy Tryz.prog := by kernel_rfl
end Go.Proofs.YtnmimagninhkkaaGreatDoor
