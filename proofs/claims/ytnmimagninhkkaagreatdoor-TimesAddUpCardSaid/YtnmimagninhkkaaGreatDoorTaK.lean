/- Closed facts on the row of the law TimesAddUp: no walk. No conditions. -/
import Derived.Test.YtnmimagninhkkaaGreatDoorRows
import Derived.Test.YtnmimagninhkkaaGreatDoorCards
import Derived.Test.YtnmimagninhkkaaGreatDoorTie
import Derived.Test.YtnmimagninhkkaaGreatDoorFrame
namespace Go.Proofs.YtnmimagninhkkaaGreatDoor
open Go.ChangeShapes Go.WideShapes Go.ChangeAt Go.RowKit

/-! closed facts, each alone (together they outgrow the kernel's memory) -/
theorem TimesAddUp_jf0 : (Rows.timesAddUpRow.wf (OpenSpec.ofChange Rows.timesAddUpSpec)) = true := by kernel_rfl
theorem TimesAddUp_jf1 : (laidOutB Tryz.prog) = true := by kernel_rfl
theorem TimesAddUp_jf2 : (mapsRowed Tryz.prog) = true := by kernel_rfl
theorem TimesAddUp_jf3 : (Tryz.f3.params.all (Tryz.prog.readableRec ·)) = true := by kernel_rfl
theorem TimesAddUp_jf4 : (namedTie Tryz.prog Rows.timesAddUpRow.named Rows.timesAddUpSpec.vars) = true := by kernel_rfl
theorem TimesAddUp_jf5 : ((Rows.timesAddUpRow.stops == [])) = true := by kernel_rfl
theorem TimesAddUp_jf6 : ((Tryz.prog.stops == [])) = true := by kernel_rfl
theorem TimesAddUp_jf7 : ((Rows.timesAddUpRow.knobs == [])) = true := by kernel_rfl
theorem TimesAddUp_jf8 : ((Tryz.prog.stopKnobs == [])) = true := by kernel_rfl
theorem TimesAddUp_jf9 : ((Rows.timesAddUpRow.inPlace == Tryz.prog.inPlace 3)) = true := by kernel_rfl
theorem TimesAddUp_jf10 : ((Rows.timesAddUpRow.unfollowed == Tryz.prog.unfollowed 3)) = true := by kernel_rfl
theorem TimesAddUp_jf11 : ((Rows.timesAddUpRow.recurses == Tryz.prog.recurses 3)) = true := by kernel_rfl
theorem TimesAddUp_jf12 : ((Rows.timesAddUpRow.named == Tryz.prog.varsNamed 3)) = true := by kernel_rfl
theorem TimesAddUp_jf13 : ((Rows.timesAddUpRow.maps == (Tryz.f3.params.toList ++ Rows.timesAddUpSpec.plain.varTypes Tryz.prog).any (Tryz.prog.mapsRec ·))) = true := by kernel_rfl
theorem TimesAddUp_jf14 : ((Rows.timesAddUpRow.ifaces == (Tryz.f3.params.toList ++ Rows.timesAddUpSpec.plain.varTypes Tryz.prog).any (Tryz.prog.ifacesRec ·))) = true := by kernel_rfl
theorem TimesAddUp_jf15 : ((Rows.timesAddUpRow.mapsOut == Tryz.prog.mapsAmong Tryz.f3.resultTypes.toList)) = true := by kernel_rfl
theorem TimesAddUp_jf16 : ((Rows.timesAddUpRow.loops == (Tryz.f3.params.toList ++ Rows.timesAddUpSpec.plain.varTypes Tryz.prog).any (Tryz.prog.loopsFrom ·))) = true := by kernel_rfl
theorem TimesAddUp_jf17 : ((Rows.timesAddUpRow.wideKeys == (Tryz.f3.params.toList ++ Rows.timesAddUpSpec.plain.varTypes Tryz.prog ++ Tryz.f3.resultTypes.toList).any (Tryz.prog.wideKeysFrom ·))) = true := by kernel_rfl
theorem TimesAddUp_jf18 : (Rows.timesAddUpSpec.vars.all (Tryz.prog.varReadable ·)) = true := by kernel_rfl
theorem TimesAddUp_jf19 : (Tryz.f3.resultTypes.all (fun t => Tryz.prog.readableRec t && decide (t < Tryz.prog.types.size))) = true := by kernel_rfl
theorem TimesAddUp_jf20 : ((Rows.timesAddUpRow.ifacesOut == Tryz.f3.resultTypes.toList.any (Tryz.prog.ifacesRec ·))) = true := by kernel_rfl
theorem TimesAddUp_jf21 : ((Rows.timesAddUpRow.loopsOut == Tryz.f3.resultTypes.toList.any (Tryz.prog.loopsFrom ·))) = true := by kernel_rfl
theorem TimesAddUp_jf22 : ((Rows.timesAddUpRow.plainKeys == Tryz.prog.plainKeys)) = true := by kernel_rfl
theorem TimesAddUp_jf23 : (Rows.timesAddUpRow.shortTexts.isNone) = true := by kernel_rfl
theorem TimesAddUp_jf24 : (Tryz.prog.stopsHeard) = true := by kernel_rfl
theorem TimesAddUp_jf25 : (Tryz.prog.mayEnter) = true := by kernel_rfl
theorem TimesAddUp_jf26 : ((Rows.timesAddUpRow.lifted == Tryz.prog.liftsFinal)) = true := by kernel_rfl
theorem TimesAddUp_jf27 : ((Tryz.prog.make == some Rows.timesAddUpRow.make)) = true := by kernel_rfl
theorem TimesAddUp_jf28 : ((Rows.timesAddUpRow.kinds == (if Rows.timesAddUpRow.domain.isEmpty then [] else Tryz.f3.params.toList.map fun t => match Tryz.prog.underlying t with | some (.int k) => some k | _ => none))) = true := by kernel_rfl
theorem TimesAddUp_jf29 : ((Rows.timesAddUpRow.pinned == Rows.timesAddUpRow.pinnedBy)) = true := by kernel_rfl
theorem TimesAddUp_jf30 : ((Rows.timesAddUpRow.veiled == (Tryz.f3.params.toList ++ Rows.timesAddUpSpec.plain.varTypes Tryz.prog ++ Tryz.f3.resultTypes.toList).any (Tryz.prog.veiledRec ·))) = true := by kernel_rfl
theorem TimesAddUp_jf31 : (Rows.timesAddUpRow.veiledFits Tryz.prog Tryz.f3.params.toList (Tryz.f3.params.toList ++ Rows.timesAddUpSpec.plain.varTypes Tryz.prog ++ Tryz.f3.resultTypes.toList)) = true := by kernel_rfl
theorem TimesAddUp_hnm : Tryz.prog.funcNamed "reelfeeder/rfkeep1.TimesAddUp" = some 3 := by kernel_rfl
theorem TimesAddUp_hin : Tryz.f3.isInstance Tryz.prog Rows.timesAddUpRow.origin Rows.timesAddUpRow.targs := of_decide_eq_true (by kernel_rfl)
theorem TimesAddUp_hwr : Tryz.f3.isWrapper Tryz.prog Rows.timesAddUpRow.wrapper Rows.timesAddUpRow.mainSum := by unfold Func.isWrapper; first | (rw [if_pos (by decide +kernel)]; kernel_rfl) | (rw [if_neg (by decide +kernel)]; exact ⟨rfl, rfl⟩)
theorem TimesAddUp_hwf : Rows.timesAddUpRow.wfByText (OpenSpec.ofChange Rows.timesAddUpSpec) = true := by kernel_rfl
theorem TimesAddUp_hmi : Tryz.prog.mainIs = some (true, "ef9b408e0ef1d8ee385fe0c4518ed384cc5ed48d05d09bbfcdc890ec739e479e".toList) := by kernel_rfl
theorem TimesAddUp_hlo : true = Tryz.prog.looks [] := by kernel_rfl
theorem TimesAddUp_hst : ([22].all fun u => !Tryz.prog.wantsStandIn u) = true := by kernel_rfl
theorem TimesAddUp_hgo : false = Rows.timesAddUpRow.goesBy Tryz.prog := by kernel_rfl
end Go.Proofs.YtnmimagninhkkaaGreatDoor
