/- Closed facts on the row of the law HopelessOnesWait: no walk. No conditions. -/
import Derived.Test.YtnmimagninhkkaaGreatDoorRows
import Derived.Test.YtnmimagninhkkaaGreatDoorCards
import Derived.Test.YtnmimagninhkkaaGreatDoorTie
import Derived.Test.YtnmimagninhkkaaGreatDoorFrame
namespace Go.Proofs.YtnmimagninhkkaaGreatDoor
open Go.ChangeShapes Go.WideShapes Go.ChangeAt Go.RowKit

/-! closed facts, each alone (together they outgrow the kernel's memory) -/
theorem HopelessOnesWait_jf0 : (Rows.hopelessOnesWaitRow.wf (OpenSpec.ofChange Rows.hopelessOnesWaitSpec)) = true := by kernel_rfl
theorem HopelessOnesWait_jf1 : (laidOutB Tryz.prog) = true := by kernel_rfl
theorem HopelessOnesWait_jf2 : (mapsRowed Tryz.prog) = true := by kernel_rfl
theorem HopelessOnesWait_jf3 : (Tryz.f5.params.all (Tryz.prog.readableRec ·)) = true := by kernel_rfl
theorem HopelessOnesWait_jf4 : (namedTie Tryz.prog Rows.hopelessOnesWaitRow.named Rows.hopelessOnesWaitSpec.vars) = true := by kernel_rfl
theorem HopelessOnesWait_jf5 : ((Rows.hopelessOnesWaitRow.stops == [])) = true := by kernel_rfl
theorem HopelessOnesWait_jf6 : ((Tryz.prog.stops == [])) = true := by kernel_rfl
theorem HopelessOnesWait_jf7 : ((Rows.hopelessOnesWaitRow.knobs == [])) = true := by kernel_rfl
theorem HopelessOnesWait_jf8 : ((Tryz.prog.stopKnobs == [])) = true := by kernel_rfl
theorem HopelessOnesWait_jf9 : ((Rows.hopelessOnesWaitRow.inPlace == Tryz.prog.inPlace 5)) = true := by kernel_rfl
theorem HopelessOnesWait_jf10 : ((Rows.hopelessOnesWaitRow.unfollowed == Tryz.prog.unfollowed 5)) = true := by kernel_rfl
theorem HopelessOnesWait_jf11 : ((Rows.hopelessOnesWaitRow.recurses == Tryz.prog.recurses 5)) = true := by kernel_rfl
theorem HopelessOnesWait_jf12 : ((Rows.hopelessOnesWaitRow.named == Tryz.prog.varsNamed 5)) = true := by kernel_rfl
theorem HopelessOnesWait_jf13 : ((Rows.hopelessOnesWaitRow.maps == (Tryz.f5.params.toList ++ Rows.hopelessOnesWaitSpec.plain.varTypes Tryz.prog).any (Tryz.prog.mapsRec ·))) = true := by kernel_rfl
theorem HopelessOnesWait_jf14 : ((Rows.hopelessOnesWaitRow.ifaces == (Tryz.f5.params.toList ++ Rows.hopelessOnesWaitSpec.plain.varTypes Tryz.prog).any (Tryz.prog.ifacesRec ·))) = true := by kernel_rfl
theorem HopelessOnesWait_jf15 : ((Rows.hopelessOnesWaitRow.mapsOut == Tryz.prog.mapsAmong Tryz.f5.resultTypes.toList)) = true := by kernel_rfl
theorem HopelessOnesWait_jf16 : ((Rows.hopelessOnesWaitRow.loops == (Tryz.f5.params.toList ++ Rows.hopelessOnesWaitSpec.plain.varTypes Tryz.prog).any (Tryz.prog.loopsFrom ·))) = true := by kernel_rfl
theorem HopelessOnesWait_jf17 : ((Rows.hopelessOnesWaitRow.wideKeys == (Tryz.f5.params.toList ++ Rows.hopelessOnesWaitSpec.plain.varTypes Tryz.prog ++ Tryz.f5.resultTypes.toList).any (Tryz.prog.wideKeysFrom ·))) = true := by kernel_rfl
theorem HopelessOnesWait_jf18 : (Rows.hopelessOnesWaitSpec.vars.all (Tryz.prog.varReadable ·)) = true := by kernel_rfl
theorem HopelessOnesWait_jf19 : (Tryz.f5.resultTypes.all (fun t => Tryz.prog.readableRec t && decide (t < Tryz.prog.types.size))) = true := by kernel_rfl
theorem HopelessOnesWait_jf20 : ((Rows.hopelessOnesWaitRow.ifacesOut == Tryz.f5.resultTypes.toList.any (Tryz.prog.ifacesRec ·))) = true := by kernel_rfl
theorem HopelessOnesWait_jf21 : ((Rows.hopelessOnesWaitRow.loopsOut == Tryz.f5.resultTypes.toList.any (Tryz.prog.loopsFrom ·))) = true := by kernel_rfl
theorem HopelessOnesWait_jf22 : ((Rows.hopelessOnesWaitRow.plainKeys == Tryz.prog.plainKeys)) = true := by kernel_rfl
theorem HopelessOnesWait_jf23 : (Rows.hopelessOnesWaitRow.shortTexts.isNone) = true := by kernel_rfl
theorem HopelessOnesWait_jf24 : (Tryz.prog.stopsHeard) = true := by kernel_rfl
theorem HopelessOnesWait_jf25 : (Tryz.prog.mayEnter) = true := by kernel_rfl
theorem HopelessOnesWait_jf26 : ((Rows.hopelessOnesWaitRow.lifted == Tryz.prog.liftsFinal)) = true := by kernel_rfl
theorem HopelessOnesWait_jf27 : ((Tryz.prog.make == some Rows.hopelessOnesWaitRow.make)) = true := by kernel_rfl
theorem HopelessOnesWait_jf28 : ((Rows.hopelessOnesWaitRow.kinds == (if Rows.hopelessOnesWaitRow.domain.isEmpty then [] else Tryz.f5.params.toList.map fun t => match Tryz.prog.underlying t with | some (.int k) => some k | _ => none))) = true := by kernel_rfl
theorem HopelessOnesWait_jf29 : ((Rows.hopelessOnesWaitRow.pinned == Rows.hopelessOnesWaitRow.pinnedBy)) = true := by kernel_rfl
theorem HopelessOnesWait_jf30 : ((Rows.hopelessOnesWaitRow.veiled == (Tryz.f5.params.toList ++ Rows.hopelessOnesWaitSpec.plain.varTypes Tryz.prog ++ Tryz.f5.resultTypes.toList).any (Tryz.prog.veiledRec ·))) = true := by kernel_rfl
theorem HopelessOnesWait_jf31 : (Rows.hopelessOnesWaitRow.veiledFits Tryz.prog Tryz.f5.params.toList (Tryz.f5.params.toList ++ Rows.hopelessOnesWaitSpec.plain.varTypes Tryz.prog ++ Tryz.f5.resultTypes.toList)) = true := by kernel_rfl
theorem HopelessOnesWait_hnm : Tryz.prog.funcNamed "reelfeeder/rfkeep1.HopelessOnesWait" = some 5 := by kernel_rfl
theorem HopelessOnesWait_hin : Tryz.f5.isInstance Tryz.prog Rows.hopelessOnesWaitRow.origin Rows.hopelessOnesWaitRow.targs := of_decide_eq_true (by kernel_rfl)
theorem HopelessOnesWait_hwr : Tryz.f5.isWrapper Tryz.prog Rows.hopelessOnesWaitRow.wrapper Rows.hopelessOnesWaitRow.mainSum := by unfold Func.isWrapper; first | (rw [if_pos (by decide +kernel)]; kernel_rfl) | (rw [if_neg (by decide +kernel)]; exact ⟨rfl, rfl⟩)
theorem HopelessOnesWait_hwf : Rows.hopelessOnesWaitRow.wfByText (OpenSpec.ofChange Rows.hopelessOnesWaitSpec) = true := by kernel_rfl
theorem HopelessOnesWait_hmi : Tryz.prog.mainIs = some (true, "ef9b408e0ef1d8ee385fe0c4518ed384cc5ed48d05d09bbfcdc890ec739e479e".toList) := by kernel_rfl
theorem HopelessOnesWait_hlo : true = Tryz.prog.looks [] := by kernel_rfl
theorem HopelessOnesWait_hst : ([22].all fun u => !Tryz.prog.wantsStandIn u) = true := by kernel_rfl
theorem HopelessOnesWait_hgo : false = Rows.hopelessOnesWaitRow.goesBy Tryz.prog := by kernel_rfl
end Go.Proofs.YtnmimagninhkkaaGreatDoor
