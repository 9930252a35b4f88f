/- Closed facts on the row of the law MoreStockIsNoShorter: no walk. No conditions. -/
import Derived.Test.YtihgnpobkpnipaaGreatDoorMz35
import Derived.Test.YtihgnpobkpnipaaGreatDoorRows
import Derived.Test.YtihgnpobkpnipaaGreatDoorCards
import Derived.Test.YtihgnpobkpnipaaGreatDoorTie
namespace Go.Proofs.YtihgnpobkpnipaaGreatDoor
open Go.ChangeShapes Go.WideShapes Go.ChangeAt Go.RowKit

/-! closed facts, each alone (together they outgrow the kernel's memory) -/
theorem MoreStockIsNoShorter_jf0 : (Rows.moreStockIsNoShorterRow.wf (OpenSpec.ofChange Rows.moreStockIsNoShorterSpec)) = true := by kernel_rfl
theorem MoreStockIsNoShorter_jf1 : (laidOutB Tryz.prog) = true := by kernel_rfl
theorem MoreStockIsNoShorter_jf2 : (mapsRowed Tryz.prog) = true := by kernel_rfl
theorem MoreStockIsNoShorter_jf3 : (Tryz.f5.params.all (Tryz.prog.readableRec ·)) = true := by kernel_rfl
theorem MoreStockIsNoShorter_jf4 : (namedTie Tryz.prog Rows.moreStockIsNoShorterRow.named Rows.moreStockIsNoShorterSpec.vars) = true := by kernel_rfl
theorem MoreStockIsNoShorter_jf5 : ((Rows.moreStockIsNoShorterRow.stops == [])) = true := by kernel_rfl
theorem MoreStockIsNoShorter_jf6 : ((Tryz.prog.stops == [])) = true := by kernel_rfl
theorem MoreStockIsNoShorter_jf7 : ((Rows.moreStockIsNoShorterRow.knobs == [])) = true := by kernel_rfl
theorem MoreStockIsNoShorter_jf8 : ((Tryz.prog.stopKnobs == [])) = true := by kernel_rfl
theorem MoreStockIsNoShorter_jf9 : ((Rows.moreStockIsNoShorterRow.inPlace == Tryz.prog.inPlace 5)) = true := by kernel_rfl
theorem MoreStockIsNoShorter_jf10 : ((Rows.moreStockIsNoShorterRow.unfollowed == Tryz.prog.unfollowed 5)) = true := by kernel_rfl
theorem MoreStockIsNoShorter_jf11 : ((Rows.moreStockIsNoShorterRow.recurses == Tryz.prog.recurses 5)) = true := by kernel_rfl
theorem MoreStockIsNoShorter_jf12 : ((Rows.moreStockIsNoShorterRow.named == Tryz.prog.varsNamed 5)) = true := by kernel_rfl
theorem MoreStockIsNoShorter_jf13 : ((Rows.moreStockIsNoShorterRow.maps == (Tryz.f5.params.toList ++ Rows.moreStockIsNoShorterSpec.plain.varTypes Tryz.prog).any (Tryz.prog.mapsRec ·))) = true := by kernel_rfl
theorem MoreStockIsNoShorter_jf14 : ((Rows.moreStockIsNoShorterRow.ifaces == (Tryz.f5.params.toList ++ Rows.moreStockIsNoShorterSpec.plain.varTypes Tryz.prog).any (Tryz.prog.ifacesRec ·))) = true := by kernel_rfl
theorem MoreStockIsNoShorter_jf15 : ((Rows.moreStockIsNoShorterRow.mapsOut == Tryz.prog.mapsAmong Tryz.f5.resultTypes.toList)) = true := by kernel_rfl
theorem MoreStockIsNoShorter_jf16 : ((Rows.moreStockIsNoShorterRow.loops == (Tryz.f5.params.toList ++ Rows.moreStockIsNoShorterSpec.plain.varTypes Tryz.prog).any (Tryz.prog.loopsFrom ·))) = true := by kernel_rfl
theorem MoreStockIsNoShorter_jf17 : ((Rows.moreStockIsNoShorterRow.wideKeys == (Tryz.f5.params.toList ++ Rows.moreStockIsNoShorterSpec.plain.varTypes Tryz.prog ++ Tryz.f5.resultTypes.toList).any (Tryz.prog.wideKeysFrom ·))) = true := by kernel_rfl
theorem MoreStockIsNoShorter_jf18 : (Rows.moreStockIsNoShorterSpec.vars.all (Tryz.prog.varReadable ·)) = true := by kernel_rfl
theorem MoreStockIsNoShorter_jf19 : (Tryz.f5.resultTypes.all (fun t => Tryz.prog.readableRec t && decide (t < Tryz.prog.types.size))) = true := by kernel_rfl
theorem MoreStockIsNoShorter_jf20 : ((Rows.moreStockIsNoShorterRow.ifacesOut == Tryz.f5.resultTypes.toList.any (Tryz.prog.ifacesRec ·))) = true := by kernel_rfl
theorem MoreStockIsNoShorter_jf21 : ((Rows.moreStockIsNoShorterRow.loopsOut == Tryz.f5.resultTypes.toList.any (Tryz.prog.loopsFrom ·))) = true := by kernel_rfl
theorem MoreStockIsNoShorter_jf22 : ((Rows.moreStockIsNoShorterRow.plainKeys == Tryz.prog.plainKeys)) = true := by kernel_rfl
theorem MoreStockIsNoShorter_jf23 : (Rows.moreStockIsNoShorterRow.shortTexts.isNone) = true := by kernel_rfl
theorem MoreStockIsNoShorter_jf24 : (Tryz.prog.stopsHeard) = true := by kernel_rfl
theorem MoreStockIsNoShorter_jf25 : (Tryz.prog.mayEnter) = true := by kernel_rfl
theorem MoreStockIsNoShorter_jf26 : ((Rows.moreStockIsNoShorterRow.lifted == Tryz.prog.liftsFinal)) = true := by kernel_rfl
theorem MoreStockIsNoShorter_jf27 : ((Tryz.prog.make == some Rows.moreStockIsNoShorterRow.make)) = true := by kernel_rfl
theorem MoreStockIsNoShorter_jf28 : ((Rows.moreStockIsNoShorterRow.kinds == (if Rows.moreStockIsNoShorterRow.domain.isEmpty then [] else Tryz.f5.params.toList.map fun t => match Tryz.prog.underlying t with | some (.int k) => some k | _ => none))) = true := by kernel_rfl
theorem MoreStockIsNoShorter_jf29 : ((Rows.moreStockIsNoShorterRow.pinned == Rows.moreStockIsNoShorterRow.pinnedBy)) = true := by kernel_rfl
theorem MoreStockIsNoShorter_jf30 : ((Rows.moreStockIsNoShorterRow.veiled == (Tryz.f5.params.toList ++ Rows.moreStockIsNoShorterSpec.plain.varTypes Tryz.prog ++ Tryz.f5.resultTypes.toList).any (Tryz.prog.veiledRec ·))) = true := by kernel_rfl
theorem MoreStockIsNoShorter_jf31 : (Rows.moreStockIsNoShorterRow.veiledFits Tryz.prog Tryz.f5.params.toList (Tryz.f5.params.toList ++ Rows.moreStockIsNoShorterSpec.plain.varTypes Tryz.prog ++ Tryz.f5.resultTypes.toList)) = true := by kernel_rfl
theorem MoreStockIsNoShorter_hnm : Tryz.prog.funcNamed "reelfeeder/rfkeep1.MoreStockIsNoShorter" = some 5 := by kernel_rfl
theorem MoreStockIsNoShorter_hin : Tryz.f5.isInstance Tryz.prog Rows.moreStockIsNoShorterRow.origin Rows.moreStockIsNoShorterRow.targs := of_decide_eq_true (by kernel_rfl)
theorem MoreStockIsNoShorter_hwr : Tryz.f5.isWrapper Tryz.prog Rows.moreStockIsNoShorterRow.wrapper Rows.moreStockIsNoShorterRow.mainSum := by unfold Func.isWrapper; first | (rw [if_pos (by decide +kernel)]; kernel_rfl) | (rw [if_neg (by decide +kernel)]; exact ⟨rfl, rfl⟩)
theorem MoreStockIsNoShorter_hwf : Rows.moreStockIsNoShorterRow.wfByText (OpenSpec.ofChange Rows.moreStockIsNoShorterSpec) = true := by kernel_rfl
theorem MoreStockIsNoShorter_hmi : Tryz.prog.mainIs = some (true, "b85f7799089c2354a7f44af7506ae1647446a96d114aa9fc805fea69fb5bce0a".toList) := by kernel_rfl
theorem MoreStockIsNoShorter_hlo : true = Tryz.prog.looks [] := by kernel_rfl
theorem MoreStockIsNoShorter_hst : ([22].all fun u => !Tryz.prog.wantsStandIn u) = true := by kernel_rfl
theorem MoreStockIsNoShorter_hgo : false = Rows.moreStockIsNoShorterRow.goesBy Tryz.prog := by kernel_rfl
end Go.Proofs.YtihgnpobkpnipaaGreatDoor
