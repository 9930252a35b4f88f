/- Closed facts on the row of the law ChainsAreChains: no walk. No conditions. -/
import Derived.Test.YtjegfebolhjghaaGreatDoorPc31
import Derived.Test.YtjegfebolhjghaaGreatDoorRows
import Derived.Test.YtjegfebolhjghaaGreatDoorCards
import Derived.Test.YtjegfebolhjghaaGreatDoorTie
namespace Go.Proofs.YtjegfebolhjghaaGreatDoor
open Go.ChangeShapes Go.WideShapes Go.ChangeAt Go.RowKit

/-! closed facts, each alone (together they outgrow the kernel's memory) -/
theorem ChainsAreChains_jf0 : (Rows.chainsAreChainsRow.wf (OpenSpec.ofChange Rows.chainsAreChainsSpec)) = true := by kernel_rfl
theorem ChainsAreChains_jf1 : (laidOutB Tryz.prog) = true := by kernel_rfl
theorem ChainsAreChains_jf2 : (mapsRowed Tryz.prog) = true := by kernel_rfl
theorem ChainsAreChains_jf3 : (Tryz.f3.params.all (Tryz.prog.readableRec ·)) = true := by kernel_rfl
theorem ChainsAreChains_jf4 : (namedTie Tryz.prog Rows.chainsAreChainsRow.named Rows.chainsAreChainsSpec.vars) = true := by kernel_rfl
theorem ChainsAreChains_jf5 : ((Rows.chainsAreChainsRow.stops == [])) = true := by kernel_rfl
theorem ChainsAreChains_jf6 : ((Tryz.prog.stops == [])) = true := by kernel_rfl
theorem ChainsAreChains_jf7 : ((Rows.chainsAreChainsRow.knobs == [])) = true := by kernel_rfl
theorem ChainsAreChains_jf8 : ((Tryz.prog.stopKnobs == [])) = true := by kernel_rfl
theorem ChainsAreChains_jf9 : ((Rows.chainsAreChainsRow.inPlace == Tryz.prog.inPlace 3)) = true := by kernel_rfl
theorem ChainsAreChains_jf10 : ((Rows.chainsAreChainsRow.unfollowed == Tryz.prog.unfollowed 3)) = true := by kernel_rfl
theorem ChainsAreChains_jf11 : ((Rows.chainsAreChainsRow.recurses == Tryz.prog.recurses 3)) = true := by kernel_rfl
theorem ChainsAreChains_jf12 : ((Rows.chainsAreChainsRow.named == Tryz.prog.varsNamed 3)) = true := by kernel_rfl
theorem ChainsAreChains_jf13 : ((Rows.chainsAreChainsRow.maps == (Tryz.f3.params.toList ++ Rows.chainsAreChainsSpec.plain.varTypes Tryz.prog).any (Tryz.prog.mapsRec ·))) = true := by kernel_rfl
theorem ChainsAreChains_jf14 : ((Rows.chainsAreChainsRow.ifaces == (Tryz.f3.params.toList ++ Rows.chainsAreChainsSpec.plain.varTypes Tryz.prog).any (Tryz.prog.ifacesRec ·))) = true := by kernel_rfl
theorem ChainsAreChains_jf15 : ((Rows.chainsAreChainsRow.mapsOut == Tryz.prog.mapsAmong Tryz.f3.resultTypes.toList)) = true := by kernel_rfl
theorem ChainsAreChains_jf16 : ((Rows.chainsAreChainsRow.loops == (Tryz.f3.params.toList ++ Rows.chainsAreChainsSpec.plain.varTypes Tryz.prog).any (Tryz.prog.loopsFrom ·))) = true := by kernel_rfl
theorem ChainsAreChains_jf17 : ((Rows.chainsAreChainsRow.wideKeys == (Tryz.f3.params.toList ++ Rows.chainsAreChainsSpec.plain.varTypes Tryz.prog ++ Tryz.f3.resultTypes.toList).any (Tryz.prog.wideKeysFrom ·))) = true := by kernel_rfl
theorem ChainsAreChains_jf18 : (Rows.chainsAreChainsSpec.vars.all (Tryz.prog.varReadable ·)) = true := by kernel_rfl
theorem ChainsAreChains_jf19 : (Tryz.f3.resultTypes.all (fun t => Tryz.prog.readableRec t && decide (t < Tryz.prog.types.size))) = true := by kernel_rfl
theorem ChainsAreChains_jf20 : ((Rows.chainsAreChainsRow.ifacesOut == Tryz.f3.resultTypes.toList.any (Tryz.prog.ifacesRec ·))) = true := by kernel_rfl
theorem ChainsAreChains_jf21 : ((Rows.chainsAreChainsRow.loopsOut == Tryz.f3.resultTypes.toList.any (Tryz.prog.loopsFrom ·))) = true := by kernel_rfl
theorem ChainsAreChains_jf22 : ((Rows.chainsAreChainsRow.plainKeys == Tryz.prog.plainKeys)) = true := by kernel_rfl
theorem ChainsAreChains_jf23 : (Rows.chainsAreChainsRow.shortTexts.isNone) = true := by kernel_rfl
theorem ChainsAreChains_jf24 : (Tryz.prog.stopsHeard) = true := by kernel_rfl
theorem ChainsAreChains_jf25 : (Tryz.prog.mayEnter) = true := by kernel_rfl
theorem ChainsAreChains_jf26 : ((Rows.chainsAreChainsRow.lifted == Tryz.prog.liftsFinal)) = true := by kernel_rfl
theorem ChainsAreChains_jf27 : ((Tryz.prog.make == some Rows.chainsAreChainsRow.make)) = true := by kernel_rfl
theorem ChainsAreChains_jf28 : ((Rows.chainsAreChainsRow.kinds == (if Rows.chainsAreChainsRow.domain.isEmpty then [] else Tryz.f3.params.toList.map fun t => match Tryz.prog.underlying t with | some (.int k) => some k | _ => none))) = true := by kernel_rfl
theorem ChainsAreChains_jf29 : ((Rows.chainsAreChainsRow.pinned == Rows.chainsAreChainsRow.pinnedBy)) = true := by kernel_rfl
theorem ChainsAreChains_jf30 : ((Rows.chainsAreChainsRow.veiled == (Tryz.f3.params.toList ++ Rows.chainsAreChainsSpec.plain.varTypes Tryz.prog ++ Tryz.f3.resultTypes.toList).any (Tryz.prog.veiledRec ·))) = true := by kernel_rfl
theorem ChainsAreChains_jf31 : (Rows.chainsAreChainsRow.veiledFits Tryz.prog Tryz.f3.params.toList (Tryz.f3.params.toList ++ Rows.chainsAreChainsSpec.plain.varTypes Tryz.prog ++ Tryz.f3.resultTypes.toList)) = true := by kernel_rfl
theorem ChainsAreChains_hnm : Tryz.prog.funcNamed "reelfeeder/rfkeep1.ChainsAreChains" = some 3 := by kernel_rfl
theorem ChainsAreChains_hin : Tryz.f3.isInstance Tryz.prog Rows.chainsAreChainsRow.origin Rows.chainsAreChainsRow.targs := of_decide_eq_true (by kernel_rfl)
theorem ChainsAreChains_hwr : Tryz.f3.isWrapper Tryz.prog Rows.chainsAreChainsRow.wrapper Rows.chainsAreChainsRow.mainSum := by unfold Func.isWrapper; first | (rw [if_pos (by decide +kernel)]; kernel_rfl) | (rw [if_neg (by decide +kernel)]; exact ⟨rfl, rfl⟩)
theorem ChainsAreChains_hwf : Rows.chainsAreChainsRow.wfByText (OpenSpec.ofChange Rows.chainsAreChainsSpec) = true := by kernel_rfl
theorem ChainsAreChains_hmi : Tryz.prog.mainIs = some (true, "e656e4afb940c99cff01175164c81dec4b4016f898653ee4c25d8a354e099ae4".toList) := by kernel_rfl
theorem ChainsAreChains_hlo : true = Tryz.prog.looks [] := by kernel_rfl
theorem ChainsAreChains_hst : ([22].all fun u => !Tryz.prog.wantsStandIn u) = true := by kernel_rfl
theorem ChainsAreChains_hgo : false = Rows.chainsAreChainsRow.goesBy Tryz.prog := by kernel_rfl
end Go.Proofs.YtjegfebolhjghaaGreatDoor
