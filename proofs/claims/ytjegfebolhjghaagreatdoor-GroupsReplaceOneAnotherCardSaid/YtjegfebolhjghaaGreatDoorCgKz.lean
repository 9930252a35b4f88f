/- Closed facts on the row of the law GroupsReplaceOneAnother: no walk. No conditions. -/
import Derived.Test.YtjegfebolhjghaaGreatDoorPg31
import Derived.Test.YtjegfebolhjghaaGreatDoorRows
import Derived.Test.YtjegfebolhjghaaGreatDoorCards
import Derived.Test.YtjegfebolhjghaaGreatDoorTie
namespace Go.Proofs.YtjegfebolhjghaaGreatDoor
open Go.ChangeShapes Go.WideShapes Go.ChangeAt Go.RowKit

/-! closed facts, each alone (together they outgrow the kernel's memory) -/
theorem GroupsReplaceOneAnother_jf0 : (Rows.groupsReplaceOneAnotherRow.wf (OpenSpec.ofChange Rows.groupsReplaceOneAnotherSpec)) = true := by kernel_rfl
theorem GroupsReplaceOneAnother_jf1 : (laidOutB Tryz.prog) = true := by kernel_rfl
theorem GroupsReplaceOneAnother_jf2 : (mapsRowed Tryz.prog) = true := by kernel_rfl
theorem GroupsReplaceOneAnother_jf3 : (Tryz.f4.params.all (Tryz.prog.readableRec ·)) = true := by kernel_rfl
theorem GroupsReplaceOneAnother_jf4 : (namedTie Tryz.prog Rows.groupsReplaceOneAnotherRow.named Rows.groupsReplaceOneAnotherSpec.vars) = true := by kernel_rfl
theorem GroupsReplaceOneAnother_jf5 : ((Rows.groupsReplaceOneAnotherRow.stops == [])) = true := by kernel_rfl
theorem GroupsReplaceOneAnother_jf6 : ((Tryz.prog.stops == [])) = true := by kernel_rfl
theorem GroupsReplaceOneAnother_jf7 : ((Rows.groupsReplaceOneAnotherRow.knobs == [])) = true := by kernel_rfl
theorem GroupsReplaceOneAnother_jf8 : ((Tryz.prog.stopKnobs == [])) = true := by kernel_rfl
theorem GroupsReplaceOneAnother_jf9 : ((Rows.groupsReplaceOneAnotherRow.inPlace == Tryz.prog.inPlace 4)) = true := by kernel_rfl
theorem GroupsReplaceOneAnother_jf10 : ((Rows.groupsReplaceOneAnotherRow.unfollowed == Tryz.prog.unfollowed 4)) = true := by kernel_rfl
theorem GroupsReplaceOneAnother_jf11 : ((Rows.groupsReplaceOneAnotherRow.recurses == Tryz.prog.recurses 4)) = true := by kernel_rfl
theorem GroupsReplaceOneAnother_jf12 : ((Rows.groupsReplaceOneAnotherRow.named == Tryz.prog.varsNamed 4)) = true := by kernel_rfl
theorem GroupsReplaceOneAnother_jf13 : ((Rows.groupsReplaceOneAnotherRow.maps == (Tryz.f4.params.toList ++ Rows.groupsReplaceOneAnotherSpec.plain.varTypes Tryz.prog).any (Tryz.prog.mapsRec ·))) = true := by kernel_rfl
theorem GroupsReplaceOneAnother_jf14 : ((Rows.groupsReplaceOneAnotherRow.ifaces == (Tryz.f4.params.toList ++ Rows.groupsReplaceOneAnotherSpec.plain.varTypes Tryz.prog).any (Tryz.prog.ifacesRec ·))) = true := by kernel_rfl
theorem GroupsReplaceOneAnother_jf15 : ((Rows.groupsReplaceOneAnotherRow.mapsOut == Tryz.prog.mapsAmong Tryz.f4.resultTypes.toList)) = true := by kernel_rfl
theorem GroupsReplaceOneAnother_jf16 : ((Rows.groupsReplaceOneAnotherRow.loops == (Tryz.f4.params.toList ++ Rows.groupsReplaceOneAnotherSpec.plain.varTypes Tryz.prog).any (Tryz.prog.loopsFrom ·))) = true := by kernel_rfl
theorem GroupsReplaceOneAnother_jf17 : ((Rows.groupsReplaceOneAnotherRow.wideKeys == (Tryz.f4.params.toList ++ Rows.groupsReplaceOneAnotherSpec.plain.varTypes Tryz.prog ++ Tryz.f4.resultTypes.toList).any (Tryz.prog.wideKeysFrom ·))) = true := by kernel_rfl
theorem GroupsReplaceOneAnother_jf18 : (Rows.groupsReplaceOneAnotherSpec.vars.all (Tryz.prog.varReadable ·)) = true := by kernel_rfl
theorem GroupsReplaceOneAnother_jf19 : (Tryz.f4.resultTypes.all (fun t => Tryz.prog.readableRec t && decide (t < Tryz.prog.types.size))) = true := by kernel_rfl
theorem GroupsReplaceOneAnother_jf20 : ((Rows.groupsReplaceOneAnotherRow.ifacesOut == Tryz.f4.resultTypes.toList.any (Tryz.prog.ifacesRec ·))) = true := by kernel_rfl
theorem GroupsReplaceOneAnother_jf21 : ((Rows.groupsReplaceOneAnotherRow.loopsOut == Tryz.f4.resultTypes.toList.any (Tryz.prog.loopsFrom ·))) = true := by kernel_rfl
theorem GroupsReplaceOneAnother_jf22 : ((Rows.groupsReplaceOneAnotherRow.plainKeys == Tryz.prog.plainKeys)) = true := by kernel_rfl
theorem GroupsReplaceOneAnother_jf23 : (Rows.groupsReplaceOneAnotherRow.shortTexts.isNone) = true := by kernel_rfl
theorem GroupsReplaceOneAnother_jf24 : (Tryz.prog.stopsHeard) = true := by kernel_rfl
theorem GroupsReplaceOneAnother_jf25 : (Tryz.prog.mayEnter) = true := by kernel_rfl
theorem GroupsReplaceOneAnother_jf26 : ((Rows.groupsReplaceOneAnotherRow.lifted == Tryz.prog.liftsFinal)) = true := by kernel_rfl
theorem GroupsReplaceOneAnother_jf27 : ((Tryz.prog.make == some Rows.groupsReplaceOneAnotherRow.make)) = true := by kernel_rfl
theorem GroupsReplaceOneAnother_jf28 : ((Rows.groupsReplaceOneAnotherRow.kinds == (if Rows.groupsReplaceOneAnotherRow.domain.isEmpty then [] else Tryz.f4.params.toList.map fun t => match Tryz.prog.underlying t with | some (.int k) => some k | _ => none))) = true := by kernel_rfl
theorem GroupsReplaceOneAnother_jf29 : ((Rows.groupsReplaceOneAnotherRow.pinned == Rows.groupsReplaceOneAnotherRow.pinnedBy)) = true := by kernel_rfl
theorem GroupsReplaceOneAnother_jf30 : ((Rows.groupsReplaceOneAnotherRow.veiled == (Tryz.f4.params.toList ++ Rows.groupsReplaceOneAnotherSpec.plain.varTypes Tryz.prog ++ Tryz.f4.resultTypes.toList).any (Tryz.prog.veiledRec ·))) = true := by kernel_rfl
theorem GroupsReplaceOneAnother_jf31 : (Rows.groupsReplaceOneAnotherRow.veiledFits Tryz.prog Tryz.f4.params.toList (Tryz.f4.params.toList ++ Rows.groupsReplaceOneAnotherSpec.plain.varTypes Tryz.prog ++ Tryz.f4.resultTypes.toList)) = true := by kernel_rfl
theorem GroupsReplaceOneAnother_hnm : Tryz.prog.funcNamed "reelfeeder/rfkeep1.GroupsReplaceOneAnother" = some 4 := by kernel_rfl
theorem GroupsReplaceOneAnother_hin : Tryz.f4.isInstance Tryz.prog Rows.groupsReplaceOneAnotherRow.origin Rows.groupsReplaceOneAnotherRow.targs := of_decide_eq_true (by kernel_rfl)
theorem GroupsReplaceOneAnother_hwr : Tryz.f4.isWrapper Tryz.prog Rows.groupsReplaceOneAnotherRow.wrapper Rows.groupsReplaceOneAnotherRow.mainSum := by unfold Func.isWrapper; first | (rw [if_pos (by decide +kernel)]; kernel_rfl) | (rw [if_neg (by decide +kernel)]; exact ⟨rfl, rfl⟩)
theorem GroupsReplaceOneAnother_hwf : Rows.groupsReplaceOneAnotherRow.wfByText (OpenSpec.ofChange Rows.groupsReplaceOneAnotherSpec) = true := by kernel_rfl
theorem GroupsReplaceOneAnother_hmi : Tryz.prog.mainIs = some (true, "e656e4afb940c99cff01175164c81dec4b4016f898653ee4c25d8a354e099ae4".toList) := by kernel_rfl
theorem GroupsReplaceOneAnother_hlo : true = Tryz.prog.looks [] := by kernel_rfl
theorem GroupsReplaceOneAnother_hst : ([22].all fun u => !Tryz.prog.wantsStandIn u) = true := by kernel_rfl
theorem GroupsReplaceOneAnother_hgo : false = Rows.groupsReplaceOneAnotherRow.goesBy Tryz.prog := by kernel_rfl
end Go.Proofs.YtjegfebolhjghaaGreatDoor
