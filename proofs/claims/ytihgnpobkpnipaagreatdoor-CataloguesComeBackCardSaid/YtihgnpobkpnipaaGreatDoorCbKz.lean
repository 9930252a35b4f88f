/- Closed facts on the row of the law CataloguesComeBack: no walk. No conditions. -/
import Derived.Test.YtihgnpobkpnipaaGreatDoorCz34
import Derived.Test.YtihgnpobkpnipaaGreatDoorRows
import Derived.Test.YtihgnpobkpnipaaGreatDoorCards
import Derived.Test.YtihgnpobkpnipaaGreatDoorTie
namespace Go.Proofs.YtihgnpobkpnipaaGreatDoor
open Go.ChangeShapes Go.WideShapes Go.ChangeAt Go.RowKit

/-! closed facts, each alone (together they outgrow the kernel's memory) -/
theorem CataloguesComeBack_jf0 : (Rows.cataloguesComeBackRow.wf (OpenSpec.ofChange Rows.cataloguesComeBackSpec)) = true := by kernel_rfl
theorem CataloguesComeBack_jf1 : (laidOutB Tryz.prog) = true := by kernel_rfl
theorem CataloguesComeBack_jf2 : (mapsRowed Tryz.prog) = true := by kernel_rfl
theorem CataloguesComeBack_jf3 : (Tryz.f4.params.all (Tryz.prog.readableRec ·)) = true := by kernel_rfl
theorem CataloguesComeBack_jf4 : (namedTie Tryz.prog Rows.cataloguesComeBackRow.named Rows.cataloguesComeBackSpec.vars) = true := by kernel_rfl
theorem CataloguesComeBack_jf5 : ((Rows.cataloguesComeBackRow.stops == [])) = true := by kernel_rfl
theorem CataloguesComeBack_jf6 : ((Tryz.prog.stops == [])) = true := by kernel_rfl
theorem CataloguesComeBack_jf7 : ((Rows.cataloguesComeBackRow.knobs == [])) = true := by kernel_rfl
theorem CataloguesComeBack_jf8 : ((Tryz.prog.stopKnobs == [])) = true := by kernel_rfl
theorem CataloguesComeBack_jf9 : ((Rows.cataloguesComeBackRow.inPlace == Tryz.prog.inPlace 4)) = true := by kernel_rfl
theorem CataloguesComeBack_jf10 : ((Rows.cataloguesComeBackRow.unfollowed == Tryz.prog.unfollowed 4)) = true := by kernel_rfl
theorem CataloguesComeBack_jf11 : ((Rows.cataloguesComeBackRow.recurses == Tryz.prog.recurses 4)) = true := by kernel_rfl
theorem CataloguesComeBack_jf12 : ((Rows.cataloguesComeBackRow.named == Tryz.prog.varsNamed 4)) = true := by kernel_rfl
theorem CataloguesComeBack_jf13 : ((Rows.cataloguesComeBackRow.maps == (Tryz.f4.params.toList ++ Rows.cataloguesComeBackSpec.plain.varTypes Tryz.prog).any (Tryz.prog.mapsRec ·))) = true := by kernel_rfl
theorem CataloguesComeBack_jf14 : ((Rows.cataloguesComeBackRow.ifaces == (Tryz.f4.params.toList ++ Rows.cataloguesComeBackSpec.plain.varTypes Tryz.prog).any (Tryz.prog.ifacesRec ·))) = true := by kernel_rfl
theorem CataloguesComeBack_jf15 : ((Rows.cataloguesComeBackRow.mapsOut == Tryz.prog.mapsAmong Tryz.f4.resultTypes.toList)) = true := by kernel_rfl
theorem CataloguesComeBack_jf16 : ((Rows.cataloguesComeBackRow.loops == (Tryz.f4.params.toList ++ Rows.cataloguesComeBackSpec.plain.varTypes Tryz.prog).any (Tryz.prog.loopsFrom ·))) = true := by kernel_rfl
theorem CataloguesComeBack_jf17 : ((Rows.cataloguesComeBackRow.wideKeys == (Tryz.f4.params.toList ++ Rows.cataloguesComeBackSpec.plain.varTypes Tryz.prog ++ Tryz.f4.resultTypes.toList).any (Tryz.prog.wideKeysFrom ·))) = true := by kernel_rfl
theorem CataloguesComeBack_jf18 : (Rows.cataloguesComeBackSpec.vars.all (Tryz.prog.varReadable ·)) = true := by kernel_rfl
theorem CataloguesComeBack_jf19 : (Tryz.f4.resultTypes.all (fun t => Tryz.prog.readableRec t && decide (t < Tryz.prog.types.size))) = true := by kernel_rfl
theorem CataloguesComeBack_jf20 : ((Rows.cataloguesComeBackRow.ifacesOut == Tryz.f4.resultTypes.toList.any (Tryz.prog.ifacesRec ·))) = true := by kernel_rfl
theorem CataloguesComeBack_jf21 : ((Rows.cataloguesComeBackRow.loopsOut == Tryz.f4.resultTypes.toList.any (Tryz.prog.loopsFrom ·))) = true := by kernel_rfl
theorem CataloguesComeBack_jf22 : ((Rows.cataloguesComeBackRow.plainKeys == Tryz.prog.plainKeys)) = true := by kernel_rfl
theorem CataloguesComeBack_jf23 : (Rows.cataloguesComeBackRow.shortTexts.isNone) = true := by kernel_rfl
theorem CataloguesComeBack_jf24 : (Tryz.prog.stopsHeard) = true := by kernel_rfl
theorem CataloguesComeBack_jf25 : (Tryz.prog.mayEnter) = true := by kernel_rfl
theorem CataloguesComeBack_jf26 : ((Rows.cataloguesComeBackRow.lifted == Tryz.prog.liftsFinal)) = true := by kernel_rfl
theorem CataloguesComeBack_jf27 : ((Tryz.prog.make == some Rows.cataloguesComeBackRow.make)) = true := by kernel_rfl
theorem CataloguesComeBack_jf28 : ((Rows.cataloguesComeBackRow.kinds == (if Rows.cataloguesComeBackRow.domain.isEmpty then [] else Tryz.f4.params.toList.map fun t => match Tryz.prog.underlying t with | some (.int k) => some k | _ => none))) = true := by kernel_rfl
theorem CataloguesComeBack_jf29 : ((Rows.cataloguesComeBackRow.pinned == Rows.cataloguesComeBackRow.pinnedBy)) = true := by kernel_rfl
theorem CataloguesComeBack_jf30 : ((Rows.cataloguesComeBackRow.veiled == (Tryz.f4.params.toList ++ Rows.cataloguesComeBackSpec.plain.varTypes Tryz.prog ++ Tryz.f4.resultTypes.toList).any (Tryz.prog.veiledRec ·))) = true := by kernel_rfl
theorem CataloguesComeBack_jf31 : (Rows.cataloguesComeBackRow.veiledFits Tryz.prog Tryz.f4.params.toList (Tryz.f4.params.toList ++ Rows.cataloguesComeBackSpec.plain.varTypes Tryz.prog ++ Tryz.f4.resultTypes.toList)) = true := by kernel_rfl
theorem CataloguesComeBack_hnm : Tryz.prog.funcNamed "reelfeeder/rfkeep1.CataloguesComeBack" = some 4 := by kernel_rfl
theorem CataloguesComeBack_hin : Tryz.f4.isInstance Tryz.prog Rows.cataloguesComeBackRow.origin Rows.cataloguesComeBackRow.targs := of_decide_eq_true (by kernel_rfl)
theorem CataloguesComeBack_hwr : Tryz.f4.isWrapper Tryz.prog Rows.cataloguesComeBackRow.wrapper Rows.cataloguesComeBackRow.mainSum := by unfold Func.isWrapper; first | (rw [if_pos (by decide +kernel)]; kernel_rfl) | (rw [if_neg (by decide +kernel)]; exact ⟨rfl, rfl⟩)
theorem CataloguesComeBack_hwf : Rows.cataloguesComeBackRow.wfByText (OpenSpec.ofChange Rows.cataloguesComeBackSpec) = true := by kernel_rfl
theorem CataloguesComeBack_hmi : Tryz.prog.mainIs = some (true, "b85f7799089c2354a7f44af7506ae1647446a96d114aa9fc805fea69fb5bce0a".toList) := by kernel_rfl
theorem CataloguesComeBack_hlo : true = Tryz.prog.looks [] := by kernel_rfl
theorem CataloguesComeBack_hst : ([22].all fun u => !Tryz.prog.wantsStandIn u) = true := by kernel_rfl
theorem CataloguesComeBack_hgo : false = Rows.cataloguesComeBackRow.goesBy Tryz.prog := by kernel_rfl
end Go.Proofs.YtihgnpobkpnipaaGreatDoor
