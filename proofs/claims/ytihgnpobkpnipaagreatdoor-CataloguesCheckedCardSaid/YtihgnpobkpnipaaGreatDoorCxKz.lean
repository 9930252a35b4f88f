/- Closed facts on the row of the law CataloguesChecked: no walk. No conditions. -/
import Derived.Test.YtihgnpobkpnipaaGreatDoorCz34
import Derived.Test.YtihgnpobkpnipaaGreatDoorRows
import Derived.Test.YtihgnpobkpnipaaGreatDoorCards
import Derived.Test.YtihgnpobkpnipaaGreatDoorTie
namespace Go.Proofs.YtihgnpobkpnipaaGreatDoor
open Go.ChangeShapes Go.WideShapes Go.ChangeAt Go.RowKit

/-! closed facts, each alone (together they outgrow the kernel's memory) -/
theorem CataloguesChecked_jf0 : (Rows.cataloguesCheckedRow.wf (OpenSpec.ofChange Rows.cataloguesCheckedSpec)) = true := by kernel_rfl
theorem CataloguesChecked_jf1 : (laidOutB Tryz.prog) = true := by kernel_rfl
theorem CataloguesChecked_jf2 : (mapsRowed Tryz.prog) = true := by kernel_rfl
theorem CataloguesChecked_jf3 : (Tryz.f3.params.all (Tryz.prog.readableRec ·)) = true := by kernel_rfl
theorem CataloguesChecked_jf4 : (namedTie Tryz.prog Rows.cataloguesCheckedRow.named Rows.cataloguesCheckedSpec.vars) = true := by kernel_rfl
theorem CataloguesChecked_jf5 : ((Rows.cataloguesCheckedRow.stops == [])) = true := by kernel_rfl
theorem CataloguesChecked_jf6 : ((Tryz.prog.stops == [])) = true := by kernel_rfl
theorem CataloguesChecked_jf7 : ((Rows.cataloguesCheckedRow.knobs == [])) = true := by kernel_rfl
theorem CataloguesChecked_jf8 : ((Tryz.prog.stopKnobs == [])) = true := by kernel_rfl
theorem CataloguesChecked_jf9 : ((Rows.cataloguesCheckedRow.inPlace == Tryz.prog.inPlace 3)) = true := by kernel_rfl
theorem CataloguesChecked_jf10 : ((Rows.cataloguesCheckedRow.unfollowed == Tryz.prog.unfollowed 3)) = true := by kernel_rfl
theorem CataloguesChecked_jf11 : ((Rows.cataloguesCheckedRow.recurses == Tryz.prog.recurses 3)) = true := by kernel_rfl
theorem CataloguesChecked_jf12 : ((Rows.cataloguesCheckedRow.named == Tryz.prog.varsNamed 3)) = true := by kernel_rfl
theorem CataloguesChecked_jf13 : ((Rows.cataloguesCheckedRow.maps == (Tryz.f3.params.toList ++ Rows.cataloguesCheckedSpec.plain.varTypes Tryz.prog).any (Tryz.prog.mapsRec ·))) = true := by kernel_rfl
theorem CataloguesChecked_jf14 : ((Rows.cataloguesCheckedRow.ifaces == (Tryz.f3.params.toList ++ Rows.cataloguesCheckedSpec.plain.varTypes Tryz.prog).any (Tryz.prog.ifacesRec ·))) = true := by kernel_rfl
theorem CataloguesChecked_jf15 : ((Rows.cataloguesCheckedRow.mapsOut == Tryz.prog.mapsAmong Tryz.f3.resultTypes.toList)) = true := by kernel_rfl
theorem CataloguesChecked_jf16 : ((Rows.cataloguesCheckedRow.loops == (Tryz.f3.params.toList ++ Rows.cataloguesCheckedSpec.plain.varTypes Tryz.prog).any (Tryz.prog.loopsFrom ·))) = true := by kernel_rfl
theorem CataloguesChecked_jf17 : ((Rows.cataloguesCheckedRow.wideKeys == (Tryz.f3.params.toList ++ Rows.cataloguesCheckedSpec.plain.varTypes Tryz.prog ++ Tryz.f3.resultTypes.toList).any (Tryz.prog.wideKeysFrom ·))) = true := by kernel_rfl
theorem CataloguesChecked_jf18 : (Rows.cataloguesCheckedSpec.vars.all (Tryz.prog.varReadable ·)) = true := by kernel_rfl
theorem CataloguesChecked_jf19 : (Tryz.f3.resultTypes.all (fun t => Tryz.prog.readableRec t && decide (t < Tryz.prog.types.size))) = true := by kernel_rfl
theorem CataloguesChecked_jf20 : ((Rows.cataloguesCheckedRow.ifacesOut == Tryz.f3.resultTypes.toList.any (Tryz.prog.ifacesRec ·))) = true := by kernel_rfl
theorem CataloguesChecked_jf21 : ((Rows.cataloguesCheckedRow.loopsOut == Tryz.f3.resultTypes.toList.any (Tryz.prog.loopsFrom ·))) = true := by kernel_rfl
theorem CataloguesChecked_jf22 : ((Rows.cataloguesCheckedRow.plainKeys == Tryz.prog.plainKeys)) = true := by kernel_rfl
theorem CataloguesChecked_jf23 : (Rows.cataloguesCheckedRow.shortTexts.isNone) = true := by kernel_rfl
theorem CataloguesChecked_jf24 : (Tryz.prog.stopsHeard) = true := by kernel_rfl
theorem CataloguesChecked_jf25 : (Tryz.prog.mayEnter) = true := by kernel_rfl
theorem CataloguesChecked_jf26 : ((Rows.cataloguesCheckedRow.lifted == Tryz.prog.liftsFinal)) = true := by kernel_rfl
theorem CataloguesChecked_jf27 : ((Tryz.prog.make == some Rows.cataloguesCheckedRow.make)) = true := by kernel_rfl
theorem CataloguesChecked_jf28 : ((Rows.cataloguesCheckedRow.kinds == (if Rows.cataloguesCheckedRow.domain.isEmpty then [] else Tryz.f3.params.toList.map fun t => match Tryz.prog.underlying t with | some (.int k) => some k | _ => none))) = true := by kernel_rfl
theorem CataloguesChecked_jf29 : ((Rows.cataloguesCheckedRow.pinned == Rows.cataloguesCheckedRow.pinnedBy)) = true := by kernel_rfl
theorem CataloguesChecked_jf30 : ((Rows.cataloguesCheckedRow.veiled == (Tryz.f3.params.toList ++ Rows.cataloguesCheckedSpec.plain.varTypes Tryz.prog ++ Tryz.f3.resultTypes.toList).any (Tryz.prog.veiledRec ·))) = true := by kernel_rfl
theorem CataloguesChecked_jf31 : (Rows.cataloguesCheckedRow.veiledFits Tryz.prog Tryz.f3.params.toList (Tryz.f3.params.toList ++ Rows.cataloguesCheckedSpec.plain.varTypes Tryz.prog ++ Tryz.f3.resultTypes.toList)) = true := by kernel_rfl
theorem CataloguesChecked_hnm : Tryz.prog.funcNamed "reelfeeder/rflaw1.CataloguesChecked" = some 3 := by kernel_rfl
theorem CataloguesChecked_hin : Tryz.f3.isInstance Tryz.prog Rows.cataloguesCheckedRow.origin Rows.cataloguesCheckedRow.targs := of_decide_eq_true (by kernel_rfl)
theorem CataloguesChecked_hwr : Tryz.f3.isWrapper Tryz.prog Rows.cataloguesCheckedRow.wrapper Rows.cataloguesCheckedRow.mainSum := by unfold Func.isWrapper; first | (rw [if_pos (by decide +kernel)]; kernel_rfl) | (rw [if_neg (by decide +kernel)]; exact ⟨rfl, rfl⟩)
theorem CataloguesChecked_hwf : Rows.cataloguesCheckedRow.wfByText (OpenSpec.ofChange Rows.cataloguesCheckedSpec) = true := by kernel_rfl
theorem CataloguesChecked_hmi : Tryz.prog.mainIs = some (true, "b85f7799089c2354a7f44af7506ae1647446a96d114aa9fc805fea69fb5bce0a".toList) := by kernel_rfl
theorem CataloguesChecked_hlo : true = Tryz.prog.looks [] := by kernel_rfl
theorem CataloguesChecked_hst : ([22].all fun u => !Tryz.prog.wantsStandIn u) = true := by kernel_rfl
theorem CataloguesChecked_hgo : false = Rows.cataloguesCheckedRow.goesBy Tryz.prog := by kernel_rfl
end Go.Proofs.YtihgnpobkpnipaaGreatDoor
