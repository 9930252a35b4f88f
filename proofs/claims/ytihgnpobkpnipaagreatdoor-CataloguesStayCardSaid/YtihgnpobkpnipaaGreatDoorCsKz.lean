/- Closed facts on the row of the law CataloguesStay: no walk. No conditions. -/
import Derived.Test.YtihgnpobkpnipaaGreatDoorQz41
import Derived.Test.YtihgnpobkpnipaaGreatDoorRows
import Derived.Test.YtihgnpobkpnipaaGreatDoorCards
import Derived.Test.YtihgnpobkpnipaaGreatDoorTie
namespace Go.Proofs.YtihgnpobkpnipaaGreatDoor
open Go.ChangeShapes Go.WideShapes Go.ChangeAt Go.RowKit

/-! closed facts, each alone (together they outgrow the kernel's memory) -/
theorem CataloguesStay_jf0 : (Rows.cataloguesStayRow.wf (OpenSpec.ofChange Rows.cataloguesStaySpec)) = true := by kernel_rfl
theorem CataloguesStay_jf1 : (laidOutB Tryz.prog) = true := by kernel_rfl
theorem CataloguesStay_jf2 : (mapsRowed Tryz.prog) = true := by kernel_rfl
theorem CataloguesStay_jf3 : (Tryz.f6.params.all (Tryz.prog.readableRec ·)) = true := by kernel_rfl
theorem CataloguesStay_jf4 : (namedTie Tryz.prog Rows.cataloguesStayRow.named Rows.cataloguesStaySpec.vars) = true := by kernel_rfl
theorem CataloguesStay_jf5 : ((Rows.cataloguesStayRow.stops == [])) = true := by kernel_rfl
theorem CataloguesStay_jf6 : ((Tryz.prog.stops == [])) = true := by kernel_rfl
theorem CataloguesStay_jf7 : ((Rows.cataloguesStayRow.knobs == [])) = true := by kernel_rfl
theorem CataloguesStay_jf8 : ((Tryz.prog.stopKnobs == [])) = true := by kernel_rfl
theorem CataloguesStay_jf9 : ((Rows.cataloguesStayRow.inPlace == Tryz.prog.inPlace 6)) = true := by kernel_rfl
theorem CataloguesStay_jf10 : ((Rows.cataloguesStayRow.unfollowed == Tryz.prog.unfollowed 6)) = true := by kernel_rfl
theorem CataloguesStay_jf11 : ((Rows.cataloguesStayRow.recurses == Tryz.prog.recurses 6)) = true := by kernel_rfl
theorem CataloguesStay_jf12 : ((Rows.cataloguesStayRow.named == Tryz.prog.varsNamed 6)) = true := by kernel_rfl
theorem CataloguesStay_jf13 : ((Rows.cataloguesStayRow.maps == (Tryz.f6.params.toList ++ Rows.cataloguesStaySpec.plain.varTypes Tryz.prog).any (Tryz.prog.mapsRec ·))) = true := by kernel_rfl
theorem CataloguesStay_jf14 : ((Rows.cataloguesStayRow.ifaces == (Tryz.f6.params.toList ++ Rows.cataloguesStaySpec.plain.varTypes Tryz.prog).any (Tryz.prog.ifacesRec ·))) = true := by kernel_rfl
theorem CataloguesStay_jf15 : ((Rows.cataloguesStayRow.mapsOut == Tryz.prog.mapsAmong Tryz.f6.resultTypes.toList)) = true := by kernel_rfl
theorem CataloguesStay_jf16 : ((Rows.cataloguesStayRow.loops == (Tryz.f6.params.toList ++ Rows.cataloguesStaySpec.plain.varTypes Tryz.prog).any (Tryz.prog.loopsFrom ·))) = true := by kernel_rfl
theorem CataloguesStay_jf17 : ((Rows.cataloguesStayRow.wideKeys == (Tryz.f6.params.toList ++ Rows.cataloguesStaySpec.plain.varTypes Tryz.prog ++ Tryz.f6.resultTypes.toList).any (Tryz.prog.wideKeysFrom ·))) = true := by kernel_rfl
theorem CataloguesStay_jf18 : (Rows.cataloguesStaySpec.vars.all (Tryz.prog.varReadable ·)) = true := by kernel_rfl
theorem CataloguesStay_jf19 : (Tryz.f6.resultTypes.all (fun t => Tryz.prog.readableRec t && decide (t < Tryz.prog.types.size))) = true := by kernel_rfl
theorem CataloguesStay_jf20 : ((Rows.cataloguesStayRow.ifacesOut == Tryz.f6.resultTypes.toList.any (Tryz.prog.ifacesRec ·))) = true := by kernel_rfl
theorem CataloguesStay_jf21 : ((Rows.cataloguesStayRow.loopsOut == Tryz.f6.resultTypes.toList.any (Tryz.prog.loopsFrom ·))) = true := by kernel_rfl
theorem CataloguesStay_jf22 : ((Rows.cataloguesStayRow.plainKeys == Tryz.prog.plainKeys)) = true := by kernel_rfl
theorem CataloguesStay_jf23 : (Rows.cataloguesStayRow.shortTexts.isNone) = true := by kernel_rfl
theorem CataloguesStay_jf24 : (Tryz.prog.stopsHeard) = true := by kernel_rfl
theorem CataloguesStay_jf25 : (Tryz.prog.mayEnter) = true := by kernel_rfl
theorem CataloguesStay_jf26 : ((Rows.cataloguesStayRow.lifted == Tryz.prog.liftsFinal)) = true := by kernel_rfl
theorem CataloguesStay_jf27 : ((Tryz.prog.make == some Rows.cataloguesStayRow.make)) = true := by kernel_rfl
theorem CataloguesStay_jf28 : ((Rows.cataloguesStayRow.kinds == (if Rows.cataloguesStayRow.domain.isEmpty then [] else Tryz.f6.params.toList.map fun t => match Tryz.prog.underlying t with | some (.int k) => some k | _ => none))) = true := by kernel_rfl
theorem CataloguesStay_jf29 : ((Rows.cataloguesStayRow.pinned == Rows.cataloguesStayRow.pinnedBy)) = true := by kernel_rfl
theorem CataloguesStay_jf30 : ((Rows.cataloguesStayRow.veiled == (Tryz.f6.params.toList ++ Rows.cataloguesStaySpec.plain.varTypes Tryz.prog ++ Tryz.f6.resultTypes.toList).any (Tryz.prog.veiledRec ·))) = true := by kernel_rfl
theorem CataloguesStay_jf31 : (Rows.cataloguesStayRow.veiledFits Tryz.prog Tryz.f6.params.toList (Tryz.f6.params.toList ++ Rows.cataloguesStaySpec.plain.varTypes Tryz.prog ++ Tryz.f6.resultTypes.toList)) = true := by kernel_rfl
theorem CataloguesStay_hnm : Tryz.prog.funcNamed "reelfeeder/rfkeep1.CataloguesStay" = some 6 := by kernel_rfl
theorem CataloguesStay_hin : Tryz.f6.isInstance Tryz.prog Rows.cataloguesStayRow.origin Rows.cataloguesStayRow.targs := of_decide_eq_true (by kernel_rfl)
theorem CataloguesStay_hwr : Tryz.f6.isWrapper Tryz.prog Rows.cataloguesStayRow.wrapper Rows.cataloguesStayRow.mainSum := by unfold Func.isWrapper; first | (rw [if_pos (by decide +kernel)]; kernel_rfl) | (rw [if_neg (by decide +kernel)]; exact ⟨rfl, rfl⟩)
theorem CataloguesStay_hwf : Rows.cataloguesStayRow.wfByText (OpenSpec.ofChange Rows.cataloguesStaySpec) = true := by kernel_rfl
theorem CataloguesStay_hmi : Tryz.prog.mainIs = some (true, "b85f7799089c2354a7f44af7506ae1647446a96d114aa9fc805fea69fb5bce0a".toList) := by kernel_rfl
theorem CataloguesStay_hlo : true = Tryz.prog.looks [] := by kernel_rfl
theorem CataloguesStay_hst : ([22].all fun u => !Tryz.prog.wantsStandIn u) = true := by kernel_rfl
theorem CataloguesStay_hgo : false = Rows.cataloguesStayRow.goesBy Tryz.prog := by kernel_rfl
end Go.Proofs.YtihgnpobkpnipaaGreatDoor
