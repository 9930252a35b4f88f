/- The card of the law CyclesHaveAllPoints: whatever the input: true. No conditions beyond the row's own. -/
import Derived.Test.YtgcmlhpocbgkaaaGreatDoorRows
import Derived.Test.YtgcmlhpocbgkaaaGreatDoorCards
import Derived.Test.YtgcmlhpocbgkaaaGreatDoorTie
import Derived.Test.YtgcmlhpocbgkaaaGreatDoorFrame
import Derived.Test.YtgcmlhpocbgkaaaGreatDoorCallW
namespace Go.Proofs.YtgcmlhpocbgkaaaGreatDoor
open Go.ChangeShapes Go.WideShapes Go.ChangeAt Go.RowKit

set_option maxRecDepth 100000 in
theorem CyclesHaveAllPoints_lifted (os : Os) (started : os.Started) (H : Type) (enc : TypeId × Value → H) :
    ReturnsInHanded {} Tryz.checked os 8 .any (fun w args => (Rows.cyclesHaveAllPointsSpec.pre enc Tryz.prog Tryz.f8 [] false w args ∧ laidMetH Tryz.prog Rows.cyclesHaveAllPointsRow.laid w) ∧ sizedMet enc Tryz.prog Tryz.f8 (OpenSpec.ofChange Rows.cyclesHaveAllPointsSpec) false w args)
      (Rows.cyclesHaveAllPointsSpec.post enc Tryz.prog Tryz.f8 false true false false) := by
  refine returnsInHanded_of_change_and (C := Tryz.checked) (X := fun w _ => laidMetH Tryz.prog Rows.cyclesHaveAllPointsRow.laid w) (fun _ _ _ hh h => h.of_heap hh) own started (by kernel_rfl) Tryz.func8
    (ChangeSpec.witness_shaped (enc := enc) (C := Tryz.checked) (os := os) (X := fun w _ => laidMetH Tryz.prog Rows.cyclesHaveAllPointsRow.laid w) false (World.laidAll Tryz.prog os Rows.cyclesHaveAllPointsRow.laid) #[.slice none 0 0] 8 (World.laidAll_os _ _ _)
      (World.shaped_of_ZipB (by kernel_rfl) (by kernel_rfl)) (by kernel_rfl) (by kernel_rfl) (by kernel_rfl)
      (by rw [MakeChecks.laidMetH_plain _ _ _ (by kernel_rfl)]; exact laidMet_laidAll _ (by kernel_rfl) (by kernel_rfl))) ?_
  intro W base args ds gs before hval0 hW _ _ hL _
  have hval : ∀ (j : Nat) t v, Tryz.f8.params[j]? = some t → args[j]? = some v → Value.okWide Tryz.prog W .any base t v := hval0
  have hW' := hW
  obtain ⟨p, q, hA0, hV, rfl, hfz, hnd⟩ := hW
  have hA : DataW.TrodAll enc Tryz.prog W 0 (fun _ => true) true Tryz.f8.params.toList args.toList ds p := hA0
  rw [Tryz.params8] at hA hval
  obtain ⟨v0, d0, rfl, rfl, h0⟩ := trodAll_one hA
  obtain ⟨rfl, rfl⟩ := trodVars_none hV
  clear hA0 hval0
  simp only [List.append_nil] at hW'
  have hlt : ∀ x ∈ p, x.block < W.heap.size := fun x hx => by simpa using hW'.lt x hx
  obtain ⟨l, rl, hl⟩ := ints_key (hval 0 22 v0 rfl rfl) h0
  refine (CyclesHaveAllPoints_any l v0 W rl hl).mono fun e W' ⟨he, hb⟩ => ?_
  subst he
  have hargs : ∀ (sp : Nat → Bool), (∀ x ∈ p, sp x.block = true) → DataW.Trod enc Tryz.prog W' 0 sp true 22 v0 d0 p :=
    fun sp hsp => WideElems.Trod_stays laidOut (by kernel_rfl) (of_decide_eq_true (by kernel_rfl)) h0 (fun x hx => hb.same (hlt x hx)) hsp
  exact ⟨_, rfl, post_of_below (pa := p) (pv := []) hW' (fun _ _ _ => trodAll_mk1 (shut_bool Tryz.underlying4 true)) (fun sp hsp => trodAll_mk1 (hargs sp (fun x hx => hsp x hx))) (fun _ _ => rfl) (by simp) hb (ok_one (by kernel_rfl) rfl (okWide_bool_mk Tryz.underlying4 true))⟩

/-! closed facts, each alone (together they outgrow the kernel's memory) -/
theorem CyclesHaveAllPoints_jf0 : (Rows.cyclesHaveAllPointsRow.wf (OpenSpec.ofChange Rows.cyclesHaveAllPointsSpec)) = true := by kernel_rfl
theorem CyclesHaveAllPoints_jf1 : (laidOutB Tryz.prog) = true := by kernel_rfl
theorem CyclesHaveAllPoints_jf2 : (mapsRowed Tryz.prog) = true := by kernel_rfl
theorem CyclesHaveAllPoints_jf3 : (Tryz.f8.params.all (Tryz.prog.readableRec ·)) = true := by kernel_rfl
theorem CyclesHaveAllPoints_jf4 : (namedTie Tryz.prog Rows.cyclesHaveAllPointsRow.named Rows.cyclesHaveAllPointsSpec.vars) = true := by kernel_rfl
theorem CyclesHaveAllPoints_jf5 : ((Rows.cyclesHaveAllPointsRow.stops == [])) = true := by kernel_rfl
theorem CyclesHaveAllPoints_jf6 : ((Tryz.prog.stops == [])) = true := by kernel_rfl
theorem CyclesHaveAllPoints_jf7 : ((Rows.cyclesHaveAllPointsRow.knobs == [])) = true := by kernel_rfl
theorem CyclesHaveAllPoints_jf8 : ((Tryz.prog.stopKnobs == [])) = true := by kernel_rfl
theorem CyclesHaveAllPoints_jf9 : ((Rows.cyclesHaveAllPointsRow.inPlace == Tryz.prog.inPlace 8)) = true := by kernel_rfl
theorem CyclesHaveAllPoints_jf10 : ((Rows.cyclesHaveAllPointsRow.unfollowed == Tryz.prog.unfollowed 8)) = true := by kernel_rfl
theorem CyclesHaveAllPoints_jf11 : ((Rows.cyclesHaveAllPointsRow.recurses == Tryz.prog.recurses 8)) = true := by kernel_rfl
theorem CyclesHaveAllPoints_jf12 : ((Rows.cyclesHaveAllPointsRow.named == Tryz.prog.varsNamed 8)) = true := by kernel_rfl
theorem CyclesHaveAllPoints_jf13 : ((Rows.cyclesHaveAllPointsRow.maps == (Tryz.f8.params.toList ++ Rows.cyclesHaveAllPointsSpec.plain.varTypes Tryz.prog).any (Tryz.prog.mapsRec ·))) = true := by kernel_rfl
theorem CyclesHaveAllPoints_jf14 : ((Rows.cyclesHaveAllPointsRow.ifaces == (Tryz.f8.params.toList ++ Rows.cyclesHaveAllPointsSpec.plain.varTypes Tryz.prog).any (Tryz.prog.ifacesRec ·))) = true := by kernel_rfl
theorem CyclesHaveAllPoints_jf15 : ((Rows.cyclesHaveAllPointsRow.mapsOut == Tryz.prog.mapsAmong Tryz.f8.resultTypes.toList)) = true := by kernel_rfl
theorem CyclesHaveAllPoints_jf16 : ((Rows.cyclesHaveAllPointsRow.loops == (Tryz.f8.params.toList ++ Rows.cyclesHaveAllPointsSpec.plain.varTypes Tryz.prog).any (Tryz.prog.loopsFrom ·))) = true := by kernel_rfl
theorem CyclesHaveAllPoints_jf17 : ((Rows.cyclesHaveAllPointsRow.wideKeys == (Tryz.f8.params.toList ++ Rows.cyclesHaveAllPointsSpec.plain.varTypes Tryz.prog ++ Tryz.f8.resultTypes.toList).any (Tryz.prog.wideKeysFrom ·))) = true := by kernel_rfl
theorem CyclesHaveAllPoints_jf18 : (Rows.cyclesHaveAllPointsSpec.vars.all (Tryz.prog.varReadable ·)) = true := by kernel_rfl
theorem CyclesHaveAllPoints_jf19 : (Tryz.f8.resultTypes.all (fun t => Tryz.prog.readableRec t && decide (t < Tryz.prog.types.size))) = true := by kernel_rfl
theorem CyclesHaveAllPoints_jf20 : ((Rows.cyclesHaveAllPointsRow.ifacesOut == Tryz.f8.resultTypes.toList.any (Tryz.prog.ifacesRec ·))) = true := by kernel_rfl
theorem CyclesHaveAllPoints_jf21 : ((Rows.cyclesHaveAllPointsRow.loopsOut == Tryz.f8.resultTypes.toList.any (Tryz.prog.loopsFrom ·))) = true := by kernel_rfl
theorem CyclesHaveAllPoints_jf22 : ((Rows.cyclesHaveAllPointsRow.plainKeys == Tryz.prog.plainKeys)) = true := by kernel_rfl
theorem CyclesHaveAllPoints_jf23 : (Rows.cyclesHaveAllPointsRow.shortTexts.isNone) = true := by kernel_rfl
theorem CyclesHaveAllPoints_jf24 : (Tryz.prog.stopsHeard) = true := by kernel_rfl
theorem CyclesHaveAllPoints_jf25 : (Tryz.prog.mayEnter) = true := by kernel_rfl
theorem CyclesHaveAllPoints_jf26 : ((Rows.cyclesHaveAllPointsRow.lifted == Tryz.prog.liftsFinal)) = true := by kernel_rfl
theorem CyclesHaveAllPoints_jf27 : ((Tryz.prog.make == some Rows.cyclesHaveAllPointsRow.make)) = true := by kernel_rfl
theorem CyclesHaveAllPoints_jf28 : ((Rows.cyclesHaveAllPointsRow.kinds == (if Rows.cyclesHaveAllPointsRow.domain.isEmpty then [] else Tryz.f8.params.toList.map fun t => match Tryz.prog.underlying t with | some (.int k) => some k | _ => none))) = true := by kernel_rfl
theorem CyclesHaveAllPoints_jf29 : ((Rows.cyclesHaveAllPointsRow.pinned == Rows.cyclesHaveAllPointsRow.pinnedBy)) = true := by kernel_rfl
theorem CyclesHaveAllPoints_jf30 : ((Rows.cyclesHaveAllPointsRow.veiled == (Tryz.f8.params.toList ++ Rows.cyclesHaveAllPointsSpec.plain.varTypes Tryz.prog ++ Tryz.f8.resultTypes.toList).any (Tryz.prog.veiledRec ·))) = true := by kernel_rfl
theorem CyclesHaveAllPoints_jf31 : (Rows.cyclesHaveAllPointsRow.veiledFits Tryz.prog Tryz.f8.params.toList (Tryz.f8.params.toList ++ Rows.cyclesHaveAllPointsSpec.plain.varTypes Tryz.prog ++ Tryz.f8.resultTypes.toList)) = true := by kernel_rfl
theorem CyclesHaveAllPoints_hnm : Tryz.prog.funcNamed "reelfeeder/rfkeep1.CyclesHaveAllPoints" = some 8 := by kernel_rfl
theorem CyclesHaveAllPoints_hin : Tryz.f8.isInstance Tryz.prog Rows.cyclesHaveAllPointsRow.origin Rows.cyclesHaveAllPointsRow.targs := of_decide_eq_true (by kernel_rfl)
theorem CyclesHaveAllPoints_hwr : Tryz.f8.isWrapper Tryz.prog Rows.cyclesHaveAllPointsRow.wrapper Rows.cyclesHaveAllPointsRow.mainSum := by unfold Func.isWrapper; first | (rw [if_pos (by decide +kernel)]; kernel_rfl) | (rw [if_neg (by decide +kernel)]; exact ⟨rfl, rfl⟩)
theorem CyclesHaveAllPoints_hwf : Rows.cyclesHaveAllPointsRow.wfByText (OpenSpec.ofChange Rows.cyclesHaveAllPointsSpec) = true := by kernel_rfl
theorem CyclesHaveAllPoints_hmi : Tryz.prog.mainIs = some (true, "717bef4992ae00988c64eb045860e6c64a43fa6255acf3d6f75714a09c04f315".toList) := by kernel_rfl
theorem CyclesHaveAllPoints_hlo : true = Tryz.prog.looks [] := by kernel_rfl
theorem CyclesHaveAllPoints_hst : ([22].all fun u => !Tryz.prog.wantsStandIn u) = true := by kernel_rfl
theorem CyclesHaveAllPoints_hgo : false = Rows.cyclesHaveAllPointsRow.goesBy Tryz.prog := by kernel_rfl
end Go.Proofs.YtgcmlhpocbgkaaaGreatDoor
