/- The card of the law ExposureGrowsOnTheFloorAlone: whatever the input: true. No conditions beyond the row's own. -/
import Derived.Test.YtpfichbhhpnioaaGreatDoorRows
import Derived.Test.YtpfichbhhpnioaaGreatDoorCards
import Derived.Test.YtpfichbhhpnioaaGreatDoorTie
import Derived.Test.YtpfichbhhpnioaaGreatDoorFrame
import Derived.Test.YtpfichbhhpnioaaGreatDoorLGrowW
namespace Go.Proofs.YtpfichbhhpnioaaGreatDoor
open Go.ChangeShapes Go.WideShapes Go.ChangeAt Go.RowKit

set_option maxRecDepth 100000 in
theorem ExposureGrowsOnTheFloorAlone_lifted (os : Os) (started : os.Started) (H : Type) (enc : TypeId × Value → H) :
    ReturnsInHanded {} Tryz.checked os 3 .any (fun w args => (Rows.exposureGrowsOnTheFloorAloneSpec.pre enc Tryz.prog Tryz.f3 [] false w args ∧ laidMetH Tryz.prog Rows.exposureGrowsOnTheFloorAloneRow.laid w) ∧ sizedMet enc Tryz.prog Tryz.f3 (OpenSpec.ofChange Rows.exposureGrowsOnTheFloorAloneSpec) false w args)
      (Rows.exposureGrowsOnTheFloorAloneSpec.post enc Tryz.prog Tryz.f3 false true false false) := by
  refine returnsInHanded_of_change_and (C := Tryz.checked) (X := fun w _ => laidMetH Tryz.prog Rows.exposureGrowsOnTheFloorAloneRow.laid w) (fun _ _ _ hh h => h.of_heap hh) own started (by kernel_rfl) Tryz.func3
    (ChangeSpec.witness_shaped (enc := enc) (C := Tryz.checked) (os := os) (X := fun w _ => laidMetH Tryz.prog Rows.exposureGrowsOnTheFloorAloneRow.laid w) false (World.laidAll Tryz.prog os Rows.exposureGrowsOnTheFloorAloneRow.laid) #[.slice none 0 0] 8 (World.laidAll_os _ _ _)
      (World.shaped_of_ZipB (by kernel_rfl) (by kernel_rfl)) (by kernel_rfl) (by kernel_rfl) (by kernel_rfl)
      (by rw [MakeChecks.laidMetH_plain _ _ _ (by kernel_rfl)]; exact laidMet_laidAll _ (by kernel_rfl) (by kernel_rfl))) ?_
  intro W base args ds gs before hval0 hW _ _ hL _
  have hval : ∀ (j : Nat) t v, Tryz.f3.params[j]? = some t → args[j]? = some v → Value.okWide Tryz.prog W .any base t v := hval0
  have hW' := hW
  obtain ⟨p, q, hA0, hV, rfl, hfz, hnd⟩ := hW
  have hA : DataW.TrodAll enc Tryz.prog W 0 (fun _ => true) true Tryz.f3.params.toList args.toList ds p := hA0
  rw [Tryz.params3] at hA hval
  obtain ⟨v0, d0, rfl, rfl, h0⟩ := trodAll_one hA
  obtain ⟨rfl, rfl⟩ := trodVars_none hV
  clear hA0 hval0
  simp only [List.append_nil] at hW'
  have hlt : ∀ x ∈ p, x.block < W.heap.size := fun x hx => by simpa using hW'.lt x hx
  obtain ⟨l, rl, hl⟩ := ints_key (hval 0 22 v0 rfl rfl) h0
  refine (ExposureGrowsOnTheFloorAlone_any l v0 W rl hl).mono fun e W' ⟨he, hb⟩ => ?_
  subst he
  have hargs : ∀ (sp : Nat → Bool), (∀ x ∈ p, sp x.block = true) → DataW.Trod enc Tryz.prog W' 0 sp true 22 v0 d0 p :=
    fun sp hsp => WideElems.Trod_stays laidOut (by kernel_rfl) (of_decide_eq_true (by kernel_rfl)) h0 (fun x hx => hb.same (hlt x hx)) hsp
  exact ⟨_, rfl, post_of_below (pa := p) (pv := []) hW' (fun _ _ _ => trodAll_mk1 (shut_bool Tryz.underlying4 true)) (fun sp hsp => trodAll_mk1 (hargs sp (fun x hx => hsp x hx))) (fun _ _ => rfl) (by simp) hb (ok_one (by kernel_rfl) rfl (okWide_bool_mk Tryz.underlying4 true))⟩

/-! closed facts, each alone (together they outgrow the kernel's memory) -/
theorem ExposureGrowsOnTheFloorAlone_jf0 : (Rows.exposureGrowsOnTheFloorAloneRow.wf (OpenSpec.ofChange Rows.exposureGrowsOnTheFloorAloneSpec)) = true := by kernel_rfl
theorem ExposureGrowsOnTheFloorAlone_jf1 : (laidOutB Tryz.prog) = true := by kernel_rfl
theorem ExposureGrowsOnTheFloorAlone_jf2 : (mapsRowed Tryz.prog) = true := by kernel_rfl
theorem ExposureGrowsOnTheFloorAlone_jf3 : (Tryz.f3.params.all (Tryz.prog.readableRec ·)) = true := by kernel_rfl
theorem ExposureGrowsOnTheFloorAlone_jf4 : (namedTie Tryz.prog Rows.exposureGrowsOnTheFloorAloneRow.named Rows.exposureGrowsOnTheFloorAloneSpec.vars) = true := by kernel_rfl
theorem ExposureGrowsOnTheFloorAlone_jf5 : ((Rows.exposureGrowsOnTheFloorAloneRow.stops == [])) = true := by kernel_rfl
theorem ExposureGrowsOnTheFloorAlone_jf6 : ((Tryz.prog.stops == [])) = true := by kernel_rfl
theorem ExposureGrowsOnTheFloorAlone_jf7 : ((Rows.exposureGrowsOnTheFloorAloneRow.knobs == [])) = true := by kernel_rfl
theorem ExposureGrowsOnTheFloorAlone_jf8 : ((Tryz.prog.stopKnobs == [])) = true := by kernel_rfl
theorem ExposureGrowsOnTheFloorAlone_jf9 : ((Rows.exposureGrowsOnTheFloorAloneRow.inPlace == Tryz.prog.inPlace 3)) = true := by kernel_rfl
theorem ExposureGrowsOnTheFloorAlone_jf10 : ((Rows.exposureGrowsOnTheFloorAloneRow.unfollowed == Tryz.prog.unfollowed 3)) = true := by kernel_rfl
theorem ExposureGrowsOnTheFloorAlone_jf11 : ((Rows.exposureGrowsOnTheFloorAloneRow.recurses == Tryz.prog.recurses 3)) = true := by kernel_rfl
theorem ExposureGrowsOnTheFloorAlone_jf12 : ((Rows.exposureGrowsOnTheFloorAloneRow.named == Tryz.prog.varsNamed 3)) = true := by kernel_rfl
theorem ExposureGrowsOnTheFloorAlone_jf13 : ((Rows.exposureGrowsOnTheFloorAloneRow.maps == (Tryz.f3.params.toList ++ Rows.exposureGrowsOnTheFloorAloneSpec.plain.varTypes Tryz.prog).any (Tryz.prog.mapsRec ·))) = true := by kernel_rfl
theorem ExposureGrowsOnTheFloorAlone_jf14 : ((Rows.exposureGrowsOnTheFloorAloneRow.ifaces == (Tryz.f3.params.toList ++ Rows.exposureGrowsOnTheFloorAloneSpec.plain.varTypes Tryz.prog).any (Tryz.prog.ifacesRec ·))) = true := by kernel_rfl
theorem ExposureGrowsOnTheFloorAlone_jf15 : ((Rows.exposureGrowsOnTheFloorAloneRow.mapsOut == Tryz.prog.mapsAmong Tryz.f3.resultTypes.toList)) = true := by kernel_rfl
theorem ExposureGrowsOnTheFloorAlone_jf16 : ((Rows.exposureGrowsOnTheFloorAloneRow.loops == (Tryz.f3.params.toList ++ Rows.exposureGrowsOnTheFloorAloneSpec.plain.varTypes Tryz.prog).any (Tryz.prog.loopsFrom ·))) = true := by kernel_rfl
theorem ExposureGrowsOnTheFloorAlone_jf17 : ((Rows.exposureGrowsOnTheFloorAloneRow.wideKeys == (Tryz.f3.params.toList ++ Rows.exposureGrowsOnTheFloorAloneSpec.plain.varTypes Tryz.prog ++ Tryz.f3.resultTypes.toList).any (Tryz.prog.wideKeysFrom ·))) = true := by kernel_rfl
theorem ExposureGrowsOnTheFloorAlone_jf18 : (Rows.exposureGrowsOnTheFloorAloneSpec.vars.all (Tryz.prog.varReadable ·)) = true := by kernel_rfl
theorem ExposureGrowsOnTheFloorAlone_jf19 : (Tryz.f3.resultTypes.all (fun t => Tryz.prog.readableRec t && decide (t < Tryz.prog.types.size))) = true := by kernel_rfl
theorem ExposureGrowsOnTheFloorAlone_jf20 : ((Rows.exposureGrowsOnTheFloorAloneRow.ifacesOut == Tryz.f3.resultTypes.toList.any (Tryz.prog.ifacesRec ·))) = true := by kernel_rfl
theorem ExposureGrowsOnTheFloorAlone_jf21 : ((Rows.exposureGrowsOnTheFloorAloneRow.loopsOut == Tryz.f3.resultTypes.toList.any (Tryz.prog.loopsFrom ·))) = true := by kernel_rfl
theorem ExposureGrowsOnTheFloorAlone_jf22 : ((Rows.exposureGrowsOnTheFloorAloneRow.plainKeys == Tryz.prog.plainKeys)) = true := by kernel_rfl
theorem ExposureGrowsOnTheFloorAlone_jf23 : (Rows.exposureGrowsOnTheFloorAloneRow.shortTexts.isNone) = true := by kernel_rfl
theorem ExposureGrowsOnTheFloorAlone_jf24 : (Tryz.prog.stopsHeard) = true := by kernel_rfl
theorem ExposureGrowsOnTheFloorAlone_jf25 : (Tryz.prog.mayEnter) = true := by kernel_rfl
theorem ExposureGrowsOnTheFloorAlone_jf26 : ((Rows.exposureGrowsOnTheFloorAloneRow.lifted == Tryz.prog.liftsFinal)) = true := by kernel_rfl
theorem ExposureGrowsOnTheFloorAlone_jf27 : ((Tryz.prog.make == some Rows.exposureGrowsOnTheFloorAloneRow.make)) = true := by kernel_rfl
theorem ExposureGrowsOnTheFloorAlone_jf28 : ((Rows.exposureGrowsOnTheFloorAloneRow.kinds == (if Rows.exposureGrowsOnTheFloorAloneRow.domain.isEmpty then [] else Tryz.f3.params.toList.map fun t => match Tryz.prog.underlying t with | some (.int k) => some k | _ => none))) = true := by kernel_rfl
theorem ExposureGrowsOnTheFloorAlone_jf29 : ((Rows.exposureGrowsOnTheFloorAloneRow.pinned == Rows.exposureGrowsOnTheFloorAloneRow.pinnedBy)) = true := by kernel_rfl
theorem ExposureGrowsOnTheFloorAlone_jf30 : ((Rows.exposureGrowsOnTheFloorAloneRow.veiled == (Tryz.f3.params.toList ++ Rows.exposureGrowsOnTheFloorAloneSpec.plain.varTypes Tryz.prog ++ Tryz.f3.resultTypes.toList).any (Tryz.prog.veiledRec ·))) = true := by kernel_rfl
theorem ExposureGrowsOnTheFloorAlone_jf31 : (Rows.exposureGrowsOnTheFloorAloneRow.veiledFits Tryz.prog Tryz.f3.params.toList (Tryz.f3.params.toList ++ Rows.exposureGrowsOnTheFloorAloneSpec.plain.varTypes Tryz.prog ++ Tryz.f3.resultTypes.toList)) = true := by kernel_rfl
theorem ExposureGrowsOnTheFloorAlone_hnm : Tryz.prog.funcNamed "reelfeeder/rfkeep1.ExposureGrowsOnTheFloorAlone" = some 3 := by kernel_rfl
theorem ExposureGrowsOnTheFloorAlone_hin : Tryz.f3.isInstance Tryz.prog Rows.exposureGrowsOnTheFloorAloneRow.origin Rows.exposureGrowsOnTheFloorAloneRow.targs := of_decide_eq_true (by kernel_rfl)
theorem ExposureGrowsOnTheFloorAlone_hwr : Tryz.f3.isWrapper Tryz.prog Rows.exposureGrowsOnTheFloorAloneRow.wrapper Rows.exposureGrowsOnTheFloorAloneRow.mainSum := by unfold Func.isWrapper; first | (rw [if_pos (by decide +kernel)]; kernel_rfl) | (rw [if_neg (by decide +kernel)]; exact ⟨rfl, rfl⟩)
theorem ExposureGrowsOnTheFloorAlone_hwf : Rows.exposureGrowsOnTheFloorAloneRow.wfByText (OpenSpec.ofChange Rows.exposureGrowsOnTheFloorAloneSpec) = true := by kernel_rfl
theorem ExposureGrowsOnTheFloorAlone_hmi : Tryz.prog.mainIs = some (true, "3db9f3ee98a5e3b4d0eee479284a86ab7717c2380edf4a541db8152c7b801968".toList) := by kernel_rfl
theorem ExposureGrowsOnTheFloorAlone_hlo : true = Tryz.prog.looks [] := by kernel_rfl
theorem ExposureGrowsOnTheFloorAlone_hst : ([22].all fun u => !Tryz.prog.wantsStandIn u) = true := by kernel_rfl
theorem ExposureGrowsOnTheFloorAlone_hgo : false = Rows.exposureGrowsOnTheFloorAloneRow.goesBy Tryz.prog := by kernel_rfl
end Go.Proofs.YtpfichbhhpnioaaGreatDoor
