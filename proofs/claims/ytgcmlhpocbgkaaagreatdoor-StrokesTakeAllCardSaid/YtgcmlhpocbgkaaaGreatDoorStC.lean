/- The card of the law StrokesTakeAll: whatever the input: true. No conditions beyond the row's own. -/
import Derived.Test.YtgcmlhpocbgkaaaGreatDoorRows
import Derived.Test.YtgcmlhpocbgkaaaGreatDoorCards
import Derived.Test.YtgcmlhpocbgkaaaGreatDoorTie
import Derived.Test.YtgcmlhpocbgkaaaGreatDoorFrame
import Derived.Test.YtgcmlhpocbgkaaaGreatDoorStW
namespace Go.Proofs.YtgcmlhpocbgkaaaGreatDoor
open Go.ChangeShapes Go.WideShapes Go.ChangeAt Go.RowKit

set_option maxRecDepth 100000 in
theorem StrokesTakeAll_lifted (os : Os) (started : os.Started) (H : Type) (enc : TypeId × Value → H) :
    ReturnsInHanded {} Tryz.checked os 5 .any (fun w args => (Rows.strokesTakeAllSpec.pre enc Tryz.prog Tryz.f5 [] false w args ∧ laidMetH Tryz.prog Rows.strokesTakeAllRow.laid w) ∧ sizedMet enc Tryz.prog Tryz.f5 (OpenSpec.ofChange Rows.strokesTakeAllSpec) false w args)
      (Rows.strokesTakeAllSpec.post enc Tryz.prog Tryz.f5 false true false false) := by
  refine returnsInHanded_of_change_and (C := Tryz.checked) (X := fun w _ => laidMetH Tryz.prog Rows.strokesTakeAllRow.laid w) (fun _ _ _ hh h => h.of_heap hh) own started (by kernel_rfl) Tryz.func5
    (ChangeSpec.witness_shaped (enc := enc) (C := Tryz.checked) (os := os) (X := fun w _ => laidMetH Tryz.prog Rows.strokesTakeAllRow.laid w) false (World.laidAll Tryz.prog os Rows.strokesTakeAllRow.laid) #[.slice none 0 0] 8 (World.laidAll_os _ _ _)
      (World.shaped_of_ZipB (by kernel_rfl) (by kernel_rfl)) (by kernel_rfl) (by kernel_rfl) (by kernel_rfl)
      (by rw [MakeChecks.laidMetH_plain _ _ _ (by kernel_rfl)]; exact laidMet_laidAll _ (by kernel_rfl) (by kernel_rfl))) ?_
  intro W base args ds gs before hval0 hW _ _ hL _
  have hval : ∀ (j : Nat) t v, Tryz.f5.params[j]? = some t → args[j]? = some v → Value.okWide Tryz.prog W .any base t v := hval0
  have hW' := hW
  obtain ⟨p, q, hA0, hV, rfl, hfz, hnd⟩ := hW
  have hA : DataW.TrodAll enc Tryz.prog W 0 (fun _ => true) true Tryz.f5.params.toList args.toList ds p := hA0
  rw [Tryz.params5] at hA hval
  obtain ⟨v0, d0, rfl, rfl, h0⟩ := trodAll_one hA
  obtain ⟨rfl, rfl⟩ := trodVars_none hV
  clear hA0 hval0
  simp only [List.append_nil] at hW'
  have hlt : ∀ x ∈ p, x.block < W.heap.size := fun x hx => by simpa using hW'.lt x hx
  obtain ⟨l, rl, hl⟩ := ints_key (hval 0 22 v0 rfl rfl) h0
  refine (StrokesTakeAll_any l v0 W rl hl).mono fun e W' ⟨he, hb⟩ => ?_
  subst he
  have hargs : ∀ (sp : Nat → Bool), (∀ x ∈ p, sp x.block = true) → DataW.Trod enc Tryz.prog W' 0 sp true 22 v0 d0 p :=
    fun sp hsp => WideElems.Trod_stays laidOut (by kernel_rfl) (of_decide_eq_true (by kernel_rfl)) h0 (fun x hx => hb.same (hlt x hx)) hsp
  exact ⟨_, rfl, post_of_below (pa := p) (pv := []) hW' (fun _ _ _ => trodAll_mk1 (shut_bool Tryz.underlying4 true)) (fun sp hsp => trodAll_mk1 (hargs sp (fun x hx => hsp x hx))) (fun _ _ => rfl) (by simp) hb (ok_one (by kernel_rfl) rfl (okWide_bool_mk Tryz.underlying4 true))⟩

/-! closed facts, each alone (together they outgrow the kernel's memory) -/
theorem StrokesTakeAll_jf0 : (Rows.strokesTakeAllRow.wf (OpenSpec.ofChange Rows.strokesTakeAllSpec)) = true := by kernel_rfl
theorem StrokesTakeAll_jf1 : (laidOutB Tryz.prog) = true := by kernel_rfl
theorem StrokesTakeAll_jf2 : (mapsRowed Tryz.prog) = true := by kernel_rfl
theorem StrokesTakeAll_jf3 : (Tryz.f5.params.all (Tryz.prog.readableRec ·)) = true := by kernel_rfl
theorem StrokesTakeAll_jf4 : (namedTie Tryz.prog Rows.strokesTakeAllRow.named Rows.strokesTakeAllSpec.vars) = true := by kernel_rfl
theorem StrokesTakeAll_jf5 : ((Rows.strokesTakeAllRow.stops == [])) = true := by kernel_rfl
theorem StrokesTakeAll_jf6 : ((Tryz.prog.stops == [])) = true := by kernel_rfl
theorem StrokesTakeAll_jf7 : ((Rows.strokesTakeAllRow.knobs == [])) = true := by kernel_rfl
theorem StrokesTakeAll_jf8 : ((Tryz.prog.stopKnobs == [])) = true := by kernel_rfl
theorem StrokesTakeAll_jf9 : ((Rows.strokesTakeAllRow.inPlace == Tryz.prog.inPlace 5)) = true := by kernel_rfl
theorem StrokesTakeAll_jf10 : ((Rows.strokesTakeAllRow.unfollowed == Tryz.prog.unfollowed 5)) = true := by kernel_rfl
theorem StrokesTakeAll_jf11 : ((Rows.strokesTakeAllRow.recurses == Tryz.prog.recurses 5)) = true := by kernel_rfl
theorem StrokesTakeAll_jf12 : ((Rows.strokesTakeAllRow.named == Tryz.prog.varsNamed 5)) = true := by kernel_rfl
theorem StrokesTakeAll_jf13 : ((Rows.strokesTakeAllRow.maps == (Tryz.f5.params.toList ++ Rows.strokesTakeAllSpec.plain.varTypes Tryz.prog).any (Tryz.prog.mapsRec ·))) = true := by kernel_rfl
theorem StrokesTakeAll_jf14 : ((Rows.strokesTakeAllRow.ifaces == (Tryz.f5.params.toList ++ Rows.strokesTakeAllSpec.plain.varTypes Tryz.prog).any (Tryz.prog.ifacesRec ·))) = true := by kernel_rfl
theorem StrokesTakeAll_jf15 : ((Rows.strokesTakeAllRow.mapsOut == Tryz.prog.mapsAmong Tryz.f5.resultTypes.toList)) = true := by kernel_rfl
theorem StrokesTakeAll_jf16 : ((Rows.strokesTakeAllRow.loops == (Tryz.f5.params.toList ++ Rows.strokesTakeAllSpec.plain.varTypes Tryz.prog).any (Tryz.prog.loopsFrom ·))) = true := by kernel_rfl
theorem StrokesTakeAll_jf17 : ((Rows.strokesTakeAllRow.wideKeys == (Tryz.f5.params.toList ++ Rows.strokesTakeAllSpec.plain.varTypes Tryz.prog ++ Tryz.f5.resultTypes.toList).any (Tryz.prog.wideKeysFrom ·))) = true := by kernel_rfl
theorem StrokesTakeAll_jf18 : (Rows.strokesTakeAllSpec.vars.all (Tryz.prog.varReadable ·)) = true := by kernel_rfl
theorem StrokesTakeAll_jf19 : (Tryz.f5.resultTypes.all (fun t => Tryz.prog.readableRec t && decide (t < Tryz.prog.types.size))) = true := by kernel_rfl
theorem StrokesTakeAll_jf20 : ((Rows.strokesTakeAllRow.ifacesOut == Tryz.f5.resultTypes.toList.any (Tryz.prog.ifacesRec ·))) = true := by kernel_rfl
theorem StrokesTakeAll_jf21 : ((Rows.strokesTakeAllRow.loopsOut == Tryz.f5.resultTypes.toList.any (Tryz.prog.loopsFrom ·))) = true := by kernel_rfl
theorem StrokesTakeAll_jf22 : ((Rows.strokesTakeAllRow.plainKeys == Tryz.prog.plainKeys)) = true := by kernel_rfl
theorem StrokesTakeAll_jf23 : (Rows.strokesTakeAllRow.shortTexts.isNone) = true := by kernel_rfl
theorem StrokesTakeAll_jf24 : (Tryz.prog.stopsHeard) = true := by kernel_rfl
theorem StrokesTakeAll_jf25 : (Tryz.prog.mayEnter) = true := by kernel_rfl
theorem StrokesTakeAll_jf26 : ((Rows.strokesTakeAllRow.lifted == Tryz.prog.liftsFinal)) = true := by kernel_rfl
theorem StrokesTakeAll_jf27 : ((Tryz.prog.make == some Rows.strokesTakeAllRow.make)) = true := by kernel_rfl
theorem StrokesTakeAll_jf28 : ((Rows.strokesTakeAllRow.kinds == (if Rows.strokesTakeAllRow.domain.isEmpty then [] else Tryz.f5.params.toList.map fun t => match Tryz.prog.underlying t with | some (.int k) => some k | _ => none))) = true := by kernel_rfl
theorem StrokesTakeAll_jf29 : ((Rows.strokesTakeAllRow.pinned == Rows.strokesTakeAllRow.pinnedBy)) = true := by kernel_rfl
theorem StrokesTakeAll_jf30 : ((Rows.strokesTakeAllRow.veiled == (Tryz.f5.params.toList ++ Rows.strokesTakeAllSpec.plain.varTypes Tryz.prog ++ Tryz.f5.resultTypes.toList).any (Tryz.prog.veiledRec ·))) = true := by kernel_rfl
theorem StrokesTakeAll_jf31 : (Rows.strokesTakeAllRow.veiledFits Tryz.prog Tryz.f5.params.toList (Tryz.f5.params.toList ++ Rows.strokesTakeAllSpec.plain.varTypes Tryz.prog ++ Tryz.f5.resultTypes.toList)) = true := by kernel_rfl
theorem StrokesTakeAll_hnm : Tryz.prog.funcNamed "reelfeeder/rfkeep1.StrokesTakeAll" = some 5 := by kernel_rfl
theorem StrokesTakeAll_hin : Tryz.f5.isInstance Tryz.prog Rows.strokesTakeAllRow.origin Rows.strokesTakeAllRow.targs := of_decide_eq_true (by kernel_rfl)
theorem StrokesTakeAll_hwr : Tryz.f5.isWrapper Tryz.prog Rows.strokesTakeAllRow.wrapper Rows.strokesTakeAllRow.mainSum := by unfold Func.isWrapper; first | (rw [if_pos (by decide +kernel)]; kernel_rfl) | (rw [if_neg (by decide +kernel)]; exact ⟨rfl, rfl⟩)
theorem StrokesTakeAll_hwf : Rows.strokesTakeAllRow.wfByText (OpenSpec.ofChange Rows.strokesTakeAllSpec) = true := by kernel_rfl
theorem StrokesTakeAll_hmi : Tryz.prog.mainIs = some (true, "717bef4992ae00988c64eb045860e6c64a43fa6255acf3d6f75714a09c04f315".toList) := by kernel_rfl
theorem StrokesTakeAll_hlo : true = Tryz.prog.looks [] := by kernel_rfl
theorem StrokesTakeAll_hst : ([22].all fun u => !Tryz.prog.wantsStandIn u) = true := by kernel_rfl
theorem StrokesTakeAll_hgo : false = Rows.strokesTakeAllRow.goesBy Tryz.prog := by kernel_rfl
end Go.Proofs.YtgcmlhpocbgkaaaGreatDoor
