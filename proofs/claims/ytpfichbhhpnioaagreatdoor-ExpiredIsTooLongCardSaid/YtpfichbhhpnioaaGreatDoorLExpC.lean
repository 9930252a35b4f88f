/- The card of the law ExpiredIsTooLong: whatever the input: true. No conditions beyond the row's own. -/
import Derived.Test.YtpfichbhhpnioaaGreatDoorRows
import Derived.Test.YtpfichbhhpnioaaGreatDoorCards
import Derived.Test.YtpfichbhhpnioaaGreatDoorTie
import Derived.Test.YtpfichbhhpnioaaGreatDoorFrame
import Derived.Test.YtpfichbhhpnioaaGreatDoorLExpW
namespace Go.Proofs.YtpfichbhhpnioaaGreatDoor
open Go.ChangeShapes Go.WideShapes Go.ChangeAt Go.RowKit

set_option maxRecDepth 100000 in
theorem ExpiredIsTooLong_lifted (os : Os) (started : os.Started) (H : Type) (enc : TypeId × Value → H) :
    ReturnsInHanded {} Tryz.checked os 4 .any (fun w args => (Rows.expiredIsTooLongSpec.pre enc Tryz.prog Tryz.f4 [] false w args ∧ laidMetH Tryz.prog Rows.expiredIsTooLongRow.laid w) ∧ sizedMet enc Tryz.prog Tryz.f4 (OpenSpec.ofChange Rows.expiredIsTooLongSpec) false w args)
      (Rows.expiredIsTooLongSpec.post enc Tryz.prog Tryz.f4 false true false false) := by
  refine returnsInHanded_of_change_and (C := Tryz.checked) (X := fun w _ => laidMetH Tryz.prog Rows.expiredIsTooLongRow.laid w) (fun _ _ _ hh h => h.of_heap hh) own started (by kernel_rfl) Tryz.func4
    (ChangeSpec.witness_shaped (enc := enc) (C := Tryz.checked) (os := os) (X := fun w _ => laidMetH Tryz.prog Rows.expiredIsTooLongRow.laid w) false (World.laidAll Tryz.prog os Rows.expiredIsTooLongRow.laid) #[.slice none 0 0] 8 (World.laidAll_os _ _ _)
      (World.shaped_of_ZipB (by kernel_rfl) (by kernel_rfl)) (by kernel_rfl) (by kernel_rfl) (by kernel_rfl)
      (by rw [MakeChecks.laidMetH_plain _ _ _ (by kernel_rfl)]; exact laidMet_laidAll _ (by kernel_rfl) (by kernel_rfl))) ?_
  intro W base args ds gs before hval0 hW _ _ hL _
  have hval : ∀ (j : Nat) t v, Tryz.f4.params[j]? = some t → args[j]? = some v → Value.okWide Tryz.prog W .any base t v := hval0
  have hW' := hW
  obtain ⟨p, q, hA0, hV, rfl, hfz, hnd⟩ := hW
  have hA : DataW.TrodAll enc Tryz.prog W 0 (fun _ => true) true Tryz.f4.params.toList args.toList ds p := hA0
  rw [Tryz.params4] at hA hval
  obtain ⟨v0, d0, rfl, rfl, h0⟩ := trodAll_one hA
  obtain ⟨rfl, rfl⟩ := trodVars_none hV
  clear hA0 hval0
  simp only [List.append_nil] at hW'
  have hlt : ∀ x ∈ p, x.block < W.heap.size := fun x hx => by simpa using hW'.lt x hx
  obtain ⟨l, rl, hl⟩ := ints_key (hval 0 22 v0 rfl rfl) h0
  refine (ExpiredIsTooLong_any l v0 W rl hl).mono fun e W' ⟨he, hb⟩ => ?_
  subst he
  have hargs : ∀ (sp : Nat → Bool), (∀ x ∈ p, sp x.block = true) → DataW.Trod enc Tryz.prog W' 0 sp true 22 v0 d0 p :=
    fun sp hsp => WideElems.Trod_stays laidOut (by kernel_rfl) (of_decide_eq_true (by kernel_rfl)) h0 (fun x hx => hb.same (hlt x hx)) hsp
  exact ⟨_, rfl, post_of_below (pa := p) (pv := []) hW' (fun _ _ _ => trodAll_mk1 (shut_bool Tryz.underlying4 true)) (fun sp hsp => trodAll_mk1 (hargs sp (fun x hx => hsp x hx))) (fun _ _ => rfl) (by simp) hb (ok_one (by kernel_rfl) rfl (okWide_bool_mk Tryz.underlying4 true))⟩

/-! closed facts, each alone (together they outgrow the kernel's memory) -/
theorem ExpiredIsTooLong_jf0 : (Rows.expiredIsTooLongRow.wf (OpenSpec.ofChange Rows.expiredIsTooLongSpec)) = true := by kernel_rfl
theorem ExpiredIsTooLong_jf1 : (laidOutB Tryz.prog) = true := by kernel_rfl
theorem ExpiredIsTooLong_jf2 : (mapsRowed Tryz.prog) = true := by kernel_rfl
theorem ExpiredIsTooLong_jf3 : (Tryz.f4.params.all (Tryz.prog.readableRec ·)) = true := by kernel_rfl
theorem ExpiredIsTooLong_jf4 : (namedTie Tryz.prog Rows.expiredIsTooLongRow.named Rows.expiredIsTooLongSpec.vars) = true := by kernel_rfl
theorem ExpiredIsTooLong_jf5 : ((Rows.expiredIsTooLongRow.stops == [])) = true := by kernel_rfl
theorem ExpiredIsTooLong_jf6 : ((Tryz.prog.stops == [])) = true := by kernel_rfl
theorem ExpiredIsTooLong_jf7 : ((Rows.expiredIsTooLongRow.knobs == [])) = true := by kernel_rfl
theorem ExpiredIsTooLong_jf8 : ((Tryz.prog.stopKnobs == [])) = true := by kernel_rfl
theorem ExpiredIsTooLong_jf9 : ((Rows.expiredIsTooLongRow.inPlace == Tryz.prog.inPlace 4)) = true := by kernel_rfl
theorem ExpiredIsTooLong_jf10 : ((Rows.expiredIsTooLongRow.unfollowed == Tryz.prog.unfollowed 4)) = true := by kernel_rfl
theorem ExpiredIsTooLong_jf11 : ((Rows.expiredIsTooLongRow.recurses == Tryz.prog.recurses 4)) = true := by kernel_rfl
theorem ExpiredIsTooLong_jf12 : ((Rows.expiredIsTooLongRow.named == Tryz.prog.varsNamed 4)) = true := by kernel_rfl
theorem ExpiredIsTooLong_jf13 : ((Rows.expiredIsTooLongRow.maps == (Tryz.f4.params.toList ++ Rows.expiredIsTooLongSpec.plain.varTypes Tryz.prog).any (Tryz.prog.mapsRec ·))) = true := by kernel_rfl
theorem ExpiredIsTooLong_jf14 : ((Rows.expiredIsTooLongRow.ifaces == (Tryz.f4.params.toList ++ Rows.expiredIsTooLongSpec.plain.varTypes Tryz.prog).any (Tryz.prog.ifacesRec ·))) = true := by kernel_rfl
theorem ExpiredIsTooLong_jf15 : ((Rows.expiredIsTooLongRow.mapsOut == Tryz.prog.mapsAmong Tryz.f4.resultTypes.toList)) = true := by kernel_rfl
theorem ExpiredIsTooLong_jf16 : ((Rows.expiredIsTooLongRow.loops == (Tryz.f4.params.toList ++ Rows.expiredIsTooLongSpec.plain.varTypes Tryz.prog).any (Tryz.prog.loopsFrom ·))) = true := by kernel_rfl
theorem ExpiredIsTooLong_jf17 : ((Rows.expiredIsTooLongRow.wideKeys == (Tryz.f4.params.toList ++ Rows.expiredIsTooLongSpec.plain.varTypes Tryz.prog ++ Tryz.f4.resultTypes.toList).any (Tryz.prog.wideKeysFrom ·))) = true := by kernel_rfl
theorem ExpiredIsTooLong_jf18 : (Rows.expiredIsTooLongSpec.vars.all (Tryz.prog.varReadable ·)) = true := by kernel_rfl
theorem ExpiredIsTooLong_jf19 : (Tryz.f4.resultTypes.all (fun t => Tryz.prog.readableRec t && decide (t < Tryz.prog.types.size))) = true := by kernel_rfl
theorem ExpiredIsTooLong_jf20 : ((Rows.expiredIsTooLongRow.ifacesOut == Tryz.f4.resultTypes.toList.any (Tryz.prog.ifacesRec ·))) = true := by kernel_rfl
theorem ExpiredIsTooLong_jf21 : ((Rows.expiredIsTooLongRow.loopsOut == Tryz.f4.resultTypes.toList.any (Tryz.prog.loopsFrom ·))) = true := by kernel_rfl
theorem ExpiredIsTooLong_jf22 : ((Rows.expiredIsTooLongRow.plainKeys == Tryz.prog.plainKeys)) = true := by kernel_rfl
theorem ExpiredIsTooLong_jf23 : (Rows.expiredIsTooLongRow.shortTexts.isNone) = true := by kernel_rfl
theorem ExpiredIsTooLong_jf24 : (Tryz.prog.stopsHeard) = true := by kernel_rfl
theorem ExpiredIsTooLong_jf25 : (Tryz.prog.mayEnter) = true := by kernel_rfl
theorem ExpiredIsTooLong_jf26 : ((Rows.expiredIsTooLongRow.lifted == Tryz.prog.liftsFinal)) = true := by kernel_rfl
theorem ExpiredIsTooLong_jf27 : ((Tryz.prog.make == some Rows.expiredIsTooLongRow.make)) = true := by kernel_rfl
theorem ExpiredIsTooLong_jf28 : ((Rows.expiredIsTooLongRow.kinds == (if Rows.expiredIsTooLongRow.domain.isEmpty then [] else Tryz.f4.params.toList.map fun t => match Tryz.prog.underlying t with | some (.int k) => some k | _ => none))) = true := by kernel_rfl
theorem ExpiredIsTooLong_jf29 : ((Rows.expiredIsTooLongRow.pinned == Rows.expiredIsTooLongRow.pinnedBy)) = true := by kernel_rfl
theorem ExpiredIsTooLong_jf30 : ((Rows.expiredIsTooLongRow.veiled == (Tryz.f4.params.toList ++ Rows.expiredIsTooLongSpec.plain.varTypes Tryz.prog ++ Tryz.f4.resultTypes.toList).any (Tryz.prog.veiledRec ·))) = true := by kernel_rfl
theorem ExpiredIsTooLong_jf31 : (Rows.expiredIsTooLongRow.veiledFits Tryz.prog Tryz.f4.params.toList (Tryz.f4.params.toList ++ Rows.expiredIsTooLongSpec.plain.varTypes Tryz.prog ++ Tryz.f4.resultTypes.toList)) = true := by kernel_rfl
theorem ExpiredIsTooLong_hnm : Tryz.prog.funcNamed "reelfeeder/rfkeep1.ExpiredIsTooLong" = some 4 := by kernel_rfl
theorem ExpiredIsTooLong_hin : Tryz.f4.isInstance Tryz.prog Rows.expiredIsTooLongRow.origin Rows.expiredIsTooLongRow.targs := of_decide_eq_true (by kernel_rfl)
theorem ExpiredIsTooLong_hwr : Tryz.f4.isWrapper Tryz.prog Rows.expiredIsTooLongRow.wrapper Rows.expiredIsTooLongRow.mainSum := by unfold Func.isWrapper; first | (rw [if_pos (by decide +kernel)]; kernel_rfl) | (rw [if_neg (by decide +kernel)]; exact ⟨rfl, rfl⟩)
theorem ExpiredIsTooLong_hwf : Rows.expiredIsTooLongRow.wfByText (OpenSpec.ofChange Rows.expiredIsTooLongSpec) = true := by kernel_rfl
theorem ExpiredIsTooLong_hmi : Tryz.prog.mainIs = some (true, "3db9f3ee98a5e3b4d0eee479284a86ab7717c2380edf4a541db8152c7b801968".toList) := by kernel_rfl
theorem ExpiredIsTooLong_hlo : true = Tryz.prog.looks [] := by kernel_rfl
theorem ExpiredIsTooLong_hst : ([22].all fun u => !Tryz.prog.wantsStandIn u) = true := by kernel_rfl
theorem ExpiredIsTooLong_hgo : false = Rows.expiredIsTooLongRow.goesBy Tryz.prog := by kernel_rfl
end Go.Proofs.YtpfichbhhpnioaaGreatDoor
