/- The card of the law HoldersHoldWhatIsNeeded, put together over its walk. No conditions beyond the row's own. -/
import Derived.Test.YtgcmlhpocbgkaaaGreatDoorFrame
import Derived.Test.YtgcmlhpocbgkaaaGreatDoorHdW
import Derived.Test.YtgcmlhpocbgkaaaGreatDoorHoldK
namespace Go.Proofs.YtgcmlhpocbgkaaaGreatDoor
open Go.ChangeShapes Go.WideShapes Go.ChangeAt Go.RowKit

set_option maxRecDepth 100000 in
theorem HoldersHoldWhatIsNeeded_lifted (os : Os) (started : os.Started) (H : Type) (enc : TypeId × Value → H) :
    ReturnsInHanded {} Tryz.checked os 7 .any (fun w args => (Rows.holdersHoldWhatIsNeededSpec.pre enc Tryz.prog Tryz.f7 [] false w args ∧ laidMetH Tryz.prog Rows.holdersHoldWhatIsNeededRow.laid w) ∧ sizedMet enc Tryz.prog Tryz.f7 (OpenSpec.ofChange Rows.holdersHoldWhatIsNeededSpec) false w args)
      (Rows.holdersHoldWhatIsNeededSpec.post enc Tryz.prog Tryz.f7 false true false false) := by
  refine returnsInHanded_of_change_and (C := Tryz.checked) (X := fun w _ => laidMetH Tryz.prog Rows.holdersHoldWhatIsNeededRow.laid w) (fun _ _ _ hh h => h.of_heap hh) own started (by kernel_rfl) Tryz.func7
    (ChangeSpec.witness_shaped (enc := enc) (C := Tryz.checked) (os := os) (X := fun w _ => laidMetH Tryz.prog Rows.holdersHoldWhatIsNeededRow.laid w) false (World.laidAll Tryz.prog os Rows.holdersHoldWhatIsNeededRow.laid) #[.slice none 0 0] 8 (World.laidAll_os _ _ _)
      (World.shaped_of_ZipB (by kernel_rfl) (by kernel_rfl)) (by kernel_rfl) (by kernel_rfl) (by kernel_rfl)
      (by rw [MakeChecks.laidMetH_plain _ _ _ (by kernel_rfl)]; exact laidMet_laidAll _ (by kernel_rfl) (by kernel_rfl))) ?_
  intro W base args ds gs before hval0 hW _ _ hL _
  have hval : ∀ (j : Nat) t v, Tryz.f7.params[j]? = some t → args[j]? = some v → Value.okWide Tryz.prog W .any base t v := hval0
  have hW' := hW
  obtain ⟨p, q, hA0, hV, rfl, hfz, hnd⟩ := hW
  have hA : DataW.TrodAll enc Tryz.prog W 0 (fun _ => true) true Tryz.f7.params.toList args.toList ds p := hA0
  rw [Tryz.params7] at hA hval
  obtain ⟨v0, d0, rfl, rfl, h0⟩ := trodAll_one hA
  obtain ⟨rfl, rfl⟩ := trodVars_none hV
  clear hA0 hval0
  simp only [List.append_nil] at hW'
  have hlt : ∀ x ∈ p, x.block < W.heap.size := fun x hx => by simpa using hW'.lt x hx
  obtain ⟨l, rl, hl⟩ := ints_key (hval 0 22 v0 rfl rfl) h0
  refine (HoldersHoldWhatIsNeeded_any l v0 W rl hl).mono fun e W' ⟨he, hb⟩ => ?_
  subst he
  have hargs : ∀ (sp : Nat → Bool), (∀ x ∈ p, sp x.block = true) → DataW.Trod enc Tryz.prog W' 0 sp true 22 v0 d0 p :=
    fun sp hsp => WideElems.Trod_stays laidOut (by kernel_rfl) (of_decide_eq_true (by kernel_rfl)) h0 (fun x hx => hb.same (hlt x hx)) hsp
  exact ⟨_, rfl, post_of_below (pa := p) (pv := []) hW' (fun _ _ _ => trodAll_mk1 (shut_bool Tryz.underlying4 true)) (fun sp hsp => trodAll_mk1 (hargs sp (fun x hx => hsp x hx))) (fun _ _ => rfl) (by simp) hb (ok_one (by kernel_rfl) rfl (okWide_bool_mk Tryz.underlying4 true))⟩

theorem band2 {a b : Bool} (h : a = true) (k : b = true) : (a && b) = true := by rw [h, k]; rfl
set_option maxRecDepth 100000 in
theorem HoldersHoldWhatIsNeeded_hjf : joinedFacts Tryz.prog 7 Tryz.f7 Rows.holdersHoldWhatIsNeededSpec Rows.holdersHoldWhatIsNeededRow = true :=
  band2 (band2 (band2 (band2 (band2 (band2 (band2 (band2 (band2 (band2 (band2 (band2 (band2 (band2 (band2 (band2 (band2 (band2 (band2 (band2 (band2 (band2 (band2 (band2 (band2 (band2 (band2 (band2 (band2 (band2 (band2 (HoldersHoldWhatIsNeeded_jf0) HoldersHoldWhatIsNeeded_jf1) HoldersHoldWhatIsNeeded_jf2) HoldersHoldWhatIsNeeded_jf3) HoldersHoldWhatIsNeeded_jf4) HoldersHoldWhatIsNeeded_jf5) HoldersHoldWhatIsNeeded_jf6) HoldersHoldWhatIsNeeded_jf7) HoldersHoldWhatIsNeeded_jf8) HoldersHoldWhatIsNeeded_jf9) HoldersHoldWhatIsNeeded_jf10) HoldersHoldWhatIsNeeded_jf11) HoldersHoldWhatIsNeeded_jf12) HoldersHoldWhatIsNeeded_jf13) HoldersHoldWhatIsNeeded_jf14) HoldersHoldWhatIsNeeded_jf15) HoldersHoldWhatIsNeeded_jf16) HoldersHoldWhatIsNeeded_jf17) HoldersHoldWhatIsNeeded_jf18) HoldersHoldWhatIsNeeded_jf19) HoldersHoldWhatIsNeeded_jf20) HoldersHoldWhatIsNeeded_jf21) HoldersHoldWhatIsNeeded_jf22) HoldersHoldWhatIsNeeded_jf23) HoldersHoldWhatIsNeeded_jf24) HoldersHoldWhatIsNeeded_jf25) HoldersHoldWhatIsNeeded_jf26) HoldersHoldWhatIsNeeded_jf27) HoldersHoldWhatIsNeeded_jf28) HoldersHoldWhatIsNeeded_jf29) HoldersHoldWhatIsNeeded_jf30) HoldersHoldWhatIsNeeded_jf31
theorem HoldersHoldWhatIsNeeded_row : Rows.HoldersHoldWhatIsNeededSaid :=
  OpenClaim.holds_of_wide 7 Tryz.f7 rfl rfl rfl rfl rfl rfl rfl ⟨rfl, rfl, rfl, rfl, rfl⟩ rfl rfl rfl rfl rfl HoldersHoldWhatIsNeeded_hnm Tryz.func7 HoldersHoldWhatIsNeeded_hjf
    HoldersHoldWhatIsNeeded_hin HoldersHoldWhatIsNeeded_hwr
    (fun os started H enc _ => HoldersHoldWhatIsNeeded_lifted os started H enc)
theorem HoldersHoldWhatIsNeeded_holds : Rows.HoldersHoldWhatIsNeededCardSaid :=
  Claim7.holds_tied_plain_at .later [] [.data, .pinned] true (true, "717bef4992ae00988c64eb045860e6c64a43fa6255acf3d6f75714a09c04f315") true
    HoldersHoldWhatIsNeeded_row (fun _ h => by cases h) HoldersHoldWhatIsNeeded_hwf (fun _ h => by cases h) holdersHoldWhatIsNeeded_row_tie rfl ⟨rfl, rfl⟩ HoldersHoldWhatIsNeeded_hmi rfl
    (fun f fn hf hfn => by
      obtain rfl : f = 7 := Option.some.inj (HoldersHoldWhatIsNeeded_hnm.symm.trans hf) |>.symm
      obtain rfl : fn = Tryz.f7 := (Option.some.inj (Tryz.func7.symm.trans hfn)).symm
      exact ⟨HoldersHoldWhatIsNeeded_hlo, fun j t ht => by
        rw [Tryz.params7] at ht
        have hm : t ∈ [22] := by simpa using Array.mem_of_getElem? ht
        exact (show Tryz.prog.wantsStandIn t = false by simpa using List.all_eq_true.1 HoldersHoldWhatIsNeeded_hst t hm)⟩)
    HoldersHoldWhatIsNeeded_hgo
end Go.Proofs.YtgcmlhpocbgkaaaGreatDoor
