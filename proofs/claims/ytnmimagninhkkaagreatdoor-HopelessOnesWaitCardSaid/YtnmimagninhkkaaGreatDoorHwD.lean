/- The card of the law HopelessOnesWait, put together over its walk. No conditions beyond the row's own. -/
import Derived.Test.YtnmimagninhkkaaGreatDoorFrame
import Derived.Test.YtnmimagninhkkaaGreatDoorHwW
import Derived.Test.YtnmimagninhkkaaGreatDoorHwK
namespace Go.Proofs.YtnmimagninhkkaaGreatDoor
open Go.ChangeShapes Go.WideShapes Go.ChangeAt Go.RowKit

set_option maxRecDepth 100000 in
theorem HopelessOnesWait_lifted (os : Os) (started : os.Started) (H : Type) (enc : TypeId × Value → H) :
    ReturnsInHanded {} Tryz.checked os 5 .any (fun w args => (Rows.hopelessOnesWaitSpec.pre enc Tryz.prog Tryz.f5 [] false w args ∧ laidMetH Tryz.prog Rows.hopelessOnesWaitRow.laid w) ∧ sizedMet enc Tryz.prog Tryz.f5 (OpenSpec.ofChange Rows.hopelessOnesWaitSpec) false w args)
      (Rows.hopelessOnesWaitSpec.post enc Tryz.prog Tryz.f5 false true false false) := by
  refine returnsInHanded_of_change_and (C := Tryz.checked) (X := fun w _ => laidMetH Tryz.prog Rows.hopelessOnesWaitRow.laid w) (fun _ _ _ hh h => h.of_heap hh) own started (by kernel_rfl) Tryz.func5
    (ChangeSpec.witness_shaped (enc := enc) (C := Tryz.checked) (os := os) (X := fun w _ => laidMetH Tryz.prog Rows.hopelessOnesWaitRow.laid w) false (World.laidAll Tryz.prog os Rows.hopelessOnesWaitRow.laid) #[.slice none 0 0] 8 (World.laidAll_os _ _ _)
      (World.shaped_of_ZipB (by kernel_rfl) (by kernel_rfl)) (by kernel_rfl) (by kernel_rfl) (by kernel_rfl)
      (by rw [MakeChecks.laidMetH_plain _ _ _ (by kernel_rfl)]; exact laidMet_laidAll _ (by kernel_rfl) (by kernel_rfl))) ?_
  intro W base args ds gs before hval0 hW _ _ hL _
  have hval : ∀ (j : Nat) t v, Tryz.f5.params[j]? = some t → args[j]? = some v → Value.okWide Tryz.prog W .any base t v := hval0
  have hW' := hW
  obtain ⟨p, q, hA0, hV, rfl, hfz, hnd⟩ := hW
  have hA : DataW.TrodAll enc Tryz.prog W 0 (fun _ => true) true Tryz.f5.params.toList args.toList ds p := hA0
  rw [Tryz.params5] at hA hval
  obtain ⟨v0, d0, rfl, rfl, h0⟩ := trodAll_one hA
  obtain ⟨rfl, rfl⟩ := trodVars_none hV
  clear hA0 hval0
  simp only [List.append_nil] at hW'
  have hlt : ∀ x ∈ p, x.block < W.heap.size := fun x hx => by simpa using hW'.lt x hx
  obtain ⟨l, rl, hl⟩ := ints_key (hval 0 22 v0 rfl rfl) h0
  refine (HopelessOnesWait_any l v0 W rl hl).mono fun e W' ⟨he, hb⟩ => ?_
  subst he
  have hargs : ∀ (sp : Nat → Bool), (∀ x ∈ p, sp x.block = true) → DataW.Trod enc Tryz.prog W' 0 sp true 22 v0 d0 p :=
    fun sp hsp => WideElems.Trod_stays laidOut (by kernel_rfl) (of_decide_eq_true (by kernel_rfl)) h0 (fun x hx => hb.same (hlt x hx)) hsp
  exact ⟨_, rfl, post_of_below (pa := p) (pv := []) hW' (fun _ _ _ => trodAll_mk1 (shut_bool Tryz.underlying4 true)) (fun sp hsp => trodAll_mk1 (hargs sp (fun x hx => hsp x hx))) (fun _ _ => rfl) (by simp) hb (ok_one (by kernel_rfl) rfl (okWide_bool_mk Tryz.underlying4 true))⟩

theorem band2 {a b : Bool} (h : a = true) (k : b = true) : (a && b) = true := by rw [h, k]; rfl
set_option maxRecDepth 100000 in
theorem HopelessOnesWait_hjf : joinedFacts Tryz.prog 5 Tryz.f5 Rows.hopelessOnesWaitSpec Rows.hopelessOnesWaitRow = true :=
  band2 (band2 (band2 (band2 (band2 (band2 (band2 (band2 (band2 (band2 (band2 (band2 (band2 (band2 (band2 (band2 (band2 (band2 (band2 (band2 (band2 (band2 (band2 (band2 (band2 (band2 (band2 (band2 (band2 (band2 (band2 (HopelessOnesWait_jf0) HopelessOnesWait_jf1) HopelessOnesWait_jf2) HopelessOnesWait_jf3) HopelessOnesWait_jf4) HopelessOnesWait_jf5) HopelessOnesWait_jf6) HopelessOnesWait_jf7) HopelessOnesWait_jf8) HopelessOnesWait_jf9) HopelessOnesWait_jf10) HopelessOnesWait_jf11) HopelessOnesWait_jf12) HopelessOnesWait_jf13) HopelessOnesWait_jf14) HopelessOnesWait_jf15) HopelessOnesWait_jf16) HopelessOnesWait_jf17) HopelessOnesWait_jf18) HopelessOnesWait_jf19) HopelessOnesWait_jf20) HopelessOnesWait_jf21) HopelessOnesWait_jf22) HopelessOnesWait_jf23) HopelessOnesWait_jf24) HopelessOnesWait_jf25) HopelessOnesWait_jf26) HopelessOnesWait_jf27) HopelessOnesWait_jf28) HopelessOnesWait_jf29) HopelessOnesWait_jf30) HopelessOnesWait_jf31
theorem HopelessOnesWait_row : Rows.HopelessOnesWaitSaid :=
  OpenClaim.holds_of_wide 5 Tryz.f5 rfl rfl rfl rfl rfl rfl rfl ⟨rfl, rfl, rfl, rfl, rfl⟩ rfl rfl rfl rfl rfl HopelessOnesWait_hnm Tryz.func5 HopelessOnesWait_hjf
    HopelessOnesWait_hin HopelessOnesWait_hwr
    (fun os started H enc _ => HopelessOnesWait_lifted os started H enc)
theorem HopelessOnesWait_holds : Rows.HopelessOnesWaitCardSaid :=
  Claim7.holds_tied_plain_at .later [] [.data, .pinned] true (true, "ef9b408e0ef1d8ee385fe0c4518ed384cc5ed48d05d09bbfcdc890ec739e479e") true
    HopelessOnesWait_row (fun _ h => by cases h) HopelessOnesWait_hwf (fun _ h => by cases h) hopelessOnesWait_row_tie rfl ⟨rfl, rfl⟩ HopelessOnesWait_hmi rfl
    (fun f fn hf hfn => by
      obtain rfl : f = 5 := Option.some.inj (HopelessOnesWait_hnm.symm.trans hf) |>.symm
      obtain rfl : fn = Tryz.f5 := (Option.some.inj (Tryz.func5.symm.trans hfn)).symm
      exact ⟨HopelessOnesWait_hlo, fun j t ht => by
        rw [Tryz.params5] at ht
        have hm : t ∈ [22] := by simpa using Array.mem_of_getElem? ht
        exact (show Tryz.prog.wantsStandIn t = false by simpa using List.all_eq_true.1 HopelessOnesWait_hst t hm)⟩)
    HopelessOnesWait_hgo
end Go.Proofs.YtnmimagninhkkaaGreatDoor
