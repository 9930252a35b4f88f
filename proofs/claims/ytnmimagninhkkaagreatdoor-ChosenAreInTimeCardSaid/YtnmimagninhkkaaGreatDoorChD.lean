/- The card of the law ChosenAreInTime, put together over its walk. No conditions beyond the row's own. -/
import Derived.Test.YtnmimagninhkkaaGreatDoorFrame
import Derived.Test.YtnmimagninhkkaaGreatDoorChW
import Derived.Test.YtnmimagninhkkaaGreatDoorChK
namespace Go.Proofs.YtnmimagninhkkaaGreatDoor
open Go.ChangeShapes Go.WideShapes Go.ChangeAt Go.RowKit

set_option maxRecDepth 100000 in
theorem ChosenAreInTime_lifted (os : Os) (started : os.Started) (H : Type) (enc : TypeId × Value → H) :
    ReturnsInHanded {} Tryz.checked os 8 .any (fun w args => (Rows.chosenAreInTimeSpec.pre enc Tryz.prog Tryz.f8 [] false w args ∧ laidMetH Tryz.prog Rows.chosenAreInTimeRow.laid w) ∧ sizedMet enc Tryz.prog Tryz.f8 (OpenSpec.ofChange Rows.chosenAreInTimeSpec) false w args)
      (Rows.chosenAreInTimeSpec.post enc Tryz.prog Tryz.f8 false true false false) := by
  refine returnsInHanded_of_change_and (C := Tryz.checked) (X := fun w _ => laidMetH Tryz.prog Rows.chosenAreInTimeRow.laid w) (fun _ _ _ hh h => h.of_heap hh) own started (by kernel_rfl) Tryz.func8
    (ChangeSpec.witness_shaped (enc := enc) (C := Tryz.checked) (os := os) (X := fun w _ => laidMetH Tryz.prog Rows.chosenAreInTimeRow.laid w) false (World.laidAll Tryz.prog os Rows.chosenAreInTimeRow.laid) #[.slice none 0 0] 8 (World.laidAll_os _ _ _)
      (World.shaped_of_ZipB (by kernel_rfl) (by kernel_rfl)) (by kernel_rfl) (by kernel_rfl) (by kernel_rfl)
      (by rw [MakeChecks.laidMetH_plain _ _ _ (by kernel_rfl)]; exact laidMet_laidAll _ (by kernel_rfl) (by kernel_rfl))) ?_
  intro W base args ds gs before hval0 hW _ _ hL _
  have hval : ∀ (j : Nat) t v, Tryz.f8.params[j]? = some t → args[j]? = some v → Value.okWide Tryz.prog W .any base t v := hval0
  have hW' := hW
  obtain ⟨p, q, hA0, hV, rfl, hfz, hnd⟩ := hW
  have hA : DataW.TrodAll enc Tryz.prog W 0 (fun _ => true) true Tryz.f8.params.toList args.toList ds p := hA0
  rw [Tryz.params8] at hA hval
  obtain ⟨v0, d0, rfl, rfl, h0⟩ := trodAll_one hA
  obtain ⟨rfl, rfl⟩ := trodVars_none hV
  clear hA0 hval0
  simp only [List.append_nil] at hW'
  have hlt : ∀ x ∈ p, x.block < W.heap.size := fun x hx => by simpa using hW'.lt x hx
  obtain ⟨l, rl, hl⟩ := ints_key (hval 0 22 v0 rfl rfl) h0
  refine (ChosenAreInTime_any l v0 W rl hl).mono fun e W' ⟨he, hb⟩ => ?_
  subst he
  have hargs : ∀ (sp : Nat → Bool), (∀ x ∈ p, sp x.block = true) → DataW.Trod enc Tryz.prog W' 0 sp true 22 v0 d0 p :=
    fun sp hsp => WideElems.Trod_stays laidOut (by kernel_rfl) (of_decide_eq_true (by kernel_rfl)) h0 (fun x hx => hb.same (hlt x hx)) hsp
  exact ⟨_, rfl, post_of_below (pa := p) (pv := []) hW' (fun _ _ _ => trodAll_mk1 (shut_bool Tryz.underlying4 true)) (fun sp hsp => trodAll_mk1 (hargs sp (fun x hx => hsp x hx))) (fun _ _ => rfl) (by simp) hb (ok_one (by kernel_rfl) rfl (okWide_bool_mk Tryz.underlying4 true))⟩

theorem band2 {a b : Bool} (h : a = true) (k : b = true) : (a && b) = true := by rw [h, k]; rfl
set_option maxRecDepth 100000 in
theorem ChosenAreInTime_hjf : joinedFacts Tryz.prog 8 Tryz.f8 Rows.chosenAreInTimeSpec Rows.chosenAreInTimeRow = true :=
  band2 (band2 (band2 (band2 (band2 (band2 (band2 (band2 (band2 (band2 (band2 (band2 (band2 (band2 (band2 (band2 (band2 (band2 (band2 (band2 (band2 (band2 (band2 (band2 (band2 (band2 (band2 (band2 (band2 (band2 (band2 (ChosenAreInTime_jf0) ChosenAreInTime_jf1) ChosenAreInTime_jf2) ChosenAreInTime_jf3) ChosenAreInTime_jf4) ChosenAreInTime_jf5) ChosenAreInTime_jf6) ChosenAreInTime_jf7) ChosenAreInTime_jf8) ChosenAreInTime_jf9) ChosenAreInTime_jf10) ChosenAreInTime_jf11) ChosenAreInTime_jf12) ChosenAreInTime_jf13) ChosenAreInTime_jf14) ChosenAreInTime_jf15) ChosenAreInTime_jf16) ChosenAreInTime_jf17) ChosenAreInTime_jf18) ChosenAreInTime_jf19) ChosenAreInTime_jf20) ChosenAreInTime_jf21) ChosenAreInTime_jf22) ChosenAreInTime_jf23) ChosenAreInTime_jf24) ChosenAreInTime_jf25) ChosenAreInTime_jf26) ChosenAreInTime_jf27) ChosenAreInTime_jf28) ChosenAreInTime_jf29) ChosenAreInTime_jf30) ChosenAreInTime_jf31
theorem ChosenAreInTime_row : Rows.ChosenAreInTimeSaid :=
  OpenClaim.holds_of_wide 8 Tryz.f8 rfl rfl rfl rfl rfl rfl rfl ⟨rfl, rfl, rfl, rfl, rfl⟩ rfl rfl rfl rfl rfl ChosenAreInTime_hnm Tryz.func8 ChosenAreInTime_hjf
    ChosenAreInTime_hin ChosenAreInTime_hwr
    (fun os started H enc _ => ChosenAreInTime_lifted os started H enc)
theorem ChosenAreInTime_holds : Rows.ChosenAreInTimeCardSaid :=
  Claim7.holds_tied_plain_at .later [] [.data, .pinned] true (true, "ef9b408e0ef1d8ee385fe0c4518ed384cc5ed48d05d09bbfcdc890ec739e479e") true
    ChosenAreInTime_row (fun _ h => by cases h) ChosenAreInTime_hwf (fun _ h => by cases h) chosenAreInTime_row_tie rfl ⟨rfl, rfl⟩ ChosenAreInTime_hmi rfl
    (fun f fn hf hfn => by
      obtain rfl : f = 8 := Option.some.inj (ChosenAreInTime_hnm.symm.trans hf) |>.symm
      obtain rfl : fn = Tryz.f8 := (Option.some.inj (Tryz.func8.symm.trans hfn)).symm
      exact ⟨ChosenAreInTime_hlo, fun j t ht => by
        rw [Tryz.params8] at ht
        have hm : t ∈ [22] := by simpa using Array.mem_of_getElem? ht
        exact (show Tryz.prog.wantsStandIn t = false by simpa using List.all_eq_true.1 ChosenAreInTime_hst t hm)⟩)
    ChosenAreInTime_hgo
end Go.Proofs.YtnmimagninhkkaaGreatDoor
