/- The card of the law TimesAddUp, put together over its walk. No conditions beyond the row's own. -/
import Derived.Test.YtnmimagninhkkaaGreatDoorFrame
import Derived.Test.YtnmimagninhkkaaGreatDoorTa
import Derived.Test.YtnmimagninhkkaaGreatDoorTaK
namespace Go.Proofs.YtnmimagninhkkaaGreatDoor
open Go.ChangeShapes Go.WideShapes Go.ChangeAt Go.RowKit

set_option maxRecDepth 100000 in
theorem TimesAddUp_lifted (os : Os) (started : os.Started) (H : Type) (enc : TypeId × Value → H) :
    ReturnsInHanded {} Tryz.checked os 3 .any (fun w args => (Rows.timesAddUpSpec.pre enc Tryz.prog Tryz.f3 [] false w args ∧ laidMetH Tryz.prog Rows.timesAddUpRow.laid w) ∧ sizedMet enc Tryz.prog Tryz.f3 (OpenSpec.ofChange Rows.timesAddUpSpec) false w args)
      (Rows.timesAddUpSpec.post enc Tryz.prog Tryz.f3 false true false false) := by
  refine returnsInHanded_of_change_and (C := Tryz.checked) (X := fun w _ => laidMetH Tryz.prog Rows.timesAddUpRow.laid w) (fun _ _ _ hh h => h.of_heap hh) own started (by kernel_rfl) Tryz.func3
    (ChangeSpec.witness_shaped (enc := enc) (C := Tryz.checked) (os := os) (X := fun w _ => laidMetH Tryz.prog Rows.timesAddUpRow.laid w) false (World.laidAll Tryz.prog os Rows.timesAddUpRow.laid) #[.slice none 0 0] 8 (World.laidAll_os _ _ _)
      (World.shaped_of_ZipB (by kernel_rfl) (by kernel_rfl)) (by kernel_rfl) (by kernel_rfl) (by kernel_rfl)
      (by rw [MakeChecks.laidMetH_plain _ _ _ (by kernel_rfl)]; exact laidMet_laidAll _ (by kernel_rfl) (by kernel_rfl))) ?_
  intro W base args ds gs before hval0 hW _ _ hL _
  have hval : ∀ (j : Nat) t v, Tryz.f3.params[j]? = some t → args[j]? = some v → Value.okWide Tryz.prog W .any base t v := hval0
  have hW' := hW
  obtain ⟨p, q, hA0, hV, rfl, hfz, hnd⟩ := hW
  have hA : DataW.TrodAll enc Tryz.prog W 0 (fun _ => true) true Tryz.f3.params.toList args.toList ds p := hA0
  rw [Tryz.params3] at hA hval
  obtain ⟨v0, d0, rfl, rfl, h0⟩ := trodAll_one hA
  obtain ⟨rfl, rfl⟩ := trodVars_none hV
  clear hA0 hval0
  simp only [List.append_nil] at hW'
  have hlt : ∀ x ∈ p, x.block < W.heap.size := fun x hx => by simpa using hW'.lt x hx
  obtain ⟨l, rl, hl⟩ := ints_key (hval 0 22 v0 rfl rfl) h0
  refine (TimesAddUp_any l v0 W rl hl).mono fun e W' ⟨he, hb⟩ => ?_
  subst he
  have hargs : ∀ (sp : Nat → Bool), (∀ x ∈ p, sp x.block = true) → DataW.Trod enc Tryz.prog W' 0 sp true 22 v0 d0 p :=
    fun sp hsp => WideElems.Trod_stays laidOut (by kernel_rfl) (of_decide_eq_true (by kernel_rfl)) h0 (fun x hx => hb.same (hlt x hx)) hsp
  exact ⟨_, rfl, post_of_below (pa := p) (pv := []) hW' (fun _ _ _ => trodAll_mk1 (shut_bool Tryz.underlying4 true)) (fun sp hsp => trodAll_mk1 (hargs sp (fun x hx => hsp x hx))) (fun _ _ => rfl) (by simp) hb (ok_one (by kernel_rfl) rfl (okWide_bool_mk Tryz.underlying4 true))⟩

theorem band2 {a b : Bool} (h : a = true) (k : b = true) : (a && b) = true := by rw [h, k]; rfl
set_option maxRecDepth 100000 in
theorem TimesAddUp_hjf : joinedFacts Tryz.prog 3 Tryz.f3 Rows.timesAddUpSpec Rows.timesAddUpRow = true :=
  band2 (band2 (band2 (band2 (band2 (band2 (band2 (band2 (band2 (band2 (band2 (band2 (band2 (band2 (band2 (band2 (band2 (band2 (band2 (band2 (band2 (band2 (band2 (band2 (band2 (band2 (band2 (band2 (band2 (band2 (band2 (TimesAddUp_jf0) TimesAddUp_jf1) TimesAddUp_jf2) TimesAddUp_jf3) TimesAddUp_jf4) TimesAddUp_jf5) TimesAddUp_jf6) TimesAddUp_jf7) TimesAddUp_jf8) TimesAddUp_jf9) TimesAddUp_jf10) TimesAddUp_jf11) TimesAddUp_jf12) TimesAddUp_jf13) TimesAddUp_jf14) TimesAddUp_jf15) TimesAddUp_jf16) TimesAddUp_jf17) TimesAddUp_jf18) TimesAddUp_jf19) TimesAddUp_jf20) TimesAddUp_jf21) TimesAddUp_jf22) TimesAddUp_jf23) TimesAddUp_jf24) TimesAddUp_jf25) TimesAddUp_jf26) TimesAddUp_jf27) TimesAddUp_jf28) TimesAddUp_jf29) TimesAddUp_jf30) TimesAddUp_jf31
theorem TimesAddUp_row : Rows.TimesAddUpSaid :=
  OpenClaim.holds_of_wide 3 Tryz.f3 rfl rfl rfl rfl rfl rfl rfl ⟨rfl, rfl, rfl, rfl, rfl⟩ rfl rfl rfl rfl rfl TimesAddUp_hnm Tryz.func3 TimesAddUp_hjf
    TimesAddUp_hin TimesAddUp_hwr
    (fun os started H enc _ => TimesAddUp_lifted os started H enc)
theorem TimesAddUp_holds : Rows.TimesAddUpCardSaid :=
  Claim7.holds_tied_plain_at .later [] [.data, .pinned] true (true, "ef9b408e0ef1d8ee385fe0c4518ed384cc5ed48d05d09bbfcdc890ec739e479e") true
    TimesAddUp_row (fun _ h => by cases h) TimesAddUp_hwf (fun _ h => by cases h) timesAddUp_row_tie rfl ⟨rfl, rfl⟩ TimesAddUp_hmi rfl
    (fun f fn hf hfn => by
      obtain rfl : f = 3 := Option.some.inj (TimesAddUp_hnm.symm.trans hf) |>.symm
      obtain rfl : fn = Tryz.f3 := (Option.some.inj (Tryz.func3.symm.trans hfn)).symm
      exact ⟨TimesAddUp_hlo, fun j t ht => by
        rw [Tryz.params3] at ht
        have hm : t ∈ [22] := by simpa using Array.mem_of_getElem? ht
        exact (show Tryz.prog.wantsStandIn t = false by simpa using List.all_eq_true.1 TimesAddUp_hst t hm)⟩)
    TimesAddUp_hgo
end Go.Proofs.YtnmimagninhkkaaGreatDoor
