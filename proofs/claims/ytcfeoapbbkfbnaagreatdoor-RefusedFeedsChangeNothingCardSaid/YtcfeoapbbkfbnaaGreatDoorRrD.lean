/- The card of the law RefusedFeedsChangeNothing, put together over its walk. No conditions beyond the row's own. -/
import Derived.Test.YtcfeoapbbkfbnaaGreatDoorFrame
import Derived.Test.YtcfeoapbbkfbnaaGreatDoorRrW
import Derived.Test.YtcfeoapbbkfbnaaGreatDoorRrK
namespace Go.Proofs.YtcfeoapbbkfbnaaGreatDoor
open Go.ChangeShapes Go.WideShapes Go.ChangeAt Go.RowKit

set_option maxRecDepth 100000 in
theorem RefusedFeedsChangeNothing_lifted (os : Os) (started : os.Started) (H : Type) (enc : TypeId × Value → H) :
    ReturnsInHanded {} Tryz.checked os 5 .any (fun w args => (Rows.refusedFeedsChangeNothingSpec.pre enc Tryz.prog Tryz.f5 [] false w args ∧ laidMetH Tryz.prog Rows.refusedFeedsChangeNothingRow.laid w) ∧ sizedMet enc Tryz.prog Tryz.f5 (OpenSpec.ofChange Rows.refusedFeedsChangeNothingSpec) false w args)
      (Rows.refusedFeedsChangeNothingSpec.post enc Tryz.prog Tryz.f5 false true false false) := by
  refine returnsInHanded_of_change_and (C := Tryz.checked) (X := fun w _ => laidMetH Tryz.prog Rows.refusedFeedsChangeNothingRow.laid w) (fun _ _ _ hh h => h.of_heap hh) own started (by kernel_rfl) Tryz.func5
    (ChangeSpec.witness_shaped (enc := enc) (C := Tryz.checked) (os := os) (X := fun w _ => laidMetH Tryz.prog Rows.refusedFeedsChangeNothingRow.laid w) false (World.laidAll Tryz.prog os Rows.refusedFeedsChangeNothingRow.laid) #[.slice none 0 0] 8 (World.laidAll_os _ _ _)
      (World.shaped_of_ZipB (by kernel_rfl) (by kernel_rfl)) (by kernel_rfl) (by kernel_rfl) (by kernel_rfl)
      (by rw [MakeChecks.laidMetH_plain _ _ _ (by kernel_rfl)]; exact laidMet_laidAll _ (by kernel_rfl) (by kernel_rfl))) ?_
  intro W base args ds gs before hval0 hW _ _ hL _
  have hval : ∀ (j : Nat) t v, Tryz.f5.params[j]? = some t → args[j]? = some v → Value.okWide Tryz.prog W .any base t v := hval0
  have hW' := hW
  obtain ⟨p, q, hA0, hV, rfl, hfz, hnd⟩ := hW
  have hA : DataW.TrodAll enc Tryz.prog W 0 (fun _ => true) true Tryz.f5.params.toList args.toList ds p := hA0
  rw [Tryz.params5] at hA hval
  obtain ⟨v0, d0, rfl, rfl, h0⟩ := trodAll_one hA
  obtain ⟨rfl, rfl⟩ := trodVars_none hV
  clear hA0 hval0
  simp only [List.append_nil] at hW'
  have hlt : ∀ x ∈ p, x.block < W.heap.size := fun x hx => by simpa using hW'.lt x hx
  obtain ⟨l, rl, hl⟩ := ints_key (hval 0 22 v0 rfl rfl) h0
  refine (RefusedFeedsChangeNothing_any l v0 W rl hl).mono fun e W' ⟨he, hb⟩ => ?_
  subst he
  have hargs : ∀ (sp : Nat → Bool), (∀ x ∈ p, sp x.block = true) → DataW.Trod enc Tryz.prog W' 0 sp true 22 v0 d0 p :=
    fun sp hsp => WideElems.Trod_stays laidOut (by kernel_rfl) (of_decide_eq_true (by kernel_rfl)) h0 (fun x hx => hb.same (hlt x hx)) hsp
  exact ⟨_, rfl, post_of_below (pa := p) (pv := []) hW' (fun _ _ _ => trodAll_mk1 (shut_bool Tryz.underlying4 true)) (fun sp hsp => trodAll_mk1 (hargs sp (fun x hx => hsp x hx))) (fun _ _ => rfl) (by simp) hb (ok_one (by kernel_rfl) rfl (okWide_bool_mk Tryz.underlying4 true))⟩

theorem band2 {a b : Bool} (h : a = true) (k : b = true) : (a && b) = true := by rw [h, k]; rfl
set_option maxRecDepth 100000 in
theorem RefusedFeedsChangeNothing_hjf : joinedFacts Tryz.prog 5 Tryz.f5 Rows.refusedFeedsChangeNothingSpec Rows.refusedFeedsChangeNothingRow = true :=
  band2 (band2 (band2 (band2 (band2 (band2 (band2 (band2 (band2 (band2 (band2 (band2 (band2 (band2 (band2 (band2 (band2 (band2 (band2 (band2 (band2 (band2 (band2 (band2 (band2 (band2 (band2 (band2 (band2 (band2 (band2 (RefusedFeedsChangeNothing_jf0) RefusedFeedsChangeNothing_jf1) RefusedFeedsChangeNothing_jf2) RefusedFeedsChangeNothing_jf3) RefusedFeedsChangeNothing_jf4) RefusedFeedsChangeNothing_jf5) RefusedFeedsChangeNothing_jf6) RefusedFeedsChangeNothing_jf7) RefusedFeedsChangeNothing_jf8) RefusedFeedsChangeNothing_jf9) RefusedFeedsChangeNothing_jf10) RefusedFeedsChangeNothing_jf11) RefusedFeedsChangeNothing_jf12) RefusedFeedsChangeNothing_jf13) RefusedFeedsChangeNothing_jf14) RefusedFeedsChangeNothing_jf15) RefusedFeedsChangeNothing_jf16) RefusedFeedsChangeNothing_jf17) RefusedFeedsChangeNothing_jf18) RefusedFeedsChangeNothing_jf19) RefusedFeedsChangeNothing_jf20) RefusedFeedsChangeNothing_jf21) RefusedFeedsChangeNothing_jf22) RefusedFeedsChangeNothing_jf23) RefusedFeedsChangeNothing_jf24) RefusedFeedsChangeNothing_jf25) RefusedFeedsChangeNothing_jf26) RefusedFeedsChangeNothing_jf27) RefusedFeedsChangeNothing_jf28) RefusedFeedsChangeNothing_jf29) RefusedFeedsChangeNothing_jf30) RefusedFeedsChangeNothing_jf31
theorem RefusedFeedsChangeNothing_row : Rows.RefusedFeedsChangeNothingSaid :=
  OpenClaim.holds_of_wide 5 Tryz.f5 rfl rfl rfl rfl rfl rfl rfl ⟨rfl, rfl, rfl, rfl, rfl⟩ rfl rfl rfl rfl rfl RefusedFeedsChangeNothing_hnm Tryz.func5 RefusedFeedsChangeNothing_hjf
    RefusedFeedsChangeNothing_hin RefusedFeedsChangeNothing_hwr
    (fun os started H enc _ => RefusedFeedsChangeNothing_lifted os started H enc)
theorem RefusedFeedsChangeNothing_holds : Rows.RefusedFeedsChangeNothingCardSaid :=
  Claim7.holds_tied_plain_at .later [] [.data, .pinned] true (true, "789f849c41f522a84636e7b7d6683da0088ca0ebe442948540f3ebcdc0791f12") false
    RefusedFeedsChangeNothing_row (fun _ h => by cases h) RefusedFeedsChangeNothing_hwf (fun _ h => by cases h) refusedFeedsChangeNothing_row_tie rfl ⟨rfl, rfl⟩ RefusedFeedsChangeNothing_hmi rfl
    (fun f fn hf hfn => by
      obtain rfl : f = 5 := Option.some.inj (RefusedFeedsChangeNothing_hnm.symm.trans hf) |>.symm
      obtain rfl : fn = Tryz.f5 := (Option.some.inj (Tryz.func5.symm.trans hfn)).symm
      exact ⟨RefusedFeedsChangeNothing_hlo, fun j t ht => by
        rw [Tryz.params5] at ht
        have hm : t ∈ [22] := by simpa using Array.mem_of_getElem? ht
        exact (show Tryz.prog.wantsStandIn t = false by simpa using List.all_eq_true.1 RefusedFeedsChangeNothing_hst t hm)⟩)
    RefusedFeedsChangeNothing_hgo
end Go.Proofs.YtcfeoapbbkfbnaaGreatDoor
