/- The card of the law ComponentsAddUp, put together over its walk. No conditions beyond the row's own. -/
import Derived.Test.YtcfeoapbbkfbnaaGreatDoorFrame
import Derived.Test.YtcfeoapbbkfbnaaGreatDoorCaW
import Derived.Test.YtcfeoapbbkfbnaaGreatDoorCaK
namespace Go.Proofs.YtcfeoapbbkfbnaaGreatDoor
open Go.ChangeShapes Go.WideShapes Go.ChangeAt Go.RowKit

set_option maxRecDepth 100000 in
theorem ComponentsAddUp_lifted (os : Os) (started : os.Started) (H : Type) (enc : TypeId × Value → H) :
    ReturnsInHanded {} Tryz.checked os 6 .any (fun w args => (Rows.componentsAddUpSpec.pre enc Tryz.prog Tryz.f6 [] false w args ∧ laidMetH Tryz.prog Rows.componentsAddUpRow.laid w) ∧ sizedMet enc Tryz.prog Tryz.f6 (OpenSpec.ofChange Rows.componentsAddUpSpec) false w args)
      (Rows.componentsAddUpSpec.post enc Tryz.prog Tryz.f6 false true false false) := by
  refine returnsInHanded_of_change_and (C := Tryz.checked) (X := fun w _ => laidMetH Tryz.prog Rows.componentsAddUpRow.laid w) (fun _ _ _ hh h => h.of_heap hh) own started (by kernel_rfl) Tryz.func6
    (ChangeSpec.witness_shaped (enc := enc) (C := Tryz.checked) (os := os) (X := fun w _ => laidMetH Tryz.prog Rows.componentsAddUpRow.laid w) false (World.laidAll Tryz.prog os Rows.componentsAddUpRow.laid) #[.slice none 0 0] 8 (World.laidAll_os _ _ _)
      (World.shaped_of_ZipB (by kernel_rfl) (by kernel_rfl)) (by kernel_rfl) (by kernel_rfl) (by kernel_rfl)
      (by rw [MakeChecks.laidMetH_plain _ _ _ (by kernel_rfl)]; exact laidMet_laidAll _ (by kernel_rfl) (by kernel_rfl))) ?_
  intro W base args ds gs before hval0 hW _ _ hL _
  have hval : ∀ (j : Nat) t v, Tryz.f6.params[j]? = some t → args[j]? = some v → Value.okWide Tryz.prog W .any base t v := hval0
  have hW' := hW
  obtain ⟨p, q, hA0, hV, rfl, hfz, hnd⟩ := hW
  have hA : DataW.TrodAll enc Tryz.prog W 0 (fun _ => true) true Tryz.f6.params.toList args.toList ds p := hA0
  rw [Tryz.params6] at hA hval
  obtain ⟨v0, d0, rfl, rfl, h0⟩ := trodAll_one hA
  obtain ⟨rfl, rfl⟩ := trodVars_none hV
  clear hA0 hval0
  simp only [List.append_nil] at hW'
  have hlt : ∀ x ∈ p, x.block < W.heap.size := fun x hx => by simpa using hW'.lt x hx
  obtain ⟨l, rl, hl⟩ := ints_key (hval 0 22 v0 rfl rfl) h0
  refine (ComponentsAddUp_any l v0 W rl hl).mono fun e W' ⟨he, hb⟩ => ?_
  subst he
  have hargs : ∀ (sp : Nat → Bool), (∀ x ∈ p, sp x.block = true) → DataW.Trod enc Tryz.prog W' 0 sp true 22 v0 d0 p :=
    fun sp hsp => WideElems.Trod_stays laidOut (by kernel_rfl) (of_decide_eq_true (by kernel_rfl)) h0 (fun x hx => hb.same (hlt x hx)) hsp
  exact ⟨_, rfl, post_of_below (pa := p) (pv := []) hW' (fun _ _ _ => trodAll_mk1 (shut_bool Tryz.underlying4 true)) (fun sp hsp => trodAll_mk1 (hargs sp (fun x hx => hsp x hx))) (fun _ _ => rfl) (by simp) hb (ok_one (by kernel_rfl) rfl (okWide_bool_mk Tryz.underlying4 true))⟩

theorem band2 {a b : Bool} (h : a = true) (k : b = true) : (a && b) = true := by rw [h, k]; rfl
set_option maxRecDepth 100000 in
theorem ComponentsAddUp_hjf : joinedFacts Tryz.prog 6 Tryz.f6 Rows.componentsAddUpSpec Rows.componentsAddUpRow = true :=
  band2 (band2 (band2 (band2 (band2 (band2 (band2 (band2 (band2 (band2 (band2 (band2 (band2 (band2 (band2 (band2 (band2 (band2 (band2 (band2 (band2 (band2 (band2 (band2 (band2 (band2 (band2 (band2 (band2 (band2 (band2 (ComponentsAddUp_jf0) ComponentsAddUp_jf1) ComponentsAddUp_jf2) ComponentsAddUp_jf3) ComponentsAddUp_jf4) ComponentsAddUp_jf5) ComponentsAddUp_jf6) ComponentsAddUp_jf7) ComponentsAddUp_jf8) ComponentsAddUp_jf9) ComponentsAddUp_jf10) ComponentsAddUp_jf11) ComponentsAddUp_jf12) ComponentsAddUp_jf13) ComponentsAddUp_jf14) ComponentsAddUp_jf15) ComponentsAddUp_jf16) ComponentsAddUp_jf17) ComponentsAddUp_jf18) ComponentsAddUp_jf19) ComponentsAddUp_jf20) ComponentsAddUp_jf21) ComponentsAddUp_jf22) ComponentsAddUp_jf23) ComponentsAddUp_jf24) ComponentsAddUp_jf25) ComponentsAddUp_jf26) ComponentsAddUp_jf27) ComponentsAddUp_jf28) ComponentsAddUp_jf29) ComponentsAddUp_jf30) ComponentsAddUp_jf31
theorem ComponentsAddUp_row : Rows.ComponentsAddUpSaid :=
  OpenClaim.holds_of_wide 6 Tryz.f6 rfl rfl rfl rfl rfl rfl rfl ⟨rfl, rfl, rfl, rfl, rfl⟩ rfl rfl rfl rfl rfl ComponentsAddUp_hnm Tryz.func6 ComponentsAddUp_hjf
    ComponentsAddUp_hin ComponentsAddUp_hwr
    (fun os started H enc _ => ComponentsAddUp_lifted os started H enc)
theorem ComponentsAddUp_holds : Rows.ComponentsAddUpCardSaid :=
  Claim7.holds_tied_plain_at .later [] [.data, .pinned] true (true, "789f849c41f522a84636e7b7d6683da0088ca0ebe442948540f3ebcdc0791f12") false
    ComponentsAddUp_row (fun _ h => by cases h) ComponentsAddUp_hwf (fun _ h => by cases h) componentsAddUp_row_tie rfl ⟨rfl, rfl⟩ ComponentsAddUp_hmi rfl
    (fun f fn hf hfn => by
      obtain rfl : f = 6 := Option.some.inj (ComponentsAddUp_hnm.symm.trans hf) |>.symm
      obtain rfl : fn = Tryz.f6 := (Option.some.inj (Tryz.func6.symm.trans hfn)).symm
      exact ⟨ComponentsAddUp_hlo, fun j t ht => by
        rw [Tryz.params6] at ht
        have hm : t ∈ [22] := by simpa using Array.mem_of_getElem? ht
        exact (show Tryz.prog.wantsStandIn t = false by simpa using List.all_eq_true.1 ComponentsAddUp_hst t hm)⟩)
    ComponentsAddUp_hgo
end Go.Proofs.YtcfeoapbbkfbnaaGreatDoor
