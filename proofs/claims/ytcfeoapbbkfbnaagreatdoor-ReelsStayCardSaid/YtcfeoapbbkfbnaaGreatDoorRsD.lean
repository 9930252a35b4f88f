/- The card of the law ReelsStay, put together over its walk. No conditions beyond the row's own. -/
import Derived.Test.YtcfeoapbbkfbnaaGreatDoorFrame
import Derived.Test.YtcfeoapbbkfbnaaGreatDoorRsW
import Derived.Test.YtcfeoapbbkfbnaaGreatDoorRsK
namespace Go.Proofs.YtcfeoapbbkfbnaaGreatDoor
open Go.ChangeShapes Go.WideShapes Go.ChangeAt Go.RowKit

set_option maxRecDepth 100000 in
theorem ReelsStay_lifted (os : Os) (started : os.Started) (H : Type) (enc : TypeId × Value → H) :
    ReturnsInHanded {} Tryz.checked os 4 .any (fun w args => (Rows.reelsStaySpec.pre enc Tryz.prog Tryz.f4 [] false w args ∧ laidMetH Tryz.prog Rows.reelsStayRow.laid w) ∧ sizedMet enc Tryz.prog Tryz.f4 (OpenSpec.ofChange Rows.reelsStaySpec) false w args)
      (Rows.reelsStaySpec.post enc Tryz.prog Tryz.f4 false true false false) := by
  refine returnsInHanded_of_change_and (C := Tryz.checked) (X := fun w _ => laidMetH Tryz.prog Rows.reelsStayRow.laid w) (fun _ _ _ hh h => h.of_heap hh) own started (by kernel_rfl) Tryz.func4
    (ChangeSpec.witness_shaped (enc := enc) (C := Tryz.checked) (os := os) (X := fun w _ => laidMetH Tryz.prog Rows.reelsStayRow.laid w) false (World.laidAll Tryz.prog os Rows.reelsStayRow.laid) #[.slice none 0 0] 8 (World.laidAll_os _ _ _)
      (World.shaped_of_ZipB (by kernel_rfl) (by kernel_rfl)) (by kernel_rfl) (by kernel_rfl) (by kernel_rfl)
      (by rw [MakeChecks.laidMetH_plain _ _ _ (by kernel_rfl)]; exact laidMet_laidAll _ (by kernel_rfl) (by kernel_rfl))) ?_
  intro W base args ds gs before hval0 hW _ _ hL _
  have hval : ∀ (j : Nat) t v, Tryz.f4.params[j]? = some t → args[j]? = some v → Value.okWide Tryz.prog W .any base t v := hval0
  have hW' := hW
  obtain ⟨p, q, hA0, hV, rfl, hfz, hnd⟩ := hW
  have hA : DataW.TrodAll enc Tryz.prog W 0 (fun _ => true) true Tryz.f4.params.toList args.toList ds p := hA0
  rw [Tryz.params4] at hA hval
  obtain ⟨v0, d0, rfl, rfl, h0⟩ := trodAll_one hA
  obtain ⟨rfl, rfl⟩ := trodVars_none hV
  clear hA0 hval0
  simp only [List.append_nil] at hW'
  have hlt : ∀ x ∈ p, x.block < W.heap.size := fun x hx => by simpa using hW'.lt x hx
  obtain ⟨l, rl, hl⟩ := ints_key (hval 0 22 v0 rfl rfl) h0
  refine (ReelsStay_any l v0 W rl hl).mono fun e W' ⟨he, hb⟩ => ?_
  subst he
  have hargs : ∀ (sp : Nat → Bool), (∀ x ∈ p, sp x.block = true) → DataW.Trod enc Tryz.prog W' 0 sp true 22 v0 d0 p :=
    fun sp hsp => WideElems.Trod_stays laidOut (by kernel_rfl) (of_decide_eq_true (by kernel_rfl)) h0 (fun x hx => hb.same (hlt x hx)) hsp
  exact ⟨_, rfl, post_of_below (pa := p) (pv := []) hW' (fun _ _ _ => trodAll_mk1 (shut_bool Tryz.underlying4 true)) (fun sp hsp => trodAll_mk1 (hargs sp (fun x hx => hsp x hx))) (fun _ _ => rfl) (by simp) hb (ok_one (by kernel_rfl) rfl (okWide_bool_mk Tryz.underlying4 true))⟩

theorem band2 {a b : Bool} (h : a = true) (k : b = true) : (a && b) = true := by rw [h, k]; rfl
set_option maxRecDepth 100000 in
theorem ReelsStay_hjf : joinedFacts Tryz.prog 4 Tryz.f4 Rows.reelsStaySpec Rows.reelsStayRow = true :=
  band2 (band2 (band2 (band2 (band2 (band2 (band2 (band2 (band2 (band2 (band2 (band2 (band2 (band2 (band2 (band2 (band2 (band2 (band2 (band2 (band2 (band2 (band2 (band2 (band2 (band2 (band2 (band2 (band2 (band2 (band2 (ReelsStay_jf0) ReelsStay_jf1) ReelsStay_jf2) ReelsStay_jf3) ReelsStay_jf4) ReelsStay_jf5) ReelsStay_jf6) ReelsStay_jf7) ReelsStay_jf8) ReelsStay_jf9) ReelsStay_jf10) ReelsStay_jf11) ReelsStay_jf12) ReelsStay_jf13) ReelsStay_jf14) ReelsStay_jf15) ReelsStay_jf16) ReelsStay_jf17) ReelsStay_jf18) ReelsStay_jf19) ReelsStay_jf20) ReelsStay_jf21) ReelsStay_jf22) ReelsStay_jf23) ReelsStay_jf24) ReelsStay_jf25) ReelsStay_jf26) ReelsStay_jf27) ReelsStay_jf28) ReelsStay_jf29) ReelsStay_jf30) ReelsStay_jf31
theorem ReelsStay_row : Rows.ReelsStaySaid :=
  OpenClaim.holds_of_wide 4 Tryz.f4 rfl rfl rfl rfl rfl rfl rfl ⟨rfl, rfl, rfl, rfl, rfl⟩ rfl rfl rfl rfl rfl ReelsStay_hnm Tryz.func4 ReelsStay_hjf
    ReelsStay_hin ReelsStay_hwr
    (fun os started H enc _ => ReelsStay_lifted os started H enc)
theorem ReelsStay_holds : Rows.ReelsStayCardSaid :=
  Claim7.holds_tied_plain_at .later [] [.data, .pinned] true (true, "789f849c41f522a84636e7b7d6683da0088ca0ebe442948540f3ebcdc0791f12") false
    ReelsStay_row (fun _ h => by cases h) ReelsStay_hwf (fun _ h => by cases h) reelsStay_row_tie rfl ⟨rfl, rfl⟩ ReelsStay_hmi rfl
    (fun f fn hf hfn => by
      obtain rfl : f = 4 := Option.some.inj (ReelsStay_hnm.symm.trans hf) |>.symm
      obtain rfl : fn = Tryz.f4 := (Option.some.inj (Tryz.func4.symm.trans hfn)).symm
      exact ⟨ReelsStay_hlo, fun j t ht => by
        rw [Tryz.params4] at ht
        have hm : t ∈ [22] := by simpa using Array.mem_of_getElem? ht
        exact (show Tryz.prog.wantsStandIn t = false by simpa using List.all_eq_true.1 ReelsStay_hst t hm)⟩)
    ReelsStay_hgo
end Go.Proofs.YtcfeoapbbkfbnaaGreatDoor
