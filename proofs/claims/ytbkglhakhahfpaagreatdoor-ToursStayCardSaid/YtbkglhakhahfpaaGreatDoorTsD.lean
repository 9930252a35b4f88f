/- The card of the law ToursStay, put together over its walk. No conditions beyond the row's own. -/
import Derived.Test.YtbkglhakhahfpaaGreatDoorFrame
import Derived.Test.YtbkglhakhahfpaaGreatDoorTsW
import Derived.Test.YtbkglhakhahfpaaGreatDoorTsK
namespace Go.Proofs.YtbkglhakhahfpaaGreatDoor
open Go.ChangeShapes Go.WideShapes Go.ChangeAt Go.RowKit

set_option maxRecDepth 100000 in
theorem ToursStay_lifted (os : Os) (started : os.Started) (H : Type) (enc : TypeId × Value → H) :
    ReturnsInHanded {} Tryz.checked os 5 .any (fun w args => (Rows.toursStaySpec.pre enc Tryz.prog Tryz.f5 [] false w args ∧ laidMetH Tryz.prog Rows.toursStayRow.laid w) ∧ sizedMet enc Tryz.prog Tryz.f5 (OpenSpec.ofChange Rows.toursStaySpec) false w args)
      (Rows.toursStaySpec.post enc Tryz.prog Tryz.f5 false true false false) := by
  refine returnsInHanded_of_change_and (C := Tryz.checked) (X := fun w _ => laidMetH Tryz.prog Rows.toursStayRow.laid w) (fun _ _ _ hh h => h.of_heap hh) own started (by kernel_rfl) Tryz.func5
    (ChangeSpec.witness_shaped (enc := enc) (C := Tryz.checked) (os := os) (X := fun w _ => laidMetH Tryz.prog Rows.toursStayRow.laid w) false (World.laidAll Tryz.prog os Rows.toursStayRow.laid) #[.slice none 0 0] 8 (World.laidAll_os _ _ _)
      (World.shaped_of_ZipB (by kernel_rfl) (by kernel_rfl)) (by kernel_rfl) (by kernel_rfl) (by kernel_rfl)
      (by rw [MakeChecks.laidMetH_plain _ _ _ (by kernel_rfl)]; exact laidMet_laidAll _ (by kernel_rfl) (by kernel_rfl))) ?_
  intro W base args ds gs before hval0 hW _ _ hL _
  have hval : ∀ (j : Nat) t v, Tryz.f5.params[j]? = some t → args[j]? = some v → Value.okWide Tryz.prog W .any base t v := hval0
  have hW' := hW
  obtain ⟨p, q, hA0, hV, rfl, hfz, hnd⟩ := hW
  have hA : DataW.TrodAll enc Tryz.prog W 0 (fun _ => true) true Tryz.f5.params.toList args.toList ds p := hA0
  rw [Tryz.params5] at hA hval
  obtain ⟨v0, d0, rfl, rfl, h0⟩ := trodAll_one hA
  obtain ⟨rfl, rfl⟩ := trodVars_none hV
  clear hA0 hval0
  simp only [List.append_nil] at hW'
  have hlt : ∀ x ∈ p, x.block < W.heap.size := fun x hx => by simpa using hW'.lt x hx
  obtain ⟨l, rl, hl⟩ := ints_key (hval 0 22 v0 rfl rfl) h0
  refine (ToursStay_any l v0 W rl hl).mono fun e W' ⟨he, hb⟩ => ?_
  subst he
  have hargs : ∀ (sp : Nat → Bool), (∀ x ∈ p, sp x.block = true) → DataW.Trod enc Tryz.prog W' 0 sp true 22 v0 d0 p :=
    fun sp hsp => WideElems.Trod_stays laidOut (by kernel_rfl) (of_decide_eq_true (by kernel_rfl)) h0 (fun x hx => hb.same (hlt x hx)) hsp
  exact ⟨_, rfl, post_of_below (pa := p) (pv := []) hW' (fun _ _ _ => trodAll_mk1 (shut_bool Tryz.underlying4 true)) (fun sp hsp => trodAll_mk1 (hargs sp (fun x hx => hsp x hx))) (fun _ _ => rfl) (by simp) hb (ok_one (by kernel_rfl) rfl (okWide_bool_mk Tryz.underlying4 true))⟩

theorem band2 {a b : Bool} (h : a = true) (k : b = true) : (a && b) = true := by rw [h, k]; rfl
set_option maxRecDepth 100000 in
theorem ToursStay_hjf : joinedFacts Tryz.prog 5 Tryz.f5 Rows.toursStaySpec Rows.toursStayRow = true :=
  band2 (band2 (band2 (band2 (band2 (band2 (band2 (band2 (band2 (band2 (band2 (band2 (band2 (band2 (band2 (band2 (band2 (band2 (band2 (band2 (band2 (band2 (band2 (band2 (band2 (band2 (band2 (band2 (band2 (band2 (band2 (ToursStay_jf0) ToursStay_jf1) ToursStay_jf2) ToursStay_jf3) ToursStay_jf4) ToursStay_jf5) ToursStay_jf6) ToursStay_jf7) ToursStay_jf8) ToursStay_jf9) ToursStay_jf10) ToursStay_jf11) ToursStay_jf12) ToursStay_jf13) ToursStay_jf14) ToursStay_jf15) ToursStay_jf16) ToursStay_jf17) ToursStay_jf18) ToursStay_jf19) ToursStay_jf20) ToursStay_jf21) ToursStay_jf22) ToursStay_jf23) ToursStay_jf24) ToursStay_jf25) ToursStay_jf26) ToursStay_jf27) ToursStay_jf28) ToursStay_jf29) ToursStay_jf30) ToursStay_jf31
theorem ToursStay_row : Rows.ToursStaySaid :=
  OpenClaim.holds_of_wide 5 Tryz.f5 rfl rfl rfl rfl rfl rfl rfl ⟨rfl, rfl, rfl, rfl, rfl⟩ rfl rfl rfl rfl rfl ToursStay_hnm Tryz.func5 ToursStay_hjf
    ToursStay_hin ToursStay_hwr
    (fun os started H enc _ => ToursStay_lifted os started H enc)
theorem ToursStay_holds : Rows.ToursStayCardSaid :=
  Claim7.holds_tied_plain_at .later [] [.data, .pinned] true (true, "d6c4fc81ffc11be73bd476188b12572b69e997bbaf5597b2b2bc4b5e17de2d7b") false
    ToursStay_row (fun _ h => by cases h) ToursStay_hwf (fun _ h => by cases h) toursStay_row_tie rfl ⟨rfl, rfl⟩ ToursStay_hmi rfl
    (fun f fn hf hfn => by
      obtain rfl : f = 5 := Option.some.inj (ToursStay_hnm.symm.trans hf) |>.symm
      obtain rfl : fn = Tryz.f5 := (Option.some.inj (Tryz.func5.symm.trans hfn)).symm
      exact ⟨ToursStay_hlo, fun j t ht => by
        rw [Tryz.params5] at ht
        have hm : t ∈ [22] := by simpa using Array.mem_of_getElem? ht
        exact (show Tryz.prog.wantsStandIn t = false by simpa using List.all_eq_true.1 ToursStay_hst t hm)⟩)
    ToursStay_hgo
end Go.Proofs.YtbkglhakhahfpaaGreatDoor
