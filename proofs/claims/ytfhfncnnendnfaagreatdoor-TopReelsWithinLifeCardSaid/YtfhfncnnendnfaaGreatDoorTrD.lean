/- The card of the law TopReelsWithinLife, put together over its walk. No conditions beyond the row's own. -/
import Derived.Test.YtfhfncnnendnfaaGreatDoorFrame
import Derived.Test.YtfhfncnnendnfaaGreatDoorTrW
import Derived.Test.YtfhfncnnendnfaaGreatDoorTrK
namespace Go.Proofs.YtfhfncnnendnfaaGreatDoor
open Go.ChangeShapes Go.WideShapes Go.ChangeAt Go.RowKit

set_option maxRecDepth 100000 in
theorem TopReelsWithinLife_lifted (os : Os) (started : os.Started) (H : Type) (enc : TypeId × Value → H) :
    ReturnsInHanded {} Tryz.checked os 3 .any (fun w args => (Rows.topReelsWithinLifeSpec.pre enc Tryz.prog Tryz.f3 [] false w args ∧ laidMetH Tryz.prog Rows.topReelsWithinLifeRow.laid w) ∧ sizedMet enc Tryz.prog Tryz.f3 (OpenSpec.ofChange Rows.topReelsWithinLifeSpec) false w args)
      (Rows.topReelsWithinLifeSpec.post enc Tryz.prog Tryz.f3 false true false false) := by
  refine returnsInHanded_of_change_and (C := Tryz.checked) (X := fun w _ => laidMetH Tryz.prog Rows.topReelsWithinLifeRow.laid w) (fun _ _ _ hh h => h.of_heap hh) own started (by kernel_rfl) Tryz.func3
    (ChangeSpec.witness_shaped (enc := enc) (C := Tryz.checked) (os := os) (X := fun w _ => laidMetH Tryz.prog Rows.topReelsWithinLifeRow.laid w) false (World.laidAll Tryz.prog os Rows.topReelsWithinLifeRow.laid) #[.slice none 0 0] 8 (World.laidAll_os _ _ _)
      (World.shaped_of_ZipB (by kernel_rfl) (by kernel_rfl)) (by kernel_rfl) (by kernel_rfl) (by kernel_rfl)
      (by rw [MakeChecks.laidMetH_plain _ _ _ (by kernel_rfl)]; exact laidMet_laidAll _ (by kernel_rfl) (by kernel_rfl))) ?_
  intro W base args ds gs before hval0 hW _ _ hL _
  have hval : ∀ (j : Nat) t v, Tryz.f3.params[j]? = some t → args[j]? = some v → Value.okWide Tryz.prog W .any base t v := hval0
  have hW' := hW
  obtain ⟨p, q, hA0, hV, rfl, hfz, hnd⟩ := hW
  have hA : DataW.TrodAll enc Tryz.prog W 0 (fun _ => true) true Tryz.f3.params.toList args.toList ds p := hA0
  rw [Tryz.params3] at hA hval
  obtain ⟨v0, d0, rfl, rfl, h0⟩ := trodAll_one hA
  obtain ⟨rfl, rfl⟩ := trodVars_none hV
  clear hA0 hval0
  simp only [List.append_nil] at hW'
  have hlt : ∀ x ∈ p, x.block < W.heap.size := fun x hx => by simpa using hW'.lt x hx
  obtain ⟨l, rl, hl⟩ := ints_key (hval 0 22 v0 rfl rfl) h0
  refine (TopReelsWithinLife_any l v0 W rl hl).mono fun e W' ⟨he, hb⟩ => ?_
  subst he
  have hargs : ∀ (sp : Nat → Bool), (∀ x ∈ p, sp x.block = true) → DataW.Trod enc Tryz.prog W' 0 sp true 22 v0 d0 p :=
    fun sp hsp => WideElems.Trod_stays laidOut (by kernel_rfl) (of_decide_eq_true (by kernel_rfl)) h0 (fun x hx => hb.same (hlt x hx)) hsp
  exact ⟨_, rfl, post_of_below (pa := p) (pv := []) hW' (fun _ _ _ => trodAll_mk1 (shut_bool Tryz.underlying4 true)) (fun sp hsp => trodAll_mk1 (hargs sp (fun x hx => hsp x hx))) (fun _ _ => rfl) (by simp) hb (ok_one (by kernel_rfl) rfl (okWide_bool_mk Tryz.underlying4 true))⟩

theorem band2 {a b : Bool} (h : a = true) (k : b = true) : (a && b) = true := by rw [h, k]; rfl
set_option maxRecDepth 100000 in
theorem TopReelsWithinLife_hjf : joinedFacts Tryz.prog 3 Tryz.f3 Rows.topReelsWithinLifeSpec Rows.topReelsWithinLifeRow = true :=
  band2 (band2 (band2 (band2 (band2 (band2 (band2 (band2 (band2 (band2 (band2 (band2 (band2 (band2 (band2 (band2 (band2 (band2 (band2 (band2 (band2 (band2 (band2 (band2 (band2 (band2 (band2 (band2 (band2 (band2 (band2 (TopReelsWithinLife_jf0) TopReelsWithinLife_jf1) TopReelsWithinLife_jf2) TopReelsWithinLife_jf3) TopReelsWithinLife_jf4) TopReelsWithinLife_jf5) TopReelsWithinLife_jf6) TopReelsWithinLife_jf7) TopReelsWithinLife_jf8) TopReelsWithinLife_jf9) TopReelsWithinLife_jf10) TopReelsWithinLife_jf11) TopReelsWithinLife_jf12) TopReelsWithinLife_jf13) TopReelsWithinLife_jf14) TopReelsWithinLife_jf15) TopReelsWithinLife_jf16) TopReelsWithinLife_jf17) TopReelsWithinLife_jf18) TopReelsWithinLife_jf19) TopReelsWithinLife_jf20) TopReelsWithinLife_jf21) TopReelsWithinLife_jf22) TopReelsWithinLife_jf23) TopReelsWithinLife_jf24) TopReelsWithinLife_jf25) TopReelsWithinLife_jf26) TopReelsWithinLife_jf27) TopReelsWithinLife_jf28) TopReelsWithinLife_jf29) TopReelsWithinLife_jf30) TopReelsWithinLife_jf31
theorem TopReelsWithinLife_row : Rows.TopReelsWithinLifeSaid :=
  OpenClaim.holds_of_wide 3 Tryz.f3 rfl rfl rfl rfl rfl rfl rfl ⟨rfl, rfl, rfl, rfl, rfl⟩ rfl rfl rfl rfl rfl TopReelsWithinLife_hnm Tryz.func3 TopReelsWithinLife_hjf
    TopReelsWithinLife_hin TopReelsWithinLife_hwr
    (fun os started H enc _ => TopReelsWithinLife_lifted os started H enc)
theorem TopReelsWithinLife_holds : Rows.TopReelsWithinLifeCardSaid :=
  Claim7.holds_tied_plain_at .later [] [.data, .pinned] true (true, "f502451538f064dfdad0c30721c372b587ba67493b83b5b7aea4916e90807ec4") false
    TopReelsWithinLife_row (fun _ h => by cases h) TopReelsWithinLife_hwf (fun _ h => by cases h) topReelsWithinLife_row_tie rfl ⟨rfl, rfl⟩ TopReelsWithinLife_hmi rfl
    (fun f fn hf hfn => by
      obtain rfl : f = 3 := Option.some.inj (TopReelsWithinLife_hnm.symm.trans hf) |>.symm
      obtain rfl : fn = Tryz.f3 := (Option.some.inj (Tryz.func3.symm.trans hfn)).symm
      exact ⟨TopReelsWithinLife_hlo, fun j t ht => by
        rw [Tryz.params3] at ht
        have hm : t ∈ [22] := by simpa using Array.mem_of_getElem? ht
        exact (show Tryz.prog.wantsStandIn t = false by simpa using List.all_eq_true.1 TopReelsWithinLife_hst t hm)⟩)
    TopReelsWithinLife_hgo
end Go.Proofs.YtfhfncnnendnfaaGreatDoor
