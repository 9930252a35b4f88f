/- The card of the law GroupsReplaceOneAnother, put together over its walk. No conditions beyond the row's own. -/
import Derived.Test.YtjegfebolhjghaaGreatDoorPg31
import Derived.Test.YtjegfebolhjghaaGreatDoorCgKz
namespace Go.Proofs.YtjegfebolhjghaaGreatDoor
open Go.ChangeShapes Go.WideShapes Go.ChangeAt Go.RowKit

set_option maxRecDepth 100000 in
theorem GroupsReplaceOneAnother_lifted (os : Os) (started : os.Started) (H : Type) (enc : TypeId × Value → H) :
    ReturnsInHanded {} Tryz.checked os 4 .any (fun w args => (Rows.groupsReplaceOneAnotherSpec.pre enc Tryz.prog Tryz.f4 [] false w args ∧ laidMetH Tryz.prog Rows.groupsReplaceOneAnotherRow.laid w) ∧ sizedMet enc Tryz.prog Tryz.f4 (OpenSpec.ofChange Rows.groupsReplaceOneAnotherSpec) false w args)
      (Rows.groupsReplaceOneAnotherSpec.post enc Tryz.prog Tryz.f4 false true false false) := by
  refine returnsInHanded_of_change_and (C := Tryz.checked) (X := fun w _ => laidMetH Tryz.prog Rows.groupsReplaceOneAnotherRow.laid w) (fun _ _ _ hh h => h.of_heap hh) own started (by kernel_rfl) Tryz.func4
    (ChangeSpec.witness_shaped (enc := enc) (C := Tryz.checked) (os := os) (X := fun w _ => laidMetH Tryz.prog Rows.groupsReplaceOneAnotherRow.laid w) false (World.laidAll Tryz.prog os Rows.groupsReplaceOneAnotherRow.laid) #[.slice none 0 0] 8 (World.laidAll_os _ _ _)
      (World.shaped_of_ZipB (by kernel_rfl) (by kernel_rfl)) (by kernel_rfl) (by kernel_rfl) (by kernel_rfl)
      (by rw [MakeChecks.laidMetH_plain _ _ _ (by kernel_rfl)]; exact laidMet_laidAll _ (by kernel_rfl) (by kernel_rfl))) ?_
  intro W base args ds gs before hval0 hW _ _ hL _
  have hval : ∀ (j : Nat) t v, Tryz.f4.params[j]? = some t → args[j]? = some v → Value.okWide Tryz.prog W .any base t v := hval0
  have hW' := hW
  obtain ⟨p, q, hA0, hV, rfl, hfz, hnd⟩ := hW
  have hA : DataW.TrodAll enc Tryz.prog W 0 (fun _ => true) true Tryz.f4.params.toList args.toList ds p := hA0
  rw [Tryz.params4] at hA hval
  obtain ⟨v0, d0, rfl, rfl, h0⟩ := trodAll_one hA
  obtain ⟨rfl, rfl⟩ := trodVars_none hV
  clear hA0 hval0
  simp only [List.append_nil] at hW'
  have hlt : ∀ x ∈ p, x.block < W.heap.size := fun x hx => by simpa using hW'.lt x hx
  obtain ⟨l, rl, hl⟩ := ints_key (hval 0 22 v0 rfl rfl) h0
  refine (GroupsReplaceOneAnother_any l v0 W rl hl).mono fun e W' ⟨he, hb⟩ => ?_
  subst he
  have hargs : ∀ (sp : Nat → Bool), (∀ x ∈ p, sp x.block = true) → DataW.Trod enc Tryz.prog W' 0 sp true 22 v0 d0 p :=
    fun sp hsp => WideElems.Trod_stays laidOut (by kernel_rfl) (of_decide_eq_true (by kernel_rfl)) h0 (fun x hx => hb.same (hlt x hx)) hsp
  exact ⟨_, rfl, post_of_below (pa := p) (pv := []) hW' (fun _ _ _ => trodAll_mk1 (shut_bool Tryz.underlying4 true)) (fun sp hsp => trodAll_mk1 (hargs sp (fun x hx => hsp x hx))) (fun _ _ => rfl) (by simp) hb (ok_one (by kernel_rfl) rfl (okWide_bool_mk Tryz.underlying4 true))⟩

theorem band2 {a b : Bool} (h : a = true) (k : b = true) : (a && b) = true := by rw [h, k]; rfl
set_option maxRecDepth 100000 in
theorem GroupsReplaceOneAnother_hjf : joinedFacts Tryz.prog 4 Tryz.f4 Rows.groupsReplaceOneAnotherSpec Rows.groupsReplaceOneAnotherRow = true :=
  band2 (band2 (band2 (band2 (band2 (band2 (band2 (band2 (band2 (band2 (band2 (band2 (band2 (band2 (band2 (band2 (band2 (band2 (band2 (band2 (band2 (band2 (band2 (band2 (band2 (band2 (band2 (band2 (band2 (band2 (band2 (GroupsReplaceOneAnother_jf0) GroupsReplaceOneAnother_jf1) GroupsReplaceOneAnother_jf2) GroupsReplaceOneAnother_jf3) GroupsReplaceOneAnother_jf4) GroupsReplaceOneAnother_jf5) GroupsReplaceOneAnother_jf6) GroupsReplaceOneAnother_jf7) GroupsReplaceOneAnother_jf8) GroupsReplaceOneAnother_jf9) GroupsReplaceOneAnother_jf10) GroupsReplaceOneAnother_jf11) GroupsReplaceOneAnother_jf12) GroupsReplaceOneAnother_jf13) GroupsReplaceOneAnother_jf14) GroupsReplaceOneAnother_jf15) GroupsReplaceOneAnother_jf16) GroupsReplaceOneAnother_jf17) GroupsReplaceOneAnother_jf18) GroupsReplaceOneAnother_jf19) GroupsReplaceOneAnother_jf20) GroupsReplaceOneAnother_jf21) GroupsReplaceOneAnother_jf22) GroupsReplaceOneAnother_jf23) GroupsReplaceOneAnother_jf24) GroupsReplaceOneAnother_jf25) GroupsReplaceOneAnother_jf26) GroupsReplaceOneAnother_jf27) GroupsReplaceOneAnother_jf28) GroupsReplaceOneAnother_jf29) GroupsReplaceOneAnother_jf30) GroupsReplaceOneAnother_jf31
theorem GroupsReplaceOneAnother_row : Rows.GroupsReplaceOneAnotherSaid :=
  OpenClaim.holds_of_wide 4 Tryz.f4 rfl rfl rfl rfl rfl rfl rfl ⟨rfl, rfl, rfl, rfl, rfl⟩ rfl rfl rfl rfl rfl GroupsReplaceOneAnother_hnm Tryz.func4 GroupsReplaceOneAnother_hjf
    GroupsReplaceOneAnother_hin GroupsReplaceOneAnother_hwr
    (fun os started H enc _ => GroupsReplaceOneAnother_lifted os started H enc)
theorem GroupsReplaceOneAnother_holds : Rows.GroupsReplaceOneAnotherCardSaid :=
  Claim7.holds_tied_plain_at .later [] [.data, .pinned] true (true, "e656e4afb940c99cff01175164c81dec4b4016f898653ee4c25d8a354e099ae4") true
    GroupsReplaceOneAnother_row (fun _ h => by cases h) GroupsReplaceOneAnother_hwf (fun _ h => by cases h) groupsReplaceOneAnother_row_tie rfl ⟨rfl, rfl⟩ GroupsReplaceOneAnother_hmi rfl
    (fun f fn hf hfn => by
      obtain rfl : f = 4 := Option.some.inj (GroupsReplaceOneAnother_hnm.symm.trans hf) |>.symm
      obtain rfl : fn = Tryz.f4 := (Option.some.inj (Tryz.func4.symm.trans hfn)).symm
      exact ⟨GroupsReplaceOneAnother_hlo, fun j t ht => by
        rw [Tryz.params4] at ht
        have hm : t ∈ [22] := by simpa using Array.mem_of_getElem? ht
        exact (show Tryz.prog.wantsStandIn t = false by simpa using List.all_eq_true.1 GroupsReplaceOneAnother_hst t hm)⟩)
    GroupsReplaceOneAnother_hgo
end Go.Proofs.YtjegfebolhjghaaGreatDoor
