/- The card of the law FeedersKnown, put together over its walk. No conditions beyond the row's own. -/
import Derived.Test.YtcfeoapbbkfbnaaGreatDoorFrame
import Derived.Test.YtcfeoapbbkfbnaaGreatDoorRg4
import Derived.Test.YtcfeoapbbkfbnaaGreatDoorFkK
namespace Go.Proofs.YtcfeoapbbkfbnaaGreatDoor
open Go.ChangeShapes Go.WideShapes Go.ChangeAt Go.RowKit

set_option maxRecDepth 100000 in
theorem FeedersKnown_lifted (os : Os) (started : os.Started) (H : Type) (enc : TypeId × Value → H) :
    ReturnsInHanded {} Tryz.checked os 3 .any (fun w args => (Rows.feedersKnownSpec.pre enc Tryz.prog Tryz.f3 [] false w args ∧ laidMetH Tryz.prog Rows.feedersKnownRow.laid w) ∧ sizedMet enc Tryz.prog Tryz.f3 (OpenSpec.ofChange Rows.feedersKnownSpec) false w args)
      (Rows.feedersKnownSpec.post enc Tryz.prog Tryz.f3 false true false false) := by
  refine returnsInHanded_of_change_and (C := Tryz.checked) (X := fun w _ => laidMetH Tryz.prog Rows.feedersKnownRow.laid w) (fun _ _ _ hh h => h.of_heap hh) own started (by kernel_rfl) Tryz.func3
    (ChangeSpec.witness_shaped (enc := enc) (C := Tryz.checked) (os := os) (X := fun w _ => laidMetH Tryz.prog Rows.feedersKnownRow.laid w) false (World.laidAll Tryz.prog os Rows.feedersKnownRow.laid) #[.slice none 0 0] 8 (World.laidAll_os _ _ _)
      (World.shaped_of_ZipB (by kernel_rfl) (by kernel_rfl)) (by kernel_rfl) (by kernel_rfl) (by kernel_rfl)
      (by rw [MakeChecks.laidMetH_plain _ _ _ (by kernel_rfl)]; exact laidMet_laidAll _ (by kernel_rfl) (by kernel_rfl))) ?_
  intro W base args ds gs before hval0 hW _ _ hL _
  have hval : ∀ (j : Nat) t v, Tryz.f3.params[j]? = some t → args[j]? = some v → Value.okWide Tryz.prog W .any base t v := hval0
  have hW' := hW
  obtain ⟨p, q, hA0, hV, rfl, hfz, hnd⟩ := hW
  have hA : DataW.TrodAll enc Tryz.prog W 0 (fun _ => true) true Tryz.f3.params.toList args.toList ds p := hA0
  rw [Tryz.params3] at hA hval
  obtain ⟨v0, d0, rfl, rfl, h0⟩ := trodAll_one hA
  obtain ⟨rfl, rfl⟩ := trodVars_none hV
  clear hA0 hval0
  simp only [List.append_nil] at hW'
  have hlt : ∀ x ∈ p, x.block < W.heap.size := fun x hx => by simpa using hW'.lt x hx
  obtain ⟨l, rl, hl⟩ := ints_key (hval 0 22 v0 rfl rfl) h0
  refine (FeedersKnown_any l v0 W rl hl).mono fun e W' ⟨he, hb⟩ => ?_
  subst he
  have hargs : ∀ (sp : Nat → Bool), (∀ x ∈ p, sp x.block = true) → DataW.Trod enc Tryz.prog W' 0 sp true 22 v0 d0 p :=
    fun sp hsp => WideElems.Trod_stays laidOut (by kernel_rfl) (of_decide_eq_true (by kernel_rfl)) h0 (fun x hx => hb.same (hlt x hx)) hsp
  exact ⟨_, rfl, post_of_below (pa := p) (pv := []) hW' (fun _ _ _ => trodAll_mk1 (shut_bool Tryz.underlying4 true)) (fun sp hsp => trodAll_mk1 (hargs sp (fun x hx => hsp x hx))) (fun _ _ => rfl) (by simp) hb (ok_one (by kernel_rfl) rfl (okWide_bool_mk Tryz.underlying4 true))⟩

theorem band2 {a b : Bool} (h : a = true) (k : b = true) : (a && b) = true := by rw [h, k]; rfl
set_option maxRecDepth 100000 in
theorem FeedersKnown_hjf : joinedFacts Tryz.prog 3 Tryz.f3 Rows.feedersKnownSpec Rows.feedersKnownRow = true :=
  band2 (band2 (band2 (band2 (band2 (band2 (band2 (band2 (band2 (band2 (band2 (band2 (band2 (band2 (band2 (band2 (band2 (band2 (band2 (band2 (band2 (band2 (band2 (band2 (band2 (band2 (band2 (band2 (band2 (band2 (band2 (FeedersKnown_jf0) FeedersKnown_jf1) FeedersKnown_jf2) FeedersKnown_jf3) FeedersKnown_jf4) FeedersKnown_jf5) FeedersKnown_jf6) FeedersKnown_jf7) FeedersKnown_jf8) FeedersKnown_jf9) FeedersKnown_jf10) FeedersKnown_jf11) FeedersKnown_jf12) FeedersKnown_jf13) FeedersKnown_jf14) FeedersKnown_jf15) FeedersKnown_jf16) FeedersKnown_jf17) FeedersKnown_jf18) FeedersKnown_jf19) FeedersKnown_jf20) FeedersKnown_jf21) FeedersKnown_jf22) FeedersKnown_jf23) FeedersKnown_jf24) FeedersKnown_jf25) FeedersKnown_jf26) FeedersKnown_jf27) FeedersKnown_jf28) FeedersKnown_jf29) FeedersKnown_jf30) FeedersKnown_jf31
theorem FeedersKnown_row : Rows.FeedersKnownSaid :=
  OpenClaim.holds_of_wide 3 Tryz.f3 rfl rfl rfl rfl rfl rfl rfl ⟨rfl, rfl, rfl, rfl, rfl⟩ rfl rfl rfl rfl rfl FeedersKnown_hnm Tryz.func3 FeedersKnown_hjf
    FeedersKnown_hin FeedersKnown_hwr
    (fun os started H enc _ => FeedersKnown_lifted os started H enc)
theorem FeedersKnown_holds : Rows.FeedersKnownCardSaid :=
  Claim7.holds_tied_plain_at .later [] [.data, .pinned] true (true, "789f849c41f522a84636e7b7d6683da0088ca0ebe442948540f3ebcdc0791f12") false
    FeedersKnown_row (fun _ h => by cases h) FeedersKnown_hwf (fun _ h => by cases h) feedersKnown_row_tie rfl ⟨rfl, rfl⟩ FeedersKnown_hmi rfl
    (fun f fn hf hfn => by
      obtain rfl : f = 3 := Option.some.inj (FeedersKnown_hnm.symm.trans hf) |>.symm
      obtain rfl : fn = Tryz.f3 := (Option.some.inj (Tryz.func3.symm.trans hfn)).symm
      exact ⟨FeedersKnown_hlo, fun j t ht => by
        rw [Tryz.params3] at ht
        have hm : t ∈ [22] := by simpa using Array.mem_of_getElem? ht
        exact (show Tryz.prog.wantsStandIn t = false by simpa using List.all_eq_true.1 FeedersKnown_hst t hm)⟩)
    FeedersKnown_hgo
end Go.Proofs.YtcfeoapbbkfbnaaGreatDoor
