/- The card of the law FeedsChecked, put together over its walk. No conditions beyond the row's own. -/
import Derived.Test.YtilhonppgedoiaaGreatDoorFz45
import Derived.Test.YtilhonppgedoiaaGreatDoorFz46
import Derived.Test.YtilhonppgedoiaaGreatDoorFhKz
namespace Go.Proofs.YtilhonppgedoiaaGreatDoor
open Go.ChangeShapes Go.WideShapes Go.ChangeAt Go.RowKit

set_option maxRecDepth 100000 in
theorem FeedsChecked_lifted (os : Os) (started : os.Started) (H : Type) (enc : TypeId × Value → H) :
    ReturnsInHanded {} Tryz.checked os 4 .any (fun w args => (Rows.feedsCheckedSpec.pre enc Tryz.prog Tryz.f4 [] false w args ∧ laidMetH Tryz.prog Rows.feedsCheckedRow.laid w) ∧ sizedMet enc Tryz.prog Tryz.f4 (OpenSpec.ofChange Rows.feedsCheckedSpec) false w args)
      (Rows.feedsCheckedSpec.post enc Tryz.prog Tryz.f4 false true false false) := by
  refine returnsInHanded_shd (C := Tryz.checked) (X := fun w _ => laidMetH Tryz.prog Rows.feedsCheckedRow.laid w) (fun _ _ _ hh h => h.of_heap hh) own started (by kernel_rfl) Tryz.func4
    (ChangeSpec.witness_shaped (enc := enc) (C := Tryz.checked) (os := os) (X := fun w _ => laidMetH Tryz.prog Rows.feedsCheckedRow.laid w) false (World.laidAll Tryz.prog os Rows.feedsCheckedRow.laid) #[.slice none 0 0] 8 (World.laidAll_os _ _ _)
      (World.shaped_of_ZipB (by kernel_rfl) (by kernel_rfl)) (by kernel_rfl) (by kernel_rfl) (by kernel_rfl)
      (by rw [MakeChecks.laidMetH_plain _ _ _ (by kernel_rfl)]; exact laidMet_laidAll _ (by kernel_rfl) (by kernel_rfl))) ?_
  intro W base args ds gs before hval0 hW hsh hL
  have hval : ∀ (j : Nat) t v, Tryz.f4.params[j]? = some t → args[j]? = some v → Value.okWide Tryz.prog W .any base t v := hval0
  have hW' := hW
  obtain ⟨p, q, hA0, hV, rfl, hfz, hnd⟩ := hW
  have hA : DataW.TrodAll enc Tryz.prog W 0 (fun _ => true) true Tryz.f4.params.toList args.toList ds p := hA0
  rw [Tryz.params4] at hA hval
  obtain ⟨v0, d0, rfl, rfl, h0⟩ := trodAll_one hA
  obtain ⟨rfl, rfl⟩ := trodVars_none hV
  clear hA0 hval0
  simp only [List.append_nil] at hW'
  have hlt : ∀ x ∈ p, x.block < W.heap.size := fun x hx => by simpa using hW'.lt x hx
  obtain ⟨l, rl, hl⟩ := ints_key (hval 0 22 v0 rfl rfl) h0
  rw [MakeChecks.laidMetH_plain _ _ _ (by kernel_rfl)] at hL
  have hTab : laidMet Tryz.prog (("internal/strconv.uint64pow10", Lib.tabData .u64 Lib.pow10Tab) :: _) W := hL.tail.tail
  have hTx := TxW.of_row hTab hsh
  refine (FeedsChecked_any l v0 W rl hl hTx).mono fun e W' ⟨he, hb⟩ => ?_
  subst he
  have hargs : ∀ (sp : Nat → Bool), (∀ x ∈ p, sp x.block = true) → DataW.Trod enc Tryz.prog W' 0 sp true 22 v0 d0 p :=
    fun sp hsp => WideElems.Trod_stays laidOut (by kernel_rfl) (of_decide_eq_true (by kernel_rfl)) h0 (fun x hx => hb.same (hlt x hx)) hsp
  exact ⟨_, rfl, post_of_below (pa := p) (pv := []) hW' (fun _ _ _ => trodAll_mk1 (shut_bool Tryz.underlying4 true)) (fun sp hsp => trodAll_mk1 (hargs sp (fun x hx => hsp x hx))) (fun _ _ => rfl) (by simp) hb (ok_one (by kernel_rfl) rfl (okWide_bool_mk Tryz.underlying4 true))⟩

theorem band2 {a b : Bool} (h : a = true) (k : b = true) : (a && b) = true := by rw [h, k]; rfl
set_option maxRecDepth 100000 in
theorem FeedsChecked_hjf : joinedFacts Tryz.prog 4 Tryz.f4 Rows.feedsCheckedSpec Rows.feedsCheckedRow = true :=
  band2 (band2 (band2 (band2 (band2 (band2 (band2 (band2 (band2 (band2 (band2 (band2 (band2 (band2 (band2 (band2 (band2 (band2 (band2 (band2 (band2 (band2 (band2 (band2 (band2 (band2 (band2 (band2 (band2 (band2 (band2 (FeedsChecked_jf0) FeedsChecked_jf1) FeedsChecked_jf2) FeedsChecked_jf3) FeedsChecked_jf4) FeedsChecked_jf5) FeedsChecked_jf6) FeedsChecked_jf7) FeedsChecked_jf8) FeedsChecked_jf9) FeedsChecked_jf10) FeedsChecked_jf11) FeedsChecked_jf12) FeedsChecked_jf13) FeedsChecked_jf14) FeedsChecked_jf15) FeedsChecked_jf16) FeedsChecked_jf17) FeedsChecked_jf18) FeedsChecked_jf19) FeedsChecked_jf20) FeedsChecked_jf21) FeedsChecked_jf22) FeedsChecked_jf23) FeedsChecked_jf24) FeedsChecked_jf25) FeedsChecked_jf26) FeedsChecked_jf27) FeedsChecked_jf28) FeedsChecked_jf29) FeedsChecked_jf30) FeedsChecked_jf31
theorem FeedsChecked_row : Rows.FeedsCheckedSaid :=
  OpenClaim.holds_of_wide 4 Tryz.f4 rfl rfl rfl rfl rfl rfl rfl ⟨rfl, rfl, rfl, rfl, rfl⟩ rfl rfl rfl rfl rfl FeedsChecked_hnm Tryz.func4 FeedsChecked_hjf
    FeedsChecked_hin FeedsChecked_hwr
    (fun os started H enc _ => FeedsChecked_lifted os started H enc)
theorem FeedsChecked_holds : Rows.FeedsCheckedCardSaid :=
  Claim7.holds_tied_plain_at .later [] [.data, .data, .data, .data, .sentinel, .sentinel, .pinned] true (true, "42ce26b1f8d4b91822045f60f7d80b6accd6af3293549c4ea87d972250d18eca") true
    FeedsChecked_row (fun _ h => by cases h) FeedsChecked_hwf (fun _ h => by cases h) feedsChecked_row_tie rfl ⟨rfl, rfl⟩ FeedsChecked_hmi rfl
    (fun f fn hf hfn => by
      obtain rfl : f = 4 := Option.some.inj (FeedsChecked_hnm.symm.trans hf) |>.symm
      obtain rfl : fn = Tryz.f4 := (Option.some.inj (Tryz.func4.symm.trans hfn)).symm
      exact ⟨FeedsChecked_hlo, fun j t ht => by
        rw [Tryz.params4] at ht
        have hm : t ∈ [22] := by simpa using Array.mem_of_getElem? ht
        exact (show Tryz.prog.wantsStandIn t = false by simpa using List.all_eq_true.1 FeedsChecked_hst t hm)⟩)
    FeedsChecked_hgo
end Go.Proofs.YtilhonppgedoiaaGreatDoor
