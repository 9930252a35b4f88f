/- The card of the law FeedsComeBack, put together over its walk. No conditions beyond the row's own. -/
import Derived.Test.YtilhonppgedoiaaGreatDoorFz37
import Derived.Test.YtilhonppgedoiaaGreatDoorFz46
import Derived.Test.YtilhonppgedoiaaGreatDoorFcKz
namespace Go.Proofs.YtilhonppgedoiaaGreatDoor
open Go.ChangeShapes Go.WideShapes Go.ChangeAt Go.RowKit

set_option maxRecDepth 100000 in
theorem FeedsComeBack_lifted (os : Os) (started : os.Started) (H : Type) (enc : TypeId × Value → H) :
    ReturnsInHanded {} Tryz.checked os 3 .any (fun w args => (Rows.feedsComeBackSpec.pre enc Tryz.prog Tryz.f3 [] false w args ∧ laidMetH Tryz.prog Rows.feedsComeBackRow.laid w) ∧ sizedMet enc Tryz.prog Tryz.f3 (OpenSpec.ofChange Rows.feedsComeBackSpec) false w args)
      (Rows.feedsComeBackSpec.post enc Tryz.prog Tryz.f3 false true false false) := by
  refine returnsInHanded_shd (C := Tryz.checked) (X := fun w _ => laidMetH Tryz.prog Rows.feedsComeBackRow.laid w) (fun _ _ _ hh h => h.of_heap hh) own started (by kernel_rfl) Tryz.func3
    (ChangeSpec.witness_shaped (enc := enc) (C := Tryz.checked) (os := os) (X := fun w _ => laidMetH Tryz.prog Rows.feedsComeBackRow.laid w) false (World.laidAll Tryz.prog os Rows.feedsComeBackRow.laid) #[.slice none 0 0] 8 (World.laidAll_os _ _ _)
      (World.shaped_of_ZipB (by kernel_rfl) (by kernel_rfl)) (by kernel_rfl) (by kernel_rfl) (by kernel_rfl)
      (by rw [MakeChecks.laidMetH_plain _ _ _ (by kernel_rfl)]; exact laidMet_laidAll _ (by kernel_rfl) (by kernel_rfl))) ?_
  intro W base args ds gs before hval0 hW hsh hL
  have hval : ∀ (j : Nat) t v, Tryz.f3.params[j]? = some t → args[j]? = some v → Value.okWide Tryz.prog W .any base t v := hval0
  have hW' := hW
  obtain ⟨p, q, hA0, hV, rfl, hfz, hnd⟩ := hW
  have hA : DataW.TrodAll enc Tryz.prog W 0 (fun _ => true) true Tryz.f3.params.toList args.toList ds p := hA0
  rw [Tryz.params3] at hA hval
  obtain ⟨v0, d0, rfl, rfl, h0⟩ := trodAll_one hA
  obtain ⟨rfl, rfl⟩ := trodVars_none hV
  clear hA0 hval0
  simp only [List.append_nil] at hW'
  have hlt : ∀ x ∈ p, x.block < W.heap.size := fun x hx => by simpa using hW'.lt x hx
  obtain ⟨l, rl, hl⟩ := ints_key (hval 0 22 v0 rfl rfl) h0
  rw [MakeChecks.laidMetH_plain _ _ _ (by kernel_rfl)] at hL
  have hTab : laidMet Tryz.prog (("internal/strconv.uint64pow10", Lib.tabData .u64 Lib.pow10Tab) :: _) W := hL.tail.tail
  have hTx := TxW.of_row hTab hsh
  refine (FeedsComeBack_any l v0 W rl hl hTx).mono fun e W' ⟨he, hb⟩ => ?_
  subst he
  have hargs : ∀ (sp : Nat → Bool), (∀ x ∈ p, sp x.block = true) → DataW.Trod enc Tryz.prog W' 0 sp true 22 v0 d0 p :=
    fun sp hsp => WideElems.Trod_stays laidOut (by kernel_rfl) (of_decide_eq_true (by kernel_rfl)) h0 (fun x hx => hb.same (hlt x hx)) hsp
  exact ⟨_, rfl, post_of_below (pa := p) (pv := []) hW' (fun _ _ _ => trodAll_mk1 (shut_bool Tryz.underlying4 true)) (fun sp hsp => trodAll_mk1 (hargs sp (fun x hx => hsp x hx))) (fun _ _ => rfl) (by simp) hb (ok_one (by kernel_rfl) rfl (okWide_bool_mk Tryz.underlying4 true))⟩

theorem band2 {a b : Bool} (h : a = true) (k : b = true) : (a && b) = true := by rw [h, k]; rfl
set_option maxRecDepth 100000 in
theorem FeedsComeBack_hjf : joinedFacts Tryz.prog 3 Tryz.f3 Rows.feedsComeBackSpec Rows.feedsComeBackRow = true :=
  band2 (band2 (band2 (band2 (band2 (band2 (band2 (band2 (band2 (band2 (band2 (band2 (band2 (band2 (band2 (band2 (band2 (band2 (band2 (band2 (band2 (band2 (band2 (band2 (band2 (band2 (band2 (band2 (band2 (band2 (band2 (FeedsComeBack_jf0) FeedsComeBack_jf1) FeedsComeBack_jf2) FeedsComeBack_jf3) FeedsComeBack_jf4) FeedsComeBack_jf5) FeedsComeBack_jf6) FeedsComeBack_jf7) FeedsComeBack_jf8) FeedsComeBack_jf9) FeedsComeBack_jf10) FeedsComeBack_jf11) FeedsComeBack_jf12) FeedsComeBack_jf13) FeedsComeBack_jf14) FeedsComeBack_jf15) FeedsComeBack_jf16) FeedsComeBack_jf17) FeedsComeBack_jf18) FeedsComeBack_jf19) FeedsComeBack_jf20) FeedsComeBack_jf21) FeedsComeBack_jf22) FeedsComeBack_jf23) FeedsComeBack_jf24) FeedsComeBack_jf25) FeedsComeBack_jf26) FeedsComeBack_jf27) FeedsComeBack_jf28) FeedsComeBack_jf29) FeedsComeBack_jf30) FeedsComeBack_jf31
theorem FeedsComeBack_row : Rows.FeedsComeBackSaid :=
  OpenClaim.holds_of_wide 3 Tryz.f3 rfl rfl rfl rfl rfl rfl rfl ⟨rfl, rfl, rfl, rfl, rfl⟩ rfl rfl rfl rfl rfl FeedsComeBack_hnm Tryz.func3 FeedsComeBack_hjf
    FeedsComeBack_hin FeedsComeBack_hwr
    (fun os started H enc _ => FeedsComeBack_lifted os started H enc)
theorem FeedsComeBack_holds : Rows.FeedsComeBackCardSaid :=
  Claim7.holds_tied_plain_at .later [] [.data, .data, .data, .data, .sentinel, .sentinel, .pinned] true (true, "42ce26b1f8d4b91822045f60f7d80b6accd6af3293549c4ea87d972250d18eca") true
    FeedsComeBack_row (fun _ h => by cases h) FeedsComeBack_hwf (fun _ h => by cases h) feedsComeBack_row_tie rfl ⟨rfl, rfl⟩ FeedsComeBack_hmi rfl
    (fun f fn hf hfn => by
      obtain rfl : f = 3 := Option.some.inj (FeedsComeBack_hnm.symm.trans hf) |>.symm
      obtain rfl : fn = Tryz.f3 := (Option.some.inj (Tryz.func3.symm.trans hfn)).symm
      exact ⟨FeedsComeBack_hlo, fun j t ht => by
        rw [Tryz.params3] at ht
        have hm : t ∈ [22] := by simpa using Array.mem_of_getElem? ht
        exact (show Tryz.prog.wantsStandIn t = false by simpa using List.all_eq_true.1 FeedsComeBack_hst t hm)⟩)
    FeedsComeBack_hgo
end Go.Proofs.YtilhonppgedoiaaGreatDoor
