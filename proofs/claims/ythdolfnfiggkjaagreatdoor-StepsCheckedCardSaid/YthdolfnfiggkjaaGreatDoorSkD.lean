/- The card of the law StepsChecked, put together over its walk. No conditions beyond the row's own. -/
import Derived.Test.YthdolfnfiggkjaaGreatDoorFrame
import Derived.Test.YthdolfnfiggkjaaGreatDoorSkW
import Derived.Test.YthdolfnfiggkjaaGreatDoorSkK
import Derived.Test.YthdolfnfiggkjaaGreatDoorTxk
namespace Go.Proofs.YthdolfnfiggkjaaGreatDoor
open Go.ChangeShapes Go.WideShapes Go.ChangeAt Go.RowKit

set_option maxRecDepth 100000 in
theorem StepsChecked_lifted (os : Os) (started : os.Started) (H : Type) (enc : TypeId × Value → H) :
    ReturnsInHanded {} Tryz.checked os 3 .any (fun w args => (Rows.stepsCheckedSpec.pre enc Tryz.prog Tryz.f3 [] false w args ∧ laidMetH Tryz.prog Rows.stepsCheckedRow.laid w) ∧ sizedMet enc Tryz.prog Tryz.f3 (OpenSpec.ofChange Rows.stepsCheckedSpec) false w args)
      (Rows.stepsCheckedSpec.post enc Tryz.prog Tryz.f3 false true false false) := by
  refine returnsInHanded_shd (C := Tryz.checked) (X := fun w _ => laidMetH Tryz.prog Rows.stepsCheckedRow.laid w) (fun _ _ _ hh h => h.of_heap hh) own started (by kernel_rfl) Tryz.func3
    (ChangeSpec.witness_shaped (enc := enc) (C := Tryz.checked) (os := os) (X := fun w _ => laidMetH Tryz.prog Rows.stepsCheckedRow.laid w) false (World.laidAll Tryz.prog os Rows.stepsCheckedRow.laid) #[.slice none 0 0] 8 (World.laidAll_os _ _ _)
      (World.shaped_of_ZipB (by kernel_rfl) (by kernel_rfl)) (by kernel_rfl) (by kernel_rfl) (by kernel_rfl)
      (by rw [MakeChecks.laidMetH_plain _ _ _ (by kernel_rfl)]; exact laidMet_laidAll _ (by kernel_rfl) (by kernel_rfl))) ?_
  intro W base args ds gs before hval0 hW hsh hL
  have hval : ∀ (j : Nat) t v, Tryz.f3.params[j]? = some t → args[j]? = some v → Value.okWide Tryz.prog W .any base t v := hval0
  have hW' := hW
  obtain ⟨p, q, hA0, hV, rfl, hfz, hnd⟩ := hW
  have hA : DataW.TrodAll enc Tryz.prog W 0 (fun _ => true) true Tryz.f3.params.toList args.toList ds p := hA0
  rw [Tryz.params3] at hA hval
  obtain ⟨v0, d0, rfl, rfl, h0⟩ := trodAll_one hA
  obtain ⟨rfl, rfl⟩ := trodVars_none hV
  clear hA0 hval0
  simp only [List.append_nil] at hW'
  have hlt : ∀ x ∈ p, x.block < W.heap.size := fun x hx => by simpa using hW'.lt x hx
  obtain ⟨l, rl, hl⟩ := ints_key (hval 0 22 v0 rfl rfl) h0
  rw [MakeChecks.laidMetH_plain _ _ _ (by kernel_rfl)] at hL
  have hTab : laidMet Tryz.prog (("internal/strconv.uint64pow10", Lib.tabData .u64 Lib.pow10Tab) :: _) W := hL.tail.tail
  have hTx := TxW.of_row hTab hsh
  refine (StepsChecked_any l v0 W rl hl hTx).mono fun e W' ⟨he, hb⟩ => ?_
  subst he
  have hargs : ∀ (sp : Nat → Bool), (∀ x ∈ p, sp x.block = true) → DataW.Trod enc Tryz.prog W' 0 sp true 22 v0 d0 p :=
    fun sp hsp => WideElems.Trod_stays laidOut (by kernel_rfl) (of_decide_eq_true (by kernel_rfl)) h0 (fun x hx => hb.same (hlt x hx)) hsp
  exact ⟨_, rfl, post_of_below (pa := p) (pv := []) hW' (fun _ _ _ => trodAll_mk1 (shut_bool Tryz.underlying4 true)) (fun sp hsp => trodAll_mk1 (hargs sp (fun x hx => hsp x hx))) (fun _ _ => rfl) (by simp) hb (ok_one (by kernel_rfl) rfl (okWide_bool_mk Tryz.underlying4 true))⟩

theorem band2 {a b : Bool} (h : a = true) (k : b = true) : (a && b) = true := by rw [h, k]; rfl
set_option maxRecDepth 100000 in
theorem StepsChecked_hjf : joinedFacts Tryz.prog 3 Tryz.f3 Rows.stepsCheckedSpec Rows.stepsCheckedRow = true :=
  band2 (band2 (band2 (band2 (band2 (band2 (band2 (band2 (band2 (band2 (band2 (band2 (band2 (band2 (band2 (band2 (band2 (band2 (band2 (band2 (band2 (band2 (band2 (band2 (band2 (band2 (band2 (band2 (band2 (band2 (band2 (StepsChecked_jf0) StepsChecked_jf1) StepsChecked_jf2) StepsChecked_jf3) StepsChecked_jf4) StepsChecked_jf5) StepsChecked_jf6) StepsChecked_jf7) StepsChecked_jf8) StepsChecked_jf9) StepsChecked_jf10) StepsChecked_jf11) StepsChecked_jf12) StepsChecked_jf13) StepsChecked_jf14) StepsChecked_jf15) StepsChecked_jf16) StepsChecked_jf17) StepsChecked_jf18) StepsChecked_jf19) StepsChecked_jf20) StepsChecked_jf21) StepsChecked_jf22) StepsChecked_jf23) StepsChecked_jf24) StepsChecked_jf25) StepsChecked_jf26) StepsChecked_jf27) StepsChecked_jf28) StepsChecked_jf29) StepsChecked_jf30) StepsChecked_jf31
theorem StepsChecked_row : Rows.StepsCheckedSaid :=
  OpenClaim.holds_of_wide 3 Tryz.f3 rfl rfl rfl rfl rfl rfl rfl ⟨rfl, rfl, rfl, rfl, rfl⟩ rfl rfl rfl rfl rfl StepsChecked_hnm Tryz.func3 StepsChecked_hjf
    StepsChecked_hin StepsChecked_hwr
    (fun os started H enc _ => StepsChecked_lifted os started H enc)
theorem StepsChecked_holds : Rows.StepsCheckedCardSaid :=
  Claim7.holds_tied_plain_at .later [] [.data, .data, .data, .data, .sentinel, .sentinel, .pinned] true (true, "31d22ae3401ca3a1632aff894c34df0660f1d242c7b8bc9557c4555394e32a38") true
    StepsChecked_row (fun _ h => by cases h) StepsChecked_hwf (fun _ h => by cases h) stepsChecked_row_tie rfl ⟨rfl, rfl⟩ StepsChecked_hmi rfl
    (fun f fn hf hfn => by
      obtain rfl : f = 3 := Option.some.inj (StepsChecked_hnm.symm.trans hf) |>.symm
      obtain rfl : fn = Tryz.f3 := (Option.some.inj (Tryz.func3.symm.trans hfn)).symm
      exact ⟨StepsChecked_hlo, fun j t ht => by
        rw [Tryz.params3] at ht
        have hm : t ∈ [22] := by simpa using Array.mem_of_getElem? ht
        exact (show Tryz.prog.wantsStandIn t = false by simpa using List.all_eq_true.1 StepsChecked_hst t hm)⟩)
    StepsChecked_hgo
end Go.Proofs.YthdolfnfiggkjaaGreatDoor
