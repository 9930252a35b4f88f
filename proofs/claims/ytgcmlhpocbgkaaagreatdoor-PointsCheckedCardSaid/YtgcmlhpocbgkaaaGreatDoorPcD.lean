/- The card of the law PointsChecked, put together over its walk. No conditions beyond the row's own. -/
import Derived.Test.YtgcmlhpocbgkaaaGreatDoorFrame
import Derived.Test.YtgcmlhpocbgkaaaGreatDoorPcW
import Derived.Test.YtgcmlhpocbgkaaaGreatDoorPcK
import Derived.Test.YtgcmlhpocbgkaaaGreatDoorTxk
namespace Go.Proofs.YtgcmlhpocbgkaaaGreatDoor
open Go.ChangeShapes Go.WideShapes Go.ChangeAt Go.RowKit

set_option maxRecDepth 100000 in
theorem PointsChecked_lifted (os : Os) (started : os.Started) (H : Type) (enc : TypeId × Value → H) :
    ReturnsInHanded {} Tryz.checked os 4 .any (fun w args => (Rows.pointsCheckedSpec.pre enc Tryz.prog Tryz.f4 [] false w args ∧ laidMetH Tryz.prog Rows.pointsCheckedRow.laid w) ∧ sizedMet enc Tryz.prog Tryz.f4 (OpenSpec.ofChange Rows.pointsCheckedSpec) false w args)
      (Rows.pointsCheckedSpec.post enc Tryz.prog Tryz.f4 false true false false) := by
  refine returnsInHanded_shd (C := Tryz.checked) (X := fun w _ => laidMetH Tryz.prog Rows.pointsCheckedRow.laid w) (fun _ _ _ hh h => h.of_heap hh) own started (by kernel_rfl) Tryz.func4
    (ChangeSpec.witness_shaped (enc := enc) (C := Tryz.checked) (os := os) (X := fun w _ => laidMetH Tryz.prog Rows.pointsCheckedRow.laid w) false (World.laidAll Tryz.prog os Rows.pointsCheckedRow.laid) #[.slice none 0 0] 8 (World.laidAll_os _ _ _)
      (World.shaped_of_ZipB (by kernel_rfl) (by kernel_rfl)) (by kernel_rfl) (by kernel_rfl) (by kernel_rfl)
      (by rw [MakeChecks.laidMetH_plain _ _ _ (by kernel_rfl)]; exact laidMet_laidAll _ (by kernel_rfl) (by kernel_rfl))) ?_
  intro W base args ds gs before hval0 hW hsh hL
  have hval : ∀ (j : Nat) t v, Tryz.f4.params[j]? = some t → args[j]? = some v → Value.okWide Tryz.prog W .any base t v := hval0
  have hW' := hW
  obtain ⟨p, q, hA0, hV, rfl, hfz, hnd⟩ := hW
  have hA : DataW.TrodAll enc Tryz.prog W 0 (fun _ => true) true Tryz.f4.params.toList args.toList ds p := hA0
  rw [Tryz.params4] at hA hval
  obtain ⟨v0, d0, rfl, rfl, h0⟩ := trodAll_one hA
  obtain ⟨rfl, rfl⟩ := trodVars_none hV
  clear hA0 hval0
  simp only [List.append_nil] at hW'
  have hlt : ∀ x ∈ p, x.block < W.heap.size := fun x hx => by simpa using hW'.lt x hx
  obtain ⟨l, rl, hl⟩ := ints_key (hval 0 22 v0 rfl rfl) h0
  rw [MakeChecks.laidMetH_plain _ _ _ (by kernel_rfl)] at hL
  have hTab : laidMet Tryz.prog (("internal/strconv.uint64pow10", Lib.tabData .u64 Lib.pow10Tab) :: _) W := hL.tail.tail
  have hTx := TxW.of_row hTab hsh
  refine (PointsChecked_any l v0 W rl hl hTx).mono fun e W' ⟨he, hb⟩ => ?_
  subst he
  have hargs : ∀ (sp : Nat → Bool), (∀ x ∈ p, sp x.block = true) → DataW.Trod enc Tryz.prog W' 0 sp true 22 v0 d0 p :=
    fun sp hsp => WideElems.Trod_stays laidOut (by kernel_rfl) (of_decide_eq_true (by kernel_rfl)) h0 (fun x hx => hb.same (hlt x hx)) hsp
  exact ⟨_, rfl, post_of_below (pa := p) (pv := []) hW' (fun _ _ _ => trodAll_mk1 (shut_bool Tryz.underlying4 true)) (fun sp hsp => trodAll_mk1 (hargs sp (fun x hx => hsp x hx))) (fun _ _ => rfl) (by simp) hb (ok_one (by kernel_rfl) rfl (okWide_bool_mk Tryz.underlying4 true))⟩

theorem band2 {a b : Bool} (h : a = true) (k : b = true) : (a && b) = true := by rw [h, k]; rfl
set_option maxRecDepth 100000 in
theorem PointsChecked_hjf : joinedFacts Tryz.prog 4 Tryz.f4 Rows.pointsCheckedSpec Rows.pointsCheckedRow = true :=
  band2 (band2 (band2 (band2 (band2 (band2 (band2 (band2 (band2 (band2 (band2 (band2 (band2 (band2 (band2 (band2 (band2 (band2 (band2 (band2 (band2 (band2 (band2 (band2 (band2 (band2 (band2 (band2 (band2 (band2 (band2 (PointsChecked_jf0) PointsChecked_jf1) PointsChecked_jf2) PointsChecked_jf3) PointsChecked_jf4) PointsChecked_jf5) PointsChecked_jf6) PointsChecked_jf7) PointsChecked_jf8) PointsChecked_jf9) PointsChecked_jf10) PointsChecked_jf11) PointsChecked_jf12) PointsChecked_jf13) PointsChecked_jf14) PointsChecked_jf15) PointsChecked_jf16) PointsChecked_jf17) PointsChecked_jf18) PointsChecked_jf19) PointsChecked_jf20) PointsChecked_jf21) PointsChecked_jf22) PointsChecked_jf23) PointsChecked_jf24) PointsChecked_jf25) PointsChecked_jf26) PointsChecked_jf27) PointsChecked_jf28) PointsChecked_jf29) PointsChecked_jf30) PointsChecked_jf31
theorem PointsChecked_row : Rows.PointsCheckedSaid :=
  OpenClaim.holds_of_wide 4 Tryz.f4 rfl rfl rfl rfl rfl rfl rfl ⟨rfl, rfl, rfl, rfl, rfl⟩ rfl rfl rfl rfl rfl PointsChecked_hnm Tryz.func4 PointsChecked_hjf
    PointsChecked_hin PointsChecked_hwr
    (fun os started H enc _ => PointsChecked_lifted os started H enc)
theorem PointsChecked_holds : Rows.PointsCheckedCardSaid :=
  Claim7.holds_tied_plain_at .later [] [.data, .data, .data, .data, .sentinel, .sentinel, .pinned] true (true, "717bef4992ae00988c64eb045860e6c64a43fa6255acf3d6f75714a09c04f315") true
    PointsChecked_row (fun _ h => by cases h) PointsChecked_hwf (fun _ h => by cases h) pointsChecked_row_tie rfl ⟨rfl, rfl⟩ PointsChecked_hmi rfl
    (fun f fn hf hfn => by
      obtain rfl : f = 4 := Option.some.inj (PointsChecked_hnm.symm.trans hf) |>.symm
      obtain rfl : fn = Tryz.f4 := (Option.some.inj (Tryz.func4.symm.trans hfn)).symm
      exact ⟨PointsChecked_hlo, fun j t ht => by
        rw [Tryz.params4] at ht
        have hm : t ∈ [22] := by simpa using Array.mem_of_getElem? ht
        exact (show Tryz.prog.wantsStandIn t = false by simpa using List.all_eq_true.1 PointsChecked_hst t hm)⟩)
    PointsChecked_hgo
end Go.Proofs.YtgcmlhpocbgkaaaGreatDoor
