/- The card of the law PointsComeBack, put together over its walk. No conditions beyond the row's own. -/
import Derived.Test.YtgcmlhpocbgkaaaGreatDoorFrame
import Derived.Test.YtgcmlhpocbgkaaaGreatDoorPbW
import Derived.Test.YtgcmlhpocbgkaaaGreatDoorPbK
import Derived.Test.YtgcmlhpocbgkaaaGreatDoorTxk
namespace Go.Proofs.YtgcmlhpocbgkaaaGreatDoor
open Go.ChangeShapes Go.WideShapes Go.ChangeAt Go.RowKit

set_option maxRecDepth 100000 in
theorem PointsComeBack_lifted (os : Os) (started : os.Started) (H : Type) (enc : TypeId × Value → H) :
    ReturnsInHanded {} Tryz.checked os 10 .any (fun w args => (Rows.pointsComeBackSpec.pre enc Tryz.prog Tryz.f10 [] false w args ∧ laidMetH Tryz.prog Rows.pointsComeBackRow.laid w) ∧ sizedMet enc Tryz.prog Tryz.f10 (OpenSpec.ofChange Rows.pointsComeBackSpec) false w args)
      (Rows.pointsComeBackSpec.post enc Tryz.prog Tryz.f10 false true false false) := by
  refine returnsInHanded_shd (C := Tryz.checked) (X := fun w _ => laidMetH Tryz.prog Rows.pointsComeBackRow.laid w) (fun _ _ _ hh h => h.of_heap hh) own started (by kernel_rfl) Tryz.func10
    (ChangeSpec.witness_shaped (enc := enc) (C := Tryz.checked) (os := os) (X := fun w _ => laidMetH Tryz.prog Rows.pointsComeBackRow.laid w) false (World.laidAll Tryz.prog os Rows.pointsComeBackRow.laid) #[.slice none 0 0] 8 (World.laidAll_os _ _ _)
      (World.shaped_of_ZipB (by kernel_rfl) (by kernel_rfl)) (by kernel_rfl) (by kernel_rfl) (by kernel_rfl)
      (by rw [MakeChecks.laidMetH_plain _ _ _ (by kernel_rfl)]; exact laidMet_laidAll _ (by kernel_rfl) (by kernel_rfl))) ?_
  intro W base args ds gs before hval0 hW hsh hL
  have hval : ∀ (j : Nat) t v, Tryz.f10.params[j]? = some t → args[j]? = some v → Value.okWide Tryz.prog W .any base t v := hval0
  have hW' := hW
  obtain ⟨p, q, hA0, hV, rfl, hfz, hnd⟩ := hW
  have hA : DataW.TrodAll enc Tryz.prog W 0 (fun _ => true) true Tryz.f10.params.toList args.toList ds p := hA0
  rw [Tryz.params10] at hA hval
  obtain ⟨v0, d0, rfl, rfl, h0⟩ := trodAll_one hA
  obtain ⟨rfl, rfl⟩ := trodVars_none hV
  clear hA0 hval0
  simp only [List.append_nil] at hW'
  have hlt : ∀ x ∈ p, x.block < W.heap.size := fun x hx => by simpa using hW'.lt x hx
  obtain ⟨l, rl, hl⟩ := ints_key (hval 0 22 v0 rfl rfl) h0
  rw [MakeChecks.laidMetH_plain _ _ _ (by kernel_rfl)] at hL
  have hTab : laidMet Tryz.prog (("internal/strconv.uint64pow10", Lib.tabData .u64 Lib.pow10Tab) :: _) W := hL.tail.tail
  have hTx := TxW.of_row hTab hsh
  refine (PointsComeBack_any l v0 W rl hl hTx).mono fun e W' ⟨he, hb⟩ => ?_
  subst he
  have hargs : ∀ (sp : Nat → Bool), (∀ x ∈ p, sp x.block = true) → DataW.Trod enc Tryz.prog W' 0 sp true 22 v0 d0 p :=
    fun sp hsp => WideElems.Trod_stays laidOut (by kernel_rfl) (of_decide_eq_true (by kernel_rfl)) h0 (fun x hx => hb.same (hlt x hx)) hsp
  exact ⟨_, rfl, post_of_below (pa := p) (pv := []) hW' (fun _ _ _ => trodAll_mk1 (shut_bool Tryz.underlying4 true)) (fun sp hsp => trodAll_mk1 (hargs sp (fun x hx => hsp x hx))) (fun _ _ => rfl) (by simp) hb (ok_one (by kernel_rfl) rfl (okWide_bool_mk Tryz.underlying4 true))⟩

theorem band2 {a b : Bool} (h : a = true) (k : b = true) : (a && b) = true := by rw [h, k]; rfl
set_option maxRecDepth 100000 in
theorem PointsComeBack_hjf : joinedFacts Tryz.prog 10 Tryz.f10 Rows.pointsComeBackSpec Rows.pointsComeBackRow = true :=
  band2 (band2 (band2 (band2 (band2 (band2 (band2 (band2 (band2 (band2 (band2 (band2 (band2 (band2 (band2 (band2 (band2 (band2 (band2 (band2 (band2 (band2 (band2 (band2 (band2 (band2 (band2 (band2 (band2 (band2 (band2 (PointsComeBack_jf0) PointsComeBack_jf1) PointsComeBack_jf2) PointsComeBack_jf3) PointsComeBack_jf4) PointsComeBack_jf5) PointsComeBack_jf6) PointsComeBack_jf7) PointsComeBack_jf8) PointsComeBack_jf9) PointsComeBack_jf10) PointsComeBack_jf11) PointsComeBack_jf12) PointsComeBack_jf13) PointsComeBack_jf14) PointsComeBack_jf15) PointsComeBack_jf16) PointsComeBack_jf17) PointsComeBack_jf18) PointsComeBack_jf19) PointsComeBack_jf20) PointsComeBack_jf21) PointsComeBack_jf22) PointsComeBack_jf23) PointsComeBack_jf24) PointsComeBack_jf25) PointsComeBack_jf26) PointsComeBack_jf27) PointsComeBack_jf28) PointsComeBack_jf29) PointsComeBack_jf30) PointsComeBack_jf31
theorem PointsComeBack_row : Rows.PointsComeBackSaid :=
  OpenClaim.holds_of_wide 10 Tryz.f10 rfl rfl rfl rfl rfl rfl rfl ⟨rfl, rfl, rfl, rfl, rfl⟩ rfl rfl rfl rfl rfl PointsComeBack_hnm Tryz.func10 PointsComeBack_hjf
    PointsComeBack_hin PointsComeBack_hwr
    (fun os started H enc _ => PointsComeBack_lifted os started H enc)
theorem PointsComeBack_holds : Rows.PointsComeBackCardSaid :=
  Claim7.holds_tied_plain_at .later [] [.data, .data, .data, .data, .sentinel, .sentinel, .pinned] true (true, "717bef4992ae00988c64eb045860e6c64a43fa6255acf3d6f75714a09c04f315") true
    PointsComeBack_row (fun _ h => by cases h) PointsComeBack_hwf (fun _ h => by cases h) pointsComeBack_row_tie rfl ⟨rfl, rfl⟩ PointsComeBack_hmi rfl
    (fun f fn hf hfn => by
      obtain rfl : f = 10 := Option.some.inj (PointsComeBack_hnm.symm.trans hf) |>.symm
      obtain rfl : fn = Tryz.f10 := (Option.some.inj (Tryz.func10.symm.trans hfn)).symm
      exact ⟨PointsComeBack_hlo, fun j t ht => by
        rw [Tryz.params10] at ht
        have hm : t ∈ [22] := by simpa using Array.mem_of_getElem? ht
        exact (show Tryz.prog.wantsStandIn t = false by simpa using List.all_eq_true.1 PointsComeBack_hst t hm)⟩)
    PointsComeBack_hgo
end Go.Proofs.YtgcmlhpocbgkaaaGreatDoor
