/- The card of the law PartsReplaced, put together over its walk. No conditions beyond the row's own. -/
import Derived.Test.YteojmljggoplkaaGreatDoorPz45
import Derived.Test.YteojmljggoplkaaGreatDoorPz46
import Derived.Test.YteojmljggoplkaaGreatDoorCpKz
namespace Go.Proofs.YteojmljggoplkaaGreatDoor
open Go.ChangeShapes Go.WideShapes Go.ChangeAt Go.RowKit

set_option maxRecDepth 100000 in
theorem PartsReplaced_lifted (os : Os) (started : os.Started) (H : Type) (enc : TypeId × Value → H) :
    ReturnsInHanded {} Tryz.checked os 3 .any (fun w args => (Rows.partsReplacedSpec.pre enc Tryz.prog Tryz.f3 [] false w args ∧ laidMetH Tryz.prog Rows.partsReplacedRow.laid w) ∧ sizedMet enc Tryz.prog Tryz.f3 (OpenSpec.ofChange Rows.partsReplacedSpec) false w args)
      (Rows.partsReplacedSpec.post enc Tryz.prog Tryz.f3 false true false false) := by
  refine returnsInHanded_shd (C := Tryz.checked) (X := fun w _ => laidMetH Tryz.prog Rows.partsReplacedRow.laid w) (fun _ _ _ hh h => h.of_heap hh) own started (by kernel_rfl) Tryz.func3
    (ChangeSpec.witness_shaped (enc := enc) (C := Tryz.checked) (os := os) (X := fun w _ => laidMetH Tryz.prog Rows.partsReplacedRow.laid w) false (World.laidAll Tryz.prog os Rows.partsReplacedRow.laid) #[.slice none 0 0] 8 (World.laidAll_os _ _ _)
      (World.shaped_of_ZipB (by kernel_rfl) (by kernel_rfl)) (by kernel_rfl) (by kernel_rfl) (by kernel_rfl)
      (by rw [MakeChecks.laidMetH_plain _ _ _ (by kernel_rfl)]; exact laidMet_laidAll _ (by kernel_rfl) (by kernel_rfl))) ?_
  intro W base args ds gs before hval0 hW hsh hL
  have hval : ∀ (j : Nat) t v, Tryz.f3.params[j]? = some t → args[j]? = some v → Value.okWide Tryz.prog W .any base t v := hval0
  have hW' := hW
  obtain ⟨p, q, hA0, hV, rfl, hfz, hnd⟩ := hW
  have hA : DataW.TrodAll enc Tryz.prog W 0 (fun _ => true) true Tryz.f3.params.toList args.toList ds p := hA0
  rw [Tryz.params3] at hA hval
  obtain ⟨v0, d0, rfl, rfl, h0⟩ := trodAll_one hA
  obtain ⟨rfl, rfl⟩ := trodVars_none hV
  clear hA0 hval0
  simp only [List.append_nil] at hW'
  have hlt : ∀ x ∈ p, x.block < W.heap.size := fun x hx => by simpa using hW'.lt x hx
  obtain ⟨l, rl, hl⟩ := ints_key (hval 0 22 v0 rfl rfl) h0
  rw [MakeChecks.laidMetH_plain _ _ _ (by kernel_rfl)] at hL
  have hTab : laidMet Tryz.prog (("internal/strconv.uint64pow10", Lib.tabData .u64 Lib.pow10Tab) :: _) W := hL.tail.tail
  have hTx := TxW.of_row hTab hsh
  refine (PartsReplaced_any l v0 W rl hl hTx).mono fun e W' ⟨he, hb⟩ => ?_
  subst he
  have hargs : ∀ (sp : Nat → Bool), (∀ x ∈ p, sp x.block = true) → DataW.Trod enc Tryz.prog W' 0 sp true 22 v0 d0 p :=
    fun sp hsp => WideElems.Trod_stays laidOut (by kernel_rfl) (of_decide_eq_true (by kernel_rfl)) h0 (fun x hx => hb.same (hlt x hx)) hsp
  exact ⟨_, rfl, post_of_below (pa := p) (pv := []) hW' (fun _ _ _ => trodAll_mk1 (shut_bool Tryz.underlying4 true)) (fun sp hsp => trodAll_mk1 (hargs sp (fun x hx => hsp x hx))) (fun _ _ => rfl) (by simp) hb (ok_one (by kernel_rfl) rfl (okWide_bool_mk Tryz.underlying4 true))⟩

theorem band2 {a b : Bool} (h : a = true) (k : b = true) : (a && b) = true := by rw [h, k]; rfl
set_option maxRecDepth 100000 in
theorem PartsReplaced_hjf : joinedFacts Tryz.prog 3 Tryz.f3 Rows.partsReplacedSpec Rows.partsReplacedRow = true :=
  band2 (band2 (band2 (band2 (band2 (band2 (band2 (band2 (band2 (band2 (band2 (band2 (band2 (band2 (band2 (band2 (band2 (band2 (band2 (band2 (band2 (band2 (band2 (band2 (band2 (band2 (band2 (band2 (band2 (band2 (band2 (PartsReplaced_jf0) PartsReplaced_jf1) PartsReplaced_jf2) PartsReplaced_jf3) PartsReplaced_jf4) PartsReplaced_jf5) PartsReplaced_jf6) PartsReplaced_jf7) PartsReplaced_jf8) PartsReplaced_jf9) PartsReplaced_jf10) PartsReplaced_jf11) PartsReplaced_jf12) PartsReplaced_jf13) PartsReplaced_jf14) PartsReplaced_jf15) PartsReplaced_jf16) PartsReplaced_jf17) PartsReplaced_jf18) PartsReplaced_jf19) PartsReplaced_jf20) PartsReplaced_jf21) PartsReplaced_jf22) PartsReplaced_jf23) PartsReplaced_jf24) PartsReplaced_jf25) PartsReplaced_jf26) PartsReplaced_jf27) PartsReplaced_jf28) PartsReplaced_jf29) PartsReplaced_jf30) PartsReplaced_jf31
theorem PartsReplaced_row : Rows.PartsReplacedSaid :=
  OpenClaim.holds_of_wide 3 Tryz.f3 rfl rfl rfl rfl rfl rfl rfl ⟨rfl, rfl, rfl, rfl, rfl⟩ rfl rfl rfl rfl rfl PartsReplaced_hnm Tryz.func3 PartsReplaced_hjf
    PartsReplaced_hin PartsReplaced_hwr
    (fun os started H enc _ => PartsReplaced_lifted os started H enc)
theorem PartsReplaced_holds : Rows.PartsReplacedCardSaid :=
  Claim7.holds_tied_plain_at .later [] [.data, .data, .data, .data, .sentinel, .sentinel, .pinned] true (true, "29158173b6d2998a7d50fefa7618441897ab7f1fdaa372bd3a78ee167cb97722") true
    PartsReplaced_row (fun _ h => by cases h) PartsReplaced_hwf (fun _ h => by cases h) partsReplaced_row_tie rfl ⟨rfl, rfl⟩ PartsReplaced_hmi rfl
    (fun f fn hf hfn => by
      obtain rfl : f = 3 := Option.some.inj (PartsReplaced_hnm.symm.trans hf) |>.symm
      obtain rfl : fn = Tryz.f3 := (Option.some.inj (Tryz.func3.symm.trans hfn)).symm
      exact ⟨PartsReplaced_hlo, fun j t ht => by
        rw [Tryz.params3] at ht
        have hm : t ∈ [22] := by simpa using Array.mem_of_getElem? ht
        exact (show Tryz.prog.wantsStandIn t = false by simpa using List.all_eq_true.1 PartsReplaced_hst t hm)⟩)
    PartsReplaced_hgo
end Go.Proofs.YteojmljggoplkaaGreatDoor
