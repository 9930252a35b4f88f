/- The card of the law StepsComeBack, put together over its walk. No conditions beyond the row's own. -/
import Derived.Test.YtnmimagninhkkaaGreatDoorFrame
import Derived.Test.YtnmimagninhkkaaGreatDoorScW
import Derived.Test.YtnmimagninhkkaaGreatDoorScK
import Derived.Test.YtnmimagninhkkaaGreatDoorTxk
namespace Go.Proofs.YtnmimagninhkkaaGreatDoor
open Go.ChangeShapes Go.WideShapes Go.ChangeAt Go.RowKit

set_option maxRecDepth 100000 in
theorem StepsComeBack_lifted (os : Os) (started : os.Started) (H : Type) (enc : TypeId × Value → H) :
    ReturnsInHanded {} Tryz.checked os 9 .any (fun w args => (Rows.stepsComeBackSpec.pre enc Tryz.prog Tryz.f9 [] false w args ∧ laidMetH Tryz.prog Rows.stepsComeBackRow.laid w) ∧ sizedMet enc Tryz.prog Tryz.f9 (OpenSpec.ofChange Rows.stepsComeBackSpec) false w args)
      (Rows.stepsComeBackSpec.post enc Tryz.prog Tryz.f9 false true false false) := by
  refine returnsInHanded_shd (C := Tryz.checked) (X := fun w _ => laidMetH Tryz.prog Rows.stepsComeBackRow.laid w) (fun _ _ _ hh h => h.of_heap hh) own started (by kernel_rfl) Tryz.func9
    (ChangeSpec.witness_shaped (enc := enc) (C := Tryz.checked) (os := os) (X := fun w _ => laidMetH Tryz.prog Rows.stepsComeBackRow.laid w) false (World.laidAll Tryz.prog os Rows.stepsComeBackRow.laid) #[.slice none 0 0] 8 (World.laidAll_os _ _ _)
      (World.shaped_of_ZipB (by kernel_rfl) (by kernel_rfl)) (by kernel_rfl) (by kernel_rfl) (by kernel_rfl)
      (by rw [MakeChecks.laidMetH_plain _ _ _ (by kernel_rfl)]; exact laidMet_laidAll _ (by kernel_rfl) (by kernel_rfl))) ?_
  intro W base args ds gs before hval0 hW hsh hL
  have hval : ∀ (j : Nat) t v, Tryz.f9.params[j]? = some t → args[j]? = some v → Value.okWide Tryz.prog W .any base t v := hval0
  have hW' := hW
  obtain ⟨p, q, hA0, hV, rfl, hfz, hnd⟩ := hW
  have hA : DataW.TrodAll enc Tryz.prog W 0 (fun _ => true) true Tryz.f9.params.toList args.toList ds p := hA0
  rw [Tryz.params9] at hA hval
  obtain ⟨v0, d0, rfl, rfl, h0⟩ := trodAll_one hA
  obtain ⟨rfl, rfl⟩ := trodVars_none hV
  clear hA0 hval0
  simp only [List.append_nil] at hW'
  have hlt : ∀ x ∈ p, x.block < W.heap.size := fun x hx => by simpa using hW'.lt x hx
  obtain ⟨l, rl, hl⟩ := ints_key (hval 0 22 v0 rfl rfl) h0
  rw [MakeChecks.laidMetH_plain _ _ _ (by kernel_rfl)] at hL
  have hTab : laidMet Tryz.prog (("internal/strconv.uint64pow10", Lib.tabData .u64 Lib.pow10Tab) :: _) W := hL.tail.tail
  have hTx := TxW.of_row hTab hsh
  refine (StepsComeBack_any l v0 W rl hl hTx).mono fun e W' ⟨he, hb⟩ => ?_
  subst he
  have hargs : ∀ (sp : Nat → Bool), (∀ x ∈ p, sp x.block = true) → DataW.Trod enc Tryz.prog W' 0 sp true 22 v0 d0 p :=
    fun sp hsp => WideElems.Trod_stays laidOut (by kernel_rfl) (of_decide_eq_true (by kernel_rfl)) h0 (fun x hx => hb.same (hlt x hx)) hsp
  exact ⟨_, rfl, post_of_below (pa := p) (pv := []) hW' (fun _ _ _ => trodAll_mk1 (shut_bool Tryz.underlying4 true)) (fun sp hsp => trodAll_mk1 (hargs sp (fun x hx => hsp x hx))) (fun _ _ => rfl) (by simp) hb (ok_one (by kernel_rfl) rfl (okWide_bool_mk Tryz.underlying4 true))⟩

theorem band2 {a b : Bool} (h : a = true) (k : b = true) : (a && b) = true := by rw [h, k]; rfl
set_option maxRecDepth 100000 in
theorem StepsComeBack_hjf : joinedFacts Tryz.prog 9 Tryz.f9 Rows.stepsComeBackSpec Rows.stepsComeBackRow = true :=
  band2 (band2 (band2 (band2 (band2 (band2 (band2 (band2 (band2 (band2 (band2 (band2 (band2 (band2 (band2 (band2 (band2 (band2 (band2 (band2 (band2 (band2 (band2 (band2 (band2 (band2 (band2 (band2 (band2 (band2 (band2 (StepsComeBack_jf0) StepsComeBack_jf1) StepsComeBack_jf2) StepsComeBack_jf3) StepsComeBack_jf4) StepsComeBack_jf5) StepsComeBack_jf6) StepsComeBack_jf7) StepsComeBack_jf8) StepsComeBack_jf9) StepsComeBack_jf10) StepsComeBack_jf11) StepsComeBack_jf12) StepsComeBack_jf13) StepsComeBack_jf14) StepsComeBack_jf15) StepsComeBack_jf16) StepsComeBack_jf17) StepsComeBack_jf18) StepsComeBack_jf19) StepsComeBack_jf20) StepsComeBack_jf21) StepsComeBack_jf22) StepsComeBack_jf23) StepsComeBack_jf24) StepsComeBack_jf25) StepsComeBack_jf26) StepsComeBack_jf27) StepsComeBack_jf28) StepsComeBack_jf29) StepsComeBack_jf30) StepsComeBack_jf31
theorem StepsComeBack_row : Rows.StepsComeBackSaid :=
  OpenClaim.holds_of_wide 9 Tryz.f9 rfl rfl rfl rfl rfl rfl rfl ⟨rfl, rfl, rfl, rfl, rfl⟩ rfl rfl rfl rfl rfl StepsComeBack_hnm Tryz.func9 StepsComeBack_hjf
    StepsComeBack_hin StepsComeBack_hwr
    (fun os started H enc _ => StepsComeBack_lifted os started H enc)
theorem StepsComeBack_holds : Rows.StepsComeBackCardSaid :=
  Claim7.holds_tied_plain_at .later [] [.data, .data, .data, .data, .sentinel, .sentinel, .pinned] true (true, "ef9b408e0ef1d8ee385fe0c4518ed384cc5ed48d05d09bbfcdc890ec739e479e") true
    StepsComeBack_row (fun _ h => by cases h) StepsComeBack_hwf (fun _ h => by cases h) stepsComeBack_row_tie rfl ⟨rfl, rfl⟩ StepsComeBack_hmi rfl
    (fun f fn hf hfn => by
      obtain rfl : f = 9 := Option.some.inj (StepsComeBack_hnm.symm.trans hf) |>.symm
      obtain rfl : fn = Tryz.f9 := (Option.some.inj (Tryz.func9.symm.trans hfn)).symm
      exact ⟨StepsComeBack_hlo, fun j t ht => by
        rw [Tryz.params9] at ht
        have hm : t ∈ [22] := by simpa using Array.mem_of_getElem? ht
        exact (show Tryz.prog.wantsStandIn t = false by simpa using List.all_eq_true.1 StepsComeBack_hst t hm)⟩)
    StepsComeBack_hgo
end Go.Proofs.YtnmimagninhkkaaGreatDoor
