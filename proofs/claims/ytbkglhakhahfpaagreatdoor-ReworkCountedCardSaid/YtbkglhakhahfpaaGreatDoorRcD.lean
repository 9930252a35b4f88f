/- The card of the law ReworkCounted, put together over its walk. No conditions beyond the row's own. -/
import Derived.Test.YtbkglhakhahfpaaGreatDoorFrame
import Derived.Test.YtbkglhakhahfpaaGreatDoorRcW
import Derived.Test.YtbkglhakhahfpaaGreatDoorRcK
import Derived.Test.YtbkglhakhahfpaaGreatDoorTxk
import Derived.Test.YtbkglhakhahfpaaGreatDoorTxk
namespace Go.Proofs.YtbkglhakhahfpaaGreatDoor
open Go.ChangeShapes Go.WideShapes Go.ChangeAt Go.RowKit

set_option maxRecDepth 100000 in
theorem ReworkCounted_lifted (os : Os) (started : os.Started) (H : Type) (enc : TypeId × Value → H) :
    ReturnsInHanded {} Tryz.checked os 3 .any (fun w args => (Rows.reworkCountedSpec.pre enc Tryz.prog Tryz.f3 [] false w args ∧ laidMetH Tryz.prog Rows.reworkCountedRow.laid w) ∧ sizedMet enc Tryz.prog Tryz.f3 (OpenSpec.ofChange Rows.reworkCountedSpec) false w args)
      (Rows.reworkCountedSpec.post enc Tryz.prog Tryz.f3 false true false false) := by
  refine returnsInHanded_shd (C := Tryz.checked) (X := fun w _ => laidMetH Tryz.prog Rows.reworkCountedRow.laid w) (fun _ _ _ hh h => h.of_heap hh) own started (by kernel_rfl) Tryz.func3
    (ChangeSpec.witness_shaped (enc := enc) (C := Tryz.checked) (os := os) (X := fun w _ => laidMetH Tryz.prog Rows.reworkCountedRow.laid w) false (World.laidAll Tryz.prog os Rows.reworkCountedRow.laid) #[.slice none 0 0] 8 (World.laidAll_os _ _ _)
      (World.shaped_of_ZipB (by kernel_rfl) (by kernel_rfl)) (by kernel_rfl) (by kernel_rfl) (by kernel_rfl)
      (by rw [MakeChecks.laidMetH_plain _ _ _ (by kernel_rfl)]; exact laidMet_laidAll _ (by kernel_rfl) (by kernel_rfl))) ?_
  intro W base args ds gs before hval0 hW hsh hL
  have hval : ∀ (j : Nat) t v, Tryz.f3.params[j]? = some t → args[j]? = some v → Value.okWide Tryz.prog W .any base t v := hval0
  have hW' := hW
  obtain ⟨p, q, hA0, hV, rfl, hfz, hnd⟩ := hW
  have hA : DataW.TrodAll enc Tryz.prog W 0 (fun _ => true) true Tryz.f3.params.toList args.toList ds p := hA0
  rw [Tryz.params3] at hA hval
  obtain ⟨v0, d0, rfl, rfl, h0⟩ := trodAll_one hA
  obtain ⟨rfl, rfl⟩ := trodVars_none hV
  clear hA0 hval0
  simp only [List.append_nil] at hW'
  have hlt : ∀ x ∈ p, x.block < W.heap.size := fun x hx => by simpa using hW'.lt x hx
  obtain ⟨l, rl, hl⟩ := ints_key (hval 0 22 v0 rfl rfl) h0
  rw [MakeChecks.laidMetH_plain _ _ _ (by kernel_rfl)] at hL
  have hTab : laidMet Tryz.prog (("internal/strconv.uint64pow10", Lib.tabData .u64 Lib.pow10Tab) :: _) W := hL.tail.tail
  have hTx := TxW.of_row hTab hsh
  refine (ReworkCounted_any l v0 W rl hl hTx).mono fun e W' ⟨he, hb⟩ => ?_
  subst he
  have hargs : ∀ (sp : Nat → Bool), (∀ x ∈ p, sp x.block = true) → DataW.Trod enc Tryz.prog W' 0 sp true 22 v0 d0 p :=
    fun sp hsp => WideElems.Trod_stays laidOut (by kernel_rfl) (of_decide_eq_true (by kernel_rfl)) h0 (fun x hx => hb.same (hlt x hx)) hsp
  exact ⟨_, rfl, post_of_below (pa := p) (pv := []) hW' (fun _ _ _ => trodAll_mk1 (shut_bool Tryz.underlying4 true)) (fun sp hsp => trodAll_mk1 (hargs sp (fun x hx => hsp x hx))) (fun _ _ => rfl) (by simp) hb (ok_one (by kernel_rfl) rfl (okWide_bool_mk Tryz.underlying4 true))⟩

theorem band2 {a b : Bool} (h : a = true) (k : b = true) : (a && b) = true := by rw [h, k]; rfl
set_option maxRecDepth 100000 in
theorem ReworkCounted_hjf : joinedFacts Tryz.prog 3 Tryz.f3 Rows.reworkCountedSpec Rows.reworkCountedRow = true :=
  band2 (band2 (band2 (band2 (band2 (band2 (band2 (band2 (band2 (band2 (band2 (band2 (band2 (band2 (band2 (band2 (band2 (band2 (band2 (band2 (band2 (band2 (band2 (band2 (band2 (band2 (band2 (band2 (band2 (band2 (band2 (ReworkCounted_jf0) ReworkCounted_jf1) ReworkCounted_jf2) ReworkCounted_jf3) ReworkCounted_jf4) ReworkCounted_jf5) ReworkCounted_jf6) ReworkCounted_jf7) ReworkCounted_jf8) ReworkCounted_jf9) ReworkCounted_jf10) ReworkCounted_jf11) ReworkCounted_jf12) ReworkCounted_jf13) ReworkCounted_jf14) ReworkCounted_jf15) ReworkCounted_jf16) ReworkCounted_jf17) ReworkCounted_jf18) ReworkCounted_jf19) ReworkCounted_jf20) ReworkCounted_jf21) ReworkCounted_jf22) ReworkCounted_jf23) ReworkCounted_jf24) ReworkCounted_jf25) ReworkCounted_jf26) ReworkCounted_jf27) ReworkCounted_jf28) ReworkCounted_jf29) ReworkCounted_jf30) ReworkCounted_jf31
theorem ReworkCounted_row : Rows.ReworkCountedSaid :=
  OpenClaim.holds_of_wide 3 Tryz.f3 rfl rfl rfl rfl rfl rfl rfl ⟨rfl, rfl, rfl, rfl, rfl⟩ rfl rfl rfl rfl rfl ReworkCounted_hnm Tryz.func3 ReworkCounted_hjf
    ReworkCounted_hin ReworkCounted_hwr
    (fun os started H enc _ => ReworkCounted_lifted os started H enc)
theorem ReworkCounted_holds : Rows.ReworkCountedCardSaid :=
  Claim7.holds_tied_plain_at .later [] [.data, .data, .data, .data, .pinned] true (true, "d6c4fc81ffc11be73bd476188b12572b69e997bbaf5597b2b2bc4b5e17de2d7b") false
    ReworkCounted_row (fun _ h => by cases h) ReworkCounted_hwf (fun _ h => by cases h) reworkCounted_row_tie rfl ⟨rfl, rfl⟩ ReworkCounted_hmi rfl
    (fun f fn hf hfn => by
      obtain rfl : f = 3 := Option.some.inj (ReworkCounted_hnm.symm.trans hf) |>.symm
      obtain rfl : fn = Tryz.f3 := (Option.some.inj (Tryz.func3.symm.trans hfn)).symm
      exact ⟨ReworkCounted_hlo, fun j t ht => by
        rw [Tryz.params3] at ht
        have hm : t ∈ [22] := by simpa using Array.mem_of_getElem? ht
        exact (show Tryz.prog.wantsStandIn t = false by simpa using List.all_eq_true.1 ReworkCounted_hst t hm)⟩)
    ReworkCounted_hgo
end Go.Proofs.YtbkglhakhahfpaaGreatDoor
