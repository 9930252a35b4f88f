/- The card of the law NozzlesChanged, put together over its walk. No conditions beyond the row's own. -/
import Derived.Test.YtbkglhakhahfpaaGreatDoorFrame
import Derived.Test.YtbkglhakhahfpaaGreatDoorNcW
import Derived.Test.YtbkglhakhahfpaaGreatDoorNcK
namespace Go.Proofs.YtbkglhakhahfpaaGreatDoor
open Go.ChangeShapes Go.WideShapes Go.ChangeAt Go.RowKit

set_option maxRecDepth 100000 in
theorem NozzlesChanged_lifted (os : Os) (started : os.Started) (H : Type) (enc : TypeId × Value → H) :
    ReturnsInHanded {} Tryz.checked os 4 .any (fun w args => (Rows.nozzlesChangedSpec.pre enc Tryz.prog Tryz.f4 [] false w args ∧ laidMetH Tryz.prog Rows.nozzlesChangedRow.laid w) ∧ sizedMet enc Tryz.prog Tryz.f4 (OpenSpec.ofChange Rows.nozzlesChangedSpec) false w args)
      (Rows.nozzlesChangedSpec.post enc Tryz.prog Tryz.f4 false true false false) := by
  refine returnsInHanded_of_change_and (C := Tryz.checked) (X := fun w _ => laidMetH Tryz.prog Rows.nozzlesChangedRow.laid w) (fun _ _ _ hh h => h.of_heap hh) own started (by kernel_rfl) Tryz.func4
    (ChangeSpec.witness_shaped (enc := enc) (C := Tryz.checked) (os := os) (X := fun w _ => laidMetH Tryz.prog Rows.nozzlesChangedRow.laid w) false (World.laidAll Tryz.prog os Rows.nozzlesChangedRow.laid) #[.slice none 0 0] 8 (World.laidAll_os _ _ _)
      (World.shaped_of_ZipB (by kernel_rfl) (by kernel_rfl)) (by kernel_rfl) (by kernel_rfl) (by kernel_rfl)
      (by rw [MakeChecks.laidMetH_plain _ _ _ (by kernel_rfl)]; exact laidMet_laidAll _ (by kernel_rfl) (by kernel_rfl))) ?_
  intro W base args ds gs before hval0 hW _ _ hL _
  have hval : ∀ (j : Nat) t v, Tryz.f4.params[j]? = some t → args[j]? = some v → Value.okWide Tryz.prog W .any base t v := hval0
  have hW' := hW
  obtain ⟨p, q, hA0, hV, rfl, hfz, hnd⟩ := hW
  have hA : DataW.TrodAll enc Tryz.prog W 0 (fun _ => true) true Tryz.f4.params.toList args.toList ds p := hA0
  rw [Tryz.params4] at hA hval
  obtain ⟨v0, d0, rfl, rfl, h0⟩ := trodAll_one hA
  obtain ⟨rfl, rfl⟩ := trodVars_none hV
  clear hA0 hval0
  simp only [List.append_nil] at hW'
  have hlt : ∀ x ∈ p, x.block < W.heap.size := fun x hx => by simpa using hW'.lt x hx
  obtain ⟨l, rl, hl⟩ := ints_key (hval 0 22 v0 rfl rfl) h0
  refine (NozzlesChanged_any l v0 W rl hl).mono fun e W' ⟨he, hb⟩ => ?_
  subst he
  have hargs : ∀ (sp : Nat → Bool), (∀ x ∈ p, sp x.block = true) → DataW.Trod enc Tryz.prog W' 0 sp true 22 v0 d0 p :=
    fun sp hsp => WideElems.Trod_stays laidOut (by kernel_rfl) (of_decide_eq_true (by kernel_rfl)) h0 (fun x hx => hb.same (hlt x hx)) hsp
  exact ⟨_, rfl, post_of_below (pa := p) (pv := []) hW' (fun _ _ _ => trodAll_mk1 (shut_bool Tryz.underlying4 true)) (fun sp hsp => trodAll_mk1 (hargs sp (fun x hx => hsp x hx))) (fun _ _ => rfl) (by simp) hb (ok_one (by kernel_rfl) rfl (okWide_bool_mk Tryz.underlying4 true))⟩

theorem band2 {a b : Bool} (h : a = true) (k : b = true) : (a && b) = true := by rw [h, k]; rfl
set_option maxRecDepth 100000 in
theorem NozzlesChanged_hjf : joinedFacts Tryz.prog 4 Tryz.f4 Rows.nozzlesChangedSpec Rows.nozzlesChangedRow = true :=
  band2 (band2 (band2 (band2 (band2 (band2 (band2 (band2 (band2 (band2 (band2 (band2 (band2 (band2 (band2 (band2 (band2 (band2 (band2 (band2 (band2 (band2 (band2 (band2 (band2 (band2 (band2 (band2 (band2 (band2 (band2 (NozzlesChanged_jf0) NozzlesChanged_jf1) NozzlesChanged_jf2) NozzlesChanged_jf3) NozzlesChanged_jf4) NozzlesChanged_jf5) NozzlesChanged_jf6) NozzlesChanged_jf7) NozzlesChanged_jf8) NozzlesChanged_jf9) NozzlesChanged_jf10) NozzlesChanged_jf11) NozzlesChanged_jf12) NozzlesChanged_jf13) NozzlesChanged_jf14) NozzlesChanged_jf15) NozzlesChanged_jf16) NozzlesChanged_jf17) NozzlesChanged_jf18) NozzlesChanged_jf19) NozzlesChanged_jf20) NozzlesChanged_jf21) NozzlesChanged_jf22) NozzlesChanged_jf23) NozzlesChanged_jf24) NozzlesChanged_jf25) NozzlesChanged_jf26) NozzlesChanged_jf27) NozzlesChanged_jf28) NozzlesChanged_jf29) NozzlesChanged_jf30) NozzlesChanged_jf31
theorem NozzlesChanged_row : Rows.NozzlesChangedSaid :=
  OpenClaim.holds_of_wide 4 Tryz.f4 rfl rfl rfl rfl rfl rfl rfl ⟨rfl, rfl, rfl, rfl, rfl⟩ rfl rfl rfl rfl rfl NozzlesChanged_hnm Tryz.func4 NozzlesChanged_hjf
    NozzlesChanged_hin NozzlesChanged_hwr
    (fun os started H enc _ => NozzlesChanged_lifted os started H enc)
theorem NozzlesChanged_holds : Rows.NozzlesChangedCardSaid :=
  Claim7.holds_tied_plain_at .later [] [.data, .pinned] true (true, "d6c4fc81ffc11be73bd476188b12572b69e997bbaf5597b2b2bc4b5e17de2d7b") false
    NozzlesChanged_row (fun _ h => by cases h) NozzlesChanged_hwf (fun _ h => by cases h) nozzlesChanged_row_tie rfl ⟨rfl, rfl⟩ NozzlesChanged_hmi rfl
    (fun f fn hf hfn => by
      obtain rfl : f = 4 := Option.some.inj (NozzlesChanged_hnm.symm.trans hf) |>.symm
      obtain rfl : fn = Tryz.f4 := (Option.some.inj (Tryz.func4.symm.trans hfn)).symm
      exact ⟨NozzlesChanged_hlo, fun j t ht => by
        rw [Tryz.params4] at ht
        have hm : t ∈ [22] := by simpa using Array.mem_of_getElem? ht
        exact (show Tryz.prog.wantsStandIn t = false by simpa using List.all_eq_true.1 NozzlesChanged_hst t hm)⟩)
    NozzlesChanged_hgo
end Go.Proofs.YtbkglhakhahfpaaGreatDoor
