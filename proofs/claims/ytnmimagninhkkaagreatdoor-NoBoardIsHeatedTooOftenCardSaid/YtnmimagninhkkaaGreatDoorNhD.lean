/- The card of the law NoBoardIsHeatedTooOften, put together over its walk. No conditions beyond the row's own. -/
import Derived.Test.YtnmimagninhkkaaGreatDoorFrame
import Derived.Test.YtnmimagninhkkaaGreatDoorNhW
import Derived.Test.YtnmimagninhkkaaGreatDoorNhK
namespace Go.Proofs.YtnmimagninhkkaaGreatDoor
open Go.ChangeShapes Go.WideShapes Go.ChangeAt Go.RowKit

set_option maxRecDepth 100000 in
theorem NoBoardIsHeatedTooOften_lifted (os : Os) (started : os.Started) (H : Type) (enc : TypeId × Value → H) :
    ReturnsInHanded {} Tryz.checked os 4 .any (fun w args => (Rows.noBoardIsHeatedTooOftenSpec.pre enc Tryz.prog Tryz.f4 [] false w args ∧ laidMetH Tryz.prog Rows.noBoardIsHeatedTooOftenRow.laid w) ∧ sizedMet enc Tryz.prog Tryz.f4 (OpenSpec.ofChange Rows.noBoardIsHeatedTooOftenSpec) false w args)
      (Rows.noBoardIsHeatedTooOftenSpec.post enc Tryz.prog Tryz.f4 false true false false) := by
  refine returnsInHanded_of_change_and (C := Tryz.checked) (X := fun w _ => laidMetH Tryz.prog Rows.noBoardIsHeatedTooOftenRow.laid w) (fun _ _ _ hh h => h.of_heap hh) own started (by kernel_rfl) Tryz.func4
    (ChangeSpec.witness_shaped (enc := enc) (C := Tryz.checked) (os := os) (X := fun w _ => laidMetH Tryz.prog Rows.noBoardIsHeatedTooOftenRow.laid w) false (World.laidAll Tryz.prog os Rows.noBoardIsHeatedTooOftenRow.laid) #[.slice none 0 0] 8 (World.laidAll_os _ _ _)
      (World.shaped_of_ZipB (by kernel_rfl) (by kernel_rfl)) (by kernel_rfl) (by kernel_rfl) (by kernel_rfl)
      (by rw [MakeChecks.laidMetH_plain _ _ _ (by kernel_rfl)]; exact laidMet_laidAll _ (by kernel_rfl) (by kernel_rfl))) ?_
  intro W base args ds gs before hval0 hW _ _ hL _
  have hval : ∀ (j : Nat) t v, Tryz.f4.params[j]? = some t → args[j]? = some v → Value.okWide Tryz.prog W .any base t v := hval0
  have hW' := hW
  obtain ⟨p, q, hA0, hV, rfl, hfz, hnd⟩ := hW
  have hA : DataW.TrodAll enc Tryz.prog W 0 (fun _ => true) true Tryz.f4.params.toList args.toList ds p := hA0
  rw [Tryz.params4] at hA hval
  obtain ⟨v0, d0, rfl, rfl, h0⟩ := trodAll_one hA
  obtain ⟨rfl, rfl⟩ := trodVars_none hV
  clear hA0 hval0
  simp only [List.append_nil] at hW'
  have hlt : ∀ x ∈ p, x.block < W.heap.size := fun x hx => by simpa using hW'.lt x hx
  obtain ⟨l, rl, hl⟩ := ints_key (hval 0 22 v0 rfl rfl) h0
  refine (NoBoard_any l v0 W rl hl).mono fun e W' ⟨he, hb⟩ => ?_
  subst he
  have hargs : ∀ (sp : Nat → Bool), (∀ x ∈ p, sp x.block = true) → DataW.Trod enc Tryz.prog W' 0 sp true 22 v0 d0 p :=
    fun sp hsp => WideElems.Trod_stays laidOut (by kernel_rfl) (of_decide_eq_true (by kernel_rfl)) h0 (fun x hx => hb.same (hlt x hx)) hsp
  exact ⟨_, rfl, post_of_below (pa := p) (pv := []) hW' (fun _ _ _ => trodAll_mk1 (shut_bool Tryz.underlying4 true)) (fun sp hsp => trodAll_mk1 (hargs sp (fun x hx => hsp x hx))) (fun _ _ => rfl) (by simp) hb (ok_one (by kernel_rfl) rfl (okWide_bool_mk Tryz.underlying4 true))⟩

theorem band2 {a b : Bool} (h : a = true) (k : b = true) : (a && b) = true := by rw [h, k]; rfl
set_option maxRecDepth 100000 in
theorem NoBoardIsHeatedTooOften_hjf : joinedFacts Tryz.prog 4 Tryz.f4 Rows.noBoardIsHeatedTooOftenSpec Rows.noBoardIsHeatedTooOftenRow = true :=
  band2 (band2 (band2 (band2 (band2 (band2 (band2 (band2 (band2 (band2 (band2 (band2 (band2 (band2 (band2 (band2 (band2 (band2 (band2 (band2 (band2 (band2 (band2 (band2 (band2 (band2 (band2 (band2 (band2 (band2 (band2 (NoBoardIsHeatedTooOften_jf0) NoBoardIsHeatedTooOften_jf1) NoBoardIsHeatedTooOften_jf2) NoBoardIsHeatedTooOften_jf3) NoBoardIsHeatedTooOften_jf4) NoBoardIsHeatedTooOften_jf5) NoBoardIsHeatedTooOften_jf6) NoBoardIsHeatedTooOften_jf7) NoBoardIsHeatedTooOften_jf8) NoBoardIsHeatedTooOften_jf9) NoBoardIsHeatedTooOften_jf10) NoBoardIsHeatedTooOften_jf11) NoBoardIsHeatedTooOften_jf12) NoBoardIsHeatedTooOften_jf13) NoBoardIsHeatedTooOften_jf14) NoBoardIsHeatedTooOften_jf15) NoBoardIsHeatedTooOften_jf16) NoBoardIsHeatedTooOften_jf17) NoBoardIsHeatedTooOften_jf18) NoBoardIsHeatedTooOften_jf19) NoBoardIsHeatedTooOften_jf20) NoBoardIsHeatedTooOften_jf21) NoBoardIsHeatedTooOften_jf22) NoBoardIsHeatedTooOften_jf23) NoBoardIsHeatedTooOften_jf24) NoBoardIsHeatedTooOften_jf25) NoBoardIsHeatedTooOften_jf26) NoBoardIsHeatedTooOften_jf27) NoBoardIsHeatedTooOften_jf28) NoBoardIsHeatedTooOften_jf29) NoBoardIsHeatedTooOften_jf30) NoBoardIsHeatedTooOften_jf31
theorem NoBoardIsHeatedTooOften_row : Rows.NoBoardIsHeatedTooOftenSaid :=
  OpenClaim.holds_of_wide 4 Tryz.f4 rfl rfl rfl rfl rfl rfl rfl ⟨rfl, rfl, rfl, rfl, rfl⟩ rfl rfl rfl rfl rfl NoBoardIsHeatedTooOften_hnm Tryz.func4 NoBoardIsHeatedTooOften_hjf
    NoBoardIsHeatedTooOften_hin NoBoardIsHeatedTooOften_hwr
    (fun os started H enc _ => NoBoardIsHeatedTooOften_lifted os started H enc)
theorem NoBoardIsHeatedTooOften_holds : Rows.NoBoardIsHeatedTooOftenCardSaid :=
  Claim7.holds_tied_plain_at .later [] [.data, .pinned] true (true, "ef9b408e0ef1d8ee385fe0c4518ed384cc5ed48d05d09bbfcdc890ec739e479e") true
    NoBoardIsHeatedTooOften_row (fun _ h => by cases h) NoBoardIsHeatedTooOften_hwf (fun _ h => by cases h) noBoardIsHeatedTooOften_row_tie rfl ⟨rfl, rfl⟩ NoBoardIsHeatedTooOften_hmi rfl
    (fun f fn hf hfn => by
      obtain rfl : f = 4 := Option.some.inj (NoBoardIsHeatedTooOften_hnm.symm.trans hf) |>.symm
      obtain rfl : fn = Tryz.f4 := (Option.some.inj (Tryz.func4.symm.trans hfn)).symm
      exact ⟨NoBoardIsHeatedTooOften_hlo, fun j t ht => by
        rw [Tryz.params4] at ht
        have hm : t ∈ [22] := by simpa using Array.mem_of_getElem? ht
        exact (show Tryz.prog.wantsStandIn t = false by simpa using List.all_eq_true.1 NoBoardIsHeatedTooOften_hst t hm)⟩)
    NoBoardIsHeatedTooOften_hgo
end Go.Proofs.YtnmimagninhkkaaGreatDoor
