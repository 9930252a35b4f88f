/- The card of the law ChainsAreChains, put together over its walk. No conditions beyond the row's own. -/
import Derived.Test.YtjegfebolhjghaaGreatDoorPc30
import Derived.Test.YtjegfebolhjghaaGreatDoorPc31
import Derived.Test.YtjegfebolhjghaaGreatDoorCcKz
namespace Go.Proofs.YtjegfebolhjghaaGreatDoor
open Go.ChangeShapes Go.WideShapes Go.ChangeAt Go.RowKit

set_option maxRecDepth 100000 in
theorem ChainsAreChains_lifted (os : Os) (started : os.Started) (H : Type) (enc : TypeId × Value → H) :
    ReturnsInHanded {} Tryz.checked os 3 .any (fun w args => (Rows.chainsAreChainsSpec.pre enc Tryz.prog Tryz.f3 [] false w args ∧ laidMetH Tryz.prog Rows.chainsAreChainsRow.laid w) ∧ sizedMet enc Tryz.prog Tryz.f3 (OpenSpec.ofChange Rows.chainsAreChainsSpec) false w args)
      (Rows.chainsAreChainsSpec.post enc Tryz.prog Tryz.f3 false true false false) := by
  refine returnsInHanded_of_change_and (C := Tryz.checked) (X := fun w _ => laidMetH Tryz.prog Rows.chainsAreChainsRow.laid w) (fun _ _ _ hh h => h.of_heap hh) own started (by kernel_rfl) Tryz.func3
    (ChangeSpec.witness_shaped (enc := enc) (C := Tryz.checked) (os := os) (X := fun w _ => laidMetH Tryz.prog Rows.chainsAreChainsRow.laid w) false (World.laidAll Tryz.prog os Rows.chainsAreChainsRow.laid) #[.slice none 0 0] 8 (World.laidAll_os _ _ _)
      (World.shaped_of_ZipB (by kernel_rfl) (by kernel_rfl)) (by kernel_rfl) (by kernel_rfl) (by kernel_rfl)
      (by rw [MakeChecks.laidMetH_plain _ _ _ (by kernel_rfl)]; exact laidMet_laidAll _ (by kernel_rfl) (by kernel_rfl))) ?_
  intro W base args ds gs before hval0 hW _ _ hL _
  have hval : ∀ (j : Nat) t v, Tryz.f3.params[j]? = some t → args[j]? = some v → Value.okWide Tryz.prog W .any base t v := hval0
  have hW' := hW
  obtain ⟨p, q, hA0, hV, rfl, hfz, hnd⟩ := hW
  have hA : DataW.TrodAll enc Tryz.prog W 0 (fun _ => true) true Tryz.f3.params.toList args.toList ds p := hA0
  rw [Tryz.params3] at hA hval
  obtain ⟨v0, d0, rfl, rfl, h0⟩ := trodAll_one hA
  obtain ⟨rfl, rfl⟩ := trodVars_none hV
  clear hA0 hval0
  simp only [List.append_nil] at hW'
  have hlt : ∀ x ∈ p, x.block < W.heap.size := fun x hx => by simpa using hW'.lt x hx
  obtain ⟨l, rl, hl⟩ := ints_key (hval 0 22 v0 rfl rfl) h0
  refine (ChainsAreChains_any l v0 W rl hl).mono fun e W' ⟨he, hb⟩ => ?_
  subst he
  have hargs : ∀ (sp : Nat → Bool), (∀ x ∈ p, sp x.block = true) → DataW.Trod enc Tryz.prog W' 0 sp true 22 v0 d0 p :=
    fun sp hsp => WideElems.Trod_stays laidOut (by kernel_rfl) (of_decide_eq_true (by kernel_rfl)) h0 (fun x hx => hb.same (hlt x hx)) hsp
  exact ⟨_, rfl, post_of_below (pa := p) (pv := []) hW' (fun _ _ _ => trodAll_mk1 (shut_bool Tryz.underlying4 true)) (fun sp hsp => trodAll_mk1 (hargs sp (fun x hx => hsp x hx))) (fun _ _ => rfl) (by simp) hb (ok_one (by kernel_rfl) rfl (okWide_bool_mk Tryz.underlying4 true))⟩

theorem band2 {a b : Bool} (h : a = true) (k : b = true) : (a && b) = true := by rw [h, k]; rfl
set_option maxRecDepth 100000 in
theorem ChainsAreChains_hjf : joinedFacts Tryz.prog 3 Tryz.f3 Rows.chainsAreChainsSpec Rows.chainsAreChainsRow = true :=
  band2 (band2 (band2 (band2 (band2 (band2 (band2 (band2 (band2 (band2 (band2 (band2 (band2 (band2 (band2 (band2 (band2 (band2 (band2 (band2 (band2 (band2 (band2 (band2 (band2 (band2 (band2 (band2 (band2 (band2 (band2 (ChainsAreChains_jf0) ChainsAreChains_jf1) ChainsAreChains_jf2) ChainsAreChains_jf3) ChainsAreChains_jf4) ChainsAreChains_jf5) ChainsAreChains_jf6) ChainsAreChains_jf7) ChainsAreChains_jf8) ChainsAreChains_jf9) ChainsAreChains_jf10) ChainsAreChains_jf11) ChainsAreChains_jf12) ChainsAreChains_jf13) ChainsAreChains_jf14) ChainsAreChains_jf15) ChainsAreChains_jf16) ChainsAreChains_jf17) ChainsAreChains_jf18) ChainsAreChains_jf19) ChainsAreChains_jf20) ChainsAreChains_jf21) ChainsAreChains_jf22) ChainsAreChains_jf23) ChainsAreChains_jf24) ChainsAreChains_jf25) ChainsAreChains_jf26) ChainsAreChains_jf27) ChainsAreChains_jf28) ChainsAreChains_jf29) ChainsAreChains_jf30) ChainsAreChains_jf31
theorem ChainsAreChains_row : Rows.ChainsAreChainsSaid :=
  OpenClaim.holds_of_wide 3 Tryz.f3 rfl rfl rfl rfl rfl rfl rfl ⟨rfl, rfl, rfl, rfl, rfl⟩ rfl rfl rfl rfl rfl ChainsAreChains_hnm Tryz.func3 ChainsAreChains_hjf
    ChainsAreChains_hin ChainsAreChains_hwr
    (fun os started H enc _ => ChainsAreChains_lifted os started H enc)
theorem ChainsAreChains_holds : Rows.ChainsAreChainsCardSaid :=
  Claim7.holds_tied_plain_at .later [] [.data, .pinned] true (true, "e656e4afb940c99cff01175164c81dec4b4016f898653ee4c25d8a354e099ae4") true
    ChainsAreChains_row (fun _ h => by cases h) ChainsAreChains_hwf (fun _ h => by cases h) chainsAreChains_row_tie rfl ⟨rfl, rfl⟩ ChainsAreChains_hmi rfl
    (fun f fn hf hfn => by
      obtain rfl : f = 3 := Option.some.inj (ChainsAreChains_hnm.symm.trans hf) |>.symm
      obtain rfl : fn = Tryz.f3 := (Option.some.inj (Tryz.func3.symm.trans hfn)).symm
      exact ⟨ChainsAreChains_hlo, fun j t ht => by
        rw [Tryz.params3] at ht
        have hm : t ∈ [22] := by simpa using Array.mem_of_getElem? ht
        exact (show Tryz.prog.wantsStandIn t = false by simpa using List.all_eq_true.1 ChainsAreChains_hst t hm)⟩)
    ChainsAreChains_hgo
end Go.Proofs.YtjegfebolhjghaaGreatDoor
