/- The card of the law CataloguesChecked, put together over its walk. No conditions beyond the row's own. -/
import Derived.Test.YtihgnpobkpnipaaGreatDoorCz32
import Derived.Test.YtihgnpobkpnipaaGreatDoorCz34
import Derived.Test.YtihgnpobkpnipaaGreatDoorCz35
import Derived.Test.YtihgnpobkpnipaaGreatDoorCxKz
namespace Go.Proofs.YtihgnpobkpnipaaGreatDoor
open Go.ChangeShapes Go.WideShapes Go.ChangeAt Go.RowKit

set_option maxRecDepth 100000 in
theorem CataloguesChecked_lifted (os : Os) (started : os.Started) (H : Type) (enc : TypeId × Value → H) :
    ReturnsInHanded {} Tryz.checked os 3 .any (fun w args => (Rows.cataloguesCheckedSpec.pre enc Tryz.prog Tryz.f3 [] false w args ∧ laidMetH Tryz.prog Rows.cataloguesCheckedRow.laid w) ∧ sizedMet enc Tryz.prog Tryz.f3 (OpenSpec.ofChange Rows.cataloguesCheckedSpec) false w args)
      (Rows.cataloguesCheckedSpec.post enc Tryz.prog Tryz.f3 false true false false) := by
  refine returnsInHanded_shd (C := Tryz.checked) (X := fun w _ => laidMetH Tryz.prog Rows.cataloguesCheckedRow.laid w) (fun _ _ _ hh h => h.of_heap hh) own started (by kernel_rfl) Tryz.func3
    (ChangeSpec.witness_shaped (enc := enc) (C := Tryz.checked) (os := os) (X := fun w _ => laidMetH Tryz.prog Rows.cataloguesCheckedRow.laid w) false (World.laidAll Tryz.prog os Rows.cataloguesCheckedRow.laid) #[.slice none 0 0] 8 (World.laidAll_os _ _ _)
      (World.shaped_of_ZipB (by kernel_rfl) (by kernel_rfl)) (by kernel_rfl) (by kernel_rfl) (by kernel_rfl)
      (by rw [MakeChecks.laidMetH_plain _ _ _ (by kernel_rfl)]; exact laidMet_laidAll _ (by kernel_rfl) (by kernel_rfl))) ?_
  intro W base args ds gs before hval0 hW hsh hL
  have hval : ∀ (j : Nat) t v, Tryz.f3.params[j]? = some t → args[j]? = some v → Value.okWide Tryz.prog W .any base t v := hval0
  have hW' := hW
  obtain ⟨p, q, hA0, hV, rfl, hfz, hnd⟩ := hW
  have hA : DataW.TrodAll enc Tryz.prog W 0 (fun _ => true) true Tryz.f3.params.toList args.toList ds p := hA0
  rw [Tryz.params3] at hA hval
  obtain ⟨v0, d0, rfl, rfl, h0⟩ := trodAll_one hA
  obtain ⟨rfl, rfl⟩ := trodVars_none hV
  clear hA0 hval0
  simp only [List.append_nil] at hW'
  have hlt : ∀ x ∈ p, x.block < W.heap.size := fun x hx => by simpa using hW'.lt x hx
  obtain ⟨l, rl, hl⟩ := ints_key (hval 0 22 v0 rfl rfl) h0
  rw [MakeChecks.laidMetH_plain _ _ _ (by kernel_rfl)] at hL
  have hTab : laidMet Tryz.prog (("internal/strconv.uint64pow10", Lib.tabData .u64 Lib.pow10Tab) :: _) W := hL.tail.tail
  have hTx := TxW.of_row hTab hsh
  refine (CataloguesChecked_any l v0 W rl hl hTx).mono fun e W' ⟨he, hb⟩ => ?_
  subst he
  have hargs : ∀ (sp : Nat → Bool), (∀ x ∈ p, sp x.block = true) → DataW.Trod enc Tryz.prog W' 0 sp true 22 v0 d0 p :=
    fun sp hsp => WideElems.Trod_stays laidOut (by kernel_rfl) (of_decide_eq_true (by kernel_rfl)) h0 (fun x hx => hb.same (hlt x hx)) hsp
  exact ⟨_, rfl, post_of_below (pa := p) (pv := []) hW' (fun _ _ _ => trodAll_mk1 (shut_bool Tryz.underlying4 true)) (fun sp hsp => trodAll_mk1 (hargs sp (fun x hx => hsp x hx))) (fun _ _ => rfl) (by simp) hb (ok_one (by kernel_rfl) rfl (okWide_bool_mk Tryz.underlying4 true))⟩

theorem band2 {a b : Bool} (h : a = true) (k : b = true) : (a && b) = true := by rw [h, k]; rfl
set_option maxRecDepth 100000 in
theorem CataloguesChecked_hjf : joinedFacts Tryz.prog 3 Tryz.f3 Rows.cataloguesCheckedSpec Rows.cataloguesCheckedRow = true :=
  band2 (band2 (band2 (band2 (band2 (band2 (band2 (band2 (band2 (band2 (band2 (band2 (band2 (band2 (band2 (band2 (band2 (band2 (band2 (band2 (band2 (band2 (band2 (band2 (band2 (band2 (band2 (band2 (band2 (band2 (band2 (CataloguesChecked_jf0) CataloguesChecked_jf1) CataloguesChecked_jf2) CataloguesChecked_jf3) CataloguesChecked_jf4) CataloguesChecked_jf5) CataloguesChecked_jf6) CataloguesChecked_jf7) CataloguesChecked_jf8) CataloguesChecked_jf9) CataloguesChecked_jf10) CataloguesChecked_jf11) CataloguesChecked_jf12) CataloguesChecked_jf13) CataloguesChecked_jf14) CataloguesChecked_jf15) CataloguesChecked_jf16) CataloguesChecked_jf17) CataloguesChecked_jf18) CataloguesChecked_jf19) CataloguesChecked_jf20) CataloguesChecked_jf21) CataloguesChecked_jf22) CataloguesChecked_jf23) CataloguesChecked_jf24) CataloguesChecked_jf25) CataloguesChecked_jf26) CataloguesChecked_jf27) CataloguesChecked_jf28) CataloguesChecked_jf29) CataloguesChecked_jf30) CataloguesChecked_jf31
theorem CataloguesChecked_row : Rows.CataloguesCheckedSaid :=
  OpenClaim.holds_of_wide 3 Tryz.f3 rfl rfl rfl rfl rfl rfl rfl ⟨rfl, rfl, rfl, rfl, rfl⟩ rfl rfl rfl rfl rfl CataloguesChecked_hnm Tryz.func3 CataloguesChecked_hjf
    CataloguesChecked_hin CataloguesChecked_hwr
    (fun os started H enc _ => CataloguesChecked_lifted os started H enc)
theorem CataloguesChecked_holds : Rows.CataloguesCheckedCardSaid :=
  Claim7.holds_tied_plain_at .later [] [.data, .data, .data, .data, .sentinel, .sentinel, .pinned] true (true, "b85f7799089c2354a7f44af7506ae1647446a96d114aa9fc805fea69fb5bce0a") true
    CataloguesChecked_row (fun _ h => by cases h) CataloguesChecked_hwf (fun _ h => by cases h) cataloguesChecked_row_tie rfl ⟨rfl, rfl⟩ CataloguesChecked_hmi rfl
    (fun f fn hf hfn => by
      obtain rfl : f = 3 := Option.some.inj (CataloguesChecked_hnm.symm.trans hf) |>.symm
      obtain rfl : fn = Tryz.f3 := (Option.some.inj (Tryz.func3.symm.trans hfn)).symm
      exact ⟨CataloguesChecked_hlo, fun j t ht => by
        rw [Tryz.params3] at ht
        have hm : t ∈ [22] := by simpa using Array.mem_of_getElem? ht
        exact (show Tryz.prog.wantsStandIn t = false by simpa using List.all_eq_true.1 CataloguesChecked_hst t hm)⟩)
    CataloguesChecked_hgo
end Go.Proofs.YtihgnpobkpnipaaGreatDoor
