/- The card of the law CataloguesComeBack, put together over its walk. No conditions beyond the row's own. -/
import Derived.Test.YtihgnpobkpnipaaGreatDoorCz34
import Derived.Test.YtihgnpobkpnipaaGreatDoorCz35
import Derived.Test.YtihgnpobkpnipaaGreatDoorCbKz
namespace Go.Proofs.YtihgnpobkpnipaaGreatDoor
open Go.ChangeShapes Go.WideShapes Go.ChangeAt Go.RowKit

set_option maxRecDepth 100000 in
theorem CataloguesComeBack_lifted (os : Os) (started : os.Started) (H : Type) (enc : TypeId × Value → H) :
    ReturnsInHanded {} Tryz.checked os 4 .any (fun w args => (Rows.cataloguesComeBackSpec.pre enc Tryz.prog Tryz.f4 [] false w args ∧ laidMetH Tryz.prog Rows.cataloguesComeBackRow.laid w) ∧ sizedMet enc Tryz.prog Tryz.f4 (OpenSpec.ofChange Rows.cataloguesComeBackSpec) false w args)
      (Rows.cataloguesComeBackSpec.post enc Tryz.prog Tryz.f4 false true false false) := by
  refine returnsInHanded_shd (C := Tryz.checked) (X := fun w _ => laidMetH Tryz.prog Rows.cataloguesComeBackRow.laid w) (fun _ _ _ hh h => h.of_heap hh) own started (by kernel_rfl) Tryz.func4
    (ChangeSpec.witness_shaped (enc := enc) (C := Tryz.checked) (os := os) (X := fun w _ => laidMetH Tryz.prog Rows.cataloguesComeBackRow.laid w) false (World.laidAll Tryz.prog os Rows.cataloguesComeBackRow.laid) #[.slice none 0 0] 8 (World.laidAll_os _ _ _)
      (World.shaped_of_ZipB (by kernel_rfl) (by kernel_rfl)) (by kernel_rfl) (by kernel_rfl) (by kernel_rfl)
      (by rw [MakeChecks.laidMetH_plain _ _ _ (by kernel_rfl)]; exact laidMet_laidAll _ (by kernel_rfl) (by kernel_rfl))) ?_
  intro W base args ds gs before hval0 hW hsh hL
  have hval : ∀ (j : Nat) t v, Tryz.f4.params[j]? = some t → args[j]? = some v → Value.okWide Tryz.prog W .any base t v := hval0
  have hW' := hW
  obtain ⟨p, q, hA0, hV, rfl, hfz, hnd⟩ := hW
  have hA : DataW.TrodAll enc Tryz.prog W 0 (fun _ => true) true Tryz.f4.params.toList args.toList ds p := hA0
  rw [Tryz.params4] at hA hval
  obtain ⟨v0, d0, rfl, rfl, h0⟩ := trodAll_one hA
  obtain ⟨rfl, rfl⟩ := trodVars_none hV
  clear hA0 hval0
  simp only [List.append_nil] at hW'
  have hlt : ∀ x ∈ p, x.block < W.heap.size := fun x hx => by simpa using hW'.lt x hx
  obtain ⟨l, rl, hl⟩ := ints_key (hval 0 22 v0 rfl rfl) h0
  rw [MakeChecks.laidMetH_plain _ _ _ (by kernel_rfl)] at hL
  have hTab : laidMet Tryz.prog (("internal/strconv.uint64pow10", Lib.tabData .u64 Lib.pow10Tab) :: _) W := hL.tail.tail
  have hTx := TxW.of_row hTab hsh
  refine (CataloguesComeBack_any l v0 W rl hl hTx).mono fun e W' ⟨he, hb⟩ => ?_
  subst he
  have hargs : ∀ (sp : Nat → Bool), (∀ x ∈ p, sp x.block = true) → DataW.Trod enc Tryz.prog W' 0 sp true 22 v0 d0 p :=
    fun sp hsp => WideElems.Trod_stays laidOut (by kernel_rfl) (of_decide_eq_true (by kernel_rfl)) h0 (fun x hx => hb.same (hlt x hx)) hsp
  exact ⟨_, rfl, post_of_below (pa := p) (pv := []) hW' (fun _ _ _ => trodAll_mk1 (shut_bool Tryz.underlying4 true)) (fun sp hsp => trodAll_mk1 (hargs sp (fun x hx => hsp x hx))) (fun _ _ => rfl) (by simp) hb (ok_one (by kernel_rfl) rfl (okWide_bool_mk Tryz.underlying4 true))⟩

theorem band2 {a b : Bool} (h : a = true) (k : b = true) : (a && b) = true := by rw [h, k]; rfl
set_option maxRecDepth 100000 in
theorem CataloguesComeBack_hjf : joinedFacts Tryz.prog 4 Tryz.f4 Rows.cataloguesComeBackSpec Rows.cataloguesComeBackRow = true :=
  band2 (band2 (band2 (band2 (band2 (band2 (band2 (band2 (band2 (band2 (band2 (band2 (band2 (band2 (band2 (band2 (band2 (band2 (band2 (band2 (band2 (band2 (band2 (band2 (band2 (band2 (band2 (band2 (band2 (band2 (band2 (CataloguesComeBack_jf0) CataloguesComeBack_jf1) CataloguesComeBack_jf2) CataloguesComeBack_jf3) CataloguesComeBack_jf4) CataloguesComeBack_jf5) CataloguesComeBack_jf6) CataloguesComeBack_jf7) CataloguesComeBack_jf8) CataloguesComeBack_jf9) CataloguesComeBack_jf10) CataloguesComeBack_jf11) CataloguesComeBack_jf12) CataloguesComeBack_jf13) CataloguesComeBack_jf14) CataloguesComeBack_jf15) CataloguesComeBack_jf16) CataloguesComeBack_jf17) CataloguesComeBack_jf18) CataloguesComeBack_jf19) CataloguesComeBack_jf20) CataloguesComeBack_jf21) CataloguesComeBack_jf22) CataloguesComeBack_jf23) CataloguesComeBack_jf24) CataloguesComeBack_jf25) CataloguesComeBack_jf26) CataloguesComeBack_jf27) CataloguesComeBack_jf28) CataloguesComeBack_jf29) CataloguesComeBack_jf30) CataloguesComeBack_jf31
theorem CataloguesComeBack_row : Rows.CataloguesComeBackSaid :=
  OpenClaim.holds_of_wide 4 Tryz.f4 rfl rfl rfl rfl rfl rfl rfl ⟨rfl, rfl, rfl, rfl, rfl⟩ rfl rfl rfl rfl rfl CataloguesComeBack_hnm Tryz.func4 CataloguesComeBack_hjf
    CataloguesComeBack_hin CataloguesComeBack_hwr
    (fun os started H enc _ => CataloguesComeBack_lifted os started H enc)
theorem CataloguesComeBack_holds : Rows.CataloguesComeBackCardSaid :=
  Claim7.holds_tied_plain_at .later [] [.data, .data, .data, .data, .sentinel, .sentinel, .pinned] true (true, "b85f7799089c2354a7f44af7506ae1647446a96d114aa9fc805fea69fb5bce0a") true
    CataloguesComeBack_row (fun _ h => by cases h) CataloguesComeBack_hwf (fun _ h => by cases h) cataloguesComeBack_row_tie rfl ⟨rfl, rfl⟩ CataloguesComeBack_hmi rfl
    (fun f fn hf hfn => by
      obtain rfl : f = 4 := Option.some.inj (CataloguesComeBack_hnm.symm.trans hf) |>.symm
      obtain rfl : fn = Tryz.f4 := (Option.some.inj (Tryz.func4.symm.trans hfn)).symm
      exact ⟨CataloguesComeBack_hlo, fun j t ht => by
        rw [Tryz.params4] at ht
        have hm : t ∈ [22] := by simpa using Array.mem_of_getElem? ht
        exact (show Tryz.prog.wantsStandIn t = false by simpa using List.all_eq_true.1 CataloguesComeBack_hst t hm)⟩)
    CataloguesComeBack_hgo
end Go.Proofs.YtihgnpobkpnipaaGreatDoor
