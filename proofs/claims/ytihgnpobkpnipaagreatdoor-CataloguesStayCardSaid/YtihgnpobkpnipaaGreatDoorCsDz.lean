/- The card of the law CataloguesStay, put together over its walk. No conditions beyond the row's own. -/
import Derived.Test.YtihgnpobkpnipaaGreatDoorQz40
import Derived.Test.YtihgnpobkpnipaaGreatDoorQz41
import Derived.Test.YtihgnpobkpnipaaGreatDoorCsKz
namespace Go.Proofs.YtihgnpobkpnipaaGreatDoor
open Go.ChangeShapes Go.WideShapes Go.ChangeAt Go.RowKit

set_option maxRecDepth 100000 in
theorem CataloguesStay_lifted (os : Os) (started : os.Started) (H : Type) (enc : TypeId × Value → H) :
    ReturnsInHanded {} Tryz.checked os 6 .any (fun w args => (Rows.cataloguesStaySpec.pre enc Tryz.prog Tryz.f6 [] false w args ∧ laidMetH Tryz.prog Rows.cataloguesStayRow.laid w) ∧ sizedMet enc Tryz.prog Tryz.f6 (OpenSpec.ofChange Rows.cataloguesStaySpec) false w args)
      (Rows.cataloguesStaySpec.post enc Tryz.prog Tryz.f6 false true false false) := by
  refine returnsInHanded_shd (C := Tryz.checked) (X := fun w _ => laidMetH Tryz.prog Rows.cataloguesStayRow.laid w) (fun _ _ _ hh h => h.of_heap hh) own started (by kernel_rfl) Tryz.func6
    (ChangeSpec.witness_shaped (enc := enc) (C := Tryz.checked) (os := os) (X := fun w _ => laidMetH Tryz.prog Rows.cataloguesStayRow.laid w) false (World.laidAll Tryz.prog os Rows.cataloguesStayRow.laid) #[.slice none 0 0] 8 (World.laidAll_os _ _ _)
      (World.shaped_of_ZipB (by kernel_rfl) (by kernel_rfl)) (by kernel_rfl) (by kernel_rfl) (by kernel_rfl)
      (by rw [MakeChecks.laidMetH_plain _ _ _ (by kernel_rfl)]; exact laidMet_laidAll _ (by kernel_rfl) (by kernel_rfl))) ?_
  intro W base args ds gs before hval0 hW hsh hL
  have hval : ∀ (j : Nat) t v, Tryz.f6.params[j]? = some t → args[j]? = some v → Value.okWide Tryz.prog W .any base t v := hval0
  have hW' := hW
  obtain ⟨p, q, hA0, hV, rfl, hfz, hnd⟩ := hW
  have hA : DataW.TrodAll enc Tryz.prog W 0 (fun _ => true) true Tryz.f6.params.toList args.toList ds p := hA0
  rw [Tryz.params6] at hA hval
  obtain ⟨v0, d0, rfl, rfl, h0⟩ := trodAll_one hA
  obtain ⟨rfl, rfl⟩ := trodVars_none hV
  clear hA0 hval0
  simp only [List.append_nil] at hW'
  have hlt : ∀ x ∈ p, x.block < W.heap.size := fun x hx => by simpa using hW'.lt x hx
  obtain ⟨l, rl, hl⟩ := ints_key (hval 0 22 v0 rfl rfl) h0
  rw [MakeChecks.laidMetH_plain _ _ _ (by kernel_rfl)] at hL
  have hTab : laidMet Tryz.prog (("internal/strconv.uint64pow10", Lib.tabData .u64 Lib.pow10Tab) :: _) W := hL.tail.tail
  have hTx := TxW.of_row hTab hsh
  refine (CataloguesStay_any l v0 W rl hl hTx).mono fun e W' ⟨he, hb⟩ => ?_
  subst he
  have hargs : ∀ (sp : Nat → Bool), (∀ x ∈ p, sp x.block = true) → DataW.Trod enc Tryz.prog W' 0 sp true 22 v0 d0 p :=
    fun sp hsp => WideElems.Trod_stays laidOut (by kernel_rfl) (of_decide_eq_true (by kernel_rfl)) h0 (fun x hx => hb.same (hlt x hx)) hsp
  exact ⟨_, rfl, post_of_below (pa := p) (pv := []) hW' (fun _ _ _ => trodAll_mk1 (shut_bool Tryz.underlying4 true)) (fun sp hsp => trodAll_mk1 (hargs sp (fun x hx => hsp x hx))) (fun _ _ => rfl) (by simp) hb (ok_one (by kernel_rfl) rfl (okWide_bool_mk Tryz.underlying4 true))⟩

theorem band2 {a b : Bool} (h : a = true) (k : b = true) : (a && b) = true := by rw [h, k]; rfl
set_option maxRecDepth 100000 in
theorem CataloguesStay_hjf : joinedFacts Tryz.prog 6 Tryz.f6 Rows.cataloguesStaySpec Rows.cataloguesStayRow = true :=
  band2 (band2 (band2 (band2 (band2 (band2 (band2 (band2 (band2 (band2 (band2 (band2 (band2 (band2 (band2 (band2 (band2 (band2 (band2 (band2 (band2 (band2 (band2 (band2 (band2 (band2 (band2 (band2 (band2 (band2 (band2 (CataloguesStay_jf0) CataloguesStay_jf1) CataloguesStay_jf2) CataloguesStay_jf3) CataloguesStay_jf4) CataloguesStay_jf5) CataloguesStay_jf6) CataloguesStay_jf7) CataloguesStay_jf8) CataloguesStay_jf9) CataloguesStay_jf10) CataloguesStay_jf11) CataloguesStay_jf12) CataloguesStay_jf13) CataloguesStay_jf14) CataloguesStay_jf15) CataloguesStay_jf16) CataloguesStay_jf17) CataloguesStay_jf18) CataloguesStay_jf19) CataloguesStay_jf20) CataloguesStay_jf21) CataloguesStay_jf22) CataloguesStay_jf23) CataloguesStay_jf24) CataloguesStay_jf25) CataloguesStay_jf26) CataloguesStay_jf27) CataloguesStay_jf28) CataloguesStay_jf29) CataloguesStay_jf30) CataloguesStay_jf31
theorem CataloguesStay_row : Rows.CataloguesStaySaid :=
  OpenClaim.holds_of_wide 6 Tryz.f6 rfl rfl rfl rfl rfl rfl rfl ⟨rfl, rfl, rfl, rfl, rfl⟩ rfl rfl rfl rfl rfl CataloguesStay_hnm Tryz.func6 CataloguesStay_hjf
    CataloguesStay_hin CataloguesStay_hwr
    (fun os started H enc _ => CataloguesStay_lifted os started H enc)
theorem CataloguesStay_holds : Rows.CataloguesStayCardSaid :=
  Claim7.holds_tied_plain_at .later [] [.data, .data, .data, .data, .sentinel, .sentinel, .pinned] true (true, "b85f7799089c2354a7f44af7506ae1647446a96d114aa9fc805fea69fb5bce0a") true
    CataloguesStay_row (fun _ h => by cases h) CataloguesStay_hwf (fun _ h => by cases h) cataloguesStay_row_tie rfl ⟨rfl, rfl⟩ CataloguesStay_hmi rfl
    (fun f fn hf hfn => by
      obtain rfl : f = 6 := Option.some.inj (CataloguesStay_hnm.symm.trans hf) |>.symm
      obtain rfl : fn = Tryz.f6 := (Option.some.inj (Tryz.func6.symm.trans hfn)).symm
      exact ⟨CataloguesStay_hlo, fun j t ht => by
        rw [Tryz.params6] at ht
        have hm : t ∈ [22] := by simpa using Array.mem_of_getElem? ht
        exact (show Tryz.prog.wantsStandIn t = false by simpa using List.all_eq_true.1 CataloguesStay_hst t hm)⟩)
    CataloguesStay_hgo
end Go.Proofs.YtihgnpobkpnipaaGreatDoor
