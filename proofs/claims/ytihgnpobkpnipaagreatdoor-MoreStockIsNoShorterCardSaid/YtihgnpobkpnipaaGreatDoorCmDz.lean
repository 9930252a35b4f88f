/- The card of the law MoreStockIsNoShorter, put together over its walk. No conditions beyond the row's own. -/
import Derived.Test.YtihgnpobkpnipaaGreatDoorMz34
import Derived.Test.YtihgnpobkpnipaaGreatDoorMz35
import Derived.Test.YtihgnpobkpnipaaGreatDoorCmKz
namespace Go.Proofs.YtihgnpobkpnipaaGreatDoor
open Go.ChangeShapes Go.WideShapes Go.ChangeAt Go.RowKit

set_option maxRecDepth 100000 in
theorem MoreStockIsNoShorter_lifted (os : Os) (started : os.Started) (H : Type) (enc : TypeId × Value → H) :
    ReturnsInHanded {} Tryz.checked os 5 .any (fun w args => (Rows.moreStockIsNoShorterSpec.pre enc Tryz.prog Tryz.f5 [] false w args ∧ laidMetH Tryz.prog Rows.moreStockIsNoShorterRow.laid w) ∧ sizedMet enc Tryz.prog Tryz.f5 (OpenSpec.ofChange Rows.moreStockIsNoShorterSpec) false w args)
      (Rows.moreStockIsNoShorterSpec.post enc Tryz.prog Tryz.f5 false true false false) := by
  refine returnsInHanded_shd (C := Tryz.checked) (X := fun w _ => laidMetH Tryz.prog Rows.moreStockIsNoShorterRow.laid w) (fun _ _ _ hh h => h.of_heap hh) own started (by kernel_rfl) Tryz.func5
    (ChangeSpec.witness_shaped (enc := enc) (C := Tryz.checked) (os := os) (X := fun w _ => laidMetH Tryz.prog Rows.moreStockIsNoShorterRow.laid w) false (World.laidAll Tryz.prog os Rows.moreStockIsNoShorterRow.laid) #[.slice none 0 0] 8 (World.laidAll_os _ _ _)
      (World.shaped_of_ZipB (by kernel_rfl) (by kernel_rfl)) (by kernel_rfl) (by kernel_rfl) (by kernel_rfl)
      (by rw [MakeChecks.laidMetH_plain _ _ _ (by kernel_rfl)]; exact laidMet_laidAll _ (by kernel_rfl) (by kernel_rfl))) ?_
  intro W base args ds gs before hval0 hW hsh hL
  have hval : ∀ (j : Nat) t v, Tryz.f5.params[j]? = some t → args[j]? = some v → Value.okWide Tryz.prog W .any base t v := hval0
  have hW' := hW
  obtain ⟨p, q, hA0, hV, rfl, hfz, hnd⟩ := hW
  have hA : DataW.TrodAll enc Tryz.prog W 0 (fun _ => true) true Tryz.f5.params.toList args.toList ds p := hA0
  rw [Tryz.params5] at hA hval
  obtain ⟨v0, d0, rfl, rfl, h0⟩ := trodAll_one hA
  obtain ⟨rfl, rfl⟩ := trodVars_none hV
  clear hA0 hval0
  simp only [List.append_nil] at hW'
  have hlt : ∀ x ∈ p, x.block < W.heap.size := fun x hx => by simpa using hW'.lt x hx
  obtain ⟨l, rl, hl⟩ := ints_key (hval 0 22 v0 rfl rfl) h0
  rw [MakeChecks.laidMetH_plain _ _ _ (by kernel_rfl)] at hL
  have hTab : laidMet Tryz.prog (("internal/strconv.uint64pow10", Lib.tabData .u64 Lib.pow10Tab) :: _) W := hL.tail.tail
  have hTx := TxW.of_row hTab hsh
  refine (MoreStockIsNoShorter_any l v0 W rl hl hTx).mono fun e W' ⟨he, hb⟩ => ?_
  subst he
  have hargs : ∀ (sp : Nat → Bool), (∀ x ∈ p, sp x.block = true) → DataW.Trod enc Tryz.prog W' 0 sp true 22 v0 d0 p :=
    fun sp hsp => WideElems.Trod_stays laidOut (by kernel_rfl) (of_decide_eq_true (by kernel_rfl)) h0 (fun x hx => hb.same (hlt x hx)) hsp
  exact ⟨_, rfl, post_of_below (pa := p) (pv := []) hW' (fun _ _ _ => trodAll_mk1 (shut_bool Tryz.underlying4 true)) (fun sp hsp => trodAll_mk1 (hargs sp (fun x hx => hsp x hx))) (fun _ _ => rfl) (by simp) hb (ok_one (by kernel_rfl) rfl (okWide_bool_mk Tryz.underlying4 true))⟩

theorem band2 {a b : Bool} (h : a = true) (k : b = true) : (a && b) = true := by rw [h, k]; rfl
set_option maxRecDepth 100000 in
theorem MoreStockIsNoShorter_hjf : joinedFacts Tryz.prog 5 Tryz.f5 Rows.moreStockIsNoShorterSpec Rows.moreStockIsNoShorterRow = true :=
  band2 (band2 (band2 (band2 (band2 (band2 (band2 (band2 (band2 (band2 (band2 (band2 (band2 (band2 (band2 (band2 (band2 (band2 (band2 (band2 (band2 (band2 (band2 (band2 (band2 (band2 (band2 (band2 (band2 (band2 (band2 (MoreStockIsNoShorter_jf0) MoreStockIsNoShorter_jf1) MoreStockIsNoShorter_jf2) MoreStockIsNoShorter_jf3) MoreStockIsNoShorter_jf4) MoreStockIsNoShorter_jf5) MoreStockIsNoShorter_jf6) MoreStockIsNoShorter_jf7) MoreStockIsNoShorter_jf8) MoreStockIsNoShorter_jf9) MoreStockIsNoShorter_jf10) MoreStockIsNoShorter_jf11) MoreStockIsNoShorter_jf12) MoreStockIsNoShorter_jf13) MoreStockIsNoShorter_jf14) MoreStockIsNoShorter_jf15) MoreStockIsNoShorter_jf16) MoreStockIsNoShorter_jf17) MoreStockIsNoShorter_jf18) MoreStockIsNoShorter_jf19) MoreStockIsNoShorter_jf20) MoreStockIsNoShorter_jf21) MoreStockIsNoShorter_jf22) MoreStockIsNoShorter_jf23) MoreStockIsNoShorter_jf24) MoreStockIsNoShorter_jf25) MoreStockIsNoShorter_jf26) MoreStockIsNoShorter_jf27) MoreStockIsNoShorter_jf28) MoreStockIsNoShorter_jf29) MoreStockIsNoShorter_jf30) MoreStockIsNoShorter_jf31
theorem MoreStockIsNoShorter_row : Rows.MoreStockIsNoShorterSaid :=
  OpenClaim.holds_of_wide 5 Tryz.f5 rfl rfl rfl rfl rfl rfl rfl ⟨rfl, rfl, rfl, rfl, rfl⟩ rfl rfl rfl rfl rfl MoreStockIsNoShorter_hnm Tryz.func5 MoreStockIsNoShorter_hjf
    MoreStockIsNoShorter_hin MoreStockIsNoShorter_hwr
    (fun os started H enc _ => MoreStockIsNoShorter_lifted os started H enc)
theorem MoreStockIsNoShorter_holds : Rows.MoreStockIsNoShorterCardSaid :=
  Claim7.holds_tied_plain_at .later [] [.data, .data, .data, .data, .sentinel, .sentinel, .pinned] true (true, "b85f7799089c2354a7f44af7506ae1647446a96d114aa9fc805fea69fb5bce0a") true
    MoreStockIsNoShorter_row (fun _ h => by cases h) MoreStockIsNoShorter_hwf (fun _ h => by cases h) moreStockIsNoShorter_row_tie rfl ⟨rfl, rfl⟩ MoreStockIsNoShorter_hmi rfl
    (fun f fn hf hfn => by
      obtain rfl : f = 5 := Option.some.inj (MoreStockIsNoShorter_hnm.symm.trans hf) |>.symm
      obtain rfl : fn = Tryz.f5 := (Option.some.inj (Tryz.func5.symm.trans hfn)).symm
      exact ⟨MoreStockIsNoShorter_hlo, fun j t ht => by
        rw [Tryz.params5] at ht
        have hm : t ∈ [22] := by simpa using Array.mem_of_getElem? ht
        exact (show Tryz.prog.wantsStandIn t = false by simpa using List.all_eq_true.1 MoreStockIsNoShorter_hst t hm)⟩)
    MoreStockIsNoShorter_hgo
end Go.Proofs.YtihgnpobkpnipaaGreatDoor
