/- The card of the law BoardsTraced, put together over its walk. No conditions beyond the row's own. -/
import Derived.Test.YtcfeoapbbkfbnaaGreatDoorFrame
import Derived.Test.YtcfeoapbbkfbnaaGreatDoorBtW
import Derived.Test.YtcfeoapbbkfbnaaGreatDoorBtK
import Derived.Test.YtcfeoapbbkfbnaaGreatDoorTxk
namespace Go.Proofs.YtcfeoapbbkfbnaaGreatDoor
open Go.ChangeShapes Go.WideShapes Go.ChangeAt Go.RowKit

set_option maxRecDepth 100000 in
theorem BoardsTraced_lifted (os : Os) (started : os.Started) (H : Type) (enc : TypeId × Value → H) :
    ReturnsInHanded {} Tryz.checked os 7 .any (fun w args => (Rows.boardsTracedSpec.pre enc Tryz.prog Tryz.f7 [] false w args ∧ laidMetH Tryz.prog Rows.boardsTracedRow.laid w) ∧ sizedMet enc Tryz.prog Tryz.f7 (OpenSpec.ofChange Rows.boardsTracedSpec) false w args)
      (Rows.boardsTracedSpec.post enc Tryz.prog Tryz.f7 false true false false) := by
  refine returnsInHanded_shd (C := Tryz.checked) (X := fun w _ => laidMetH Tryz.prog Rows.boardsTracedRow.laid w) (fun _ _ _ hh h => h.of_heap hh) own started (by kernel_rfl) Tryz.func7
    (ChangeSpec.witness_shaped (enc := enc) (C := Tryz.checked) (os := os) (X := fun w _ => laidMetH Tryz.prog Rows.boardsTracedRow.laid w) false (World.laidAll Tryz.prog os Rows.boardsTracedRow.laid) #[.slice none 0 0] 8 (World.laidAll_os _ _ _)
      (World.shaped_of_ZipB (by kernel_rfl) (by kernel_rfl)) (by kernel_rfl) (by kernel_rfl) (by kernel_rfl)
      (by rw [MakeChecks.laidMetH_plain _ _ _ (by kernel_rfl)]; exact laidMet_laidAll _ (by kernel_rfl) (by kernel_rfl))) ?_
  intro W base args ds gs before hval0 hW hsh hL
  have hval : ∀ (j : Nat) t v, Tryz.f7.params[j]? = some t → args[j]? = some v → Value.okWide Tryz.prog W .any base t v := hval0
  have hW' := hW
  obtain ⟨p, q, hA0, hV, rfl, hfz, hnd⟩ := hW
  have hA : DataW.TrodAll enc Tryz.prog W 0 (fun _ => true) true Tryz.f7.params.toList args.toList ds p := hA0
  rw [Tryz.params7] at hA hval
  obtain ⟨v0, d0, rfl, rfl, h0⟩ := trodAll_one hA
  obtain ⟨rfl, rfl⟩ := trodVars_none hV
  clear hA0 hval0
  simp only [List.append_nil] at hW'
  have hlt : ∀ x ∈ p, x.block < W.heap.size := fun x hx => by simpa using hW'.lt x hx
  obtain ⟨l, rl, hl⟩ := ints_key (hval 0 22 v0 rfl rfl) h0
  rw [MakeChecks.laidMetH_plain _ _ _ (by kernel_rfl)] at hL
  have hTab : laidMet Tryz.prog (("internal/strconv.uint64pow10", Lib.tabData .u64 Lib.pow10Tab) :: _) W := hL.tail.tail
  have hTx := TxW.of_row hTab hsh
  refine (BoardsTraced_any l v0 W rl hl hTx).mono fun e W' ⟨he, hb⟩ => ?_
  subst he
  have hargs : ∀ (sp : Nat → Bool), (∀ x ∈ p, sp x.block = true) → DataW.Trod enc Tryz.prog W' 0 sp true 22 v0 d0 p :=
    fun sp hsp => WideElems.Trod_stays laidOut (by kernel_rfl) (of_decide_eq_true (by kernel_rfl)) h0 (fun x hx => hb.same (hlt x hx)) hsp
  exact ⟨_, rfl, post_of_below (pa := p) (pv := []) hW' (fun _ _ _ => trodAll_mk1 (shut_bool Tryz.underlying4 true)) (fun sp hsp => trodAll_mk1 (hargs sp (fun x hx => hsp x hx))) (fun _ _ => rfl) (by simp) hb (ok_one (by kernel_rfl) rfl (okWide_bool_mk Tryz.underlying4 true))⟩

theorem band2 {a b : Bool} (h : a = true) (k : b = true) : (a && b) = true := by rw [h, k]; rfl
set_option maxRecDepth 100000 in
theorem BoardsTraced_hjf : joinedFacts Tryz.prog 7 Tryz.f7 Rows.boardsTracedSpec Rows.boardsTracedRow = true :=
  band2 (band2 (band2 (band2 (band2 (band2 (band2 (band2 (band2 (band2 (band2 (band2 (band2 (band2 (band2 (band2 (band2 (band2 (band2 (band2 (band2 (band2 (band2 (band2 (band2 (band2 (band2 (band2 (band2 (band2 (band2 (BoardsTraced_jf0) BoardsTraced_jf1) BoardsTraced_jf2) BoardsTraced_jf3) BoardsTraced_jf4) BoardsTraced_jf5) BoardsTraced_jf6) BoardsTraced_jf7) BoardsTraced_jf8) BoardsTraced_jf9) BoardsTraced_jf10) BoardsTraced_jf11) BoardsTraced_jf12) BoardsTraced_jf13) BoardsTraced_jf14) BoardsTraced_jf15) BoardsTraced_jf16) BoardsTraced_jf17) BoardsTraced_jf18) BoardsTraced_jf19) BoardsTraced_jf20) BoardsTraced_jf21) BoardsTraced_jf22) BoardsTraced_jf23) BoardsTraced_jf24) BoardsTraced_jf25) BoardsTraced_jf26) BoardsTraced_jf27) BoardsTraced_jf28) BoardsTraced_jf29) BoardsTraced_jf30) BoardsTraced_jf31
theorem BoardsTraced_row : Rows.BoardsTracedSaid :=
  OpenClaim.holds_of_wide 7 Tryz.f7 rfl rfl rfl rfl rfl rfl rfl ⟨rfl, rfl, rfl, rfl, rfl⟩ rfl rfl rfl rfl rfl BoardsTraced_hnm Tryz.func7 BoardsTraced_hjf
    BoardsTraced_hin BoardsTraced_hwr
    (fun os started H enc _ => BoardsTraced_lifted os started H enc)
theorem BoardsTraced_holds : Rows.BoardsTracedCardSaid :=
  Claim7.holds_tied_plain_at .later [] [.data, .data, .data, .data, .pinned] true (true, "789f849c41f522a84636e7b7d6683da0088ca0ebe442948540f3ebcdc0791f12") false
    BoardsTraced_row (fun _ h => by cases h) BoardsTraced_hwf (fun _ h => by cases h) boardsTraced_row_tie rfl ⟨rfl, rfl⟩ BoardsTraced_hmi rfl
    (fun f fn hf hfn => by
      obtain rfl : f = 7 := Option.some.inj (BoardsTraced_hnm.symm.trans hf) |>.symm
      obtain rfl : fn = Tryz.f7 := (Option.some.inj (Tryz.func7.symm.trans hfn)).symm
      exact ⟨BoardsTraced_hlo, fun j t ht => by
        rw [Tryz.params7] at ht
        have hm : t ∈ [22] := by simpa using Array.mem_of_getElem? ht
        exact (show Tryz.prog.wantsStandIn t = false by simpa using List.all_eq_true.1 BoardsTraced_hst t hm)⟩)
    BoardsTraced_hgo
end Go.Proofs.YtcfeoapbbkfbnaaGreatDoor
