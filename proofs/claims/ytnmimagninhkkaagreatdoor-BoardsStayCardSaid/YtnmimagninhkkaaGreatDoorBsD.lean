/- The card of the law BoardsStay, put together over its walk. No conditions beyond the row's own. -/
import Derived.Test.YtnmimagninhkkaaGreatDoorFrame
import Derived.Test.YtnmimagninhkkaaGreatDoorBsW
import Derived.Test.YtnmimagninhkkaaGreatDoorBsK
namespace Go.Proofs.YtnmimagninhkkaaGreatDoor
open Go.ChangeShapes Go.WideShapes Go.ChangeAt Go.RowKit

set_option maxRecDepth 100000 in
theorem BoardsStay_lifted (os : Os) (started : os.Started) (H : Type) (enc : TypeId × Value → H) :
    ReturnsInHanded {} Tryz.checked os 7 .any (fun w args => (Rows.boardsStaySpec.pre enc Tryz.prog Tryz.f7 [] false w args ∧ laidMetH Tryz.prog Rows.boardsStayRow.laid w) ∧ sizedMet enc Tryz.prog Tryz.f7 (OpenSpec.ofChange Rows.boardsStaySpec) false w args)
      (Rows.boardsStaySpec.post enc Tryz.prog Tryz.f7 false true false false) := by
  refine returnsInHanded_of_change_and (C := Tryz.checked) (X := fun w _ => laidMetH Tryz.prog Rows.boardsStayRow.laid w) (fun _ _ _ hh h => h.of_heap hh) own started (by kernel_rfl) Tryz.func7
    (ChangeSpec.witness_shaped (enc := enc) (C := Tryz.checked) (os := os) (X := fun w _ => laidMetH Tryz.prog Rows.boardsStayRow.laid w) false (World.laidAll Tryz.prog os Rows.boardsStayRow.laid) #[.slice none 0 0] 8 (World.laidAll_os _ _ _)
      (World.shaped_of_ZipB (by kernel_rfl) (by kernel_rfl)) (by kernel_rfl) (by kernel_rfl) (by kernel_rfl)
      (by rw [MakeChecks.laidMetH_plain _ _ _ (by kernel_rfl)]; exact laidMet_laidAll _ (by kernel_rfl) (by kernel_rfl))) ?_
  intro W base args ds gs before hval0 hW _ _ hL _
  have hval : ∀ (j : Nat) t v, Tryz.f7.params[j]? = some t → args[j]? = some v → Value.okWide Tryz.prog W .any base t v := hval0
  have hW' := hW
  obtain ⟨p, q, hA0, hV, rfl, hfz, hnd⟩ := hW
  have hA : DataW.TrodAll enc Tryz.prog W 0 (fun _ => true) true Tryz.f7.params.toList args.toList ds p := hA0
  rw [Tryz.params7] at hA hval
  obtain ⟨v0, d0, rfl, rfl, h0⟩ := trodAll_one hA
  obtain ⟨rfl, rfl⟩ := trodVars_none hV
  clear hA0 hval0
  simp only [List.append_nil] at hW'
  have hlt : ∀ x ∈ p, x.block < W.heap.size := fun x hx => by simpa using hW'.lt x hx
  obtain ⟨l, rl, hl⟩ := ints_key (hval 0 22 v0 rfl rfl) h0
  refine (BoardsStay_any l v0 W rl hl).mono fun e W' ⟨he, hb⟩ => ?_
  subst he
  have hargs : ∀ (sp : Nat → Bool), (∀ x ∈ p, sp x.block = true) → DataW.Trod enc Tryz.prog W' 0 sp true 22 v0 d0 p :=
    fun sp hsp => WideElems.Trod_stays laidOut (by kernel_rfl) (of_decide_eq_true (by kernel_rfl)) h0 (fun x hx => hb.same (hlt x hx)) hsp
  exact ⟨_, rfl, post_of_below (pa := p) (pv := []) hW' (fun _ _ _ => trodAll_mk1 (shut_bool Tryz.underlying4 true)) (fun sp hsp => trodAll_mk1 (hargs sp (fun x hx => hsp x hx))) (fun _ _ => rfl) (by simp) hb (ok_one (by kernel_rfl) rfl (okWide_bool_mk Tryz.underlying4 true))⟩

theorem band2 {a b : Bool} (h : a = true) (k : b = true) : (a && b) = true := by rw [h, k]; rfl
set_option maxRecDepth 100000 in
theorem BoardsStay_hjf : joinedFacts Tryz.prog 7 Tryz.f7 Rows.boardsStaySpec Rows.boardsStayRow = true :=
  band2 (band2 (band2 (band2 (band2 (band2 (band2 (band2 (band2 (band2 (band2 (band2 (band2 (band2 (band2 (band2 (band2 (band2 (band2 (band2 (band2 (band2 (band2 (band2 (band2 (band2 (band2 (band2 (band2 (band2 (band2 (BoardsStay_jf0) BoardsStay_jf1) BoardsStay_jf2) BoardsStay_jf3) BoardsStay_jf4) BoardsStay_jf5) BoardsStay_jf6) BoardsStay_jf7) BoardsStay_jf8) BoardsStay_jf9) BoardsStay_jf10) BoardsStay_jf11) BoardsStay_jf12) BoardsStay_jf13) BoardsStay_jf14) BoardsStay_jf15) BoardsStay_jf16) BoardsStay_jf17) BoardsStay_jf18) BoardsStay_jf19) BoardsStay_jf20) BoardsStay_jf21) BoardsStay_jf22) BoardsStay_jf23) BoardsStay_jf24) BoardsStay_jf25) BoardsStay_jf26) BoardsStay_jf27) BoardsStay_jf28) BoardsStay_jf29) BoardsStay_jf30) BoardsStay_jf31
theorem BoardsStay_row : Rows.BoardsStaySaid :=
  OpenClaim.holds_of_wide 7 Tryz.f7 rfl rfl rfl rfl rfl rfl rfl ⟨rfl, rfl, rfl, rfl, rfl⟩ rfl rfl rfl rfl rfl BoardsStay_hnm Tryz.func7 BoardsStay_hjf
    BoardsStay_hin BoardsStay_hwr
    (fun os started H enc _ => BoardsStay_lifted os started H enc)
theorem BoardsStay_holds : Rows.BoardsStayCardSaid :=
  Claim7.holds_tied_plain_at .later [] [.data, .pinned] true (true, "ef9b408e0ef1d8ee385fe0c4518ed384cc5ed48d05d09bbfcdc890ec739e479e") true
    BoardsStay_row (fun _ h => by cases h) BoardsStay_hwf (fun _ h => by cases h) boardsStay_row_tie rfl ⟨rfl, rfl⟩ BoardsStay_hmi rfl
    (fun f fn hf hfn => by
      obtain rfl : f = 7 := Option.some.inj (BoardsStay_hnm.symm.trans hf) |>.symm
      obtain rfl : fn = Tryz.f7 := (Option.some.inj (Tryz.func7.symm.trans hfn)).symm
      exact ⟨BoardsStay_hlo, fun j t ht => by
        rw [Tryz.params7] at ht
        have hm : t ∈ [22] := by simpa using Array.mem_of_getElem? ht
        exact (show Tryz.prog.wantsStandIn t = false by simpa using List.all_eq_true.1 BoardsStay_hst t hm)⟩)
    BoardsStay_hgo
end Go.Proofs.YtnmimagninhkkaaGreatDoor
