/- The card of the law BoardsFollowed, put together over its walk. No conditions beyond the row's own. -/
import Derived.Test.YthdolfnfiggkjaaGreatDoorFrame
import Derived.Test.YthdolfnfiggkjaaGreatDoorBfW
import Derived.Test.YthdolfnfiggkjaaGreatDoorBfK
namespace Go.Proofs.YthdolfnfiggkjaaGreatDoor
open Go.ChangeShapes Go.WideShapes Go.ChangeAt Go.RowKit

set_option maxRecDepth 100000 in
theorem BoardsFollowed_lifted (os : Os) (started : os.Started) (H : Type) (enc : TypeId × Value → H) :
    ReturnsInHanded {} Tryz.checked os 4 .any (fun w args => (Rows.boardsFollowedSpec.pre enc Tryz.prog Tryz.f4 [] false w args ∧ laidMetH Tryz.prog Rows.boardsFollowedRow.laid w) ∧ sizedMet enc Tryz.prog Tryz.f4 (OpenSpec.ofChange Rows.boardsFollowedSpec) false w args)
      (Rows.boardsFollowedSpec.post enc Tryz.prog Tryz.f4 false true false false) := by
  refine returnsInHanded_of_change_and (C := Tryz.checked) (X := fun w _ => laidMetH Tryz.prog Rows.boardsFollowedRow.laid w) (fun _ _ _ hh h => h.of_heap hh) own started (by kernel_rfl) Tryz.func4
    (ChangeSpec.witness_shaped (enc := enc) (C := Tryz.checked) (os := os) (X := fun w _ => laidMetH Tryz.prog Rows.boardsFollowedRow.laid w) false (World.laidAll Tryz.prog os Rows.boardsFollowedRow.laid) #[.slice none 0 0] 8 (World.laidAll_os _ _ _)
      (World.shaped_of_ZipB (by kernel_rfl) (by kernel_rfl)) (by kernel_rfl) (by kernel_rfl) (by kernel_rfl)
      (by rw [MakeChecks.laidMetH_plain _ _ _ (by kernel_rfl)]; exact laidMet_laidAll _ (by kernel_rfl) (by kernel_rfl))) ?_
  intro W base args ds gs before hval0 hW _ _ hL _
  have hval : ∀ (j : Nat) t v, Tryz.f4.params[j]? = some t → args[j]? = some v → Value.okWide Tryz.prog W .any base t v := hval0
  have hW' := hW
  obtain ⟨p, q, hA0, hV, rfl, hfz, hnd⟩ := hW
  have hA : DataW.TrodAll enc Tryz.prog W 0 (fun _ => true) true Tryz.f4.params.toList args.toList ds p := hA0
  rw [Tryz.params4] at hA hval
  obtain ⟨v0, d0, rfl, rfl, h0⟩ := trodAll_one hA
  obtain ⟨rfl, rfl⟩ := trodVars_none hV
  clear hA0 hval0
  simp only [List.append_nil] at hW'
  have hlt : ∀ x ∈ p, x.block < W.heap.size := fun x hx => by simpa using hW'.lt x hx
  obtain ⟨l, rl, hl⟩ := ints_key (hval 0 22 v0 rfl rfl) h0
  refine (BoardsFollowed_any l v0 W rl hl).mono fun e W' ⟨he, hb⟩ => ?_
  subst he
  have hargs : ∀ (sp : Nat → Bool), (∀ x ∈ p, sp x.block = true) → DataW.Trod enc Tryz.prog W' 0 sp true 22 v0 d0 p :=
    fun sp hsp => WideElems.Trod_stays laidOut (by kernel_rfl) (of_decide_eq_true (by kernel_rfl)) h0 (fun x hx => hb.same (hlt x hx)) hsp
  exact ⟨_, rfl, post_of_below (pa := p) (pv := []) hW' (fun _ _ _ => trodAll_mk1 (shut_bool Tryz.underlying4 true)) (fun sp hsp => trodAll_mk1 (hargs sp (fun x hx => hsp x hx))) (fun _ _ => rfl) (by simp) hb (ok_one (by kernel_rfl) rfl (okWide_bool_mk Tryz.underlying4 true))⟩

theorem band2 {a b : Bool} (h : a = true) (k : b = true) : (a && b) = true := by rw [h, k]; rfl
set_option maxRecDepth 100000 in
theorem BoardsFollowed_hjf : joinedFacts Tryz.prog 4 Tryz.f4 Rows.boardsFollowedSpec Rows.boardsFollowedRow = true :=
  band2 (band2 (band2 (band2 (band2 (band2 (band2 (band2 (band2 (band2 (band2 (band2 (band2 (band2 (band2 (band2 (band2 (band2 (band2 (band2 (band2 (band2 (band2 (band2 (band2 (band2 (band2 (band2 (band2 (band2 (band2 (BoardsFollowed_jf0) BoardsFollowed_jf1) BoardsFollowed_jf2) BoardsFollowed_jf3) BoardsFollowed_jf4) BoardsFollowed_jf5) BoardsFollowed_jf6) BoardsFollowed_jf7) BoardsFollowed_jf8) BoardsFollowed_jf9) BoardsFollowed_jf10) BoardsFollowed_jf11) BoardsFollowed_jf12) BoardsFollowed_jf13) BoardsFollowed_jf14) BoardsFollowed_jf15) BoardsFollowed_jf16) BoardsFollowed_jf17) BoardsFollowed_jf18) BoardsFollowed_jf19) BoardsFollowed_jf20) BoardsFollowed_jf21) BoardsFollowed_jf22) BoardsFollowed_jf23) BoardsFollowed_jf24) BoardsFollowed_jf25) BoardsFollowed_jf26) BoardsFollowed_jf27) BoardsFollowed_jf28) BoardsFollowed_jf29) BoardsFollowed_jf30) BoardsFollowed_jf31
theorem BoardsFollowed_row : Rows.BoardsFollowedSaid :=
  OpenClaim.holds_of_wide 4 Tryz.f4 rfl rfl rfl rfl rfl rfl rfl ⟨rfl, rfl, rfl, rfl, rfl⟩ rfl rfl rfl rfl rfl BoardsFollowed_hnm Tryz.func4 BoardsFollowed_hjf
    BoardsFollowed_hin BoardsFollowed_hwr
    (fun os started H enc _ => BoardsFollowed_lifted os started H enc)
theorem BoardsFollowed_holds : Rows.BoardsFollowedCardSaid :=
  Claim7.holds_tied_plain_at .later [] [.data, .pinned] true (true, "31d22ae3401ca3a1632aff894c34df0660f1d242c7b8bc9557c4555394e32a38") true
    BoardsFollowed_row (fun _ h => by cases h) BoardsFollowed_hwf (fun _ h => by cases h) boardsFollowed_row_tie rfl ⟨rfl, rfl⟩ BoardsFollowed_hmi rfl
    (fun f fn hf hfn => by
      obtain rfl : f = 4 := Option.some.inj (BoardsFollowed_hnm.symm.trans hf) |>.symm
      obtain rfl : fn = Tryz.f4 := (Option.some.inj (Tryz.func4.symm.trans hfn)).symm
      exact ⟨BoardsFollowed_hlo, fun j t ht => by
        rw [Tryz.params4] at ht
        have hm : t ∈ [22] := by simpa using Array.mem_of_getElem? ht
        exact (show Tryz.prog.wantsStandIn t = false by simpa using List.all_eq_true.1 BoardsFollowed_hst t hm)⟩)
    BoardsFollowed_hgo
end Go.Proofs.YthdolfnfiggkjaaGreatDoor
