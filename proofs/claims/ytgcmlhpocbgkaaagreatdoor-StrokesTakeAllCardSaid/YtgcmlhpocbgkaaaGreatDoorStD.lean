/- The card of the law StrokesTakeAll, put together. -/
import Derived.Test.YtgcmlhpocbgkaaaGreatDoorStC
namespace Go.Proofs.YtgcmlhpocbgkaaaGreatDoor
open Go.ChangeShapes Go.WideShapes Go.ChangeAt Go.RowKit

theorem band2 {a b : Bool} (h : a = true) (k : b = true) : (a && b) = true := by rw [h, k]; rfl
set_option maxRecDepth 100000 in
theorem StrokesTakeAll_hjf : joinedFacts Tryz.prog 5 Tryz.f5 Rows.strokesTakeAllSpec Rows.strokesTakeAllRow = true :=
  band2 (band2 (band2 (band2 (band2 (band2 (band2 (band2 (band2 (band2 (band2 (band2 (band2 (band2 (band2 (band2 (band2 (band2 (band2 (band2 (band2 (band2 (band2 (band2 (band2 (band2 (band2 (band2 (band2 (band2 (band2 (StrokesTakeAll_jf0) StrokesTakeAll_jf1) StrokesTakeAll_jf2) StrokesTakeAll_jf3) StrokesTakeAll_jf4) StrokesTakeAll_jf5) StrokesTakeAll_jf6) StrokesTakeAll_jf7) StrokesTakeAll_jf8) StrokesTakeAll_jf9) StrokesTakeAll_jf10) StrokesTakeAll_jf11) StrokesTakeAll_jf12) StrokesTakeAll_jf13) StrokesTakeAll_jf14) StrokesTakeAll_jf15) StrokesTakeAll_jf16) StrokesTakeAll_jf17) StrokesTakeAll_jf18) StrokesTakeAll_jf19) StrokesTakeAll_jf20) StrokesTakeAll_jf21) StrokesTakeAll_jf22) StrokesTakeAll_jf23) StrokesTakeAll_jf24) StrokesTakeAll_jf25) StrokesTakeAll_jf26) StrokesTakeAll_jf27) StrokesTakeAll_jf28) StrokesTakeAll_jf29) StrokesTakeAll_jf30) StrokesTakeAll_jf31
theorem StrokesTakeAll_row : Rows.StrokesTakeAllSaid :=
  OpenClaim.holds_of_wide 5 Tryz.f5 rfl rfl rfl rfl rfl rfl rfl ⟨rfl, rfl, rfl, rfl, rfl⟩ rfl rfl rfl rfl rfl StrokesTakeAll_hnm Tryz.func5 StrokesTakeAll_hjf
    StrokesTakeAll_hin StrokesTakeAll_hwr
    (fun os started H enc _ => StrokesTakeAll_lifted os started H enc)
theorem StrokesTakeAll_holds : Rows.StrokesTakeAllCardSaid :=
  Claim7.holds_tied_plain_at .later [] [.data, .pinned] true (true, "717bef4992ae00988c64eb045860e6c64a43fa6255acf3d6f75714a09c04f315") true
    StrokesTakeAll_row (fun _ h => by cases h) StrokesTakeAll_hwf (fun _ h => by cases h) strokesTakeAll_row_tie rfl ⟨rfl, rfl⟩ StrokesTakeAll_hmi rfl
    (fun f fn hf hfn => by
      obtain rfl : f = 5 := Option.some.inj (StrokesTakeAll_hnm.symm.trans hf) |>.symm
      obtain rfl : fn = Tryz.f5 := (Option.some.inj (Tryz.func5.symm.trans hfn)).symm
      exact ⟨StrokesTakeAll_hlo, fun j t ht => by
        rw [Tryz.params5] at ht
        have hm : t ∈ [22] := by simpa using Array.mem_of_getElem? ht
        exact (show Tryz.prog.wantsStandIn t = false by simpa using List.all_eq_true.1 StrokesTakeAll_hst t hm)⟩)
    StrokesTakeAll_hgo
end Go.Proofs.YtgcmlhpocbgkaaaGreatDoor
