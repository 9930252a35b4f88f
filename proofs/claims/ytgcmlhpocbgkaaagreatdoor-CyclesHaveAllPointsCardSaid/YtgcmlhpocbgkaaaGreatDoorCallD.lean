/- The card of the law CyclesHaveAllPoints, put together. -/
import Derived.Test.YtgcmlhpocbgkaaaGreatDoorCallC
namespace Go.Proofs.YtgcmlhpocbgkaaaGreatDoor
open Go.ChangeShapes Go.WideShapes Go.ChangeAt Go.RowKit

theorem band2 {a b : Bool} (h : a = true) (k : b = true) : (a && b) = true := by rw [h, k]; rfl
set_option maxRecDepth 100000 in
theorem CyclesHaveAllPoints_hjf : joinedFacts Tryz.prog 8 Tryz.f8 Rows.cyclesHaveAllPointsSpec Rows.cyclesHaveAllPointsRow = true :=
  band2 (band2 (band2 (band2 (band2 (band2 (band2 (band2 (band2 (band2 (band2 (band2 (band2 (band2 (band2 (band2 (band2 (band2 (band2 (band2 (band2 (band2 (band2 (band2 (band2 (band2 (band2 (band2 (band2 (band2 (band2 (CyclesHaveAllPoints_jf0) CyclesHaveAllPoints_jf1) CyclesHaveAllPoints_jf2) CyclesHaveAllPoints_jf3) CyclesHaveAllPoints_jf4) CyclesHaveAllPoints_jf5) CyclesHaveAllPoints_jf6) CyclesHaveAllPoints_jf7) CyclesHaveAllPoints_jf8) CyclesHaveAllPoints_jf9) CyclesHaveAllPoints_jf10) CyclesHaveAllPoints_jf11) CyclesHaveAllPoints_jf12) CyclesHaveAllPoints_jf13) CyclesHaveAllPoints_jf14) CyclesHaveAllPoints_jf15) CyclesHaveAllPoints_jf16) CyclesHaveAllPoints_jf17) CyclesHaveAllPoints_jf18) CyclesHaveAllPoints_jf19) CyclesHaveAllPoints_jf20) CyclesHaveAllPoints_jf21) CyclesHaveAllPoints_jf22) CyclesHaveAllPoints_jf23) CyclesHaveAllPoints_jf24) CyclesHaveAllPoints_jf25) CyclesHaveAllPoints_jf26) CyclesHaveAllPoints_jf27) CyclesHaveAllPoints_jf28) CyclesHaveAllPoints_jf29) CyclesHaveAllPoints_jf30) CyclesHaveAllPoints_jf31
theorem CyclesHaveAllPoints_row : Rows.CyclesHaveAllPointsSaid :=
  OpenClaim.holds_of_wide 8 Tryz.f8 rfl rfl rfl rfl rfl rfl rfl ⟨rfl, rfl, rfl, rfl, rfl⟩ rfl rfl rfl rfl rfl CyclesHaveAllPoints_hnm Tryz.func8 CyclesHaveAllPoints_hjf
    CyclesHaveAllPoints_hin CyclesHaveAllPoints_hwr
    (fun os started H enc _ => CyclesHaveAllPoints_lifted os started H enc)
theorem CyclesHaveAllPoints_holds : Rows.CyclesHaveAllPointsCardSaid :=
  Claim7.holds_tied_plain_at .later [] [.data, .pinned] true (true, "717bef4992ae00988c64eb045860e6c64a43fa6255acf3d6f75714a09c04f315") true
    CyclesHaveAllPoints_row (fun _ h => by cases h) CyclesHaveAllPoints_hwf (fun _ h => by cases h) cyclesHaveAllPoints_row_tie rfl ⟨rfl, rfl⟩ CyclesHaveAllPoints_hmi rfl
    (fun f fn hf hfn => by
      obtain rfl : f = 8 := Option.some.inj (CyclesHaveAllPoints_hnm.symm.trans hf) |>.symm
      obtain rfl : fn = Tryz.f8 := (Option.some.inj (Tryz.func8.symm.trans hfn)).symm
      exact ⟨CyclesHaveAllPoints_hlo, fun j t ht => by
        rw [Tryz.params8] at ht
        have hm : t ∈ [22] := by simpa using Array.mem_of_getElem? ht
        exact (show Tryz.prog.wantsStandIn t = false by simpa using List.all_eq_true.1 CyclesHaveAllPoints_hst t hm)⟩)
    CyclesHaveAllPoints_hgo
end Go.Proofs.YtgcmlhpocbgkaaaGreatDoor
