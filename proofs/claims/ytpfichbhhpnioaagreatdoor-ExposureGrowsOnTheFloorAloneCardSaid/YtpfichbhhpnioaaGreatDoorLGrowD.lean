/- The card of the law ExposureGrowsOnTheFloorAlone, put together. -/
import Derived.Test.YtpfichbhhpnioaaGreatDoorLGrowC
namespace Go.Proofs.YtpfichbhhpnioaaGreatDoor
open Go.ChangeShapes Go.WideShapes Go.ChangeAt Go.RowKit

theorem band2 {a b : Bool} (h : a = true) (k : b = true) : (a && b) = true := by rw [h, k]; rfl
set_option maxRecDepth 100000 in
theorem ExposureGrowsOnTheFloorAlone_hjf : joinedFacts Tryz.prog 3 Tryz.f3 Rows.exposureGrowsOnTheFloorAloneSpec Rows.exposureGrowsOnTheFloorAloneRow = true :=
  band2 (band2 (band2 (band2 (band2 (band2 (band2 (band2 (band2 (band2 (band2 (band2 (band2 (band2 (band2 (band2 (band2 (band2 (band2 (band2 (band2 (band2 (band2 (band2 (band2 (band2 (band2 (band2 (band2 (band2 (band2 (ExposureGrowsOnTheFloorAlone_jf0) ExposureGrowsOnTheFloorAlone_jf1) ExposureGrowsOnTheFloorAlone_jf2) ExposureGrowsOnTheFloorAlone_jf3) ExposureGrowsOnTheFloorAlone_jf4) ExposureGrowsOnTheFloorAlone_jf5) ExposureGrowsOnTheFloorAlone_jf6) ExposureGrowsOnTheFloorAlone_jf7) ExposureGrowsOnTheFloorAlone_jf8) ExposureGrowsOnTheFloorAlone_jf9) ExposureGrowsOnTheFloorAlone_jf10) ExposureGrowsOnTheFloorAlone_jf11) ExposureGrowsOnTheFloorAlone_jf12) ExposureGrowsOnTheFloorAlone_jf13) ExposureGrowsOnTheFloorAlone_jf14) ExposureGrowsOnTheFloorAlone_jf15) ExposureGrowsOnTheFloorAlone_jf16) ExposureGrowsOnTheFloorAlone_jf17) ExposureGrowsOnTheFloorAlone_jf18) ExposureGrowsOnTheFloorAlone_jf19) ExposureGrowsOnTheFloorAlone_jf20) ExposureGrowsOnTheFloorAlone_jf21) ExposureGrowsOnTheFloorAlone_jf22) ExposureGrowsOnTheFloorAlone_jf23) ExposureGrowsOnTheFloorAlone_jf24) ExposureGrowsOnTheFloorAlone_jf25) ExposureGrowsOnTheFloorAlone_jf26) ExposureGrowsOnTheFloorAlone_jf27) ExposureGrowsOnTheFloorAlone_jf28) ExposureGrowsOnTheFloorAlone_jf29) ExposureGrowsOnTheFloorAlone_jf30) ExposureGrowsOnTheFloorAlone_jf31
theorem ExposureGrowsOnTheFloorAlone_row : Rows.ExposureGrowsOnTheFloorAloneSaid :=
  OpenClaim.holds_of_wide 3 Tryz.f3 rfl rfl rfl rfl rfl rfl rfl ⟨rfl, rfl, rfl, rfl, rfl⟩ rfl rfl rfl rfl rfl ExposureGrowsOnTheFloorAlone_hnm Tryz.func3 ExposureGrowsOnTheFloorAlone_hjf
    ExposureGrowsOnTheFloorAlone_hin ExposureGrowsOnTheFloorAlone_hwr
    (fun os started H enc _ => ExposureGrowsOnTheFloorAlone_lifted os started H enc)
theorem ExposureGrowsOnTheFloorAlone_holds : Rows.ExposureGrowsOnTheFloorAloneCardSaid :=
  Claim7.holds_tied_plain_at .later [] [.data, .pinned] true (true, "3db9f3ee98a5e3b4d0eee479284a86ab7717c2380edf4a541db8152c7b801968") true
    ExposureGrowsOnTheFloorAlone_row (fun _ h => by cases h) ExposureGrowsOnTheFloorAlone_hwf (fun _ h => by cases h) exposureGrowsOnTheFloorAlone_row_tie rfl ⟨rfl, rfl⟩ ExposureGrowsOnTheFloorAlone_hmi rfl
    (fun f fn hf hfn => by
      obtain rfl : f = 3 := Option.some.inj (ExposureGrowsOnTheFloorAlone_hnm.symm.trans hf) |>.symm
      obtain rfl : fn = Tryz.f3 := (Option.some.inj (Tryz.func3.symm.trans hfn)).symm
      exact ⟨ExposureGrowsOnTheFloorAlone_hlo, fun j t ht => by
        rw [Tryz.params3] at ht
        have hm : t ∈ [22] := by simpa using Array.mem_of_getElem? ht
        exact (show Tryz.prog.wantsStandIn t = false by simpa using List.all_eq_true.1 ExposureGrowsOnTheFloorAlone_hst t hm)⟩)
    ExposureGrowsOnTheFloorAlone_hgo
end Go.Proofs.YtpfichbhhpnioaaGreatDoor
