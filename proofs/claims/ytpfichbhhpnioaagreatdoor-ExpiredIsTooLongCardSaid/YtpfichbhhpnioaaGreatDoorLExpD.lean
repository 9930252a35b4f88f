/- The card of the law ExpiredIsTooLong, put together. -/
import Derived.Test.YtpfichbhhpnioaaGreatDoorLExpC
namespace Go.Proofs.YtpfichbhhpnioaaGreatDoor
open Go.ChangeShapes Go.WideShapes Go.ChangeAt Go.RowKit

theorem band2 {a b : Bool} (h : a = true) (k : b = true) : (a && b) = true := by rw [h, k]; rfl
set_option maxRecDepth 100000 in
theorem ExpiredIsTooLong_hjf : joinedFacts Tryz.prog 4 Tryz.f4 Rows.expiredIsTooLongSpec Rows.expiredIsTooLongRow = true :=
  band2 (band2 (band2 (band2 (band2 (band2 (band2 (band2 (band2 (band2 (band2 (band2 (band2 (band2 (band2 (band2 (band2 (band2 (band2 (band2 (band2 (band2 (band2 (band2 (band2 (band2 (band2 (band2 (band2 (band2 (band2 (ExpiredIsTooLong_jf0) ExpiredIsTooLong_jf1) ExpiredIsTooLong_jf2) ExpiredIsTooLong_jf3) ExpiredIsTooLong_jf4) ExpiredIsTooLong_jf5) ExpiredIsTooLong_jf6) ExpiredIsTooLong_jf7) ExpiredIsTooLong_jf8) ExpiredIsTooLong_jf9) ExpiredIsTooLong_jf10) ExpiredIsTooLong_jf11) ExpiredIsTooLong_jf12) ExpiredIsTooLong_jf13) ExpiredIsTooLong_jf14) ExpiredIsTooLong_jf15) ExpiredIsTooLong_jf16) ExpiredIsTooLong_jf17) ExpiredIsTooLong_jf18) ExpiredIsTooLong_jf19) ExpiredIsTooLong_jf20) ExpiredIsTooLong_jf21) ExpiredIsTooLong_jf22) ExpiredIsTooLong_jf23) ExpiredIsTooLong_jf24) ExpiredIsTooLong_jf25) ExpiredIsTooLong_jf26) ExpiredIsTooLong_jf27) ExpiredIsTooLong_jf28) ExpiredIsTooLong_jf29) ExpiredIsTooLong_jf30) ExpiredIsTooLong_jf31
theorem ExpiredIsTooLong_row : Rows.ExpiredIsTooLongSaid :=
  OpenClaim.holds_of_wide 4 Tryz.f4 rfl rfl rfl rfl rfl rfl rfl ⟨rfl, rfl, rfl, rfl, rfl⟩ rfl rfl rfl rfl rfl ExpiredIsTooLong_hnm Tryz.func4 ExpiredIsTooLong_hjf
    ExpiredIsTooLong_hin ExpiredIsTooLong_hwr
    (fun os started H enc _ => ExpiredIsTooLong_lifted os started H enc)
theorem ExpiredIsTooLong_holds : Rows.ExpiredIsTooLongCardSaid :=
  Claim7.holds_tied_plain_at .later [] [.data, .pinned] true (true, "3db9f3ee98a5e3b4d0eee479284a86ab7717c2380edf4a541db8152c7b801968") true
    ExpiredIsTooLong_row (fun _ h => by cases h) ExpiredIsTooLong_hwf (fun _ h => by cases h) expiredIsTooLong_row_tie rfl ⟨rfl, rfl⟩ ExpiredIsTooLong_hmi rfl
    (fun f fn hf hfn => by
      obtain rfl : f = 4 := Option.some.inj (ExpiredIsTooLong_hnm.symm.trans hf) |>.symm
      obtain rfl : fn = Tryz.f4 := (Option.some.inj (Tryz.func4.symm.trans hfn)).symm
      exact ⟨ExpiredIsTooLong_hlo, fun j t ht => by
        rw [Tryz.params4] at ht
        have hm : t ∈ [22] := by simpa using Array.mem_of_getElem? ht
        exact (show Tryz.prog.wantsStandIn t = false by simpa using List.all_eq_true.1 ExpiredIsTooLong_hst t hm)⟩)
    ExpiredIsTooLong_hgo
end Go.Proofs.YtpfichbhhpnioaaGreatDoor
