/- The contract of the reference's SpanFault. No conditions. -/
import Derived.Test.YtcfeoapbbkfbnaaGreatDoorDist
namespace Go.Proofs.YtcfeoapbbkfbnaaGreatDoor
open Go.RowKit Go.Sort

def spanF (n lo hi : Int) : Int := if lo ≤ n ∧ n ≤ hi then 0 else 1
theorem SpanFault_any (n lo hi : Int) (w : World) :
    Calls Tryz.prog 26 #[.int .i64 n, .int .i64 lo, .int .i64 hi] w fun e w' => e = .returned (.int .i64 (spanF n lo hi)) ∧ w = w' := by
  by_cases h1 : lo ≤ n
  · by_cases h2 : n ≤ hi
    · have H : Hid (spanF n lo hi = 0) := Lib.hid (by unfold spanF; rw [if_pos ⟨h1, h2⟩])
      go_enter Tryz.func26, Tryz.ntmps26
      go_wp2
      go_ret
      exact ⟨ret_int H.out.symm, rfl⟩
    · have H : Hid (spanF n lo hi = 1) := Lib.hid (by unfold spanF; rw [if_neg (fun h => h2 h.2)])
      go_enter Tryz.func26, Tryz.ntmps26
      go_wp2
      go_ret
      exact ⟨ret_int H.out.symm, rfl⟩
  · have H : Hid (spanF n lo hi = 1) := Lib.hid (by unfold spanF; rw [if_neg (fun h => h1 h.1)])
    go_enter Tryz.func26, Tryz.ntmps26
    go_wp2
    go_ret
    exact ⟨ret_int H.out.symm, rfl⟩
end Go.Proofs.YtcfeoapbbkfbnaaGreatDoor
