/- slices.Clone and Equal of Steps. Conditions: at most 10^6 of them. -/
import Derived.Test.YtbkglhakhahfpaaGreatDoorStl
import Derived.Test.YtbkglhakhahfpaaGreatDoorRec
import Derived.Test.YtbkglhakhahfpaaGreatDoorStrs
import Derived.Test.YtbkglhakhahfpaaGreatDoorSl
namespace Go.Proofs.YtbkglhakhahfpaaGreatDoor
open Go.RowKit Go.Sort

end Go.Proofs.YtbkglhakhahfpaaGreatDoor
namespace Go.Proofs.YtbkglhakhahfpaaGreatDoor
open Go.RowKit Go.Sort

theorem neqSt_no (x1 x2 x3 x4 : _) (W : World) : (binOp .neq 133 (.agg #[.int .i64 x1, .string x2, .int .i64 x3, .string x4]) (.agg #[.int .i64 x1, .string x2, .int .i64 x3, .string x4])).run Tryz.prog W = .ok (.bool false) W := by
  go_simp
theorem neqSt_yes {x1 x2 x3 x4 y1 y2 y3 y4 : _} (hxy : ((x1, x2, x3, x4) : Int × ByteArray × Int × ByteArray) ≠ (y1, y2, y3, y4)) (W : World) : (binOp .neq 133 (.agg #[.int .i64 x1, .string x2, .int .i64 x3, .string x4]) (.agg #[.int .i64 y1, .string y2, .int .i64 y3, .string y4])).run Tryz.prog W = .ok (.bool true) W := by
  go_simp
  intro e1 e2 e3 e4
  first
    | (exact hxy (by subst e1; subst e2; subst e3; subst e4; rfl))
    | (have e2 := ba_inj e2; have e4 := ba_inj e4; exact hxy (by subst e1; subst e2; subst e3; subst e4; rfl))
end Go.Proofs.YtbkglhakhahfpaaGreatDoor
