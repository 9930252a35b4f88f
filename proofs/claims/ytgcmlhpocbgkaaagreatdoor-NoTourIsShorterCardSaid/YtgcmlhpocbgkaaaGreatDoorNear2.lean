/- The contract of NearestOf. Condition: coordinates within 2^41, at most 1000 points. -/
import Derived.Test.YtgcmlhpocbgkaaaGreatDoorNear
namespace Go.Proofs.YtgcmlhpocbgkaaaGreatDoor
open Go.RowKit Go.Sort

theorem Apart_xy (ax ay bx bY : Int) (w : World) (ha : Bd (ax, ay)) (hb : Bd (bx, bY)) :
    Calls Tryz.prog 35 #[.agg #[.int .i64 ax, .int .i64 ay], .agg #[.int .i64 bx, .int .i64 bY]] w fun e w' => e = .returned (.int .i64 (dist (ax, ay) (bx, bY))) ∧ Below w.heap.size w w' := Apart_any (ax, ay) (bx, bY) w ha hb
theorem Contains_quiet {l : List Int} {y : Int} {v : Value} {w : World} {b : Bool} (hlen : l.length ≤ 100000) (rl : Ints w 0 v l) (hb : memB y l = b) (d : Nat) (os : Array Obj) :
    Calls Tryz.prog 86 #[v, .int .i64 y] (grow (redrawn w d) os) fun e w' => e = .returned (.bool b) ∧ ∃ p : Regrown, w' = grow (redrawn w p.d) p.os :=
  Calls.regrown_of ((Contains_any l y v _ hlen (rl.below (below_regrown w d os))).mono fun _ _ ⟨he, hw⟩ => ⟨by rw [he, hb], by rw [hw]; exact Below.refl _ _⟩)

end Go.Proofs.YtgcmlhpocbgkaaaGreatDoor
