/- The contract of the reference's SpanFault. No conditions. -/
import Derived.Test.YtfhfncnnendnfaaGreatDoorDist
namespace Go.Proofs.YtfhfncnnendnfaaGreatDoor
open Go.RowKit Go.Sort

def spanF (n lo hi : Int) : Int := if lo ≤ n ∧ n ≤ hi then 0 else 1
end Go.Proofs.YtfhfncnnendnfaaGreatDoor
