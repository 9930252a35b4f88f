/- The contract of finder.next. Condition: at most 10 points, coordinates within 2^41, a table within 2^53. -/
import Derived.Test.YtnmimagninhkkaaGreatDoorBits
namespace Go.Proofs.YtnmimagninhkkaaGreatDoor
open Go.RowKit Go.Sort

end Go.Proofs.YtnmimagninhkkaaGreatDoor
