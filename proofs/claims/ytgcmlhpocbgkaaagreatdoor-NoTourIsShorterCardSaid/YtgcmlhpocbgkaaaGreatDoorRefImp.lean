/- The contracts of turned, shorter, ImprovedOf. Condition: coordinates within 2^41, at most 1000 points and places. -/
import Derived.Test.YtgcmlhpocbgkaaaGreatDoorImp
namespace Go.Proofs.YtgcmlhpocbgkaaaGreatDoor
open Go.RowKit Go.Sort

theorem rev_valid {P : List Pt} {o : List Nat} {i m : Nat} (h : ∀ k ∈ o, k < P.length) : ∀ k ∈ revSeg o i m, k < P.length := fun x hx => h x (revSeg_mem hx)

end Go.Proofs.YtgcmlhpocbgkaaaGreatDoor
