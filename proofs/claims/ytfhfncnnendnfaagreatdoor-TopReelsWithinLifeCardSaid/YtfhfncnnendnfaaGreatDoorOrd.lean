/- The contracts of Index, Contains, Equal on ints, and of what tells the errors of orders. Condition: lists of at most 1000 elements. -/
import Derived.Test.YtfhfncnnendnfaaGreatDoorFault
namespace Go.Proofs.YtfhfncnnendnfaaGreatDoor
open Go.RowKit Go.Sort

def memB (x : Int) (l : List Int) : Bool := decide (x ∈ l)
theorem memB_no {x : Int} {l : List Int} (h : ¬ x ∈ l) : memB x l = false := by simp [memB, h]
theorem memB_yes {x : Int} {l : List Int} (h : x ∈ l) : memB x l = true := by simp [memB, h]
theorem drop_at {α : Type} {l : List α} {k : Nat} {x : α} (h : l[k]? = some x) : l.drop k = x :: l.drop (k + 1) := by
  obtain ⟨hk, rfl⟩ := List.getElem?_eq_some_iff.1 h
  exact List.drop_eq_getElem_cons hk

/-- the error of an order of n points: what has been met, what comes. -/
def ordF (n : Int) : List Int → List Int → Int
  | _, [] => 0
  | seen, k :: r => if inB 0 k (n - 1) then (if memB k seen then 6 else ordF n (seen ++ [k]) r) else 1
def orderF (n : Nat) (l : List Int) : Int := if l.length = n then ordF n [] l else 3

end Go.Proofs.YtfhfncnnendnfaaGreatDoor
