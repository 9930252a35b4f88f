/- The contracts of what tells the errors of points and orders. Condition: lists of at most 1000 elements. -/
import Derived.Test.YtfhfncnnendnfaaGreatDoorLen
namespace Go.Proofs.YtfhfncnnendnfaaGreatDoor
open Go.RowKit Go.Sort

theorem any_take_succ {P : List Pt} {k : Nat} {p : Pt} (h : P[k]? = some p) : (P.take (k + 1)).any farB = ((P.take k).any farB || farB p) := by
  rw [take_snoc h]; simp

def ptF (P : List Pt) : Int := if P.any farB then 1 else 0
theorem ptF_yes {P : List Pt} (h : P.any farB = true) : ptF P = 1 := by unfold ptF; rw [h]; rfl
theorem ptF_no {P : List Pt} (h : P.any farB = false) : ptF P = 0 := by unfold ptF; rw [h]; rfl
/-- the error of points. -/
def ptsF (P : List Pt) (most : Int) : Int := if (P.length : Int) ≤ most then ptF P else 2
/-- the error of a start and points. -/
def tourF (st : Pt) (P : List Pt) (most : Int) : Int := if farB st then 1 else ptsF P most

/-- the first that is not 0. -/
def orF : List Int → Int
  | [] => 0
  | x :: l => if x = 0 then orF l else x
theorem orF_take {l : List Int} {k : Nat} (h : ∀ x ∈ l.take k, x = 0) : orF l = orF (l.drop k) := by
  induction k generalizing l with
  | zero => rfl
  | succ k ih =>
    cases l with
    | nil => rfl
    | cons x l =>
      have hx : x = 0 := h x (by simp)
      subst hx
      simp only [orF, List.drop_succ_cons, if_true]
      exact ih (fun y hy => h y (by simp [hy]))

end Go.Proofs.YtfhfncnnendnfaaGreatDoor
