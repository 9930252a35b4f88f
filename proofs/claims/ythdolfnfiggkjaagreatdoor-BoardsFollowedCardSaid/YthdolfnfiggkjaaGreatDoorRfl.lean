/- Which steps are refused, and why: the plain law. No conditions. -/
import Derived.Test.YthdolfnfiggkjaaGreatDoorHop
namespace Go.Proofs.YthdolfnfiggkjaaGreatDoor
open Go.RowKit Go.Sort Go.Maps

/-- the steps that are refused behind so many, and why. -/
def refL (rh rr : Int) : Nat → Sm Bd0 → List Stp → List (Int × Int)
  | _, _, [] => []
  | i, m, s :: l => if (doS rh rr m s).2 = 0 then refL rh rr (i + 1) (doS rh rr m s).1 l else ((i : Int), (doS rh rr m s).2) :: refL rh rr (i + 1) (doS rh rr m s).1 l
theorem refL_go {rh rr : Int} {l : List Stp} {k : Nat} {s : Stp} {m : Sm Bd0} (hs : l[k]? = some s) (h : (doS rh rr m s).2 = 0) : refL rh rr k m (l.drop k) = refL rh rr (k + 1) (doS rh rr m s).1 (l.drop (k + 1)) := by
  obtain ⟨hk, he⟩ := List.getElem?_eq_some_iff.1 hs
  rw [List.drop_eq_getElem_cons hk, he, refL, if_pos h]
theorem refL_no {rh rr : Int} {l : List Stp} {k : Nat} {s : Stp} {m : Sm Bd0} (hs : l[k]? = some s) (h : (doS rh rr m s).2 ≠ 0) : refL rh rr k m (l.drop k) = ((k : Int), (doS rh rr m s).2) :: refL rh rr (k + 1) (doS rh rr m s).1 (l.drop (k + 1)) := by
  obtain ⟨hk, he⟩ := List.getElem?_eq_some_iff.1 hs
  rw [List.drop_eq_getElem_cons hk, he, refL, if_neg h]
theorem refL_len {rh rr : Int} : ∀ (l : List Stp) (i : Nat) (m : Sm Bd0), (refL rh rr i m l).length ≤ l.length
  | [], _, _ => Nat.le_refl _
  | s :: l, i, m => by
    rw [refL]
    split
    · exact Nat.le_trans (refL_len l _ _) (Nat.le_succ _)
    · exact Nat.succ_le_succ (refL_len l _ _)
end Go.Proofs.YthdolfnfiggkjaaGreatDoor
