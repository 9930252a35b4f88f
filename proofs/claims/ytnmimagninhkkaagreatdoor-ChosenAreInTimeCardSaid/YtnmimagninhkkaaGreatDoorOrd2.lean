/- The contract of orderFault: what is wrong with an order. Condition: at most 1000 places. -/
import Derived.Test.YtnmimagninhkkaaGreatDoorTurn
namespace Go.Proofs.YtnmimagninhkkaaGreatDoor
open Go.RowKit Go.Sort

theorem info_bool : (Tryz.prog.info? 4).map (fun i => (i.zero, i.size, i.bytes)) = some (some (.bool false), 1, 1) := by kernel_rfl

/-- a block of marks: of which numbers below n have been met. -/
def Marks (w : World) (g n : Nat) (l : List Int) : Prop := ∃ cs : Array Value, w.heap[g]? = some (.cells cs 4 (0, 0)) ∧ cs.size = n ∧ ∀ j, j < n → cs[j]? = some (.bool (memB j l))
theorem Marks.cell {w : World} {g n : Nat} {l : List Int} (h : Marks w g n l) {j : Nat} (hj : j < n) : w.cell? ⟨g, j, none⟩ = some (.bool (memB j l)) ∧ w.frozen? ⟨g, j, none⟩ = false := by
  obtain ⟨cs, h1, h2, h3⟩ := h
  exact ⟨(blk_cell h1 j).trans (h3 j hj), blk_free h1 j⟩
theorem memB_snoc (j x : Int) (l : List Int) : memB j (l ++ [x]) = (memB j l || decide (j = x)) := by
  simp [memB]
theorem Marks.set {w : World} {g n : Nat} {l : List Int} (h : Marks w g n l) {x : Nat} (hx : x < n) : Marks (w.setCell ⟨g, x, none⟩ (.bool true)) g n (l ++ [(x : Int)]) := by
  obtain ⟨cs, h1, h2, h3⟩ := h
  refine ⟨cs.setIfInBounds x (.bool true), blk_set h1 x _, by simpa using h2, fun j hj => ?_⟩
  rw [memB_snoc]
  by_cases hjx : x = j
  · subst hjx
    simp [h2, hx]
  · rw [Array.getElem?_setIfInBounds_ne hjx, h3 j hj]
    have : decide ((j : Int) = (x : Int)) = false := by simp; omega
    rw [this, Bool.or_false]
theorem Marks.new (w : World) (n : Nat) : Marks (w.alloc (.cells (madeCells #[.bool false] n) 4)) w.heap.size n [] :=
  ⟨_, blk_new w _, size_madeCells _ _, fun j hj => by
    have := congrArg (fun l => l[j]?) (toList_madeCells_one (.bool false) n)
    simp only [Array.getElem?_toList, List.getElem?_replicate, hj, if_true] at this
    rw [this]; rfl⟩
theorem Marks.below {w w' : World} {g n : Nat} {l : List Int} (h : Marks w g n l) (hb : Below w.heap.size w w') : Marks w' g n l := by
  obtain ⟨cs, h1, h2, h3⟩ := h
  exact ⟨cs, blk_below h1 hb, h2, h3⟩

end Go.Proofs.YtnmimagninhkkaaGreatDoor
