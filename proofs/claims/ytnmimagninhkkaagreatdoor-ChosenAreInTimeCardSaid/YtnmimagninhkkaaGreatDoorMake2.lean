/- The contracts of what makes points and orders out of a stream. Condition: at most 900000 numbers taken. · The contracts of what makes orders out of a stream. Condition: at most 900000 numbers taken. -/
import Derived.Test.YtnmimagninhkkaaGreatDoorStream
namespace Go.Proofs.YtnmimagninhkkaaGreatDoor
open Go.RowKit Go.Sort

end Go.Proofs.YtnmimagninhkkaaGreatDoor
namespace Go.Proofs.YtnmimagninhkkaaGreatDoor
open Go.RowKit Go.Sort

theorem ics_set (l : List Int) (j : Nat) (x : Int) : (ics l).set j (.int .i64 x) = ics (l.set j x) := by simp [ics, List.map_set]
theorem Own.set {w : World} {B g n cap : Nat} {l : List Int} (h : Own w B (.slice (some ⟨g, 0, none⟩) n cap) l) (hn : n = l.length) (j : Nat) (x : Int) : Own (w.setCell ⟨g, j, none⟩ (.int .i64 x)) B (.slice (some ⟨g, 0, none⟩) n cap) (l.set j x) := by
  subst hn
  have hs := (World.ownsRow.stored h j (.int .i64 x)).1
  rw [ics_set] at hs
  unfold Own
  rw [List.length_set]; exact hs
theorem Own.nonnil {w : World} {B : Nat} {v : Value} {l : List Int} (h : Own w B v l) (h0 : l ≠ []) : ∃ g cap, v = .slice (some ⟨g, 0, none⟩) l.length cap ∧ B ≤ g ∧ g < w.heap.size ∧ l.length ≤ cap := by
  rcases h.2 with ⟨_, h1⟩ | ⟨g, cap, cur, rfl, hb, hg, h1, h2, h3, h4⟩
  · exact absurd (List.eq_nil_of_length_eq_zero h1) h0
  · exact ⟨g, cap, rfl, hb, blk_lt hg, h1⟩
theorem Own.cell {w : World} {B g n cap : Nat} {l : List Int} (h : Own w B (.slice (some ⟨g, 0, none⟩) n cap) l) {j : Nat} {x : Int} (hx : l[j]? = some x) : w.cell? ⟨g, j, none⟩ = some (.int .i64 x) := by
  have hj := (List.getElem?_eq_some_iff.1 hx).1
  have := Ints.cells h.ints j hj
  rw [Nat.zero_add] at this
  rw [this, List.getD_eq_getElem?_getD, hx]; rfl
theorem Own.free {w : World} {B g n cap : Nat} {l : List Int} (h : Own w B (.slice (some ⟨g, 0, none⟩) n cap) l) (hn : n = l.length) (j : Nat) : w.frozen? ⟨g, j, none⟩ = false := by
  subst hn
  exact World.ownsRow.frozenAt h j

theorem swap_perm {l : List Int} {i j : Nat} {x y : Int} (h1 : l[i]? = some x) (h2 : l[j]? = some y) : ((l.set i y).set j x).Perm l := by
  obtain ⟨hi, rfl⟩ := List.getElem?_eq_some_iff.1 h1
  obtain ⟨hj, rfl⟩ := List.getElem?_eq_some_iff.1 h2
  exact List.set_set_perm hi hj
def upto (n : Nat) : List Int := (List.range n).map fun (k : Nat) => (k : Int)
theorem upto_succ (n : Nat) : upto (n + 1) = upto n ++ [(n : Int)] := by simp [upto, List.range_succ]
theorem upto_length (n : Nat) : (upto n).length = n := by simp [upto]

end Go.Proofs.YtnmimagninhkkaaGreatDoor
