/- The contract of newFinder. Condition: at most 10 points, coordinates within 2^41. -/
import Derived.Test.YtnmimagninhkkaaGreatDoorNext
import Derived.Deep.RegionWith
namespace Go.Proofs.YtnmimagninhkkaaGreatDoor
open Go.RowKit Go.Sort

theorem info_ints : (Tryz.prog.info? 22).map (fun i => (i.zero, i.size, i.bytes)) = some (some (.slice none 0 0), 1, 24) := by kernel_rfl
theorem mk_ints (n : Nat) (hn : n ≤ 1000000) : ∀ W : World, (Instr.makeSlice 22 (.int .i64 (n : Int)) (.int .i64 (n : Int))).run Tryz.prog W = .ok (.slice (some ⟨W.heap.size, 0, none⟩) n n) (W.alloc (.cells (madeCells #[.int .i64 0] n) 3)) := fun W => by
  obtain ⟨i, hi, hz0, hz1, hz2⟩ := info_parts info_int
  have := run_make_rowN (P := Tryz.prog) 22 3 i _ Tryz.underlying22 hi hz0 .i64 .i64 n n (Nat.le_refl _) (by rw [hz2]; omega) (by omega) W
  rw [hz1, Nat.mul_one] at this
  exact this
theorem made_at (z : Value) (n j : Nat) (h : j < n) : (madeCells #[z] n)[j]? = some z := by
  have := congrArg (fun l => l[j]?) (toList_madeCells_one z n)
  simp only [Array.getElem?_toList, List.getElem?_replicate, h, if_true] at this
  exact this
theorem Tab.new {w : World} {g n : Nat} {r : Nat → Nat} {T : Nat → Nat → Int} (h : w.heap[g]? = some (.cells (madeCells #[.slice none 0 0] n) 22 (0, 0))) : Tab w g n r 0 T :=
  ⟨⟨_, h, size_madeCells _ _, fun k hk => by omega⟩, fun k hk => by omega, fun k hk => by omega, fun i j hi => by omega⟩
theorem Tab.slot {w : World} {gl n m : Nat} {r : Nat → Nat} {T : Nat → Nat → Int} (h : Tab w gl n r m T) {i : Nat} (hi : i < n) : (∃ v, w.cell? ⟨gl, i, none⟩ = some v) ∧ w.frozen? ⟨gl, i, none⟩ = false := by
  obtain ⟨⟨rows, h1, h2, h3⟩, _⟩ := h
  refine ⟨⟨rows[i]'(by omega), ?_⟩, blk_free h1 i⟩
  rw [blk_cell h1 i, Array.getElem?_eq_getElem (by omega)]
theorem Tab.lt {w : World} {gl n m : Nat} {r : Nat → Nat} {T : Nat → Nat → Int} (h : Tab w gl n r m T) : gl < w.heap.size ∧ ∀ k, k < m → r k < w.heap.size := by
  obtain ⟨⟨rows, h1, _⟩, h4, _⟩ := h
  refine ⟨blk_lt h1, fun k hk => ?_⟩
  obtain ⟨cs, g1, _⟩ := h4 k hk
  exact blk_lt g1
/-- a row more: a new block of zeros. -/
theorem Tab.add {w : World} {gl n m : Nat} {r : Nat → Nat} {T : Nat → Nat → Int} (h : Tab w gl n r m T) (hm : m < n) :
    Tab ((w.alloc (.cells (madeCells #[.int .i64 0] (pw n)) 3)).setCell ⟨gl, m, none⟩ (.slice (some ⟨w.heap.size, 0, none⟩) (pw n) (pw n))) gl n (fun k => if k = m then w.heap.size else r k) (m + 1) (fun k s => if k = m then 0 else T k s) := by
  obtain ⟨l1, l2⟩ := h.lt
  obtain ⟨⟨rows, h1, h2, h3⟩, h4, h5, h6⟩ := h
  have g1 := blk_set (blk_old h1 (.cells (madeCells #[.int .i64 0] (pw n)) 3)) m (.slice (some ⟨w.heap.size, 0, none⟩) (pw n) (pw n))
  refine ⟨⟨_, g1, by simpa using h2, fun k hk => ?_⟩, fun k hk => ?_, fun k hk => ?_, fun i j hi hj => ?_⟩
  · by_cases e : k = m
    · subst e
      have : k < rows.size := by omega
      simp [this]
    · rw [Array.getElem?_setIfInBounds_ne (by omega), h3 k (by omega)]
      simp only [if_neg e]
  · by_cases e : k = m
    · subst e
      refine ⟨madeCells #[.int .i64 0] (pw n), ?_, size_madeCells _ _, fun s hs => ?_⟩
      · simp only [if_true]
        exact blk_far (blk_new w _) _ _ _ (by omega)
      · simp only [if_true]; exact made_at _ _ _ hs
    · obtain ⟨cs, f1, f2, f3⟩ := h4 k (by omega)
      refine ⟨cs, ?_, f2, fun s hs => ?_⟩
      · simp only [if_neg e]
        exact blk_far (blk_old f1 _) _ _ _ (by have := h5 k (by omega); omega)
      · simp only [if_neg e]; exact f3 s hs
  · by_cases e : k = m
    · simp only [if_pos e]; exact l1
    · simp only [if_neg e]; exact h5 k (by omega)
  · by_cases e : i = m <;> by_cases e2 : j = m
    · intro _; omega
    · simp only [if_pos e, if_neg e2]; intro hh; have := l2 j (by omega); omega
    · simp only [if_neg e, if_pos e2]; intro hh; have := l2 i (by omega); omega
    · simp only [if_neg e, if_neg e2]; exact h6 i j (by omega) (by omega)
theorem Tab.congr {w : World} {gl n m : Nat} {r : Nat → Nat} {T T' : Nat → Nat → Int} (h : Tab w gl n r m T) (e : ∀ k s, k < m → s < pw n → T k s = T' k s) : Tab w gl n r m T' := by
  obtain ⟨h1, h4, h5, h6⟩ := h
  refine ⟨h1, fun k hk => ?_, h5, h6⟩
  obtain ⟨cs, g1, g2, g3⟩ := h4 k hk
  exact ⟨cs, g1, g2, fun s hs => by rw [g3 s hs, e k s hk hs]⟩

theorem clr_no (s k : Nat) (hs : s < 2 ^ 64) (hk : k < 64) : (clr s k).testBit k = false := by rw [clr_bit hs hk]; simp
theorem sub_of_lt {n s : Nat} (h : s < pw n) : Sub n s := fun i hi => by
  apply Classical.byContradiction
  intro hin
  have : s.testBit i = false := Nat.testBit_lt_two_pow (Nat.lt_of_lt_of_le h (Nat.pow_le_pow_right (by omega) (by omega)))
  rw [this] at hi; cases hi
end Go.Proofs.YtnmimagninhkkaaGreatDoor
