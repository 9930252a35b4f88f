/- The contract of tour.Distance at two points, for ready(). No conditions. -/
import Derived.Test.YtnmimagninhkkaaGreatDoorDist
namespace Go.Proofs.YtnmimagninhkkaaGreatDoor
open Go.RowKit Go.Sort

theorem rblk2 {w : World} {g : Nat} {x y : Value} {t : TypeId} (h : w.heap[g]? = some (.cells #[x, y] t (0, 0))) : w.cell? ⟨g, 0, none⟩ = some x ∧ w.cell? ⟨g, 1, none⟩ = some y :=
  ⟨by simp [World.cell?, h], by simp [World.cell?, h]⟩
set_option maxHeartbeats 1000000 in
theorem rDistance_any (w : World) : Calls Tryz.prog 89 #[.agg #[.int .i64 1, .int .i64 1], .agg #[.int .i64 4, .int .i64 3]] w fun e w' => e = .returned (.tuple #[.int .i64 3, .int .i64 0]) ∧ Below w.heap.size w w' := by
  have h1 : farB (1, 1) = false := by decide
  have h2 : farB (4, 3) = false := by decide
  have h3 : dist (1, 1) (4, 3) = 3 := by decide
  have b1 : Bd (1, 1) := by unfold Bd; omega
  have b2 : Bd (4, 3) := by unfold Bd; omega
  have c1 : ∀ w, Calls Tryz.prog 178 #[.agg #[.int .i64 1, .int .i64 1]] w fun e w' => e = .returned (.bool false) ∧ Below w.heap.size w w' := fun w => by rw [← h1]; exact isFar_any (1, 1) w
  have c2 : ∀ w, Calls Tryz.prog 178 #[.agg #[.int .i64 4, .int .i64 3]] w fun e w' => e = .returned (.bool false) ∧ Below w.heap.size w w' := fun w => by rw [← h2]; exact isFar_any (4, 3) w
  have c3 : ∀ w, Calls Tryz.prog 179 #[.agg #[.int .i64 1, .int .i64 1], .agg #[.int .i64 4, .int .i64 3]] w fun e w' => e = .returned (.int .i64 3) ∧ Below w.heap.size w w' := fun w => by rw [← h3]; exact distance_any (1, 1) (4, 3) w b1 b2
  go_enter Tryz.func89, Tryz.ntmps89
  have hA := blk_old (blk_new w (.cells #[.int .i64 1, .int .i64 1] 139)) (.cells #[.int .i64 4, .int .i64 3] 139)
  have hB := blk_new' (w.alloc (.cells #[.int .i64 1, .int .i64 1] 139)) (.cells #[.int .i64 4, .int .i64 3] 139) (g := w.heap.size + 1) (by simp)
  have hb := Bl.alloc (Bl.alloc (Below.refl w.heap.size w) (.cells #[.int .i64 1, .int .i64 1] 139)) (.cells #[.int .i64 4, .int .i64 3] 139)
  go_wp2_with fail
  refine (c1 _).mono ?_
  rintro e w1 ⟨rfl, hb1⟩
  have hA1 := blk_below hA hb1
  have hB1 := blk_below hB hb1
  have hw1 := Bl.trans hb hb1
  obtain ⟨x1, x2⟩ := rblk2 hB1
  go_wp2_with fail
  refine (c2 _).mono ?_
  rintro e w2 ⟨rfl, hb2⟩
  have hA2 := blk_below hA1 hb2
  have hB2 := blk_below hB1 hb2
  have hw2 := Bl.trans hw1 hb2
  obtain ⟨x3, x4⟩ := rblk2 hA2
  obtain ⟨x5, x6⟩ := rblk2 hB2
  go_wp2_with fail
  refine (c3 _).mono ?_
  rintro e w3 ⟨rfl, hb3⟩
  go_wp2
  go_ret2
  exact ⟨rfl, Bl.trans hw2 hb3⟩

end Go.Proofs.YtnmimagninhkkaaGreatDoor
