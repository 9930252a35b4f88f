/- The contract of tour.Distance at two points, for ready(). No conditions. · The contract of ready(): true. No conditions. -/
import Derived.Test.YtfhfncnnendnfaaGreatDoorDist
import Derived.Test.YtfhfncnnendnfaaGreatDoorCond
namespace Go.Proofs.YtfhfncnnendnfaaGreatDoor
open Go.RowKit Go.Sort

theorem rblk2 {w : World} {g : Nat} {x y : Value} {t : TypeId} (h : w.heap[g]? = some (.cells #[x, y] t (0, 0))) : w.cell? ⟨g, 0, none⟩ = some x ∧ w.cell? ⟨g, 1, none⟩ = some y :=
  ⟨by simp [World.cell?, h], by simp [World.cell?, h]⟩
end Go.Proofs.YtfhfncnnendnfaaGreatDoor
namespace Go.Proofs.YtfhfncnnendnfaaGreatDoor
open Go.RowKit Go.Sort Go.Maps Go.Shelf Go.Lib

set_option maxHeartbeats 4000000 in
set_option maxRecDepth 100000 in
theorem ShopCond_u (S : Nat) (w : World) (hs : ShopU w S ⟨#[117]⟩) :
    Calls Tryz.prog 33 #[.pointer (some ⟨S, 0, none⟩), .string ⟨#[117]⟩] w fun e w' => (∃ a n c, e = .returned (.agg #[.int .i64 2, .int .i64 3, .int .i64 1, .slice a n c])) ∧ Below w.heap.size w w' := by
  obtain ⟨mb, g, hS, hM, hB, hm⟩ := hs
  have hb0 := Bl.alloc (Below.refl w.heap.size w) (.cells #[.int .i64 0, .int .i64 0, .int .i64 0, .slice none 0 0] 72)
  have hC0 := blk_new w (.cells #[.int .i64 0, .int .i64 0, .int .i64 0, .slice none 0 0] 72)
  have hS1 := blk_old hS (.cells #[.int .i64 0, .int .i64 0, .int .i64 0, .slice none 0 0] 72)
  have hM1 := hM.alloc (.cells #[.int .i64 0, .int .i64 0, .int .i64 0, .slice none 0 0] 72)
  have hB1 : Brd _ g 2 3 1 (.map (some (g - 2))) (.map (some (g - 1))) 0 := blk_old hB (.cells #[.int .i64 0, .int .i64 0, .int .i64 0, .slice none 0 0] 72)
  have hm1 := blk_old hm (.cells #[.int .i64 0, .int .i64 0, .int .i64 0, .slice none 0 0] 72)
  have lw := blk_lt hC0
  have lS := blk_lt hS
  have c1 : w.cell? ⟨S, 2, none⟩ = some (.map (some mb)) := blk_cell hS 2
  have hl0 := look_some hM1 ⟨#[117]⟩ (by show 1 ≤ maxLen; unfold maxLen; omega) rfl
  have hown : (w.alloc (.cells #[.int .i64 0, .int .i64 0, .int .i64 0, .slice none 0 0] 72)).ownsMap Tryz.prog 9 (fun _ => (none : Option (DataW Unit × List MemPlace))) (g - 2) 0 (.map []) := ⟨#[], 0, hm1, ⟨by simp, Go.MapKept.stamped_empty 0, by simp⟩, Nat.le_refl _, rfl⟩
  have HC := Lib.hid (condition_any g (g - 2) 0 2 3 1 0 _ _ _ _ hB1 hown (by show 0 ≤ 1099511627776; omega))
  clear hS hM hB hm hS1 hM1 hB1 hm1 hown
  go_enter Tryz.func33, Tryz.ntmps33
  go_wp2_with fail
  refine HC.out.mono ?_
  rintro e w2 ⟨v, ss, rfl, _, h2, _, hb2⟩
  obtain ⟨va, vc, rfl⟩ := row_form h2
  have hC2 := blk_below hC0 hb2
  have g0 := blk_free hC2 0
  have g1 := blk_free hC2 1
  have g2 := blk_free hC2 2
  have g3 := blk_free hC2 3
  have k0 : w2.cell? ⟨w.heap.size, 0, none⟩ = some (.int .i64 0) := blk_cell hC2 0
  have k1 : w2.cell? ⟨w.heap.size, 1, none⟩ = some (.int .i64 0) := blk_cell hC2 1
  have k2 : w2.cell? ⟨w.heap.size, 2, none⟩ = some (.int .i64 0) := blk_cell hC2 2
  have k3 : w2.cell? ⟨w.heap.size, 3, none⟩ = some (.slice none 0 0) := blk_cell hC2 3
  have hb3 := Bl.set (Bl.set (Bl.set (Bl.set (Bl.trans hb0 hb2) _ 0 (Nat.le_refl _) (.int .i64 2)) _ 1 (Nat.le_refl _) (.int .i64 3)) _ 2 (Nat.le_refl _) (.int .i64 1)) _ 3 (Nat.le_refl _) (.slice va ss.length vc)
  have hC3 := blk_set (blk_set (blk_set (blk_set hC2 0 (.int .i64 2)) 1 (.int .i64 3)) 2 (.int .i64 1)) 3 (.slice va ss.length vc)
  go_wp2
  generalize (((w2.setCell ⟨w.heap.size, 0, none⟩ (.int .i64 2)).setCell ⟨w.heap.size, 1, none⟩ (.int .i64 3)).setCell ⟨w.heap.size, 2, none⟩ (.int .i64 1)).setCell ⟨w.heap.size, 3, none⟩ (.slice va ss.length vc) = w3 at *
  have r0 : w3.cell? ⟨w.heap.size, 0, none⟩ = some (.int .i64 2) := blk_cell hC3 0
  have r1 : w3.cell? ⟨w.heap.size, 1, none⟩ = some (.int .i64 3) := blk_cell hC3 1
  have r2 : w3.cell? ⟨w.heap.size, 2, none⟩ = some (.int .i64 1) := blk_cell hC3 2
  have r3 : w3.cell? ⟨w.heap.size, 3, none⟩ = some (.slice va ss.length vc) := blk_cell hC3 3
  refine bodyPost_ret (v := .agg #[.int .i64 2, .int .i64 3, .int .i64 1, .slice va ss.length vc]) (by simp [results, Tryz.results33, go_sem, r0, r1, r2, r3]) rfl ?_
  exact ⟨⟨_, _, _, rfl⟩, hb3⟩
set_option maxHeartbeats 4000000 in
set_option maxRecDepth 100000 in
theorem At_u (b : Nat) (w : World) (h0 : w.cell? ⟨b, 0, none⟩ = some (.int .i64 3)) (h1 : w.cell? ⟨b, 1, none⟩ = some (.string ⟨#[117]⟩)) (h2 : w.cell? ⟨b, 2, none⟩ = some (.int .i64 1)) (h3 : w.cell? ⟨b, 3, none⟩ = some (.string ⟨#[]⟩)) :
    Calls Tryz.prog 21 #[.agg #[.int .i64 1, .int .i64 0], .slice (some ⟨b, 0, none⟩) 1 1, .string ⟨#[117]⟩, .int .i64 3] w fun e w' => (∃ a n c, e = .returned (.tuple #[.agg #[.int .i64 2, .int .i64 3, .int .i64 1, .slice a n c], .int .i64 0])) ∧ Below w.heap.size w w' := by
  have lb := World.block_lt_of_cell? _ _ h0
  have hR0 := blk_old (blk_new w (.cells #[.int .i64 1, .int .i64 0] 76)) (.cells #[.int .i64 0, .int .i64 0, .int .i64 0, .slice none 0 0] 72)
  have hC0 := blk_new' (w.alloc (.cells #[.int .i64 1, .int .i64 0] 76)) (.cells #[.int .i64 0, .int .i64 0, .int .i64 0, .slice none 0 0] 72) (g := w.heap.size + 1) (by simp)
  have hb0 := Bl.alloc (Bl.alloc (Below.refl w.heap.size w) (.cells #[.int .i64 1, .int .i64 0] 76)) (.cells #[.int .i64 0, .int .i64 0, .int .i64 0, .slice none 0 0] 72)
  go_enter Tryz.func21, Tryz.ntmps21
  go_wp2_with fail
  generalize (w.alloc (.cells #[.int .i64 1, .int .i64 0] 76)).alloc (.cells #[.int .i64 0, .int .i64 0, .int .i64 0, .slice none 0 0] 72) = w1 at *
  obtain ⟨bc, _⟩ := bcell hb0
  refine (boardFault_u b w1 ((bc b 0 lb).trans h0) ((bc b 1 lb).trans h1) ((bc b 2 lb).trans h2) ((bc b 3 lb).trans h3)).mono ?_
  rintro e w2 ⟨rfl, hb2⟩
  have hb02 := Bl.trans hb0 hb2
  have hR2 := blk_below hR0 hb2
  have hC2 := blk_below hC0 hb2
  have q0 : w2.cell? ⟨w.heap.size, 0, none⟩ = some (.int .i64 1) := blk_cell hR2 0
  have q1 : w2.cell? ⟨w.heap.size, 1, none⟩ = some (.int .i64 0) := blk_cell hR2 1
  obtain ⟨bc2, _⟩ := bcell hb02
  have HS := Lib.hid (shopAt_u b w2 ((bc2 b 0 lb).trans h0) ((bc2 b 1 lb).trans h1) ((bc2 b 2 lb).trans h2) ((bc2 b 3 lb).trans h3))
  clear h0 h1 h2 h3 bc bc2 hR0 hC0
  go_wp2_with fail
  refine HS.out.mono ?_
  rintro e w3 ⟨⟨S, rfl, hs⟩, hb3⟩
  have hC3 := blk_below hC2 hb3
  have hb03 := Bl.trans hb02 hb3
  have HT := Lib.hid (ShopCond_u S w3 hs)
  clear hs
  go_wp2_with fail
  refine HT.out.mono ?_
  rintro e w4 ⟨⟨va, vn, vc, rfl⟩, hb4⟩
  have hC4 := blk_below hC3 hb4
  have hb04 := Bl.trans hb03 hb4
  have g0 := blk_free hC4 0
  have g1 := blk_free hC4 1
  have g2 := blk_free hC4 2
  have g3 := blk_free hC4 3
  have k0 : w4.cell? ⟨w.heap.size + 1, 0, none⟩ = some (.int .i64 0) := blk_cell hC4 0
  have k1 : w4.cell? ⟨w.heap.size + 1, 1, none⟩ = some (.int .i64 0) := blk_cell hC4 1
  have k2 : w4.cell? ⟨w.heap.size + 1, 2, none⟩ = some (.int .i64 0) := blk_cell hC4 2
  have k3 : w4.cell? ⟨w.heap.size + 1, 3, none⟩ = some (.slice none 0 0) := blk_cell hC4 3
  have hb5 := Bl.set (Bl.set (Bl.set (Bl.set hb04 (w.heap.size + 1) 0 (by omega) (.int .i64 2)) (w.heap.size + 1) 1 (by omega) (.int .i64 3)) (w.heap.size + 1) 2 (by omega) (.int .i64 1)) (w.heap.size + 1) 3 (by omega) (.slice va vn vc)
  have hC5 := blk_set (blk_set (blk_set (blk_set hC4 0 (.int .i64 2)) 1 (.int .i64 3)) 2 (.int .i64 1)) 3 (.slice va vn vc)
  go_wp2
  generalize (((w4.setCell ⟨w.heap.size + 1, 0, none⟩ (.int .i64 2)).setCell ⟨w.heap.size + 1, 1, none⟩ (.int .i64 3)).setCell ⟨w.heap.size + 1, 2, none⟩ (.int .i64 1)).setCell ⟨w.heap.size + 1, 3, none⟩ (.slice va vn vc) = w5 at *
  have r0 : w5.cell? ⟨w.heap.size + 1, 0, none⟩ = some (.int .i64 2) := blk_cell hC5 0
  have r1 : w5.cell? ⟨w.heap.size + 1, 1, none⟩ = some (.int .i64 3) := blk_cell hC5 1
  have r2 : w5.cell? ⟨w.heap.size + 1, 2, none⟩ = some (.int .i64 1) := blk_cell hC5 2
  have r3 : w5.cell? ⟨w.heap.size + 1, 3, none⟩ = some (.slice va vn vc) := blk_cell hC5 3
  refine bodyPost_ret (v := .tuple #[.agg #[.int .i64 2, .int .i64 3, .int .i64 1, .slice va vn vc], .int .i64 0]) (by simp [results, Tryz.results21, go_sem, r0, r1, r2, r3]) rfl ?_
  exact ⟨⟨_, _, _, rfl⟩, hb5⟩
end Go.Proofs.YtfhfncnnendnfaaGreatDoor
