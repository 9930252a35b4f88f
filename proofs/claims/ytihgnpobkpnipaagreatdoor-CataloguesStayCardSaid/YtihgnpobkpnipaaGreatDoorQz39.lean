/- Texts of the proof of a law, put together, part 39 of 41. Conditions: none beyond those that each theorem names. -/
import Derived.Test.YtihgnpobkpnipaaGreatDoorQz1
import Derived.Test.YtihgnpobkpnipaaGreatDoorQz38
namespace Go.Proofs.YtihgnpobkpnipaaGreatDoor
open Go.RowKit Go.Sort
theorem rblk2 {w : World} {g : Nat} {x y : Value} {t : TypeId} (h : w.heap[g]? = some (.cells #[x, y] t (0, 0))) : w.cell? ⟨g, 0, none⟩ = some x ∧ w.cell? ⟨g, 1, none⟩ = some y :=
  ⟨by simp [World.cell?, h], by simp [World.cell?, h]⟩
set_option maxHeartbeats 1000000 in
theorem rDistance_any (w : World) : Calls Tryz.prog 62 #[.agg #[.int .i64 1, .int .i64 1], .agg #[.int .i64 4, .int .i64 3]] w fun e w' => e = .returned (.tuple #[.int .i64 3, .int .i64 0]) ∧ Below w.heap.size w w' := by
  have h1 : farB (1, 1) = false := by decide
  have h2 : farB (4, 3) = false := by decide
  have h3 : dist (1, 1) (4, 3) = 3 := by decide
  have b1 : Bd (1, 1) := by unfold Bd; omega
  have b2 : Bd (4, 3) := by unfold Bd; omega
  have c1 : ∀ w, Calls Tryz.prog 97 #[.agg #[.int .i64 1, .int .i64 1]] w fun e w' => e = .returned (.bool false) ∧ Below w.heap.size w w' := fun w => by rw [← h1]; exact isFar_any (1, 1) w
  have c2 : ∀ w, Calls Tryz.prog 97 #[.agg #[.int .i64 4, .int .i64 3]] w fun e w' => e = .returned (.bool false) ∧ Below w.heap.size w w' := fun w => by rw [← h2]; exact isFar_any (4, 3) w
  have c3 : ∀ w, Calls Tryz.prog 98 #[.agg #[.int .i64 1, .int .i64 1], .agg #[.int .i64 4, .int .i64 3]] w fun e w' => e = .returned (.int .i64 3) ∧ Below w.heap.size w w' := fun w => by rw [← h3]; exact distance_any (1, 1) (4, 3) w b1 b2
  go_enter Tryz.func62, Tryz.ntmps62
  have hA := blk_old (blk_new w (.cells #[.int .i64 1, .int .i64 1] 113)) (.cells #[.int .i64 4, .int .i64 3] 113)
  have hB := blk_new' (w.alloc (.cells #[.int .i64 1, .int .i64 1] 113)) (.cells #[.int .i64 4, .int .i64 3] 113) (g := w.heap.size + 1) (by simp)
  have hb := Bl.alloc (Bl.alloc (Below.refl w.heap.size w) (.cells #[.int .i64 1, .int .i64 1] 113)) (.cells #[.int .i64 4, .int .i64 3] 113)
  go_wp2_with fail
  refine (c1 _).mono ?_
  rintro e w1 ⟨rfl, hb1⟩
  have hA1 := blk_below hA hb1
  have hB1 := blk_below hB hb1
  have hw1 := Bl.trans hb hb1
  obtain ⟨x1, x2⟩ := rblk2 hB1
  go_wp2_with fail
  refine (c2 _).mono ?_
  rintro e w2 ⟨rfl, hb2⟩
  have hA2 := blk_below hA1 hb2
  have hB2 := blk_below hB1 hb2
  have hw2 := Bl.trans hw1 hb2
  obtain ⟨x3, x4⟩ := rblk2 hA2
  obtain ⟨x5, x6⟩ := rblk2 hB2
  go_wp2_with fail
  refine (c3 _).mono ?_
  rintro e w3 ⟨rfl, hb3⟩
  go_wp2
  go_ret2
  exact ⟨rfl, Bl.trans hw2 hb3⟩
end Go.Proofs.YtihgnpobkpnipaaGreatDoor
namespace Go.Proofs.YtihgnpobkpnipaaGreatDoor
open Go.RowKit Go.Sort Go.Maps Go.Shelf Go.Lib
set_option maxHeartbeats 4000000 in
set_option maxRecDepth 100000 in
theorem ShopCond_u (S : Nat) (w : World) (hs : ShopU w S ⟨#[117]⟩) :
    Calls Tryz.prog 101 #[.pointer (some ⟨S, 0, none⟩), .string ⟨#[117]⟩] w fun e w' => (∃ a n c, e = .returned (.agg #[.int .i64 2, .int .i64 3, .int .i64 1, .slice a n c])) ∧ Below w.heap.size w w' := by
  obtain ⟨mb, g, hS, hM, hB, hm⟩ := hs
  have hb0 := Bl.alloc (Below.refl w.heap.size w) (.cells #[.int .i64 0, .int .i64 0, .int .i64 0, .slice none 0 0] 115)
  have hC0 := blk_new w (.cells #[.int .i64 0, .int .i64 0, .int .i64 0, .slice none 0 0] 115)
  have hS1 := blk_old hS (.cells #[.int .i64 0, .int .i64 0, .int .i64 0, .slice none 0 0] 115)
  have hM1 := hM.alloc (.cells #[.int .i64 0, .int .i64 0, .int .i64 0, .slice none 0 0] 115)
  have hB1 : Brd _ g 2 3 1 (.map (some (g - 2))) (.map (some (g - 1))) 0 := blk_old hB (.cells #[.int .i64 0, .int .i64 0, .int .i64 0, .slice none 0 0] 115)
  have hm1 := blk_old hm (.cells #[.int .i64 0, .int .i64 0, .int .i64 0, .slice none 0 0] 115)
  have lw := blk_lt hC0
  have lS := blk_lt hS
  have c1 : w.cell? ⟨S, 2, none⟩ = some (.map (some mb)) := blk_cell hS 2
  have hl0 := look_some hM1 ⟨#[117]⟩ (by show 1 ≤ maxLen; unfold maxLen; omega) rfl
  have hown : (w.alloc (.cells #[.int .i64 0, .int .i64 0, .int .i64 0, .slice none 0 0] 115)).ownsMap Tryz.prog 9 (fun _ => (none : Option (DataW Unit × List MemPlace))) (g - 2) 0 (.map []) := ⟨#[], 0, hm1, ⟨by simp, Go.MapKept.stamped_empty 0, by simp⟩, Nat.le_refl _, rfl⟩
  have HC := Lib.hid (condition_any g (g - 2) 0 2 3 1 0 _ _ _ _ hB1 hown (by show 0 ≤ 1099511627776; omega))
  clear hS hM hB hm hS1 hM1 hB1 hm1 hown
  go_enter Tryz.func101, Tryz.ntmps101
  go_wp2_with fail
  refine HC.out.mono ?_
  rintro e w2 ⟨v, ss, rfl, _, h2, _, hb2⟩
  obtain ⟨va, vc, rfl⟩ := row_form h2
  have hC2 := blk_below hC0 hb2
  have g0 := blk_free hC2 0
  have g1 := blk_free hC2 1
  have g2 := blk_free hC2 2
  have g3 := blk_free hC2 3
  have k0 : w2.cell? ⟨w.heap.size, 0, none⟩ = some (.int .i64 0) := blk_cell hC2 0
  have k1 : w2.cell? ⟨w.heap.size, 1, none⟩ = some (.int .i64 0) := blk_cell hC2 1
  have k2 : w2.cell? ⟨w.heap.size, 2, none⟩ = some (.int .i64 0) := blk_cell hC2 2
  have k3 : w2.cell? ⟨w.heap.size, 3, none⟩ = some (.slice none 0 0) := blk_cell hC2 3
  have hb3 := Bl.set (Bl.set (Bl.set (Bl.set (Bl.trans hb0 hb2) _ 0 (Nat.le_refl _) (.int .i64 2)) _ 1 (Nat.le_refl _) (.int .i64 3)) _ 2 (Nat.le_refl _) (.int .i64 1)) _ 3 (Nat.le_refl _) (.slice va ss.length vc)
  have hC3 := blk_set (blk_set (blk_set (blk_set hC2 0 (.int .i64 2)) 1 (.int .i64 3)) 2 (.int .i64 1)) 3 (.slice va ss.length vc)
  go_wp2
  generalize (((w2.setCell ⟨w.heap.size, 0, none⟩ (.int .i64 2)).setCell ⟨w.heap.size, 1, none⟩ (.int .i64 3)).setCell ⟨w.heap.size, 2, none⟩ (.int .i64 1)).setCell ⟨w.heap.size, 3, none⟩ (.slice va ss.length vc) = w3 at *
  have r0 : w3.cell? ⟨w.heap.size, 0, none⟩ = some (.int .i64 2) := blk_cell hC3 0
  have r1 : w3.cell? ⟨w.heap.size, 1, none⟩ = some (.int .i64 3) := blk_cell hC3 1
  have r2 : w3.cell? ⟨w.heap.size, 2, none⟩ = some (.int .i64 1) := blk_cell hC3 2
  have r3 : w3.cell? ⟨w.heap.size, 3, none⟩ = some (.slice va ss.length vc) := blk_cell hC3 3
  refine bodyPost_ret (v := .agg #[.int .i64 2, .int .i64 3, .int .i64 1, .slice va ss.length vc]) (by simp [results, Tryz.results101, go_sem, r0, r1, r2, r3]) rfl ?_
  exact ⟨⟨_, _, _, rfl⟩, hb3⟩
set_option maxHeartbeats 4000000 in
set_option maxRecDepth 100000 in
theorem At_u (b : Nat) (w : World) (h0 : w.cell? ⟨b, 0, none⟩ = some (.int .i64 3)) (h1 : w.cell? ⟨b, 1, none⟩ = some (.string ⟨#[117]⟩)) (h2 : w.cell? ⟨b, 2, none⟩ = some (.int .i64 1)) (h3 : w.cell? ⟨b, 3, none⟩ = some (.string ⟨#[]⟩)) :
    Calls Tryz.prog 63 #[.agg #[.int .i64 1, .int .i64 0], .slice (some ⟨b, 0, none⟩) 1 1, .string ⟨#[117]⟩, .int .i64 3] w fun e w' => (∃ a n c, e = .returned (.tuple #[.agg #[.int .i64 2, .int .i64 3, .int .i64 1, .slice a n c], .int .i64 0])) ∧ Below w.heap.size w w' := by
  have lb := World.block_lt_of_cell? _ _ h0
  have hR0 := blk_old (blk_new w (.cells #[.int .i64 1, .int .i64 0] 119)) (.cells #[.int .i64 0, .int .i64 0, .int .i64 0, .slice none 0 0] 115)
  have hC0 := blk_new' (w.alloc (.cells #[.int .i64 1, .int .i64 0] 119)) (.cells #[.int .i64 0, .int .i64 0, .int .i64 0, .slice none 0 0] 115) (g := w.heap.size + 1) (by simp)
  have hb0 := Bl.alloc (Bl.alloc (Below.refl w.heap.size w) (.cells #[.int .i64 1, .int .i64 0] 119)) (.cells #[.int .i64 0, .int .i64 0, .int .i64 0, .slice none 0 0] 115)
  go_enter Tryz.func63, Tryz.ntmps63
  go_wp2_with fail
  generalize (w.alloc (.cells #[.int .i64 1, .int .i64 0] 119)).alloc (.cells #[.int .i64 0, .int .i64 0, .int .i64 0, .slice none 0 0] 115) = w1 at *
  obtain ⟨bc, _⟩ := bcell hb0
  refine (boardFault_u b w1 ((bc b 0 lb).trans h0) ((bc b 1 lb).trans h1) ((bc b 2 lb).trans h2) ((bc b 3 lb).trans h3)).mono ?_
  rintro e w2 ⟨rfl, hb2⟩
  have hb02 := Bl.trans hb0 hb2
  have hR2 := blk_below hR0 hb2
  have hC2 := blk_below hC0 hb2
  have q0 : w2.cell? ⟨w.heap.size, 0, none⟩ = some (.int .i64 1) := blk_cell hR2 0
  have q1 : w2.cell? ⟨w.heap.size, 1, none⟩ = some (.int .i64 0) := blk_cell hR2 1
  obtain ⟨bc2, _⟩ := bcell hb02
  have HS := Lib.hid (shopAt_u b w2 ((bc2 b 0 lb).trans h0) ((bc2 b 1 lb).trans h1) ((bc2 b 2 lb).trans h2) ((bc2 b 3 lb).trans h3))
  clear h0 h1 h2 h3 bc bc2 hR0 hC0
  go_wp2_with fail
  refine HS.out.mono ?_
  rintro e w3 ⟨⟨S, rfl, hs⟩, hb3⟩
  have hC3 := blk_below hC2 hb3
  have hb03 := Bl.trans hb02 hb3
  have HT := Lib.hid (ShopCond_u S w3 hs)
  clear hs
  go_wp2_with fail
  refine HT.out.mono ?_
  rintro e w4 ⟨⟨va, vn, vc, rfl⟩, hb4⟩
  have hC4 := blk_below hC3 hb4
  have hb04 := Bl.trans hb03 hb4
  have g0 := blk_free hC4 0
  have g1 := blk_free hC4 1
  have g2 := blk_free hC4 2
  have g3 := blk_free hC4 3
  have k0 : w4.cell? ⟨w.heap.size + 1, 0, none⟩ = some (.int .i64 0) := blk_cell hC4 0
  have k1 : w4.cell? ⟨w.heap.size + 1, 1, none⟩ = some (.int .i64 0) := blk_cell hC4 1
  have k2 : w4.cell? ⟨w.heap.size + 1, 2, none⟩ = some (.int .i64 0) := blk_cell hC4 2
  have k3 : w4.cell? ⟨w.heap.size + 1, 3, none⟩ = some (.slice none 0 0) := blk_cell hC4 3
  have hb5 := Bl.set (Bl.set (Bl.set (Bl.set hb04 (w.heap.size + 1) 0 (by omega) (.int .i64 2)) (w.heap.size + 1) 1 (by omega) (.int .i64 3)) (w.heap.size + 1) 2 (by omega) (.int .i64 1)) (w.heap.size + 1) 3 (by omega) (.slice va vn vc)
  have hC5 := blk_set (blk_set (blk_set (blk_set hC4 0 (.int .i64 2)) 1 (.int .i64 3)) 2 (.int .i64 1)) 3 (.slice va vn vc)
  go_wp2
  generalize (((w4.setCell ⟨w.heap.size + 1, 0, none⟩ (.int .i64 2)).setCell ⟨w.heap.size + 1, 1, none⟩ (.int .i64 3)).setCell ⟨w.heap.size + 1, 2, none⟩ (.int .i64 1)).setCell ⟨w.heap.size + 1, 3, none⟩ (.slice va vn vc) = w5 at *
  have r0 : w5.cell? ⟨w.heap.size + 1, 0, none⟩ = some (.int .i64 2) := blk_cell hC5 0
  have r1 : w5.cell? ⟨w.heap.size + 1, 1, none⟩ = some (.int .i64 3) := blk_cell hC5 1
  have r2 : w5.cell? ⟨w.heap.size + 1, 2, none⟩ = some (.int .i64 1) := blk_cell hC5 2
  have r3 : w5.cell? ⟨w.heap.size + 1, 3, none⟩ = some (.slice va vn vc) := blk_cell hC5 3
  refine bodyPost_ret (v := .tuple #[.agg #[.int .i64 2, .int .i64 3, .int .i64 1, .slice va vn vc], .int .i64 0]) (by simp [results, Tryz.results63, go_sem, r0, r1, r2, r3]) rfl ?_
  exact ⟨⟨_, _, _, rfl⟩, hb5⟩
set_option maxHeartbeats 4000000 in
set_option maxRecDepth 100000 in
theorem ready_any (w : World) : Calls Tryz.prog 18 #[] w fun e w' => e = .returned (.bool true) ∧ Below w.heap.size w w' := by
  go_enter Tryz.func18, Tryz.ntmps18
  go_wp2_with fail
  refine (Life4_any w).mono ?_
  rintro e w' ⟨rfl, rfl⟩
  go_wp2_with fail
  refine (rDistance_any w).mono ?_
  rintro e w1 ⟨rfl, hb1⟩
  have hS := blk_new w1 (.cells #[.int .i64 3, .string ⟨#[117]⟩, .int .i64 1, .string ⟨#[]⟩] 121)
  have hb2 := Bl.alloc hb1 (.cells #[.int .i64 3, .string ⟨#[117]⟩, .int .i64 1, .string ⟨#[]⟩] 121)
  go_wp2_with fail
  refine (At_u w1.heap.size _ (blk_cell hS 0) (blk_cell hS 1) (blk_cell hS 2) (blk_cell hS 3)).mono ?_
  rintro e w3 ⟨⟨va, vn, vc, rfl⟩, hb3⟩
  have hb4 := Bl.alloc (Bl.trans hb2 hb3) (.cells #[.int .i64 2, .int .i64 3, .int .i64 1, .slice va vn vc] 115)
  go_wp2
  go_ret
  exact ⟨rfl, hb4⟩
end Go.Proofs.YtihgnpobkpnipaaGreatDoor
