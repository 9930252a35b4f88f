/- The contract of Shop.Do at the first step of a shop: a reflow. Conditions: a short name. -/
import Derived.Test.YtpfichbhhpnioaaGreatDoorPtrMap
namespace Go.Proofs.YtpfichbhhpnioaaGreatDoor
open Go.RowKit Go.Sort Go.Maps

set_option maxHeartbeats 2000000 in
set_option maxRecDepth 100000 in
theorem Do_first (S mb : Nat) (rh rr at' : Int) (bs cs : ByteArray) (w : World) (hS : w.heap[S]? = some (.cells #[.int .i64 rh, .int .i64 rr, .map (some mb)] 240 (0, 0))) (hM : Boards w mb 0 (.map [])) (hbs : bs.size ≤ 1000) (hrh : 0 < rh) :
    Calls Tryz.prog 227 #[.pointer (some ⟨S, 0, none⟩), .agg #[.int .i64 at', .string bs, .int .i64 1, .string cs]] w fun e w' => e = .returned (.int .i64 0) ∧ ∃ g : Nat, w'.heap[S]? = some (.cells #[.int .i64 rh, .int .i64 rr, .map (some mb)] 240 (0, 0)) ∧ Boards w' mb 1 (.map [(.string bs.data.toList, .lit (.int .i64 g))]) ∧
      Brd w' g 2 at' 1 (.map (some (g - 2))) (.map (some (g - 1))) 0 ∧ w'.heap[g - 2]? = some (.map #[] 0) ∧ Below mb w w' := by
  have lS := blk_lt hS
  have lM := hM.lt
  have hms : bs.size ≤ maxLen := by unfold maxLen; omega
  have c2 : w.cell? ⟨S, 2, none⟩ = some (.map (some mb)) := blk_cell hS 2
  have hl0 := look_none (hM.alloc (.cells #[.int .i64 at', .string bs, .int .i64 1, .string cs] 124)) bs hms rfl
  have hl1 := look_none ((hM.alloc (.cells #[.int .i64 at', .string bs, .int .i64 1, .string cs] 124)).drew) bs hms rfl
  go_enter Tryz.func227, Tryz.ntmps227
  go_wp2
  go_region
  go_wp2_with fail
  have hne : S ≠ mb := by
    rintro rfl
    obtain ⟨es, clock, hb, _⟩ := hM
    rw [hS] at hb
    cases hb
  have hS1 : (w.alloc (.cells #[.int .i64 at', .string bs, .int .i64 1, .string cs] 124)).drew.heap[S]? = _ := blk_old hS (.cells #[.int .i64 at', .string bs, .int .i64 1, .string cs] 124)
  have hX1 : (w.alloc (.cells #[.int .i64 at', .string bs, .int .i64 1, .string cs] 124)).drew.heap[w.heap.size]? = _ := blk_new w (.cells #[.int .i64 at', .string bs, .int .i64 1, .string cs] 124)
  have hM1 : Boards (w.alloc (.cells #[.int .i64 at', .string bs, .int .i64 1, .string cs] 124)).drew mb 0 (.map []) := (hM.alloc (.cells #[.int .i64 at', .string bs, .int .i64 1, .string cs] 124)).drew
  have hb1 : Below mb w (w.alloc (.cells #[.int .i64 at', .string bs, .int .i64 1, .string cs] 124)).drew := Below.drew (Below.alloc (Below.refl _ _) (by omega) (.cells #[.int .i64 at', .string bs, .int .i64 1, .string cs] 124))
  have hz1 : w.heap.size < (w.alloc (.cells #[.int .i64 at', .string bs, .int .i64 1, .string cs] 124)).drew.heap.size := by show w.heap.size < (w.alloc (.cells #[.int .i64 at', .string bs, .int .i64 1, .string cs] 124)).heap.size; simp
  generalize (w.alloc (.cells #[.int .i64 at', .string bs, .int .i64 1, .string cs] 124)).drew = w1 at *
  refine (newBoard_any w1).mono ?_
  rintro e w2 ⟨rfl, hB2, hm1, _, hb2, hz2e⟩
  have hz2 : w1.heap.size + 1 + 1 < w2.heap.size := by omega
  clear hz2e
  have hS2 := blk_below hS1 hb2
  have hX2 := blk_below hX1 hb2
  have hM2 : Boards w2 mb 0 (.map []) := hM1.kept (Gr.of_below hb2 none) (by simp)
  obtain ⟨w3, hrun3, hM3, hg3⟩ := store_board hM2.drew (by unfold maxLen; omega) bs hms (w1.heap.size + 1 + 1)
  have c3 : w2.cell? ⟨S, 2, none⟩ = some (.map (some mb)) := blk_cell hS2 2
  have x3 : w2.cell? ⟨w.heap.size, 1, none⟩ = some (.string bs) := blk_cell hX2 1
  go_wp2
  go_region
  have hS3 := Gr.blk hg3 (show w2.drew.heap[S]? = _ from hS2) hne
  have hX3 := Gr.blk hg3 (show w2.drew.heap[w.heap.size]? = _ from hX2) (by omega)
  have hB3 : Brd w3 _ _ _ _ _ _ _ := Gr.blk hg3 (show w2.drew.heap[w1.heap.size + 1 + 1]? = _ from hB2) (by omega)
  have hm3 := Gr.blk hg3 (show w2.drew.heap[w1.heap.size]? = _ from hm1) (by omega)
  have hb3 : Below mb w w3 := Below.trans (Below.trans hb1 (hb2.mono (by omega))) (Gr.below (show w2.grownBy w3 (some mb) from ⟨hg3.os, hg3.tape, hg3.output, hg3.size, hg3.block⟩) (Nat.le_refl _) (by omega))
  obtain ⟨r0, r1, _⟩ : w3.cell? ⟨S, 0, none⟩ = some (.int .i64 rh) ∧ w3.cell? ⟨S, 1, none⟩ = some (.int .i64 rr) ∧ True := ⟨blk_cell hS3 0, blk_cell hS3 1, trivial⟩
  have s0 : w3.cell? ⟨w.heap.size, 0, none⟩ = some (.int .i64 at') := blk_cell hX3 0
  have s1 : w3.cell? ⟨w.heap.size, 1, none⟩ = some (.string bs) := blk_cell hX3 1
  have s2 : w3.cell? ⟨w.heap.size, 2, none⟩ = some (.int .i64 1) := blk_cell hX3 2
  have s3 : w3.cell? ⟨w.heap.size, 3, none⟩ = some (.string cs) := blk_cell hX3 3
  have e1 := cell_regrown r0
  have e2 := cell_regrown r1
  have e3 := cell_regrown s0
  have e4 := cell_regrown s1
  have e5 := cell_regrown s2
  have e6 := cell_regrown s3
  have HREF := Lib.hid (fun (d : Nat) (os : Array Obj) => Calls.regrown_of (w := w3) (d := d) (os := os) (refusal_reflow (w1.heap.size + 1 + 1) 1 0 0 0 at' rh rr (.map (some w1.heap.size)) (.map (some (w1.heap.size + 1))) bs cs _ (blk_below hB3 (below_regrown w3 d os)) (.inl rfl) hrh))
  go_wp2
  refine wp_region_quiet_below (by kernel_rfl) (by kernel_rfl) ?_
  repeat (go_big_quiet_step ((go_at_call 261; exact HREF.out _ _)))
  refine wpQuiet_nil ?_
  intro w4 hw'
  obtain ⟨⟨dq, osq⟩, hw''⟩ := hw'
  have hb4 : Below w3.heap.size w3 w4 := hw'' ▸ below_regrown w3 dq osq
  clear hw'' e1 e2 e3 e4 e5 e6 HREF r0 r1 s0 s1 s2 s3
  have hX4 := blk_below hX3 hb4
  have hB4 : Brd w4 (w1.heap.size + 1 + 1) 1 0 0 (.map (some w1.heap.size)) (.map (some (w1.heap.size + 1))) 0 := blk_below hB3 hb4
  have s0 : w4.cell? ⟨w.heap.size, 0, none⟩ = some (.int .i64 at') := blk_cell hX4 0
  have s1 : w4.cell? ⟨w.heap.size, 1, none⟩ = some (.string bs) := blk_cell hX4 1
  have s2 : w4.cell? ⟨w.heap.size, 2, none⟩ = some (.int .i64 1) := blk_cell hX4 2
  have s3 : w4.cell? ⟨w.heap.size, 3, none⟩ = some (.string cs) := blk_cell hX4 3
  go_wp2_with fail
  refine (do_reflow (w1.heap.size + 1 + 1) 1 0 0 0 at' _ _ bs cs _ hB4 (by omega) (by omega)).mono ?_
  rintro e w5 ⟨rfl, hB5, hg5⟩
  have hlt3 : w2.heap.size ≤ w3.heap.size := hg3.size
  have hS5 := Gr.blk hg5 (blk_below hS3 hb4) (by omega)
  have hm5 := Gr.blk hg5 (blk_below hm3 hb4) (by omega)
  have hM5 : Boards w5 mb 1 ((DataW.map []).put (.string bs.data.toList) (.lit (.int .i64 ((w1.heap.size + 1 + 1 : Nat) : Int)))) := (hM3.kept (Gr.of_below hb4 none) (by simp)).kept hg5 (by intro h; injection h with h; omega)
  have hb5 : Below mb w w5 := Below.trans (Below.trans hb3 (hb4.mono (by omega))) (Gr.below hg5 (by omega) (by have := hb4.size; omega))
  clear hB4 hX4 hS3 hX3 hB3 hm3 hM3 hg3 hg5 hb3 hb4
  go_wp2
  go_ret
  exact ⟨rfl, w1.heap.size + 1 + 1, hS5, hM5, hB5, hm5, hb5⟩
end Go.Proofs.YtpfichbhhpnioaaGreatDoor
