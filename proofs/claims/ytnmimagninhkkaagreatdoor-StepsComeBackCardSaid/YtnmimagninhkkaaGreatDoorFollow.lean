/- The contract of shopAt at one reflow. No conditions. -/
import Derived.Test.YtnmimagninhkkaaGreatDoorDo
import Derived.Test.YtnmimagninhkkaaGreatDoorReady
namespace Go.Proofs.YtnmimagninhkkaaGreatDoor
open Go.RowKit Go.Sort Go.Maps

theorem shopAt1_any (i e : Int) (w : World) : Calls Tryz.prog 180 #[.int .i64 i, .int .i64 e] w fun e w' => e = .returned (.tuple #[]) ∧ w = w' := by
  go_enter Tryz.func180, Tryz.ntmps180
  go_wp2
  go_end0
  exact ⟨rfl, rfl⟩
/-- a shop in which one board is soldered. -/
def ShopU (w : World) (S : Nat) (bs : ByteArray) : Prop := ∃ mb g : Nat, w.heap[S]? = some (.cells #[.int .i64 1, .int .i64 0, .map (some mb)] 132 (0, 0)) ∧ Boards w mb 1 (.map [(.string bs.data.toList, .lit (.int .i64 g))]) ∧ Brd w g 2 3 1 (.map (some (g - 2))) (.map (some (g - 1))) 0 ∧ w.heap[g - 2]? = some (.map #[] 0)
set_option maxHeartbeats 2000000 in
set_option maxRecDepth 100000 in
theorem follow_u (b : Nat) (w : World) (h0 : w.cell? ⟨b, 0, none⟩ = some (.int .i64 3)) (h1 : w.cell? ⟨b, 1, none⟩ = some (.string ⟨#[117]⟩)) (h2 : w.cell? ⟨b, 2, none⟩ = some (.int .i64 1)) (h3 : w.cell? ⟨b, 3, none⟩ = some (.string ⟨#[]⟩)) :
    Calls Tryz.prog 136 #[.agg #[.int .i64 1, .int .i64 0], .slice (some ⟨b, 0, none⟩) 1 1, .int .i64 3, .func (.func 180) #[] #[]] w fun e w' => (∃ S : Nat, e = .returned (.pointer (some ⟨S, 0, none⟩)) ∧ ShopU w' S ⟨#[117]⟩) ∧ Below w.heap.size w w' := by
  have lb := World.block_lt_of_cell? _ _ h0
  have hb0 := Bl.alloc (Below.refl w.heap.size w) (.cells #[.int .i64 1, .int .i64 0] 27)
  go_enter Tryz.func136, Tryz.ntmps136
  go_wp2_with fail
  generalize w.alloc (.cells #[.int .i64 1, .int .i64 0] 27) = w1 at *
  refine (NewShop_any 1 0 _).mono ?_
  rintro e w2 ⟨rfl, hS2, hm2, hb2, hz2⟩
  have hb02 := Bl.trans hb0 hb2
  have hl0 := hb0.size
  have hz2' : w1.heap.size + 1 + 1 < w2.heap.size := by omega
  have hM2 : Boards w2 (w1.heap.size + 1) 0 (.map []) := ⟨#[], 0, hm2, ⟨by simp, Go.MapKept.stamped_empty 0, by simp⟩, Nat.le_refl _, rfl⟩
  obtain ⟨bc, _⟩ := bcell hb02
  have g0 := (bc b 0 lb).trans h0
  have g1 := (bc b 1 lb).trans h1
  have g2 := (bc b 2 lb).trans h2
  have g3 := (bc b 3 lb).trans h3
  have lb2 := World.block_lt_of_cell? _ _ g0
  have hS3 := blk_old hS2 (.cells #[.int .i64 3, .string ⟨#[117]⟩, .int .i64 1, .string ⟨#[]⟩] 34)
  have hM3 : Boards (w2.alloc (.cells #[.int .i64 3, .string ⟨#[117]⟩, .int .i64 1, .string ⟨#[]⟩] 34)) (w1.heap.size + 1) 0 (.map []) := hM2.alloc (.cells #[.int .i64 3, .string ⟨#[117]⟩, .int .i64 1, .string ⟨#[]⟩] 34)
  have HDO := Lib.hid (Do_first (w1.heap.size + 1 + 1) (w1.heap.size + 1) 1 0 3 ⟨#[117]⟩ ⟨#[]⟩ _ hS3 hM3 (by show 1 ≤ 1000; omega) (by omega))
  have hb03 := Bl.alloc hb02 (.cells #[.int .i64 3, .string ⟨#[117]⟩, .int .i64 1, .string ⟨#[]⟩] 34)
  clear hz2 bc h0 h1 h2 h3 hS2 hm2 hM2 hS3 hM3
  go_wp2
  go_loopw [16] (fun i wr => (i = .int .i64 0 ∧ w2 = wr) ∨ (i = .int .i64 1 ∧ ShopU wr (w1.heap.size + 1 + 1) ⟨#[117]⟩ ∧ Below w.heap.size w wr)) (fun i _ => 1 - (intOf i).toNat)
  case atStart => exact .inl ⟨rfl, rfl⟩
  case round =>
    rcases hrel with ⟨rfl, rfl⟩ | ⟨rfl, hsu, hb⟩
    · go_wp2_with fail
      refine HDO.out.mono ?_
      rintro e w3 ⟨rfl, g, a1, a2, a3, a4, a5⟩
      have hsu : ShopU w3 (w1.heap.size + 1 + 1) ⟨#[117]⟩ := ⟨_, g, a1, a2, a3, a4⟩
      have HSU := Lib.hid hsu
      have hb04 : Below w.heap.size w w3 := Below.trans hb03 (a5.mono (by omega))
      clear a1 a2 a3 a4 a5 hsu
      go_wp2_with fail
      refine (shopAt1_any _ _ _).mono ?_
      rintro e w' ⟨rfl, rfl⟩
      go_wp2
      go_roundw
      case rel => exact .inr ⟨rfl, HSU.out, hb04⟩
      case measure => simp [intOf]
    · have HSU := Lib.hid hsu
      clear hsu
      go_wp2
      go_ret
      exact ⟨⟨_, rfl, HSU.out⟩, hb⟩
theorem shopAt_u (b : Nat) (w : World) (h0 : w.cell? ⟨b, 0, none⟩ = some (.int .i64 3)) (h1 : w.cell? ⟨b, 1, none⟩ = some (.string ⟨#[117]⟩)) (h2 : w.cell? ⟨b, 2, none⟩ = some (.int .i64 1)) (h3 : w.cell? ⟨b, 3, none⟩ = some (.string ⟨#[]⟩)) :
    Calls Tryz.prog 93 #[.agg #[.int .i64 1, .int .i64 0], .slice (some ⟨b, 0, none⟩) 1 1, .int .i64 3] w fun e w' => (∃ S : Nat, e = .returned (.pointer (some ⟨S, 0, none⟩)) ∧ ShopU w' S ⟨#[117]⟩) ∧ Below w.heap.size w w' := by
  have lb := World.block_lt_of_cell? _ _ h0
  have hb0 := Bl.alloc (Below.refl w.heap.size w) (.cells #[.int .i64 1, .int .i64 0] 27)
  obtain ⟨bc, _⟩ := bcell hb0
  have HF := Lib.hid (follow_u b _ ((bc b 0 lb).trans h0) ((bc b 1 lb).trans h1) ((bc b 2 lb).trans h2) ((bc b 3 lb).trans h3))
  clear bc h0 h1 h2 h3
  go_enter Tryz.func93, Tryz.ntmps93
  go_wp2_with fail
  refine HF.out.mono ?_
  rintro e w1 ⟨⟨S, rfl, hs⟩, hb1⟩
  have HS := Lib.hid hs
  clear hs
  go_wp2
  go_ret
  exact ⟨⟨S, rfl, HS.out⟩, Bl.trans hb0 hb1⟩
end Go.Proofs.YtnmimagninhkkaaGreatDoor
