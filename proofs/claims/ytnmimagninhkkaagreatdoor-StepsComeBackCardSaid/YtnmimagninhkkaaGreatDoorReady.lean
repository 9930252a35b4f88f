/- The concrete calls of ready(): part.Life(4), tour.Distance, rework.At of one step. No conditions. -/
import Derived.Test.YtnmimagninhkkaaGreatDoorKey
import Derived.Maps.Own
namespace Go.Proofs.YtnmimagninhkkaaGreatDoor
open Go.RowKit Go.Sort

theorem life4 (w : World) : Calls Tryz.prog 177 #[.int .i64 4] w fun e w' => e = .returned (.int .i64 259200000) ∧ w = w' := by
  go_enter Tryz.func177, Tryz.ntmps177
  go_wp2
  go_ret
  exact ⟨rfl, rfl⟩
theorem Life4_any (w : World) : Calls Tryz.prog 88 #[.int .i64 4] w fun e w' => e = .returned (.tuple #[.int .i64 259200000, .bool true, .int .i64 0]) ∧ w = w' := by
  have h1 : (!inB 1 4 6) = false := by decide
  go_enter Tryz.func88, Tryz.ntmps88
  go_wp2_with (first | (go_at_call 92; refine (Outside_any _ _ _ _).mono ?_; rintro e w' ⟨rfl, rfl⟩) | (go_at_call 177; refine (life4 _).mono ?_; rintro e w' ⟨rfl, rfl⟩))
  go_ret3
  exact ⟨rfl, rfl⟩
theorem moment3 (w : World) : Calls Tryz.prog 173 #[.int .i64 3] w fun e w' => e = .returned (.bool true) ∧ w = w' := by
  go_enter Tryz.func173, Tryz.ntmps173
  go_wp2
  go_ret
  exact ⟨rfl, rfl⟩
theorem kind1 (w : World) : Calls Tryz.prog 203 #[.int .i64 1] w fun e w' => e = .returned (.bool true) ∧ w = w' := by
  go_enter Tryz.func203, Tryz.ntmps203
  go_wp2
  go_ret
  exact ⟨rfl, rfl⟩
theorem hasComp1 (w : World) : Calls Tryz.prog 197 #[.int .i64 1] w fun e w' => e = .returned (.bool false) ∧ w = w' := by
  go_enter Tryz.func197, Tryz.ntmps197
  go_wp2
  go_ret
  exact ⟨rfl, rfl⟩
theorem keyU : keyB ⟨#[117]⟩ = true := by decide +kernel
theorem isKeyU (w : World) : Calls Tryz.prog 172 #[.string ⟨#[117]⟩] w fun e w' => e = .returned (.bool true) ∧ Below w.heap.size w w' := by
  have := IsKey_any ⟨#[117]⟩ w (by show 1 ≤ 140737488355328; omega)
  rw [keyU] at this
  exact this
set_option maxHeartbeats 1000000 in
set_option maxRecDepth 100000 in
theorem stepFault_u (b : Nat) (w : World) (h0 : w.cell? ⟨b, 0, none⟩ = some (.int .i64 3)) (h1 : w.cell? ⟨b, 1, none⟩ = some (.string ⟨#[117]⟩)) (h2 : w.cell? ⟨b, 2, none⟩ = some (.int .i64 1)) (h3 : w.cell? ⟨b, 3, none⟩ = some (.string ⟨#[]⟩)) :
    Calls Tryz.prog 134 #[.slice (some ⟨b, 0, none⟩) 1 1, .int .i64 0] w fun e w' => e = .returned (.int .i64 0) ∧ Below w.heap.size w w' := by
  have hB0 := blk_new w (.cells #[.int .i64 3, .string ⟨#[117]⟩, .int .i64 1, .string ⟨#[]⟩] 34)
  have hb0 := Bl.alloc (Below.refl w.heap.size w) (.cells #[.int .i64 3, .string ⟨#[117]⟩, .int .i64 1, .string ⟨#[]⟩] 34)
  go_enter Tryz.func134, Tryz.ntmps134
  go_wp2_with (first | (go_at_call 173; refine (moment3 _).mono ?_; rintro e w' ⟨rfl, rfl⟩))
  refine (isKeyU _).mono ?_
  rintro e w1 ⟨rfl, hb1⟩
  have hB1 := blk_below hB0 hb1
  have hb01 := Bl.trans hb0 hb1
  have c2 : w1.cell? ⟨w.heap.size, 2, none⟩ = some (.int .i64 1) := blk_cell hB1 2
  have c3 : w1.cell? ⟨w.heap.size, 3, none⟩ = some (.string ⟨#[]⟩) := blk_cell hB1 3
  clear hb1 hb0 hB0
  go_wp2_with (first | (go_at_call 203; refine (kind1 _).mono ?_; rintro e w' ⟨rfl, rfl⟩) | (go_at_call 197; refine (hasComp1 _).mono ?_; rintro e w' ⟨rfl, rfl⟩))
  go_region
  go_wp2
  go_ret
  exact ⟨rfl, Below.drew hb01⟩
set_option maxHeartbeats 1000000 in
set_option maxRecDepth 100000 in
theorem checkSteps_u (b : Nat) (w : World) (h0 : w.cell? ⟨b, 0, none⟩ = some (.int .i64 3)) (h1 : w.cell? ⟨b, 1, none⟩ = some (.string ⟨#[117]⟩)) (h2 : w.cell? ⟨b, 2, none⟩ = some (.int .i64 1)) (h3 : w.cell? ⟨b, 3, none⟩ = some (.string ⟨#[]⟩)) :
    Calls Tryz.prog 62 #[.slice (some ⟨b, 0, none⟩) 1 1] w fun e w' => e = .returned (.int .i64 0) ∧ Below w.heap.size w w' := by
  have HS := Lib.hid (stepFault_u b w h0 h1 h2 h3)
  clear h0 h1 h2 h3
  go_enter Tryz.func62, Tryz.ntmps62
  go_wp2
  go_loopw [10] (fun i wr => (i = .int .i64 0 ∧ w = wr) ∨ (i = .int .i64 1 ∧ Below w.heap.size w wr)) (fun i _ => 1 - (intOf i).toNat)
  case atStart => exact .inl ⟨rfl, rfl⟩
  case round =>
    rcases hrel with ⟨rfl, rfl⟩ | ⟨rfl, hb⟩
    · go_wp2_with fail
      refine HS.out.mono ?_
      rintro e w1 ⟨rfl, hb1⟩
      go_wp2
      go_roundw
      case rel => exact .inr ⟨rfl, hb1⟩
      case measure => simp [intOf]
    · go_wp2
      go_ret
      exact ⟨rfl, hb⟩
theorem checkRules_u (w : World) : Calls Tryz.prog 61 #[.agg #[.int .i64 1, .int .i64 0]] w fun e w' => e = .returned (.int .i64 0) ∧ Below w.heap.size w w' := by
  have hb0 := Bl.alloc (Below.refl w.heap.size w) (.cells #[.int .i64 1, .int .i64 0] 27)
  have h1 : (!inB 0 1 100) = false := by decide
  have h2 : (!inB 0 0 100) = false := by decide
  go_enter Tryz.func61, Tryz.ntmps61
  go_wp2_with (go_at_call 92; refine (Outside_any _ _ _ _).mono ?_; rintro e w' ⟨rfl, rfl⟩)
  go_ret
  exact ⟨rfl, hb0⟩
set_option maxHeartbeats 1000000 in
set_option maxRecDepth 100000 in
theorem boardFault_u (b : Nat) (w : World) (h0 : w.cell? ⟨b, 0, none⟩ = some (.int .i64 3)) (h1 : w.cell? ⟨b, 1, none⟩ = some (.string ⟨#[117]⟩)) (h2 : w.cell? ⟨b, 2, none⟩ = some (.int .i64 1)) (h3 : w.cell? ⟨b, 3, none⟩ = some (.string ⟨#[]⟩)) :
    Calls Tryz.prog 85 #[.agg #[.int .i64 1, .int .i64 0], .slice (some ⟨b, 0, none⟩) 1 1, .string ⟨#[117]⟩, .int .i64 3] w fun e w' => e = .returned (.int .i64 0) ∧ Below w.heap.size w w' := by
  have lb := World.block_lt_of_cell? _ _ h0
  have hf : ∀ W, Below w.heap.size w W → Calls Tryz.prog 135 #[.agg #[.int .i64 1, .int .i64 0], .slice (some ⟨b, 0, none⟩) 1 1] W fun e w' => e = .returned (.int .i64 0) ∧ Below W.heap.size W w' := by
    intro W hW
    have hb0 := Bl.alloc (Below.refl W.heap.size W) (.cells #[.int .i64 1, .int .i64 0] 27)
    have HC := Lib.hid (show ∀ V, Below W.heap.size W V → Calls Tryz.prog 62 #[.slice (some ⟨b, 0, none⟩) 1 1] V fun e w' => e = .returned (.int .i64 0) ∧ Below V.heap.size V w' from fun V hV =>
      have hWV := Bl.trans hW hV
      checkSteps_u b V (((bcell hWV).1 _ _ lb).trans h0) (((bcell hWV).1 _ _ lb).trans h1) (((bcell hWV).1 _ _ lb).trans h2) (((bcell hWV).1 _ _ lb).trans h3))
    clear h0 h1 h2 h3
    go_enter Tryz.func135, Tryz.ntmps135
    go_wp2_with fail
    refine (checkRules_u _).mono ?_
    rintro e w1 ⟨rfl, hb1⟩
    have hb01 := Bl.trans hb0 hb1
    clear hb0 hb1
    go_wp2_with fail
    refine (HC.out _ hb01).mono ?_
    rintro e w2 ⟨rfl, hb2⟩
    go_wp2
    go_ret
    exact ⟨rfl, Bl.trans hb01 hb2⟩
  have HF := Lib.hid hf
  have hb0 := Bl.alloc (Below.refl w.heap.size w) (.cells #[.int .i64 1, .int .i64 0] 27)
  clear h0 h1 h2 h3 hf
  go_enter Tryz.func85, Tryz.ntmps85
  go_wp2_with fail
  refine (HF.out _ hb0).mono ?_
  rintro e w1 ⟨rfl, hb1⟩
  have hb01 := Bl.trans hb0 hb1
  clear hb0 hb1
  go_wp2_with fail
  refine (isKeyU _).mono ?_
  rintro e w2 ⟨rfl, hb2⟩
  go_wp2_with (first | (go_at_call 173; refine (moment3 _).mono ?_; rintro e w' ⟨rfl, rfl⟩))
  go_ret
  exact ⟨rfl, Bl.trans hb01 hb2⟩
end Go.Proofs.YtnmimagninhkkaaGreatDoor
