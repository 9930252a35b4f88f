/- The contract of CyclesOf. Conditions: at most 5 points, coordinates within 2^41. -/
import Derived.Test.YtgcmlhpocbgkaaaDiv3
namespace Go.Proofs.Ytgcmlhpocbgkaaa
open Go.RowKit Go.Sort

theorem tryC_any (st : Pt) (P : List Pt) (vp : Value) (z : Nat) (w0 : World) (lo gS gP gN gB gL gT : Nat) (hst : Bd st) (hPb : ∀ p ∈ P, Bd p) (hn : P.length ≤ 9) (rp : Pts w0 0 vp P) (h0 : w0.heap.size ≤ gS) : ∀ f, TryC st P vp z w0 lo gS gP gN gB gL gT f
  | 0 => tryC_leaf st P vp z w0 lo gS gP gN gB gL gT hst hPb hn rp
  | f + 1 => tryC_step st P vp z w0 lo gS gP gN gB gL gT f hst hPb hn rp h0 (tryC_any st P vp z w0 lo gS gP gN gB gL gT hst hPb hn rp h0 f)

set_option maxHeartbeats 2000000 in
set_option maxRecDepth 100000 in
theorem CyclesOf_any (st : Pt) (P : List Pt) (vp : Value) (z : Nat) (w : World) (hst : Bd st) (hPb : ∀ p ∈ P, Bd p) (hn : P.length ≤ 9) (rp : Pts w 0 vp P) :
    Calls Try.prog 26 #[ptv st, vp, .int .i64 z] w fun e w' => (∃ vr, e = .returned (.tuple #[vr, .int .i64 (max ((leaves z P.length 0 []).foldl (stepC st P) (-1, [])).1 0)]) ∧ Lists w' w.heap.size vr ((leaves z P.length 0 []).foldl (stepC st P) (-1, [])).2) ∧ Below w.heap.size w w' := by
  have HT := Lib.hid (tryC_any st P vp z w (w.heap.size + 1 + 1 + 1 + 1 + 1 + 1) (w.heap.size) (w.heap.size + 1) (w.heap.size + 1 + 1) (w.heap.size + 1 + 1 + 1) (w.heap.size + 1 + 1 + 1 + 1) (w.heap.size + 1 + 1 + 1 + 1 + 1) hst hPb hn rp (Nat.le_refl _) P.length)
  obtain ⟨sx, sy⟩ := st
  obtain ⟨va, cap, rfl, hc1, hc2⟩ := Pts.form rp
  unfold ptv
  have a0_1 := blk_new w (.cells #[.int .i64 sx, .int .i64 sy] 27)
  have a0_2 := blk_old a0_1 (.cells #[.slice va P.length cap] 29)
  have a0_3 := blk_old a0_2 (.cells #[.int .i64 z] 3)
  have a0_4 := blk_old a0_3 (.cells #[.slice none 0 0] 51)
  have a0_5 := blk_old a0_4 (.cells #[.int .i64 (-1)] 3)
  have a0_6 := blk_old a0_5 (.cells #[.func (.func 53) #[] #[.pointer (some ⟨w.heap.size + 1, 0, none⟩), .pointer (some ⟨w.heap.size + 1 + 1, 0, none⟩), .pointer (some ⟨w.heap.size + 1 + 1 + 1 + 1 + 1, 0, none⟩), .pointer (some ⟨w.heap.size, 0, none⟩), .pointer (some ⟨w.heap.size + 1 + 1 + 1 + 1, 0, none⟩), .pointer (some ⟨w.heap.size + 1 + 1 + 1, 0, none⟩)]] 86)
  have a1_2 := blk_new' (w.alloc (.cells #[.int .i64 sx, .int .i64 sy] 27)) (.cells #[.slice va P.length cap] 29) (g := w.heap.size + 1) (by simp)
  have a1_3 := blk_old a1_2 (.cells #[.int .i64 z] 3)
  have a1_4 := blk_old a1_3 (.cells #[.slice none 0 0] 51)
  have a1_5 := blk_old a1_4 (.cells #[.int .i64 (-1)] 3)
  have a1_6 := blk_old a1_5 (.cells #[.func (.func 53) #[] #[.pointer (some ⟨w.heap.size + 1, 0, none⟩), .pointer (some ⟨w.heap.size + 1 + 1, 0, none⟩), .pointer (some ⟨w.heap.size + 1 + 1 + 1 + 1 + 1, 0, none⟩), .pointer (some ⟨w.heap.size, 0, none⟩), .pointer (some ⟨w.heap.size + 1 + 1 + 1 + 1, 0, none⟩), .pointer (some ⟨w.heap.size + 1 + 1 + 1, 0, none⟩)]] 86)
  have a2_3 := blk_new' ((w.alloc (.cells #[.int .i64 sx, .int .i64 sy] 27)).alloc (.cells #[.slice va P.length cap] 29)) (.cells #[.int .i64 z] 3) (g := w.heap.size + 1 + 1) (by simp)
  have a2_4 := blk_old a2_3 (.cells #[.slice none 0 0] 51)
  have a2_5 := blk_old a2_4 (.cells #[.int .i64 (-1)] 3)
  have a2_6 := blk_old a2_5 (.cells #[.func (.func 53) #[] #[.pointer (some ⟨w.heap.size + 1, 0, none⟩), .pointer (some ⟨w.heap.size + 1 + 1, 0, none⟩), .pointer (some ⟨w.heap.size + 1 + 1 + 1 + 1 + 1, 0, none⟩), .pointer (some ⟨w.heap.size, 0, none⟩), .pointer (some ⟨w.heap.size + 1 + 1 + 1 + 1, 0, none⟩), .pointer (some ⟨w.heap.size + 1 + 1 + 1, 0, none⟩)]] 86)
  have a3_4 := blk_new' (((w.alloc (.cells #[.int .i64 sx, .int .i64 sy] 27)).alloc (.cells #[.slice va P.length cap] 29)).alloc (.cells #[.int .i64 z] 3)) (.cells #[.slice none 0 0] 51) (g := w.heap.size + 1 + 1 + 1) (by simp)
  have a3_5 := blk_old a3_4 (.cells #[.int .i64 (-1)] 3)
  have a3_6 := blk_old a3_5 (.cells #[.func (.func 53) #[] #[.pointer (some ⟨w.heap.size + 1, 0, none⟩), .pointer (some ⟨w.heap.size + 1 + 1, 0, none⟩), .pointer (some ⟨w.heap.size + 1 + 1 + 1 + 1 + 1, 0, none⟩), .pointer (some ⟨w.heap.size, 0, none⟩), .pointer (some ⟨w.heap.size + 1 + 1 + 1 + 1, 0, none⟩), .pointer (some ⟨w.heap.size + 1 + 1 + 1, 0, none⟩)]] 86)
  have a4_5 := blk_new' ((((w.alloc (.cells #[.int .i64 sx, .int .i64 sy] 27)).alloc (.cells #[.slice va P.length cap] 29)).alloc (.cells #[.int .i64 z] 3)).alloc (.cells #[.slice none 0 0] 51)) (.cells #[.int .i64 (-1)] 3) (g := w.heap.size + 1 + 1 + 1 + 1) (by simp)
  have a4_6 := blk_old a4_5 (.cells #[.func (.func 53) #[] #[.pointer (some ⟨w.heap.size + 1, 0, none⟩), .pointer (some ⟨w.heap.size + 1 + 1, 0, none⟩), .pointer (some ⟨w.heap.size + 1 + 1 + 1 + 1 + 1, 0, none⟩), .pointer (some ⟨w.heap.size, 0, none⟩), .pointer (some ⟨w.heap.size + 1 + 1 + 1 + 1, 0, none⟩), .pointer (some ⟨w.heap.size + 1 + 1 + 1, 0, none⟩)]] 86)
  have a5_6 := blk_new' (((((w.alloc (.cells #[.int .i64 sx, .int .i64 sy] 27)).alloc (.cells #[.slice va P.length cap] 29)).alloc (.cells #[.int .i64 z] 3)).alloc (.cells #[.slice none 0 0] 51)).alloc (.cells #[.int .i64 (-1)] 3)) (.cells #[.func (.func 53) #[] #[.pointer (some ⟨w.heap.size + 1, 0, none⟩), .pointer (some ⟨w.heap.size + 1 + 1, 0, none⟩), .pointer (some ⟨w.heap.size + 1 + 1 + 1 + 1 + 1, 0, none⟩), .pointer (some ⟨w.heap.size, 0, none⟩), .pointer (some ⟨w.heap.size + 1 + 1 + 1 + 1, 0, none⟩), .pointer (some ⟨w.heap.size + 1 + 1 + 1, 0, none⟩)]] 86) (g := w.heap.size + 1 + 1 + 1 + 1 + 1) (by simp)
  have hb6 := Bl.alloc (Bl.alloc (Bl.alloc (Bl.alloc (Bl.alloc (Bl.alloc (Below.refl w.heap.size w) (.cells #[.int .i64 sx, .int .i64 sy] 27)) (.cells #[.slice va P.length cap] 29)) (.cells #[.int .i64 z] 3)) (.cells #[.slice none 0 0] 51)) (.cells #[.int .i64 (-1)] 3)) (.cells #[.func (.func 53) #[] #[.pointer (some ⟨w.heap.size + 1, 0, none⟩), .pointer (some ⟨w.heap.size + 1 + 1, 0, none⟩), .pointer (some ⟨w.heap.size + 1 + 1 + 1 + 1 + 1, 0, none⟩), .pointer (some ⟨w.heap.size, 0, none⟩), .pointer (some ⟨w.heap.size + 1 + 1 + 1 + 1, 0, none⟩), .pointer (some ⟨w.heap.size + 1 + 1 + 1, 0, none⟩)]] 86)
  have hs6 : ((((((w.alloc (.cells #[.int .i64 sx, .int .i64 sy] 27)).alloc (.cells #[.slice va P.length cap] 29)).alloc (.cells #[.int .i64 z] 3)).alloc (.cells #[.slice none 0 0] 51)).alloc (.cells #[.int .i64 (-1)] 3)).alloc (.cells #[.func (.func 53) #[] #[.pointer (some ⟨w.heap.size + 1, 0, none⟩), .pointer (some ⟨w.heap.size + 1 + 1, 0, none⟩), .pointer (some ⟨w.heap.size + 1 + 1 + 1 + 1 + 1, 0, none⟩), .pointer (some ⟨w.heap.size, 0, none⟩), .pointer (some ⟨w.heap.size + 1 + 1 + 1 + 1, 0, none⟩), .pointer (some ⟨w.heap.size + 1 + 1 + 1, 0, none⟩)]] 86)).heap.size = w.heap.size + 6 := by simp
  clear a0_1 a0_2 a0_3 a0_4 a0_5 a1_2 a1_3 a1_4 a1_5 a2_3 a2_4 a2_5 a3_4 a3_5 a4_5
  go_enter Try.func26, Try.ntmps26
  go_wp2_with fail
  generalize ((((((w.alloc (.cells #[.int .i64 sx, .int .i64 sy] 27)).alloc (.cells #[.slice va P.length cap] 29)).alloc (.cells #[.int .i64 z] 3)).alloc (.cells #[.slice none 0 0] 51)).alloc (.cells #[.int .i64 (-1)] 3)).alloc (.cells #[.func (.func 53) #[] #[.pointer (some ⟨w.heap.size + 1, 0, none⟩), .pointer (some ⟨w.heap.size + 1 + 1, 0, none⟩), .pointer (some ⟨w.heap.size + 1 + 1 + 1 + 1 + 1, 0, none⟩), .pointer (some ⟨w.heap.size, 0, none⟩), .pointer (some ⟨w.heap.size + 1 + 1 + 1 + 1, 0, none⟩), .pointer (some ⟨w.heap.size + 1 + 1 + 1, 0, none⟩)]] 86)) = w5 at *
  have hbx : By w5 (w.heap.size + 1 + 1 + 1 + 1 + 1 + 1) (w.heap.size) (w.heap.size + 1) (w.heap.size + 1 + 1) (w.heap.size + 1 + 1 + 1) (w.heap.size + 1 + 1 + 1 + 1) (w.heap.size + 1 + 1 + 1 + 1 + 1) (sx, sy) (.slice va P.length cap) z (-1, []) :=
    ⟨by omega, by omega, a0_6, a1_6, a2_6, ⟨_, a3_6, Lists.nil _ _⟩, a4_6, a5_6⟩
  refine (HT.out 0 [] (-1, []) _ w5 (by simp) (by simp) ⟨by simp, by simp⟩ (by simp) (by simp) (by simp) (by simp) hb6 hbx (Lists.nil _ _) (fun _ => rfl)).mono ?_
  rintro e w6 ⟨rfl, hbx6, htw⟩
  generalize hr : (leaves z P.length 0 []).foldl (stepC (sx, sy) P) (-1, []) = r at *
  have HR := Lib.hid hr
  clear hr
  have hb7 := htw.below hb6 (by omega) (by omega)
  obtain ⟨_, _, _, _, _, ⟨vb, hB6, hO6⟩, hL6, _⟩ := hbx6
  have z1 : w6.cell? ⟨w.heap.size + 1 + 1 + 1, 0, none⟩ = some vb := blk_cell hB6 0
  have z2 : w6.cell? ⟨w.heap.size + 1 + 1 + 1 + 1, 0, none⟩ = some (.int .i64 r.1) := blk_cell hL6 0
  have HO := Lib.hid hO6
  clear hB6 hL6 hO6 htw hbx a0_6 a1_6 a2_6 a3_6 a4_6 a5_6 hb6 hs6 HT
  go_wp2
  go_region
  go_wp2
  go_ret2
  rw [HR.out]
  exact ⟨⟨vb, rfl, (HO.out.mono (show w.heap.size ≤ w.heap.size + 1 + 1 + 1 + 1 + 1 + 1 by omega)).below (Below.drew (Below.refl _ _))⟩, Below.drew hb7⟩
end Go.Proofs.Ytgcmlhpocbgkaaa
