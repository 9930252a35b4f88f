/- The contract of ShortestOf. Condition: at most 9 points, coordinates within 2^41. -/
import Derived.Test.YtgcmlhpocbgkaaaTry
import Derived.Laws.EntriesVeiled
namespace Go.Proofs.Ytgcmlhpocbgkaaa
open Go.RowKit Go.Sort

theorem try_any (st : Pt) (P : List Pt) (vp : Value) (w0 : World) (lo gS gP gB gL gT : Nat) (hst : Bd st) (hPb : ∀ p ∈ P, Bd p) (hn : P.length ≤ 9) (rp : Pts w0 0 vp P) (h0 : w0.heap.size ≤ gS) : ∀ f, TryF st P vp w0 lo gS gP gB gL gT f
  | 0 => try_step st P vp w0 lo gS gP gB gL gT 0 hst hPb hn rp h0 (fun f' h => by omega)
  | f + 1 => try_step st P vp w0 lo gS gP gB gL gT (f + 1) hst hPb hn rp h0 (fun f' h => by
      have : f' = f := by omega
      rw [this]; exact try_any st P vp w0 lo gS gP gB gL gT hst hPb hn rp h0 f)
theorem full_bit (n i : Nat) : (pw n - 1).testBit i = decide (i < n) := Nat.testBit_two_pow_sub_one n i
theorem dfs_all (st : Pt) (P : List Pt) (hst : Bd st) (hPb : ∀ p ∈ P, Bd p) (hn : P.length ≤ 9) : dfs st P P.length [] st 0 ([], -1) = (tlist st P P.length st (pw P.length - 1), V st P st (pw P.length - 1)) := by
  rw [dfs_eq st P hst hPb (by omega) P.length [] (pw P.length - 1) st 0 ([], -1) (by simp) List.nodup_nil (by simp) (fun i => by rw [full_bit]; simp) hst (Int.le_refl _)]
  rw [if_pos (.inl (by decide))]
  simp

set_option maxHeartbeats 2000000 in
set_option maxRecDepth 100000 in
theorem ShortestOf_any (st : Pt) (P : List Pt) (vp : Value) (w : World) (hst : Bd st) (hPb : ∀ p ∈ P, Bd p) (hn : P.length ≤ 9) (rp : Pts w 0 vp P) :
    Calls Try.prog 23 #[ptv st, vp] w fun e w' => (∃ vr, e = .returned (.tuple #[vr, .int .i64 (V st P st (pw P.length - 1))]) ∧ Own w' w.heap.size vr (nats (tlist st P P.length st (pw P.length - 1)))) ∧ Below w.heap.size w w' := by
  have HT := Lib.hid (try_any st P vp w (w.heap.size + 1 + 1 + 1 + 1 + 1) w.heap.size (w.heap.size + 1) (w.heap.size + 1 + 1) (w.heap.size + 1 + 1 + 1) (w.heap.size + 1 + 1 + 1 + 1) hst hPb hn rp (Nat.le_refl _) P.length)
  have HD := Lib.hid (dfs_all st P hst hPb hn)
  obtain ⟨sx, sy⟩ := st
  obtain ⟨va, cap, rfl, hc1, hc2⟩ := Pts.form rp
  unfold ptv
  have a1 := blk_new w (.cells #[.int .i64 sx, .int .i64 sy] 27)
  have a2 := blk_old a1 (.cells #[.slice va P.length cap] 29)
  have a3 := blk_old a2 (.cells #[.slice none 0 0] 22)
  have a4 := blk_old a3 (.cells #[.int .i64 (-1)] 3)
  have a5 := blk_old a4 (.cells #[.func (.func 48) #[] #[.pointer (some ⟨w.heap.size + 1 + 1 + 1, 0, none⟩), .pointer (some ⟨w.heap.size, 0, none⟩), .pointer (some ⟨w.heap.size + 1, 0, none⟩), .pointer (some ⟨w.heap.size + 1 + 1, 0, none⟩), .pointer (some ⟨w.heap.size + 1 + 1 + 1 + 1, 0, none⟩)]] 79)
  have p2 := blk_new' (w.alloc (.cells #[.int .i64 sx, .int .i64 sy] 27)) (.cells #[.slice va P.length cap] 29) (g := w.heap.size + 1) (by simp)
  have p3 := blk_old p2 (.cells #[.slice none 0 0] 22)
  have p4 := blk_old p3 (.cells #[.int .i64 (-1)] 3)
  have p5 := blk_old p4 (.cells #[.func (.func 48) #[] #[.pointer (some ⟨w.heap.size + 1 + 1 + 1, 0, none⟩), .pointer (some ⟨w.heap.size, 0, none⟩), .pointer (some ⟨w.heap.size + 1, 0, none⟩), .pointer (some ⟨w.heap.size + 1 + 1, 0, none⟩), .pointer (some ⟨w.heap.size + 1 + 1 + 1 + 1, 0, none⟩)]] 79)
  have b3 := blk_new' ((w.alloc (.cells #[.int .i64 sx, .int .i64 sy] 27)).alloc (.cells #[.slice va P.length cap] 29)) (.cells #[.slice none 0 0] 22) (g := w.heap.size + 1 + 1) (by simp)
  have b4 := blk_old b3 (.cells #[.int .i64 (-1)] 3)
  have b5 := blk_old b4 (.cells #[.func (.func 48) #[] #[.pointer (some ⟨w.heap.size + 1 + 1 + 1, 0, none⟩), .pointer (some ⟨w.heap.size, 0, none⟩), .pointer (some ⟨w.heap.size + 1, 0, none⟩), .pointer (some ⟨w.heap.size + 1 + 1, 0, none⟩), .pointer (some ⟨w.heap.size + 1 + 1 + 1 + 1, 0, none⟩)]] 79)
  have l4 := blk_new' (((w.alloc (.cells #[.int .i64 sx, .int .i64 sy] 27)).alloc (.cells #[.slice va P.length cap] 29)).alloc (.cells #[.slice none 0 0] 22)) (.cells #[.int .i64 (-1)] 3) (g := w.heap.size + 1 + 1 + 1) (by simp)
  have l5 := blk_old l4 (.cells #[.func (.func 48) #[] #[.pointer (some ⟨w.heap.size + 1 + 1 + 1, 0, none⟩), .pointer (some ⟨w.heap.size, 0, none⟩), .pointer (some ⟨w.heap.size + 1, 0, none⟩), .pointer (some ⟨w.heap.size + 1 + 1, 0, none⟩), .pointer (some ⟨w.heap.size + 1 + 1 + 1 + 1, 0, none⟩)]] 79)
  have t5 := blk_new' ((((w.alloc (.cells #[.int .i64 sx, .int .i64 sy] 27)).alloc (.cells #[.slice va P.length cap] 29)).alloc (.cells #[.slice none 0 0] 22)).alloc (.cells #[.int .i64 (-1)] 3)) (.cells #[.func (.func 48) #[] #[.pointer (some ⟨w.heap.size + 1 + 1 + 1, 0, none⟩), .pointer (some ⟨w.heap.size, 0, none⟩), .pointer (some ⟨w.heap.size + 1, 0, none⟩), .pointer (some ⟨w.heap.size + 1 + 1, 0, none⟩), .pointer (some ⟨w.heap.size + 1 + 1 + 1 + 1, 0, none⟩)]] 79) (g := w.heap.size + 1 + 1 + 1 + 1) (by simp)
  have hb5 := Bl.alloc (Bl.alloc (Bl.alloc (Bl.alloc (Bl.alloc (Below.refl w.heap.size w) (.cells #[.int .i64 sx, .int .i64 sy] 27)) (.cells #[.slice va P.length cap] 29)) (.cells #[.slice none 0 0] 22)) (.cells #[.int .i64 (-1)] 3)) (.cells #[.func (.func 48) #[] #[.pointer (some ⟨w.heap.size + 1 + 1 + 1, 0, none⟩), .pointer (some ⟨w.heap.size, 0, none⟩), .pointer (some ⟨w.heap.size + 1, 0, none⟩), .pointer (some ⟨w.heap.size + 1 + 1, 0, none⟩), .pointer (some ⟨w.heap.size + 1 + 1 + 1 + 1, 0, none⟩)]] 79)
  have hs5 : (((((w.alloc (.cells #[.int .i64 sx, .int .i64 sy] 27)).alloc (.cells #[.slice va P.length cap] 29)).alloc (.cells #[.slice none 0 0] 22)).alloc (.cells #[.int .i64 (-1)] 3)).alloc (.cells #[.func (.func 48) #[] #[.pointer (some ⟨w.heap.size + 1 + 1 + 1, 0, none⟩), .pointer (some ⟨w.heap.size, 0, none⟩), .pointer (some ⟨w.heap.size + 1, 0, none⟩), .pointer (some ⟨w.heap.size + 1 + 1, 0, none⟩), .pointer (some ⟨w.heap.size + 1 + 1 + 1 + 1, 0, none⟩)]] 79)).heap.size = w.heap.size + 5 := by simp
  clear a1 a2 a3 a4 p2 p3 p4 b3 b4 l4
  go_enter Try.func23, Try.ntmps23
  go_wp2_with fail
  generalize (((((w.alloc (.cells #[.int .i64 sx, .int .i64 sy] 27)).alloc (.cells #[.slice va P.length cap] 29)).alloc (.cells #[.slice none 0 0] 22)).alloc (.cells #[.int .i64 (-1)] 3)).alloc (.cells #[.func (.func 48) #[] #[.pointer (some ⟨w.heap.size + 1 + 1 + 1, 0, none⟩), .pointer (some ⟨w.heap.size, 0, none⟩), .pointer (some ⟨w.heap.size + 1, 0, none⟩), .pointer (some ⟨w.heap.size + 1 + 1, 0, none⟩), .pointer (some ⟨w.heap.size + 1 + 1 + 1 + 1, 0, none⟩)]] 79)) = w5 at *
  have hbx : Bx w5 (w.heap.size + 1 + 1 + 1 + 1 + 1) w.heap.size (w.heap.size + 1) (w.heap.size + 1 + 1) (w.heap.size + 1 + 1 + 1) (w.heap.size + 1 + 1 + 1 + 1) (sx, sy) (.slice va P.length cap) ([], -1) :=
    ⟨by omega, by omega, a5, p5, ⟨_, b5, Own.nil _ _⟩, l5, t5⟩
  refine (HT.out [] (sx, sy) 0 ([], -1) _ w5 (by simp) hst (Int.le_refl _) (by simp) hb5 hbx (Own.nil _ _)).mono ?_
  rintro e w6 ⟨rfl, hbx6, htw⟩
  rw [HD.out] at hbx6
  have hb6 := htw.below hb5 (by omega) (by omega)
  obtain ⟨_, _, _, _, ⟨vb, hB6, hO6⟩, hL6, _⟩ := hbx6
  have z1 : w6.cell? ⟨w.heap.size + 1 + 1, 0, none⟩ = some vb := blk_cell hB6 0
  have z2 : w6.cell? ⟨w.heap.size + 1 + 1 + 1, 0, none⟩ = some (.int .i64 (V (sx, sy) P (sx, sy) (pw P.length - 1))) := blk_cell hL6 0
  go_wp2
  go_region
  go_wp2
  go_ret2
  exact ⟨⟨vb, rfl, own_base hO6 (by omega)⟩, Below.drew hb6⟩
end Go.Proofs.Ytgcmlhpocbgkaaa
