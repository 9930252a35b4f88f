/- Contracts of a board of package rework: become, and do at a reflow. No conditions. -/
import Derived.Test.YtpfichbhhpnioaaGreatDoorKey
namespace Go.Proofs.YtpfichbhhpnioaaGreatDoor
open Go.RowKit Go.Sort

/-- a board in memory. -/
def Brd (w : World) (g : Nat) (st si he : Int) (mo mr : Value) (lp : Int) : Prop := w.heap[g]? = some (.cells #[.int .i64 st, .int .i64 si, .int .i64 he, mo, mr, .int .i64 lp] 286 (0, 0))
/-- since when a board is in its state. -/
def becA (st state si at' : Int) : Int := if st = state then si else at'
set_option maxHeartbeats 1000000 in
theorem become_any (g : Nat) (st si he lp state at' : Int) (mo mr : Value) (w : World) (hB : Brd w g st si he mo mr lp) :
    Calls Tryz.prog 281 #[.pointer (some ⟨g, 0, none⟩), .int .i64 state, .int .i64 at'] w fun e w' => e = .returned (.tuple #[]) ∧ Brd w' g state (becA st state si at') he mo mr lp ∧ w.grownBy w' (some g) := by
  have c0 : w.cell? ⟨g, 0, none⟩ = some (.int .i64 st) := blk_cell hB 0
  have c1 : w.cell? ⟨g, 1, none⟩ = some (.int .i64 si) := blk_cell hB 1
  have f0 := blk_free hB 0
  have f1 := blk_free hB 1
  by_cases hs : st = state
  · have hne : (st != state) = false := by simpa using hs
    have HB := Lib.hid hB
    have HS := Lib.hid hs
    clear hs hB
    go_enter Tryz.func281, Tryz.ntmps281
    go_wp2
    go_end0
    refine ⟨rfl, ?_, Gr.refl _ _⟩
    have h := HB.out
    rw [show becA st state si at' = si from if_pos HS.out, ← HS.out]
    exact h
  · have hne : (st != state) = true := by simpa using hs
    have h1 := blk_set hB 0 (.int .i64 state)
    have c1' : (w.setCell ⟨g, 0, none⟩ (.int .i64 state)).cell? ⟨g, 1, none⟩ = some (.int .i64 si) := blk_cell h1 1
    have f1' := blk_free h1 1
    have h2 := blk_set h1 1 (.int .i64 at')
    have HB := Lib.hid h2
    have HS := Lib.hid hs
    have hg := Gr.set (Gr.set (Gr.refl w (some g)) g 0 (.inl rfl) (.int .i64 state)) g 1 (.inl rfl) (.int .i64 at')
    clear hs hB h1 h2
    go_enter Tryz.func281, Tryz.ntmps281
    go_wp2
    go_end0
    refine ⟨rfl, ?_, hg⟩
    rw [show becA st state si at' = at' from if_neg HS.out]
    exact HB.out
set_option maxHeartbeats 1000000 in
theorem do_reflow (g : Nat) (st si he lp at' : Int) (mo mr : Value) (bs cs : ByteArray) (w : World) (hB : Brd w g st si he mo mr lp) (h0 : 0 ≤ he) (h1 : he ≤ 1000000) :
    Calls Tryz.prog 262 #[.pointer (some ⟨g, 0, none⟩), .agg #[.int .i64 at', .string bs, .int .i64 1, .string cs]] w fun e w' => e = .returned (.tuple #[]) ∧ Brd w' g 2 (becA st 2 si at') (he + 1) mo mr lp ∧ w.grownBy w' (some g) := by
  have lg := blk_lt hB
  have hg1 := Gr.alloc (Gr.set (Gr.refl w (some g)) g 2 (.inl rfl) (.int .i64 (he + 1))) (.cells #[.int .i64 at', .string bs, .int .i64 1, .string cs] 124)
  have c2 : w.cell? ⟨g, 2, none⟩ = some (.int .i64 he) := blk_cell hB 2
  have f2 := blk_free hB 2
  have H2 : Hid (Brd ((w.setCell ⟨g, 2, none⟩ (.int .i64 (he + 1))).alloc (.cells #[.int .i64 at', .string bs, .int .i64 1, .string cs] 124)) g st si (he + 1) mo mr lp) := Lib.hid (blk_old (blk_set hB 2 (.int .i64 (he + 1))) (.cells #[.int .i64 at', .string bs, .int .i64 1, .string cs] 124))
  clear hB
  go_enter Tryz.func262, Tryz.ntmps262
  go_wp2_with fail
  refine (become_any g st si (he + 1) lp 2 at' mo mr _ H2.out).mono ?_
  rintro e w2 ⟨rfl, hb2, hg2⟩
  go_wp2
  go_end0
  exact ⟨rfl, hb2, Gr.trans hg1 hg2⟩
set_option maxHeartbeats 1000000 in
theorem refusal_reflow (g : Nat) (st si he lp at' rh rr : Int) (mo mr : Value) (bs cs : ByteArray) (w : World) (hB : Brd w g st si he mo mr lp) (hst : st = 1 ∨ st = 2) (hh : he < rh) :
    Calls Tryz.prog 261 #[.pointer (some ⟨g, 0, none⟩), .agg #[.int .i64 rh, .int .i64 rr], .agg #[.int .i64 at', .string bs, .int .i64 1, .string cs]] w fun e w' => e = .returned (.int .i64 0) ∧ Below w.heap.size w w' := by
  have lg := blk_lt hB
  have hb0 := Bl.alloc (Bl.alloc (Below.refl w.heap.size w) (.cells #[.int .i64 rh, .int .i64 rr] 122)) (.cells #[.int .i64 at', .string bs, .int .i64 1, .string cs] 124)
  have c0 : w.cell? ⟨g, 0, none⟩ = some (.int .i64 st) := blk_cell hB 0
  have c2 : w.cell? ⟨g, 2, none⟩ = some (.int .i64 he) := blk_cell hB 2
  clear hB
  rcases hst with rfl | rfl
  all_goals (
    go_enter Tryz.func261, Tryz.ntmps261
    go_wp2
    go_region
    go_wp2
    go_ret
    exact ⟨rfl, Below.drew hb0⟩)
end Go.Proofs.YtpfichbhhpnioaaGreatDoor
