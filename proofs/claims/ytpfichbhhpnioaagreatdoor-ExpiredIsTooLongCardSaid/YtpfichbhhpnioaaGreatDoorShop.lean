/- Contracts of a new board and a new shop of package rework. No conditions. -/
import Derived.Test.YtpfichbhhpnioaaGreatDoorBoard
import Derived.Maps.Own
import Derived.Maps.OwnOps
namespace Go.Proofs.YtpfichbhhpnioaaGreatDoor
open Go.RowKit Go.Sort Go.Maps

set_option maxHeartbeats 1000000 in
theorem newBoard_any (w : World) : Calls Tryz.prog 181 #[] w fun e w' => e = .returned (.pointer (some ⟨w.heap.size + 1 + 1, 0, none⟩)) ∧ Brd w' (w.heap.size + 1 + 1) 1 0 0 (.map (some w.heap.size)) (.map (some (w.heap.size + 1))) 0 ∧ w'.heap[w.heap.size]? = some (.map #[] 0) ∧ w'.heap[w.heap.size + 1]? = some (.map #[] 0) ∧ Below w.heap.size w w' ∧ w'.heap.size = w.heap.size + 3 := by
  have hmm := @run_makeMap Tryz.prog
  have h1 := blk_old (blk_old (blk_new w (.map #[] 0)) (.map #[] 0)) (.cells #[.int .i64 1, .int .i64 0, .int .i64 0, .map (some w.heap.size), .map (some (w.heap.size + 1)), .int .i64 0] 286)
  have h2 := blk_old (blk_new' (w.alloc (.map #[] 0)) (.map #[] 0) (g := w.heap.size + 1) (by simp)) (.cells #[.int .i64 1, .int .i64 0, .int .i64 0, .map (some w.heap.size), .map (some (w.heap.size + 1)), .int .i64 0] 286)
  have h3 := blk_new' ((w.alloc (.map #[] 0)).alloc (.map #[] 0)) (.cells #[.int .i64 1, .int .i64 0, .int .i64 0, .map (some w.heap.size), .map (some (w.heap.size + 1)), .int .i64 0] 286) (g := w.heap.size + 1 + 1) (by simp)
  have hb := Bl.alloc (Bl.alloc (Bl.alloc (Below.refl w.heap.size w) (.map #[] 0)) (.map #[] 0)) (.cells #[.int .i64 1, .int .i64 0, .int .i64 0, .map (some w.heap.size), .map (some (w.heap.size + 1)), .int .i64 0] 286)
  go_enter Tryz.func181, Tryz.ntmps181
  go_wp2
  go_ret
  exact ⟨rfl, h3, h1, h2, hb, by simp⟩
set_option maxHeartbeats 1000000 in
theorem NewShop_any (rh rr : Int) (w : World) : Calls Tryz.prog 226 #[.agg #[.int .i64 rh, .int .i64 rr]] w fun e w' => e = .returned (.pointer (some ⟨w.heap.size + 1 + 1, 0, none⟩)) ∧ w'.heap[w.heap.size + 1 + 1]? = some (.cells #[.int .i64 rh, .int .i64 rr, .map (some (w.heap.size + 1))] 240 (0, 0)) ∧ w'.heap[w.heap.size + 1]? = some (.map #[] 0) ∧ Below w.heap.size w w' ∧ w'.heap.size = w.heap.size + 3 := by
  have hmm := @run_makeMap Tryz.prog
  have h2 := blk_old (blk_new' (w.alloc (.cells #[.int .i64 rh, .int .i64 rr] 122)) (.map #[] 0) (g := w.heap.size + 1) (by simp)) (.cells #[.int .i64 rh, .int .i64 rr, .map (some (w.heap.size + 1))] 240)
  have h3 := blk_new' ((w.alloc (.cells #[.int .i64 rh, .int .i64 rr] 122)).alloc (.map #[] 0)) (.cells #[.int .i64 rh, .int .i64 rr, .map (some (w.heap.size + 1))] 240) (g := w.heap.size + 1 + 1) (by simp)
  have hb := Bl.alloc (Bl.alloc (Bl.alloc (Below.refl w.heap.size w) (.cells #[.int .i64 rh, .int .i64 rr] 122)) (.map #[] 0)) (.cells #[.int .i64 rh, .int .i64 rr, .map (some (w.heap.size + 1))] 240)
  go_enter Tryz.func226, Tryz.ntmps226
  go_wp2
  go_ret
  exact ⟨rfl, h3, h2, hb, by simp⟩
end Go.Proofs.YtpfichbhhpnioaaGreatDoor
