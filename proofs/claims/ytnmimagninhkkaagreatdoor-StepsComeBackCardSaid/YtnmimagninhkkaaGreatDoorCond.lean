/- The contract of board.condition: the state of a board, and its open components, sorted. Condition: fewer than 2^40 open components. -/
import Derived.Test.YtnmimagninhkkaaGreatDoorFollow
import Derived.Test.YtnmimagninhkkaaGreatDoorIter
import Derived.Deep.RegionHeld3
import Derived.Handy
namespace Go.Proofs.YtnmimagninhkkaaGreatDoor
open Go.RowKit Go.Sort Go.Maps Go.Shelf Go.Lib

theorem keysB_any (gm : Nat) (W : World) : Calls Tryz.prog 239 #[.map (some gm)] W fun e w' => e = .returned (.func (.func 294) #[] #[.pointer (some ⟨W.heap.size, 0, none⟩)]) ∧ w' = W.alloc (.cells #[.map (some gm)] 125) :=
  callsIn_wide.1 (Tryz.maps_Keys_239 (some gm) W)
theorem sortedB_any {H : Type} (b nn : Nat) (D0 : DataW H) (R : Value → Option (DataW H × List MemPlace)) (w : World) (hown : w.ownsMap Tryz.prog 9 R b nn D0) (hmax : Maps.size D0 ≤ 1099511627776) :
    Calls Tryz.prog 146 #[.func (.func 294) #[] #[.pointer (some ⟨w.heap.size, 0, none⟩)]] (w.alloc (.cells #[.map (some b)] 125)) fun e w' => ∃ (v : Value) (ss : List (List UInt8)), e = .returned v ∧ ss.Perm (strKeys D0) ∧
      w'.ownsRow w.heap.size 9 1 v ss.length ((ss.mergeSort (fun x y => decide (x ≤ y))).map encStr) ∧ (v = .slice none 0 0 ↔ ss = []) ∧ Below w.heap.size w w' :=
  (callsIn_wide.1 (Tryz.slices_Sorted_keys_146_239 b nn D0 R w hown (by unfold maxLen; omega) (by omega))).mono fun e w' ⟨v, ss, he, hS, hrow, hnil, hb⟩ =>
    ⟨v, ss, he, hS, ownsRow_base_a hrow (by simp), hnil, ((Below.refl _ w).alloc (Nat.le_refl _) _).trans (hb.mono (by simp))⟩
theorem row_form {w : World} {B : Nat} {e : TypeId} {size : Nat} {v : Value} {n : Nat} {xs : List Value} (h : w.ownsRow B e size v n xs) : ∃ a cap, v = .slice a n cap := by
  rcases h.2 with ⟨rfl, rfl⟩ | ⟨g, cap, cur, rfl, _⟩
  · exact ⟨none, 0, rfl⟩
  · exact ⟨_, cap, rfl⟩
theorem own_far {w : World} {B g : Nat} {e : TypeId} {size : Nat} {v : Value} {n : Nat} {xs : List Value} (h : w.ownsRow B e size v n xs) (hg : g < B) (j : Nat) (u : Value) : (w.setCell ⟨g, j, none⟩ u).ownsRow B e size v n xs := by
  refine ⟨h.1, h.2.imp id ?_⟩
  rintro ⟨b, cap, cur, hv, hb, hc, rest⟩
  exact ⟨b, cap, cur, hv, hb, blk_far hc g j u (by omega), rest⟩
theorem row_base {w : World} {B B' : Nat} {e : TypeId} {size : Nat} {v : Value} {n : Nat} {xs : List Value} (h : w.ownsRow B e size v n xs) (hB : B' ≤ B) : w.ownsRow B' e size v n xs := by
  refine ⟨h.1, h.2.imp id ?_⟩
  rintro ⟨b, cap, cur, hv, hb, rest⟩
  exact ⟨b, cap, cur, hv, Nat.le_trans hB hb, rest⟩
set_option maxHeartbeats 4000000 in
set_option maxRecDepth 100000 in
theorem condition_any {H : Type} (g gm nn : Nat) (st si he lp : Int) (mr : Value) (D0 : DataW H) (R : Value → Option (DataW H × List MemPlace)) (w : World) (hB : Brd w g st si he (.map (some gm)) mr lp) (hown : w.ownsMap Tryz.prog 9 R gm nn D0) (hmax : Maps.size D0 ≤ 1099511627776) :
    Calls Tryz.prog 181 #[.pointer (some ⟨g, 0, none⟩)] w fun e w' => ∃ (v : Value) (ss : List (List UInt8)), e = .returned (.agg #[.int .i64 st, .int .i64 si, .int .i64 he, v]) ∧ ss.Perm (strKeys D0) ∧
      w'.ownsRow w.heap.size 9 1 v ss.length ((ss.mergeSort (fun x y => decide (x ≤ y))).map encStr) ∧ (v = .slice none 0 0 ↔ ss = []) ∧ Below w.heap.size w w' := by
  have lg := blk_lt hB
  have hS := Lib.hid (show ∀ W, Below w.heap.size w W → W.cell? ⟨g, 0, none⟩ = some (.int .i64 st) ∧ W.cell? ⟨g, 1, none⟩ = some (.int .i64 si) ∧ W.cell? ⟨g, 2, none⟩ = some (.int .i64 he) ∧ W.cell? ⟨g, 3, none⟩ = some (.map (some gm)) from fun W hW =>
    have h := blk_below hB hW
    ⟨blk_cell h 0, blk_cell h 1, blk_cell h 2, blk_cell h 3⟩)
  have hso := Lib.hid (show ∀ W, Below w.heap.size w W → Calls Tryz.prog 146 #[.func (.func 294) #[] #[.pointer (some ⟨W.heap.size, 0, none⟩)]] (W.alloc (.cells #[.map (some gm)] 125)) fun e w' => ∃ (v : Value) (ss : List (List UInt8)), e = .returned v ∧ ss.Perm (strKeys D0) ∧
      w'.ownsRow W.heap.size 9 1 v ss.length ((ss.mergeSort (fun x y => decide (x ≤ y))).map encStr) ∧ (v = .slice none 0 0 ↔ ss = []) ∧ Below W.heap.size W w' from fun W hW =>
    sortedB_any gm nn D0 R W (hown.kept (Gr.of_below hW none) (by simp)) hmax)
  have hb0 := Bl.alloc (Below.refl w.heap.size w) (.cells #[.int .i64 0, .int .i64 0, .int .i64 0, .slice none 0 0] 46)
  have hC0 := blk_new w (.cells #[.int .i64 0, .int .i64 0, .int .i64 0, .slice none 0 0] 46)
  clear hB hown
  go_enter Tryz.func181, Tryz.ntmps181
  go_wp2
  generalize w.alloc (.cells #[.int .i64 0, .int .i64 0, .int .i64 0, .slice none 0 0] 46) = w1 at *
  have lw := blk_lt hC0
  have hso1 := Lib.hid (hso.out w1.drew (Below.drew hb0))
  have f0 := blk_free hC0 0
  have f1 := blk_free hC0 1
  have f2 := blk_free hC0 2
  have f3 := blk_free hC0 3
  clear hso
  go_region_held3 (fun W : World => W.cell? ⟨g, 0, none⟩ = some (.int .i64 st) ∧ W.cell? ⟨g, 1, none⟩ = some (.int .i64 si) ∧ W.cell? ⟨g, 2, none⟩ = some (.int .i64 he) ∧ W.cell? ⟨g, 3, none⟩ = some (.map (some gm)))
    (first | exact hS.out _ hb0 | exact hS.out _ (Below.drew hb0) | exact hS.out _ (Below.drew (Bl.alloc hb0 _)) | exact hS.out _ hb2 | exact hS.out _ (Bl.set (Bl.set (Bl.set (Bl.set hb2 _ 0 (Nat.le_refl _) _) _ 1 (Nat.le_refl _) _) _ 2 (Nat.le_refl _) _) _ 3 (Nat.le_refl _) _))
    (first
      | (go_at_call 239; refine (keysB_any gm _).mono ?_; rintro e w1 ⟨rfl, rfl⟩)
      | (go_at_call 146; refine hso1.out.mono ?_; rintro e w2 ⟨v, ss, rfl, h1, h2, h3, h4⟩; obtain ⟨va, vc, rfl⟩ := row_form h2; have hb2 := Bl.trans (Below.drew hb0) h4; have hC2 := blk_below (show w1.drew.heap[w.heap.size]? = _ from hC0) h4; have g0 := blk_free hC2 0; have g1 := blk_free hC2 1; have g2 := blk_free hC2 2; have g3 := blk_free hC2 3; have k0 : w2.cell? ⟨w.heap.size, 0, none⟩ = some (.int .i64 0) := blk_cell hC2 0; have k1 : w2.cell? ⟨w.heap.size, 1, none⟩ = some (.int .i64 0) := blk_cell hC2 1; have k2 : w2.cell? ⟨w.heap.size, 2, none⟩ = some (.int .i64 0) := blk_cell hC2 2; have k3 : w2.cell? ⟨w.heap.size, 3, none⟩ = some (.slice none 0 0) := blk_cell hC2 3))
  all_goals (
    have hC3 := blk_set (blk_set (blk_set (blk_set hC2 0 (.int .i64 st)) 1 (.int .i64 si)) 2 (.int .i64 he)) 3 (.slice va ss.length vc)
    have hb3 := Bl.set (Bl.set (Bl.set (Bl.set hb2 _ 0 (Nat.le_refl _) (.int .i64 st)) _ 1 (Nat.le_refl _) (.int .i64 si)) _ 2 (Nat.le_refl _) (.int .i64 he)) _ 3 (Nat.le_refl _) (.slice va ss.length vc)
    have h5 := own_far (own_far (own_far (own_far h2 (show w.heap.size < _ from lw) 0 (.int .i64 st)) lw 1 (.int .i64 si)) lw 2 (.int .i64 he)) lw 3 (.slice va ss.length vc)
    generalize (((w2.setCell ⟨w.heap.size, 0, none⟩ (.int .i64 st)).setCell ⟨w.heap.size, 1, none⟩ (.int .i64 si)).setCell ⟨w.heap.size, 2, none⟩ (.int .i64 he)).setCell ⟨w.heap.size, 3, none⟩ (.slice va ss.length vc) = w3 at *
    have r0 : w3.cell? ⟨w.heap.size, 0, none⟩ = some (.int .i64 st) := blk_cell hC3 0
    have r1 : w3.cell? ⟨w.heap.size, 1, none⟩ = some (.int .i64 si) := blk_cell hC3 1
    have r2 : w3.cell? ⟨w.heap.size, 2, none⟩ = some (.int .i64 he) := blk_cell hC3 2
    have r3 : w3.cell? ⟨w.heap.size, 3, none⟩ = some (.slice va ss.length vc) := blk_cell hC3 3
    go_wp2
    refine bodyPost_ret (v := .agg #[.int .i64 st, .int .i64 si, .int .i64 he, .slice va ss.length vc]) (by simp [results, Tryz.results181, go_sem, r0, r1, r2, r3]) rfl ?_
    exact ⟨_, ss, rfl, h1, row_base h5 (Nat.le_of_lt lw), h3, hb3⟩)
end Go.Proofs.YtnmimagninhkkaaGreatDoor
