/- Contracts of a board of package rework: become, and do at a reflow. No conditions. · Contracts of a new board and a new shop of package rework. No conditions. · Maps from strings to boards (pointers) in memory: look-ups and stores. No conditions. · The contract of Shop.Do at the first step of a shop: a reflow. Conditions: a short name. -/
import Derived.Test.YtnmimagninhkkaaGreatDoorKey
import Derived.Maps.Own
import Derived.Maps.OwnOps
import Derived.StringKeys
namespace Go.Proofs.YtnmimagninhkkaaGreatDoor
open Go.RowKit Go.Sort

/-- a board in memory. -/
def Brd (w : World) (g : Nat) (st si he : Int) (mo mr : Value) (lp : Int) : Prop := w.heap[g]? = some (.cells #[.int .i64 st, .int .i64 si, .int .i64 he, mo, mr, .int .i64 lp] 128 (0, 0))
/-- since when a board is in its state. -/
def becA (st state si at' : Int) : Int := if st = state then si else at'
set_option maxHeartbeats 1000000 in
theorem become_any (g : Nat) (st si he lp state at' : Int) (mo mr : Value) (w : World) (hB : Brd w g st si he mo mr lp) :
    Calls Tryz.prog 236 #[.pointer (some ⟨g, 0, none⟩), .int .i64 state, .int .i64 at'] w fun e w' => e = .returned (.tuple #[]) ∧ Brd w' g state (becA st state si at') he mo mr lp ∧ w.grownBy w' (some g) := by
  have c0 : w.cell? ⟨g, 0, none⟩ = some (.int .i64 st) := blk_cell hB 0
  have c1 : w.cell? ⟨g, 1, none⟩ = some (.int .i64 si) := blk_cell hB 1
  have f0 := blk_free hB 0
  have f1 := blk_free hB 1
  by_cases hs : st = state
  · have hne : (st != state) = false := by simpa using hs
    have HB := Lib.hid hB
    have HS := Lib.hid hs
    clear hs hB
    go_enter Tryz.func236, Tryz.ntmps236
    go_wp2
    go_end0
    refine ⟨rfl, ?_, Gr.refl _ _⟩
    have h := HB.out
    rw [show becA st state si at' = si from if_pos HS.out, ← HS.out]
    exact h
  · have hne : (st != state) = true := by simpa using hs
    have h1 := blk_set hB 0 (.int .i64 state)
    have c1' : (w.setCell ⟨g, 0, none⟩ (.int .i64 state)).cell? ⟨g, 1, none⟩ = some (.int .i64 si) := blk_cell h1 1
    have f1' := blk_free h1 1
    have h2 := blk_set h1 1 (.int .i64 at')
    have HB := Lib.hid h2
    have HS := Lib.hid hs
    have hg := Gr.set (Gr.set (Gr.refl w (some g)) g 0 (.inl rfl) (.int .i64 state)) g 1 (.inl rfl) (.int .i64 at')
    clear hs hB h1 h2
    go_enter Tryz.func236, Tryz.ntmps236
    go_wp2
    go_end0
    refine ⟨rfl, ?_, hg⟩
    rw [show becA st state si at' = at' from if_neg HS.out]
    exact HB.out
set_option maxHeartbeats 1000000 in
theorem do_reflow (g : Nat) (st si he lp at' : Int) (mo mr : Value) (bs cs : ByteArray) (w : World) (hB : Brd w g st si he mo mr lp) (h0 : 0 ≤ he) (h1 : he ≤ 1000000) :
    Calls Tryz.prog 176 #[.pointer (some ⟨g, 0, none⟩), .agg #[.int .i64 at', .string bs, .int .i64 1, .string cs]] w fun e w' => e = .returned (.tuple #[]) ∧ Brd w' g 2 (becA st 2 si at') (he + 1) mo mr lp ∧ w.grownBy w' (some g) := by
  have lg := blk_lt hB
  have hg1 := Gr.alloc (Gr.set (Gr.refl w (some g)) g 2 (.inl rfl) (.int .i64 (he + 1))) (.cells #[.int .i64 at', .string bs, .int .i64 1, .string cs] 34)
  have c2 : w.cell? ⟨g, 2, none⟩ = some (.int .i64 he) := blk_cell hB 2
  have f2 := blk_free hB 2
  have H2 : Hid (Brd ((w.setCell ⟨g, 2, none⟩ (.int .i64 (he + 1))).alloc (.cells #[.int .i64 at', .string bs, .int .i64 1, .string cs] 34)) g st si (he + 1) mo mr lp) := Lib.hid (blk_old (blk_set hB 2 (.int .i64 (he + 1))) (.cells #[.int .i64 at', .string bs, .int .i64 1, .string cs] 34))
  clear hB
  go_enter Tryz.func176, Tryz.ntmps176
  go_wp2_with fail
  refine (become_any g st si (he + 1) lp 2 at' mo mr _ H2.out).mono ?_
  rintro e w2 ⟨rfl, hb2, hg2⟩
  go_wp2
  go_end0
  exact ⟨rfl, hb2, Gr.trans hg1 hg2⟩
set_option maxHeartbeats 1000000 in
theorem refusal_reflow (g : Nat) (st si he lp at' rh rr : Int) (mo mr : Value) (bs cs : ByteArray) (w : World) (hB : Brd w g st si he mo mr lp) (hst : st = 1 ∨ st = 2) (hh : he < rh) :
    Calls Tryz.prog 175 #[.pointer (some ⟨g, 0, none⟩), .agg #[.int .i64 rh, .int .i64 rr], .agg #[.int .i64 at', .string bs, .int .i64 1, .string cs]] w fun e w' => e = .returned (.int .i64 0) ∧ Below w.heap.size w w' := by
  have lg := blk_lt hB
  have hb0 := Bl.alloc (Bl.alloc (Below.refl w.heap.size w) (.cells #[.int .i64 rh, .int .i64 rr] 27)) (.cells #[.int .i64 at', .string bs, .int .i64 1, .string cs] 34)
  have c0 : w.cell? ⟨g, 0, none⟩ = some (.int .i64 st) := blk_cell hB 0
  have c2 : w.cell? ⟨g, 2, none⟩ = some (.int .i64 he) := blk_cell hB 2
  clear hB
  rcases hst with rfl | rfl
  all_goals (
    go_enter Tryz.func175, Tryz.ntmps175
    go_wp2
    go_region
    go_wp2
    go_ret
    exact ⟨rfl, Below.drew hb0⟩)
end Go.Proofs.YtnmimagninhkkaaGreatDoor
namespace Go.Proofs.YtnmimagninhkkaaGreatDoor
open Go.RowKit Go.Sort Go.Maps

set_option maxHeartbeats 1000000 in
theorem newBoard_any (w : World) : Calls Tryz.prog 174 #[] w fun e w' => e = .returned (.pointer (some ⟨w.heap.size + 1 + 1, 0, none⟩)) ∧ Brd w' (w.heap.size + 1 + 1) 1 0 0 (.map (some w.heap.size)) (.map (some (w.heap.size + 1))) 0 ∧ w'.heap[w.heap.size]? = some (.map #[] 0) ∧ w'.heap[w.heap.size + 1]? = some (.map #[] 0) ∧ Below w.heap.size w w' ∧ w'.heap.size = w.heap.size + 3 := by
  have hmm := @run_makeMap Tryz.prog
  have h1 := blk_old (blk_old (blk_new w (.map #[] 0)) (.map #[] 0)) (.cells #[.int .i64 1, .int .i64 0, .int .i64 0, .map (some w.heap.size), .map (some (w.heap.size + 1)), .int .i64 0] 128)
  have h2 := blk_old (blk_new' (w.alloc (.map #[] 0)) (.map #[] 0) (g := w.heap.size + 1) (by simp)) (.cells #[.int .i64 1, .int .i64 0, .int .i64 0, .map (some w.heap.size), .map (some (w.heap.size + 1)), .int .i64 0] 128)
  have h3 := blk_new' ((w.alloc (.map #[] 0)).alloc (.map #[] 0)) (.cells #[.int .i64 1, .int .i64 0, .int .i64 0, .map (some w.heap.size), .map (some (w.heap.size + 1)), .int .i64 0] 128) (g := w.heap.size + 1 + 1) (by simp)
  have hb := Bl.alloc (Bl.alloc (Bl.alloc (Below.refl w.heap.size w) (.map #[] 0)) (.map #[] 0)) (.cells #[.int .i64 1, .int .i64 0, .int .i64 0, .map (some w.heap.size), .map (some (w.heap.size + 1)), .int .i64 0] 128)
  go_enter Tryz.func174, Tryz.ntmps174
  go_wp2
  go_ret
  exact ⟨rfl, h3, h1, h2, hb, by simp⟩
set_option maxHeartbeats 1000000 in
theorem NewShop_any (rh rr : Int) (w : World) : Calls Tryz.prog 86 #[.agg #[.int .i64 rh, .int .i64 rr]] w fun e w' => e = .returned (.pointer (some ⟨w.heap.size + 1 + 1, 0, none⟩)) ∧ w'.heap[w.heap.size + 1 + 1]? = some (.cells #[.int .i64 rh, .int .i64 rr, .map (some (w.heap.size + 1))] 132 (0, 0)) ∧ w'.heap[w.heap.size + 1]? = some (.map #[] 0) ∧ Below w.heap.size w w' ∧ w'.heap.size = w.heap.size + 3 := by
  have hmm := @run_makeMap Tryz.prog
  have h2 := blk_old (blk_new' (w.alloc (.cells #[.int .i64 rh, .int .i64 rr] 27)) (.map #[] 0) (g := w.heap.size + 1) (by simp)) (.cells #[.int .i64 rh, .int .i64 rr, .map (some (w.heap.size + 1))] 132)
  have h3 := blk_new' ((w.alloc (.cells #[.int .i64 rh, .int .i64 rr] 27)).alloc (.map #[] 0)) (.cells #[.int .i64 rh, .int .i64 rr, .map (some (w.heap.size + 1))] 132) (g := w.heap.size + 1 + 1) (by simp)
  have hb := Bl.alloc (Bl.alloc (Bl.alloc (Below.refl w.heap.size w) (.cells #[.int .i64 rh, .int .i64 rr] 27)) (.map #[] 0)) (.cells #[.int .i64 rh, .int .i64 rr, .map (some (w.heap.size + 1))] 132)
  go_enter Tryz.func86, Tryz.ntmps86
  go_wp2
  go_ret
  exact ⟨rfl, h3, h2, hb, by simp⟩
end Go.Proofs.YtnmimagninhkkaaGreatDoor
namespace Go.Proofs.YtnmimagninhkkaaGreatDoor
open Go.RowKit Go.Sort Go.Maps

/-- a pointer to a whole block, as a number; nil. -/
def ptrE : Value → Option (DataW Unit × List MemPlace)
  | .pointer none => some (.nil, [])
  | .pointer (some ⟨g, 0, none⟩) => some (.lit (.int .i64 g), [])
  | _ => none
theorem ptrE_nil {v : Value} {ps : List MemPlace} (h : ptrE v = some (.nil, ps)) : v = .pointer none := by
  unfold ptrE at h
  split at h
  · rfl
  · simp at h
  · cases h
theorem ptrE_at {v : Value} {g : Nat} {ps : List MemPlace} (h : ptrE v = some (.lit (.int .i64 g), ps)) : v = .pointer (some ⟨g, 0, none⟩) := by
  unfold ptrE at h
  split at h
  · simp at h
  · simp at h
    obtain ⟨h, _⟩ := h
    have h2 := Int.ofNat.inj h
    subst h2; rfl
  · cases h
theorem strK : Keyed Tryz.prog 9 := string_keyed Tryz.underlying9
theorem zeroB (w : World) : (zeroValue 129).run Tryz.prog w = .ok (.pointer none) w := by kernel_rfl
abbrev Boards (w : World) (b n : Nat) (D : DataW Unit) : Prop := w.ownsMap Tryz.prog 9 ptrE b n D
set_option maxRecDepth 100000 in
theorem look_none {w : World} {b n : Nat} {D : DataW Unit} (h : Boards w b n D) (s : ByteArray) (hs : s.size ≤ maxLen) (hD : D.atKey (.string s.data.toList) .nil = .nil) : (Instr.lookup 130 (.map (some b)) (.string s) false).run Tryz.prog w = .ok (.pointer none) w := by
  obtain ⟨v, ps, hrun, hv⟩ := h.lookup strK Tryz.underlying130 (zeroB w) (zd := .nil) (zp := []) rfl (Go.WideMaps.keyOf_string_mk (s := s) Tryz.underlying9 hs)
  rw [hD] at hv
  rw [ptrE_nil hv] at hrun
  exact hrun
set_option maxRecDepth 100000 in
theorem look_some {w : World} {b n g : Nat} {D : DataW Unit} (h : Boards w b n D) (s : ByteArray) (hs : s.size ≤ maxLen) (hD : D.atKey (.string s.data.toList) .nil = .lit (.int .i64 g)) : (Instr.lookup 130 (.map (some b)) (.string s) false).run Tryz.prog w = .ok (.pointer (some ⟨g, 0, none⟩)) w := by
  obtain ⟨v, ps, hrun, hv⟩ := h.lookup strK Tryz.underlying130 (zeroB w) (zd := .nil) (zp := []) rfl (Go.WideMaps.keyOf_string_mk (s := s) Tryz.underlying9 hs)
  rw [hD] at hv
  rw [ptrE_at hv] at hrun
  exact hrun
set_option maxRecDepth 100000 in
theorem store_board {w : World} {b n : Nat} {D : DataW Unit} (h : Boards w b n D) (hn : n < maxLen) (s : ByteArray) (hs : s.size ≤ maxLen) (g : Nat) :
    ∃ w', (Instr.mapUpdate 130 (.map (some b)) (.string s) (.pointer (some ⟨g, 0, none⟩))).run Tryz.prog w = .ok () w' ∧ Boards w' b (n + 1) (D.put (.string s.data.toList) (.lit (.int .i64 g))) ∧ w.grownBy w' (some b) :=
  h.update strK Tryz.underlying130 hn (Go.WideMaps.keyOf_string_mk (s := s) Tryz.underlying9 hs) (show ptrE (.pointer (some ⟨g, 0, none⟩)) = some (.lit (.int .i64 g), []) from rfl)
end Go.Proofs.YtnmimagninhkkaaGreatDoor
namespace Go.Proofs.YtnmimagninhkkaaGreatDoor
open Go.RowKit Go.Sort Go.Maps

set_option maxHeartbeats 2000000 in
set_option maxRecDepth 100000 in
theorem Do_first (S mb : Nat) (rh rr at' : Int) (bs cs : ByteArray) (w : World) (hS : w.heap[S]? = some (.cells #[.int .i64 rh, .int .i64 rr, .map (some mb)] 132 (0, 0))) (hM : Boards w mb 0 (.map [])) (hbs : bs.size ≤ 1000) (hrh : 0 < rh) :
    Calls Tryz.prog 87 #[.pointer (some ⟨S, 0, none⟩), .agg #[.int .i64 at', .string bs, .int .i64 1, .string cs]] w fun e w' => e = .returned (.int .i64 0) ∧ ∃ g : Nat, w'.heap[S]? = some (.cells #[.int .i64 rh, .int .i64 rr, .map (some mb)] 132 (0, 0)) ∧ Boards w' mb 1 (.map [(.string bs.data.toList, .lit (.int .i64 g))]) ∧
      Brd w' g 2 at' 1 (.map (some (g - 2))) (.map (some (g - 1))) 0 ∧ w'.heap[g - 2]? = some (.map #[] 0) ∧ Below mb w w' := by
  have lS := blk_lt hS
  have lM := hM.lt
  have hms : bs.size ≤ maxLen := by unfold maxLen; omega
  have c2 : w.cell? ⟨S, 2, none⟩ = some (.map (some mb)) := blk_cell hS 2
  have hl0 := look_none (hM.alloc (.cells #[.int .i64 at', .string bs, .int .i64 1, .string cs] 34)) bs hms rfl
  have hl1 := look_none ((hM.alloc (.cells #[.int .i64 at', .string bs, .int .i64 1, .string cs] 34)).drew) bs hms rfl
  go_enter Tryz.func87, Tryz.ntmps87
  go_wp2
  go_region
  go_wp2_with fail
  have hne : S ≠ mb := by
    rintro rfl
    obtain ⟨es, clock, hb, _⟩ := hM
    rw [hS] at hb
    cases hb
  have hS1 : (w.alloc (.cells #[.int .i64 at', .string bs, .int .i64 1, .string cs] 34)).drew.heap[S]? = _ := blk_old hS (.cells #[.int .i64 at', .string bs, .int .i64 1, .string cs] 34)
  have hX1 : (w.alloc (.cells #[.int .i64 at', .string bs, .int .i64 1, .string cs] 34)).drew.heap[w.heap.size]? = _ := blk_new w (.cells #[.int .i64 at', .string bs, .int .i64 1, .string cs] 34)
  have hM1 : Boards (w.alloc (.cells #[.int .i64 at', .string bs, .int .i64 1, .string cs] 34)).drew mb 0 (.map []) := (hM.alloc (.cells #[.int .i64 at', .string bs, .int .i64 1, .string cs] 34)).drew
  have hb1 : Below mb w (w.alloc (.cells #[.int .i64 at', .string bs, .int .i64 1, .string cs] 34)).drew := Below.drew (Below.alloc (Below.refl _ _) (by omega) (.cells #[.int .i64 at', .string bs, .int .i64 1, .string cs] 34))
  have hz1 : w.heap.size < (w.alloc (.cells #[.int .i64 at', .string bs, .int .i64 1, .string cs] 34)).drew.heap.size := by show w.heap.size < (w.alloc (.cells #[.int .i64 at', .string bs, .int .i64 1, .string cs] 34)).heap.size; simp
  generalize (w.alloc (.cells #[.int .i64 at', .string bs, .int .i64 1, .string cs] 34)).drew = w1 at *
  refine (newBoard_any w1).mono ?_
  rintro e w2 ⟨rfl, hB2, hm1, _, hb2, hz2e⟩
  have hz2 : w1.heap.size + 1 + 1 < w2.heap.size := by omega
  clear hz2e
  have hS2 := blk_below hS1 hb2
  have hX2 := blk_below hX1 hb2
  have hM2 : Boards w2 mb 0 (.map []) := hM1.kept (Gr.of_below hb2 none) (by simp)
  obtain ⟨w3, hrun3, hM3, hg3⟩ := store_board hM2.drew (by unfold maxLen; omega) bs hms (w1.heap.size + 1 + 1)
  have c3 : w2.cell? ⟨S, 2, none⟩ = some (.map (some mb)) := blk_cell hS2 2
  have x3 : w2.cell? ⟨w.heap.size, 1, none⟩ = some (.string bs) := blk_cell hX2 1
  go_wp2
  go_region
  have hS3 := Gr.blk hg3 (show w2.drew.heap[S]? = _ from hS2) hne
  have hX3 := Gr.blk hg3 (show w2.drew.heap[w.heap.size]? = _ from hX2) (by omega)
  have hB3 : Brd w3 _ _ _ _ _ _ _ := Gr.blk hg3 (show w2.drew.heap[w1.heap.size + 1 + 1]? = _ from hB2) (by omega)
  have hm3 := Gr.blk hg3 (show w2.drew.heap[w1.heap.size]? = _ from hm1) (by omega)
  have hb3 : Below mb w w3 := Below.trans (Below.trans hb1 (hb2.mono (by omega))) (Gr.below (show w2.grownBy w3 (some mb) from ⟨hg3.os, hg3.tape, hg3.output, hg3.size, hg3.block⟩) (Nat.le_refl _) (by omega))
  obtain ⟨r0, r1, _⟩ : w3.cell? ⟨S, 0, none⟩ = some (.int .i64 rh) ∧ w3.cell? ⟨S, 1, none⟩ = some (.int .i64 rr) ∧ True := ⟨blk_cell hS3 0, blk_cell hS3 1, trivial⟩
  have s0 : w3.cell? ⟨w.heap.size, 0, none⟩ = some (.int .i64 at') := blk_cell hX3 0
  have s1 : w3.cell? ⟨w.heap.size, 1, none⟩ = some (.string bs) := blk_cell hX3 1
  have s2 : w3.cell? ⟨w.heap.size, 2, none⟩ = some (.int .i64 1) := blk_cell hX3 2
  have s3 : w3.cell? ⟨w.heap.size, 3, none⟩ = some (.string cs) := blk_cell hX3 3
  have e1 := cell_regrown r0
  have e2 := cell_regrown r1
  have e3 := cell_regrown s0
  have e4 := cell_regrown s1
  have e5 := cell_regrown s2
  have e6 := cell_regrown s3
  have HREF := Lib.hid (fun (d : Nat) (os : Array Obj) => Calls.regrown_of (w := w3) (d := d) (os := os) (refusal_reflow (w1.heap.size + 1 + 1) 1 0 0 0 at' rh rr (.map (some w1.heap.size)) (.map (some (w1.heap.size + 1))) bs cs _ (blk_below hB3 (below_regrown w3 d os)) (.inl rfl) hrh))
  go_wp2
  refine wp_region_quiet_below (by kernel_rfl) (by kernel_rfl) ?_
  repeat (go_big_quiet_step ((go_at_call 175; exact HREF.out _ _)))
  refine wpQuiet_nil ?_
  intro w4 hw'
  obtain ⟨⟨dq, osq⟩, hw''⟩ := hw'
  have hb4 : Below w3.heap.size w3 w4 := hw'' ▸ below_regrown w3 dq osq
  clear hw'' e1 e2 e3 e4 e5 e6 HREF r0 r1 s0 s1 s2 s3
  have hX4 := blk_below hX3 hb4
  have hB4 : Brd w4 (w1.heap.size + 1 + 1) 1 0 0 (.map (some w1.heap.size)) (.map (some (w1.heap.size + 1))) 0 := blk_below hB3 hb4
  have s0 : w4.cell? ⟨w.heap.size, 0, none⟩ = some (.int .i64 at') := blk_cell hX4 0
  have s1 : w4.cell? ⟨w.heap.size, 1, none⟩ = some (.string bs) := blk_cell hX4 1
  have s2 : w4.cell? ⟨w.heap.size, 2, none⟩ = some (.int .i64 1) := blk_cell hX4 2
  have s3 : w4.cell? ⟨w.heap.size, 3, none⟩ = some (.string cs) := blk_cell hX4 3
  go_wp2_with fail
  refine (do_reflow (w1.heap.size + 1 + 1) 1 0 0 0 at' _ _ bs cs _ hB4 (by omega) (by omega)).mono ?_
  rintro e w5 ⟨rfl, hB5, hg5⟩
  have hlt3 : w2.heap.size ≤ w3.heap.size := hg3.size
  have hS5 := Gr.blk hg5 (blk_below hS3 hb4) (by omega)
  have hm5 := Gr.blk hg5 (blk_below hm3 hb4) (by omega)
  have hM5 : Boards w5 mb 1 ((DataW.map []).put (.string bs.data.toList) (.lit (.int .i64 ((w1.heap.size + 1 + 1 : Nat) : Int)))) := (hM3.kept (Gr.of_below hb4 none) (by simp)).kept hg5 (by intro h; injection h with h; omega)
  have hb5 : Below mb w w5 := Below.trans (Below.trans hb3 (hb4.mono (by omega))) (Gr.below hg5 (by omega) (by have := hb4.size; omega))
  clear hB4 hX4 hS3 hX3 hB3 hm3 hM3 hg3 hg5 hb3 hb4
  go_wp2
  go_ret
  exact ⟨rfl, w1.heap.size + 1 + 1, hS5, hM5, hB5, hm5, hb5⟩
end Go.Proofs.YtnmimagninhkkaaGreatDoor
