/- Texts of the proof of a law, put together, part 38 of 41. Conditions: none beyond those that each theorem names. -/
import Derived.Test.YtihgnpobkpnipaaGreatDoorQz11
import Derived.Test.YtihgnpobkpnipaaGreatDoorQz33
import Derived.Maps.Own
import Derived.Maps.OwnOps
import Derived.StringKeys
import Derived.Deep.RegionHeld3
import Derived.Handy
namespace Go.Proofs.YtihgnpobkpnipaaGreatDoor
open Go.RowKit Go.Sort
/-- a board in memory. -/
def Brd (w : World) (g : Nat) (st si he : Int) (mo mr : Value) (lp : Int) : Prop := w.heap[g]? = some (.cells #[.int .i64 st, .int .i64 si, .int .i64 he, mo, mr, .int .i64 lp] 225 (0, 0))
/-- since when a board is in its state. -/
def becA (st state si at' : Int) : Int := if st = state then si else at'
set_option maxHeartbeats 1000000 in
theorem become_any (g : Nat) (st si he lp state at' : Int) (mo mr : Value) (w : World) (hB : Brd w g st si he mo mr lp) :
    Calls Tryz.prog 214 #[.pointer (some ⟨g, 0, none⟩), .int .i64 state, .int .i64 at'] w fun e w' => e = .returned (.tuple #[]) ∧ Brd w' g state (becA st state si at') he mo mr lp ∧ w.grownBy w' (some g) := by
  have c0 : w.cell? ⟨g, 0, none⟩ = some (.int .i64 st) := blk_cell hB 0
  have c1 : w.cell? ⟨g, 1, none⟩ = some (.int .i64 si) := blk_cell hB 1
  have f0 := blk_free hB 0
  have f1 := blk_free hB 1
  by_cases hs : st = state
  · have hne : (st != state) = false := by simpa using hs
    have HB := Lib.hid hB
    have HS := Lib.hid hs
    clear hs hB
    go_enter Tryz.func214, Tryz.ntmps214
    go_wp2
    go_end0
    refine ⟨rfl, ?_, Gr.refl _ _⟩
    have h := HB.out
    rw [show becA st state si at' = si from if_pos HS.out, ← HS.out]
    exact h
  · have hne : (st != state) = true := by simpa using hs
    have h1 := blk_set hB 0 (.int .i64 state)
    have c1' : (w.setCell ⟨g, 0, none⟩ (.int .i64 state)).cell? ⟨g, 1, none⟩ = some (.int .i64 si) := blk_cell h1 1
    have f1' := blk_free h1 1
    have h2 := blk_set h1 1 (.int .i64 at')
    have HB := Lib.hid h2
    have HS := Lib.hid hs
    have hg := Gr.set (Gr.set (Gr.refl w (some g)) g 0 (.inl rfl) (.int .i64 state)) g 1 (.inl rfl) (.int .i64 at')
    clear hs hB h1 h2
    go_enter Tryz.func214, Tryz.ntmps214
    go_wp2
    go_end0
    refine ⟨rfl, ?_, hg⟩
    rw [show becA st state si at' = at' from if_neg HS.out]
    exact HB.out
set_option maxHeartbeats 1000000 in
theorem do_reflow (g : Nat) (st si he lp at' : Int) (mo mr : Value) (bs cs : ByteArray) (w : World) (hB : Brd w g st si he mo mr lp) (h0 : 0 ≤ he) (h1 : he ≤ 1000000) :
    Calls Tryz.prog 203 #[.pointer (some ⟨g, 0, none⟩), .agg #[.int .i64 at', .string bs, .int .i64 1, .string cs]] w fun e w' => e = .returned (.tuple #[]) ∧ Brd w' g 2 (becA st 2 si at') (he + 1) mo mr lp ∧ w.grownBy w' (some g) := by
  have lg := blk_lt hB
  have hg1 := Gr.alloc (Gr.set (Gr.refl w (some g)) g 2 (.inl rfl) (.int .i64 (he + 1))) (.cells #[.int .i64 at', .string bs, .int .i64 1, .string cs] 121)
  have c2 : w.cell? ⟨g, 2, none⟩ = some (.int .i64 he) := blk_cell hB 2
  have f2 := blk_free hB 2
  have H2 : Hid (Brd ((w.setCell ⟨g, 2, none⟩ (.int .i64 (he + 1))).alloc (.cells #[.int .i64 at', .string bs, .int .i64 1, .string cs] 121)) g st si (he + 1) mo mr lp) := Lib.hid (blk_old (blk_set hB 2 (.int .i64 (he + 1))) (.cells #[.int .i64 at', .string bs, .int .i64 1, .string cs] 121))
  clear hB
  go_enter Tryz.func203, Tryz.ntmps203
  go_wp2_with fail
  refine (become_any g st si (he + 1) lp 2 at' mo mr _ H2.out).mono ?_
  rintro e w2 ⟨rfl, hb2, hg2⟩
  go_wp2
  go_end0
  exact ⟨rfl, hb2, Gr.trans hg1 hg2⟩
set_option maxHeartbeats 1000000 in
theorem refusal_reflow (g : Nat) (st si he lp at' rh rr : Int) (mo mr : Value) (bs cs : ByteArray) (w : World) (hB : Brd w g st si he mo mr lp) (hst : st = 1 ∨ st = 2) (hh : he < rh) :
    Calls Tryz.prog 202 #[.pointer (some ⟨g, 0, none⟩), .agg #[.int .i64 rh, .int .i64 rr], .agg #[.int .i64 at', .string bs, .int .i64 1, .string cs]] w fun e w' => e = .returned (.int .i64 0) ∧ Below w.heap.size w w' := by
  have lg := blk_lt hB
  have hb0 := Bl.alloc (Bl.alloc (Below.refl w.heap.size w) (.cells #[.int .i64 rh, .int .i64 rr] 119)) (.cells #[.int .i64 at', .string bs, .int .i64 1, .string cs] 121)
  have c0 : w.cell? ⟨g, 0, none⟩ = some (.int .i64 st) := blk_cell hB 0
  have c2 : w.cell? ⟨g, 2, none⟩ = some (.int .i64 he) := blk_cell hB 2
  clear hB
  rcases hst with rfl | rfl
  all_goals (
    go_enter Tryz.func202, Tryz.ntmps202
    go_wp2
    go_region
    go_wp2
    go_ret
    exact ⟨rfl, Below.drew hb0⟩)
end Go.Proofs.YtihgnpobkpnipaaGreatDoor
namespace Go.Proofs.YtihgnpobkpnipaaGreatDoor
open Go.RowKit Go.Sort Go.Maps
set_option maxHeartbeats 1000000 in
theorem newBoard_any (w : World) : Calls Tryz.prog 135 #[] w fun e w' => e = .returned (.pointer (some ⟨w.heap.size + 1 + 1, 0, none⟩)) ∧ Brd w' (w.heap.size + 1 + 1) 1 0 0 (.map (some w.heap.size)) (.map (some (w.heap.size + 1))) 0 ∧ w'.heap[w.heap.size]? = some (.map #[] 0) ∧ w'.heap[w.heap.size + 1]? = some (.map #[] 0) ∧ Below w.heap.size w w' ∧ w'.heap.size = w.heap.size + 3 := by
  have hmm := @run_makeMap Tryz.prog
  have h1 := blk_old (blk_old (blk_new w (.map #[] 0)) (.map #[] 0)) (.cells #[.int .i64 1, .int .i64 0, .int .i64 0, .map (some w.heap.size), .map (some (w.heap.size + 1)), .int .i64 0] 225)
  have h2 := blk_old (blk_new' (w.alloc (.map #[] 0)) (.map #[] 0) (g := w.heap.size + 1) (by simp)) (.cells #[.int .i64 1, .int .i64 0, .int .i64 0, .map (some w.heap.size), .map (some (w.heap.size + 1)), .int .i64 0] 225)
  have h3 := blk_new' ((w.alloc (.map #[] 0)).alloc (.map #[] 0)) (.cells #[.int .i64 1, .int .i64 0, .int .i64 0, .map (some w.heap.size), .map (some (w.heap.size + 1)), .int .i64 0] 225) (g := w.heap.size + 1 + 1) (by simp)
  have hb := Bl.alloc (Bl.alloc (Bl.alloc (Below.refl w.heap.size w) (.map #[] 0)) (.map #[] 0)) (.cells #[.int .i64 1, .int .i64 0, .int .i64 0, .map (some w.heap.size), .map (some (w.heap.size + 1)), .int .i64 0] 225)
  go_enter Tryz.func135, Tryz.ntmps135
  go_wp2
  go_ret
  exact ⟨rfl, h3, h1, h2, hb, by simp⟩
set_option maxHeartbeats 1000000 in
theorem NewShop_any (rh rr : Int) (w : World) : Calls Tryz.prog 174 #[.agg #[.int .i64 rh, .int .i64 rr]] w fun e w' => e = .returned (.pointer (some ⟨w.heap.size + 1 + 1, 0, none⟩)) ∧ w'.heap[w.heap.size + 1 + 1]? = some (.cells #[.int .i64 rh, .int .i64 rr, .map (some (w.heap.size + 1))] 188 (0, 0)) ∧ w'.heap[w.heap.size + 1]? = some (.map #[] 0) ∧ Below w.heap.size w w' ∧ w'.heap.size = w.heap.size + 3 := by
  have hmm := @run_makeMap Tryz.prog
  have h2 := blk_old (blk_new' (w.alloc (.cells #[.int .i64 rh, .int .i64 rr] 119)) (.map #[] 0) (g := w.heap.size + 1) (by simp)) (.cells #[.int .i64 rh, .int .i64 rr, .map (some (w.heap.size + 1))] 188)
  have h3 := blk_new' ((w.alloc (.cells #[.int .i64 rh, .int .i64 rr] 119)).alloc (.map #[] 0)) (.cells #[.int .i64 rh, .int .i64 rr, .map (some (w.heap.size + 1))] 188) (g := w.heap.size + 1 + 1) (by simp)
  have hb := Bl.alloc (Bl.alloc (Bl.alloc (Below.refl w.heap.size w) (.cells #[.int .i64 rh, .int .i64 rr] 119)) (.map #[] 0)) (.cells #[.int .i64 rh, .int .i64 rr, .map (some (w.heap.size + 1))] 188)
  go_enter Tryz.func174, Tryz.ntmps174
  go_wp2
  go_ret
  exact ⟨rfl, h3, h2, hb, by simp⟩
end Go.Proofs.YtihgnpobkpnipaaGreatDoor
namespace Go.Proofs.YtihgnpobkpnipaaGreatDoor
open Go.RowKit Go.Sort Go.Maps
/-- a pointer to a whole block, as a number; nil. -/
def ptrE : Value → Option (DataW Unit × List MemPlace)
  | .pointer none => some (.nil, [])
  | .pointer (some ⟨g, 0, none⟩) => some (.lit (.int .i64 g), [])
  | _ => none
theorem ptrE_nil {v : Value} {ps : List MemPlace} (h : ptrE v = some (.nil, ps)) : v = .pointer none := by
  unfold ptrE at h
  split at h
  · rfl
  · simp at h
  · cases h
theorem ptrE_at {v : Value} {g : Nat} {ps : List MemPlace} (h : ptrE v = some (.lit (.int .i64 g), ps)) : v = .pointer (some ⟨g, 0, none⟩) := by
  unfold ptrE at h
  split at h
  · simp at h
  · simp at h
    obtain ⟨h, _⟩ := h
    have h2 := Int.ofNat.inj h
    subst h2; rfl
  · cases h
theorem strK : Keyed Tryz.prog 9 := string_keyed Tryz.underlying9
theorem zeroB (w : World) : (zeroValue 185).run Tryz.prog w = .ok (.pointer none) w := by kernel_rfl
abbrev Boards (w : World) (b n : Nat) (D : DataW Unit) : Prop := w.ownsMap Tryz.prog 9 ptrE b n D
set_option maxRecDepth 100000 in
theorem look_none {w : World} {b n : Nat} {D : DataW Unit} (h : Boards w b n D) (s : ByteArray) (hs : s.size ≤ maxLen) (hD : D.atKey (.string s.data.toList) .nil = .nil) : (Instr.lookup 186 (.map (some b)) (.string s) false).run Tryz.prog w = .ok (.pointer none) w := by
  obtain ⟨v, ps, hrun, hv⟩ := h.lookup strK Tryz.underlying186 (zeroB w) (zd := .nil) (zp := []) rfl (Go.WideMaps.keyOf_string_mk (s := s) Tryz.underlying9 hs)
  rw [hD] at hv
  rw [ptrE_nil hv] at hrun
  exact hrun
set_option maxRecDepth 100000 in
theorem look_some {w : World} {b n g : Nat} {D : DataW Unit} (h : Boards w b n D) (s : ByteArray) (hs : s.size ≤ maxLen) (hD : D.atKey (.string s.data.toList) .nil = .lit (.int .i64 g)) : (Instr.lookup 186 (.map (some b)) (.string s) false).run Tryz.prog w = .ok (.pointer (some ⟨g, 0, none⟩)) w := by
  obtain ⟨v, ps, hrun, hv⟩ := h.lookup strK Tryz.underlying186 (zeroB w) (zd := .nil) (zp := []) rfl (Go.WideMaps.keyOf_string_mk (s := s) Tryz.underlying9 hs)
  rw [hD] at hv
  rw [ptrE_at hv] at hrun
  exact hrun
set_option maxRecDepth 100000 in
theorem store_board {w : World} {b n : Nat} {D : DataW Unit} (h : Boards w b n D) (hn : n < maxLen) (s : ByteArray) (hs : s.size ≤ maxLen) (g : Nat) :
    ∃ w', (Instr.mapUpdate 186 (.map (some b)) (.string s) (.pointer (some ⟨g, 0, none⟩))).run Tryz.prog w = .ok () w' ∧ Boards w' b (n + 1) (D.put (.string s.data.toList) (.lit (.int .i64 g))) ∧ w.grownBy w' (some b) :=
  h.update strK Tryz.underlying186 hn (Go.WideMaps.keyOf_string_mk (s := s) Tryz.underlying9 hs) (show ptrE (.pointer (some ⟨g, 0, none⟩)) = some (.lit (.int .i64 g), []) from rfl)
end Go.Proofs.YtihgnpobkpnipaaGreatDoor
namespace Go.Proofs.YtihgnpobkpnipaaGreatDoor
open Go.RowKit Go.Sort Go.Maps
set_option maxHeartbeats 2000000 in
set_option maxRecDepth 100000 in
theorem Do_first (S mb : Nat) (rh rr at' : Int) (bs cs : ByteArray) (w : World) (hS : w.heap[S]? = some (.cells #[.int .i64 rh, .int .i64 rr, .map (some mb)] 188 (0, 0))) (hM : Boards w mb 0 (.map [])) (hbs : bs.size ≤ 1000) (hrh : 0 < rh) :
    Calls Tryz.prog 175 #[.pointer (some ⟨S, 0, none⟩), .agg #[.int .i64 at', .string bs, .int .i64 1, .string cs]] w fun e w' => e = .returned (.int .i64 0) ∧ ∃ g : Nat, w'.heap[S]? = some (.cells #[.int .i64 rh, .int .i64 rr, .map (some mb)] 188 (0, 0)) ∧ Boards w' mb 1 (.map [(.string bs.data.toList, .lit (.int .i64 g))]) ∧
      Brd w' g 2 at' 1 (.map (some (g - 2))) (.map (some (g - 1))) 0 ∧ w'.heap[g - 2]? = some (.map #[] 0) ∧ Below mb w w' := by
  have lS := blk_lt hS
  have lM := hM.lt
  have hms : bs.size ≤ maxLen := by unfold maxLen; omega
  have c2 : w.cell? ⟨S, 2, none⟩ = some (.map (some mb)) := blk_cell hS 2
  have hl0 := look_none (hM.alloc (.cells #[.int .i64 at', .string bs, .int .i64 1, .string cs] 121)) bs hms rfl
  have hl1 := look_none ((hM.alloc (.cells #[.int .i64 at', .string bs, .int .i64 1, .string cs] 121)).drew) bs hms rfl
  go_enter Tryz.func175, Tryz.ntmps175
  go_wp2
  go_region
  go_wp2_with fail
  have hne : S ≠ mb := by
    rintro rfl
    obtain ⟨es, clock, hb, _⟩ := hM
    rw [hS] at hb
    cases hb
  have hS1 : (w.alloc (.cells #[.int .i64 at', .string bs, .int .i64 1, .string cs] 121)).drew.heap[S]? = _ := blk_old hS (.cells #[.int .i64 at', .string bs, .int .i64 1, .string cs] 121)
  have hX1 : (w.alloc (.cells #[.int .i64 at', .string bs, .int .i64 1, .string cs] 121)).drew.heap[w.heap.size]? = _ := blk_new w (.cells #[.int .i64 at', .string bs, .int .i64 1, .string cs] 121)
  have hM1 : Boards (w.alloc (.cells #[.int .i64 at', .string bs, .int .i64 1, .string cs] 121)).drew mb 0 (.map []) := (hM.alloc (.cells #[.int .i64 at', .string bs, .int .i64 1, .string cs] 121)).drew
  have hb1 : Below mb w (w.alloc (.cells #[.int .i64 at', .string bs, .int .i64 1, .string cs] 121)).drew := Below.drew (Below.alloc (Below.refl _ _) (by omega) (.cells #[.int .i64 at', .string bs, .int .i64 1, .string cs] 121))
  have hz1 : w.heap.size < (w.alloc (.cells #[.int .i64 at', .string bs, .int .i64 1, .string cs] 121)).drew.heap.size := by show w.heap.size < (w.alloc (.cells #[.int .i64 at', .string bs, .int .i64 1, .string cs] 121)).heap.size; simp
  generalize (w.alloc (.cells #[.int .i64 at', .string bs, .int .i64 1, .string cs] 121)).drew = w1 at *
  refine (newBoard_any w1).mono ?_
  rintro e w2 ⟨rfl, hB2, hm1, _, hb2, hz2e⟩
  have hz2 : w1.heap.size + 1 + 1 < w2.heap.size := by omega
  clear hz2e
  have hS2 := blk_below hS1 hb2
  have hX2 := blk_below hX1 hb2
  have hM2 : Boards w2 mb 0 (.map []) := hM1.kept (Gr.of_below hb2 none) (by simp)
  obtain ⟨w3, hrun3, hM3, hg3⟩ := store_board hM2.drew (by unfold maxLen; omega) bs hms (w1.heap.size + 1 + 1)
  have c3 : w2.cell? ⟨S, 2, none⟩ = some (.map (some mb)) := blk_cell hS2 2
  have x3 : w2.cell? ⟨w.heap.size, 1, none⟩ = some (.string bs) := blk_cell hX2 1
  go_wp2
  go_region
  have hS3 := Gr.blk hg3 (show w2.drew.heap[S]? = _ from hS2) hne
  have hX3 := Gr.blk hg3 (show w2.drew.heap[w.heap.size]? = _ from hX2) (by omega)
  have hB3 : Brd w3 _ _ _ _ _ _ _ := Gr.blk hg3 (show w2.drew.heap[w1.heap.size + 1 + 1]? = _ from hB2) (by omega)
  have hm3 := Gr.blk hg3 (show w2.drew.heap[w1.heap.size]? = _ from hm1) (by omega)
  have hb3 : Below mb w w3 := Below.trans (Below.trans hb1 (hb2.mono (by omega))) (Gr.below (show w2.grownBy w3 (some mb) from ⟨hg3.os, hg3.tape, hg3.output, hg3.size, hg3.block⟩) (Nat.le_refl _) (by omega))
  obtain ⟨r0, r1, _⟩ : w3.cell? ⟨S, 0, none⟩ = some (.int .i64 rh) ∧ w3.cell? ⟨S, 1, none⟩ = some (.int .i64 rr) ∧ True := ⟨blk_cell hS3 0, blk_cell hS3 1, trivial⟩
  have s0 : w3.cell? ⟨w.heap.size, 0, none⟩ = some (.int .i64 at') := blk_cell hX3 0
  have s1 : w3.cell? ⟨w.heap.size, 1, none⟩ = some (.string bs) := blk_cell hX3 1
  have s2 : w3.cell? ⟨w.heap.size, 2, none⟩ = some (.int .i64 1) := blk_cell hX3 2
  have s3 : w3.cell? ⟨w.heap.size, 3, none⟩ = some (.string cs) := blk_cell hX3 3
  have e1 := cell_regrown r0
  have e2 := cell_regrown r1
  have e3 := cell_regrown s0
  have e4 := cell_regrown s1
  have e5 := cell_regrown s2
  have e6 := cell_regrown s3
  have HREF := Lib.hid (fun (d : Nat) (os : Array Obj) => Calls.regrown_of (w := w3) (d := d) (os := os) (refusal_reflow (w1.heap.size + 1 + 1) 1 0 0 0 at' rh rr (.map (some w1.heap.size)) (.map (some (w1.heap.size + 1))) bs cs _ (blk_below hB3 (below_regrown w3 d os)) (.inl rfl) hrh))
  go_wp2
  refine wp_region_quiet_below (by kernel_rfl) (by kernel_rfl) ?_
  repeat (go_big_quiet_step ((go_at_call 202; exact HREF.out _ _)))
  refine wpQuiet_nil ?_
  intro w4 hw'
  obtain ⟨⟨dq, osq⟩, hw''⟩ := hw'
  have hb4 : Below w3.heap.size w3 w4 := hw'' ▸ below_regrown w3 dq osq
  clear hw'' e1 e2 e3 e4 e5 e6 HREF r0 r1 s0 s1 s2 s3
  have hX4 := blk_below hX3 hb4
  have hB4 : Brd w4 (w1.heap.size + 1 + 1) 1 0 0 (.map (some w1.heap.size)) (.map (some (w1.heap.size + 1))) 0 := blk_below hB3 hb4
  have s0 : w4.cell? ⟨w.heap.size, 0, none⟩ = some (.int .i64 at') := blk_cell hX4 0
  have s1 : w4.cell? ⟨w.heap.size, 1, none⟩ = some (.string bs) := blk_cell hX4 1
  have s2 : w4.cell? ⟨w.heap.size, 2, none⟩ = some (.int .i64 1) := blk_cell hX4 2
  have s3 : w4.cell? ⟨w.heap.size, 3, none⟩ = some (.string cs) := blk_cell hX4 3
  go_wp2_with fail
  refine (do_reflow (w1.heap.size + 1 + 1) 1 0 0 0 at' _ _ bs cs _ hB4 (by omega) (by omega)).mono ?_
  rintro e w5 ⟨rfl, hB5, hg5⟩
  have hlt3 : w2.heap.size ≤ w3.heap.size := hg3.size
  have hS5 := Gr.blk hg5 (blk_below hS3 hb4) (by omega)
  have hm5 := Gr.blk hg5 (blk_below hm3 hb4) (by omega)
  have hM5 : Boards w5 mb 1 ((DataW.map []).put (.string bs.data.toList) (.lit (.int .i64 ((w1.heap.size + 1 + 1 : Nat) : Int)))) := (hM3.kept (Gr.of_below hb4 none) (by simp)).kept hg5 (by intro h; injection h with h; omega)
  have hb5 : Below mb w w5 := Below.trans (Below.trans hb3 (hb4.mono (by omega))) (Gr.below hg5 (by omega) (by have := hb4.size; omega))
  clear hB4 hX4 hS3 hX3 hB3 hm3 hM3 hg3 hg5 hb3 hb4
  go_wp2
  go_ret
  exact ⟨rfl, w1.heap.size + 1 + 1, hS5, hM5, hB5, hm5, hb5⟩
end Go.Proofs.YtihgnpobkpnipaaGreatDoor
namespace Go.Proofs.YtihgnpobkpnipaaGreatDoor
open Go.RowKit Go.Sort
theorem life4 (w : World) : Calls Tryz.prog 96 #[.int .i64 4] w fun e w' => e = .returned (.int .i64 259200000) ∧ w = w' := by
  go_enter Tryz.func96, Tryz.ntmps96
  go_wp2
  go_ret
  exact ⟨rfl, rfl⟩
theorem Life4_any (w : World) : Calls Tryz.prog 61 #[.int .i64 4] w fun e w' => e = .returned (.tuple #[.int .i64 259200000, .bool true, .int .i64 0]) ∧ w = w' := by
  have h1 : (!inB 1 4 6) = false := by decide
  go_enter Tryz.func61, Tryz.ntmps61
  go_wp2_with (first | (go_at_call 87; refine (Outside_any _ _ _ _).mono ?_; rintro e w' ⟨rfl, rfl⟩) | (go_at_call 96; refine (life4 _).mono ?_; rintro e w' ⟨rfl, rfl⟩))
  go_ret3
  exact ⟨rfl, rfl⟩
theorem moment3 (w : World) : Calls Tryz.prog 131 #[.int .i64 3] w fun e w' => e = .returned (.bool true) ∧ w = w' := by
  go_enter Tryz.func131, Tryz.ntmps131
  go_wp2
  go_ret
  exact ⟨rfl, rfl⟩
theorem kind1 (w : World) : Calls Tryz.prog 212 #[.int .i64 1] w fun e w' => e = .returned (.bool true) ∧ w = w' := by
  go_enter Tryz.func212, Tryz.ntmps212
  go_wp2
  go_ret
  exact ⟨rfl, rfl⟩
theorem hasComp1 (w : World) : Calls Tryz.prog 213 #[.int .i64 1] w fun e w' => e = .returned (.bool false) ∧ w = w' := by
  go_enter Tryz.func213, Tryz.ntmps213
  go_wp2
  go_ret
  exact ⟨rfl, rfl⟩
theorem keyU : keyB ⟨#[117]⟩ = true := by decide +kernel
theorem isKeyU (w : World) : Calls Tryz.prog 86 #[.string ⟨#[117]⟩] w fun e w' => e = .returned (.bool true) ∧ Below w.heap.size w w' := by
  have := IsKey_any ⟨#[117]⟩ w (by show 1 ≤ 140737488355328; omega)
  rw [keyU] at this
  exact this
set_option maxHeartbeats 1000000 in
set_option maxRecDepth 100000 in
theorem stepFault_u (b : Nat) (w : World) (h0 : w.cell? ⟨b, 0, none⟩ = some (.int .i64 3)) (h1 : w.cell? ⟨b, 1, none⟩ = some (.string ⟨#[117]⟩)) (h2 : w.cell? ⟨b, 2, none⟩ = some (.int .i64 1)) (h3 : w.cell? ⟨b, 3, none⟩ = some (.string ⟨#[]⟩)) :
    Calls Tryz.prog 201 #[.slice (some ⟨b, 0, none⟩) 1 1, .int .i64 0] w fun e w' => e = .returned (.int .i64 0) ∧ Below w.heap.size w w' := by
  have hB0 := blk_new w (.cells #[.int .i64 3, .string ⟨#[117]⟩, .int .i64 1, .string ⟨#[]⟩] 121)
  have hb0 := Bl.alloc (Below.refl w.heap.size w) (.cells #[.int .i64 3, .string ⟨#[117]⟩, .int .i64 1, .string ⟨#[]⟩] 121)
  go_enter Tryz.func201, Tryz.ntmps201
  go_wp2_with (first | (go_at_call 131; refine (moment3 _).mono ?_; rintro e w' ⟨rfl, rfl⟩))
  refine (isKeyU _).mono ?_
  rintro e w1 ⟨rfl, hb1⟩
  have hB1 := blk_below hB0 hb1
  have hb01 := Bl.trans hb0 hb1
  have c2 : w1.cell? ⟨w.heap.size, 2, none⟩ = some (.int .i64 1) := blk_cell hB1 2
  have c3 : w1.cell? ⟨w.heap.size, 3, none⟩ = some (.string ⟨#[]⟩) := blk_cell hB1 3
  clear hb1 hb0 hB0
  go_wp2_with (first | (go_at_call 212; refine (kind1 _).mono ?_; rintro e w' ⟨rfl, rfl⟩) | (go_at_call 213; refine (hasComp1 _).mono ?_; rintro e w' ⟨rfl, rfl⟩))
  go_region
  go_wp2
  go_ret
  exact ⟨rfl, Below.drew hb01⟩
set_option maxHeartbeats 1000000 in
set_option maxRecDepth 100000 in
theorem checkSteps_u (b : Nat) (w : World) (h0 : w.cell? ⟨b, 0, none⟩ = some (.int .i64 3)) (h1 : w.cell? ⟨b, 1, none⟩ = some (.string ⟨#[117]⟩)) (h2 : w.cell? ⟨b, 2, none⟩ = some (.int .i64 1)) (h3 : w.cell? ⟨b, 3, none⟩ = some (.string ⟨#[]⟩)) :
    Calls Tryz.prog 173 #[.slice (some ⟨b, 0, none⟩) 1 1] w fun e w' => e = .returned (.int .i64 0) ∧ Below w.heap.size w w' := by
  have HS := Lib.hid (stepFault_u b w h0 h1 h2 h3)
  clear h0 h1 h2 h3
  go_enter Tryz.func173, Tryz.ntmps173
  go_wp2
  go_loopw [10] (fun i wr => (i = .int .i64 0 ∧ w = wr) ∨ (i = .int .i64 1 ∧ Below w.heap.size w wr)) (fun i _ => 1 - (intOf i).toNat)
  case atStart => exact .inl ⟨rfl, rfl⟩
  case round =>
    rcases hrel with ⟨rfl, rfl⟩ | ⟨rfl, hb⟩
    · go_wp2_with fail
      refine HS.out.mono ?_
      rintro e w1 ⟨rfl, hb1⟩
      go_wp2
      go_roundw
      case rel => exact .inr ⟨rfl, hb1⟩
      case measure => simp [intOf]
    · go_wp2
      go_ret
      exact ⟨rfl, hb⟩
theorem checkRules_u (w : World) : Calls Tryz.prog 172 #[.agg #[.int .i64 1, .int .i64 0]] w fun e w' => e = .returned (.int .i64 0) ∧ Below w.heap.size w w' := by
  have hb0 := Bl.alloc (Below.refl w.heap.size w) (.cells #[.int .i64 1, .int .i64 0] 119)
  have h1 : (!inB 0 1 100) = false := by decide
  have h2 : (!inB 0 0 100) = false := by decide
  go_enter Tryz.func172, Tryz.ntmps172
  go_wp2_with (go_at_call 87; refine (Outside_any _ _ _ _).mono ?_; rintro e w' ⟨rfl, rfl⟩)
  go_ret
  exact ⟨rfl, hb0⟩
set_option maxHeartbeats 1000000 in
set_option maxRecDepth 100000 in
theorem boardFault_u (b : Nat) (w : World) (h0 : w.cell? ⟨b, 0, none⟩ = some (.int .i64 3)) (h1 : w.cell? ⟨b, 1, none⟩ = some (.string ⟨#[117]⟩)) (h2 : w.cell? ⟨b, 2, none⟩ = some (.int .i64 1)) (h3 : w.cell? ⟨b, 3, none⟩ = some (.string ⟨#[]⟩)) :
    Calls Tryz.prog 99 #[.agg #[.int .i64 1, .int .i64 0], .slice (some ⟨b, 0, none⟩) 1 1, .string ⟨#[117]⟩, .int .i64 3] w fun e w' => e = .returned (.int .i64 0) ∧ Below w.heap.size w w' := by
  have lb := World.block_lt_of_cell? _ _ h0
  have hf : ∀ W, Below w.heap.size w W → Calls Tryz.prog 130 #[.agg #[.int .i64 1, .int .i64 0], .slice (some ⟨b, 0, none⟩) 1 1] W fun e w' => e = .returned (.int .i64 0) ∧ Below W.heap.size W w' := by
    intro W hW
    have hb0 := Bl.alloc (Below.refl W.heap.size W) (.cells #[.int .i64 1, .int .i64 0] 119)
    have HC := Lib.hid (show ∀ V, Below W.heap.size W V → Calls Tryz.prog 173 #[.slice (some ⟨b, 0, none⟩) 1 1] V fun e w' => e = .returned (.int .i64 0) ∧ Below V.heap.size V w' from fun V hV =>
      have hWV := Bl.trans hW hV
      checkSteps_u b V (((bcell hWV).1 _ _ lb).trans h0) (((bcell hWV).1 _ _ lb).trans h1) (((bcell hWV).1 _ _ lb).trans h2) (((bcell hWV).1 _ _ lb).trans h3))
    clear h0 h1 h2 h3
    go_enter Tryz.func130, Tryz.ntmps130
    go_wp2_with fail
    refine (checkRules_u _).mono ?_
    rintro e w1 ⟨rfl, hb1⟩
    have hb01 := Bl.trans hb0 hb1
    clear hb0 hb1
    go_wp2_with fail
    refine (HC.out _ hb01).mono ?_
    rintro e w2 ⟨rfl, hb2⟩
    go_wp2
    go_ret
    exact ⟨rfl, Bl.trans hb01 hb2⟩
  have HF := Lib.hid hf
  have hb0 := Bl.alloc (Below.refl w.heap.size w) (.cells #[.int .i64 1, .int .i64 0] 119)
  clear h0 h1 h2 h3 hf
  go_enter Tryz.func99, Tryz.ntmps99
  go_wp2_with fail
  refine (HF.out _ hb0).mono ?_
  rintro e w1 ⟨rfl, hb1⟩
  have hb01 := Bl.trans hb0 hb1
  clear hb0 hb1
  go_wp2_with fail
  refine (isKeyU _).mono ?_
  rintro e w2 ⟨rfl, hb2⟩
  go_wp2_with (first | (go_at_call 131; refine (moment3 _).mono ?_; rintro e w' ⟨rfl, rfl⟩))
  go_ret
  exact ⟨rfl, Bl.trans hb01 hb2⟩
end Go.Proofs.YtihgnpobkpnipaaGreatDoor
namespace Go.Proofs.YtihgnpobkpnipaaGreatDoor
open Go.RowKit Go.Sort Go.Maps
theorem shopAt1_any (i e : Int) (w : World) : Calls Tryz.prog 133 #[.int .i64 i, .int .i64 e] w fun e w' => e = .returned (.tuple #[]) ∧ w = w' := by
  go_enter Tryz.func133, Tryz.ntmps133
  go_wp2
  go_end0
  exact ⟨rfl, rfl⟩
/-- a shop in which one board is soldered. -/
def ShopU (w : World) (S : Nat) (bs : ByteArray) : Prop := ∃ mb g : Nat, w.heap[S]? = some (.cells #[.int .i64 1, .int .i64 0, .map (some mb)] 188 (0, 0)) ∧ Boards w mb 1 (.map [(.string bs.data.toList, .lit (.int .i64 g))]) ∧ Brd w g 2 3 1 (.map (some (g - 2))) (.map (some (g - 1))) 0 ∧ w.heap[g - 2]? = some (.map #[] 0)
set_option maxHeartbeats 2000000 in
set_option maxRecDepth 100000 in
theorem follow_u (b : Nat) (w : World) (h0 : w.cell? ⟨b, 0, none⟩ = some (.int .i64 3)) (h1 : w.cell? ⟨b, 1, none⟩ = some (.string ⟨#[117]⟩)) (h2 : w.cell? ⟨b, 2, none⟩ = some (.int .i64 1)) (h3 : w.cell? ⟨b, 3, none⟩ = some (.string ⟨#[]⟩)) :
    Calls Tryz.prog 132 #[.agg #[.int .i64 1, .int .i64 0], .slice (some ⟨b, 0, none⟩) 1 1, .int .i64 3, .func (.func 133) #[] #[]] w fun e w' => (∃ S : Nat, e = .returned (.pointer (some ⟨S, 0, none⟩)) ∧ ShopU w' S ⟨#[117]⟩) ∧ Below w.heap.size w w' := by
  have lb := World.block_lt_of_cell? _ _ h0
  have hb0 := Bl.alloc (Below.refl w.heap.size w) (.cells #[.int .i64 1, .int .i64 0] 119)
  go_enter Tryz.func132, Tryz.ntmps132
  go_wp2_with fail
  generalize w.alloc (.cells #[.int .i64 1, .int .i64 0] 119) = w1 at *
  refine (NewShop_any 1 0 _).mono ?_
  rintro e w2 ⟨rfl, hS2, hm2, hb2, hz2⟩
  have hb02 := Bl.trans hb0 hb2
  have hl0 := hb0.size
  have hz2' : w1.heap.size + 1 + 1 < w2.heap.size := by omega
  have hM2 : Boards w2 (w1.heap.size + 1) 0 (.map []) := ⟨#[], 0, hm2, ⟨by simp, Go.MapKept.stamped_empty 0, by simp⟩, Nat.le_refl _, rfl⟩
  obtain ⟨bc, _⟩ := bcell hb02
  have g0 := (bc b 0 lb).trans h0
  have g1 := (bc b 1 lb).trans h1
  have g2 := (bc b 2 lb).trans h2
  have g3 := (bc b 3 lb).trans h3
  have lb2 := World.block_lt_of_cell? _ _ g0
  have hS3 := blk_old hS2 (.cells #[.int .i64 3, .string ⟨#[117]⟩, .int .i64 1, .string ⟨#[]⟩] 121)
  have hM3 : Boards (w2.alloc (.cells #[.int .i64 3, .string ⟨#[117]⟩, .int .i64 1, .string ⟨#[]⟩] 121)) (w1.heap.size + 1) 0 (.map []) := hM2.alloc (.cells #[.int .i64 3, .string ⟨#[117]⟩, .int .i64 1, .string ⟨#[]⟩] 121)
  have HDO := Lib.hid (Do_first (w1.heap.size + 1 + 1) (w1.heap.size + 1) 1 0 3 ⟨#[117]⟩ ⟨#[]⟩ _ hS3 hM3 (by show 1 ≤ 1000; omega) (by omega))
  have hb03 := Bl.alloc hb02 (.cells #[.int .i64 3, .string ⟨#[117]⟩, .int .i64 1, .string ⟨#[]⟩] 121)
  clear hz2 bc h0 h1 h2 h3 hS2 hm2 hM2 hS3 hM3
  go_wp2
  go_loopw [16] (fun i wr => (i = .int .i64 0 ∧ w2 = wr) ∨ (i = .int .i64 1 ∧ ShopU wr (w1.heap.size + 1 + 1) ⟨#[117]⟩ ∧ Below w.heap.size w wr)) (fun i _ => 1 - (intOf i).toNat)
  case atStart => exact .inl ⟨rfl, rfl⟩
  case round =>
    rcases hrel with ⟨rfl, rfl⟩ | ⟨rfl, hsu, hb⟩
    · go_wp2_with fail
      refine HDO.out.mono ?_
      rintro e w3 ⟨rfl, g, a1, a2, a3, a4, a5⟩
      have hsu : ShopU w3 (w1.heap.size + 1 + 1) ⟨#[117]⟩ := ⟨_, g, a1, a2, a3, a4⟩
      have HSU := Lib.hid hsu
      have hb04 : Below w.heap.size w w3 := Below.trans hb03 (a5.mono (by omega))
      clear a1 a2 a3 a4 a5 hsu
      go_wp2_with fail
      refine (shopAt1_any _ _ _).mono ?_
      rintro e w' ⟨rfl, rfl⟩
      go_wp2
      go_roundw
      case rel => exact .inr ⟨rfl, HSU.out, hb04⟩
      case measure => simp [intOf]
    · have HSU := Lib.hid hsu
      clear hsu
      go_wp2
      go_ret
      exact ⟨⟨_, rfl, HSU.out⟩, hb⟩
theorem shopAt_u (b : Nat) (w : World) (h0 : w.cell? ⟨b, 0, none⟩ = some (.int .i64 3)) (h1 : w.cell? ⟨b, 1, none⟩ = some (.string ⟨#[117]⟩)) (h2 : w.cell? ⟨b, 2, none⟩ = some (.int .i64 1)) (h3 : w.cell? ⟨b, 3, none⟩ = some (.string ⟨#[]⟩)) :
    Calls Tryz.prog 100 #[.agg #[.int .i64 1, .int .i64 0], .slice (some ⟨b, 0, none⟩) 1 1, .int .i64 3] w fun e w' => (∃ S : Nat, e = .returned (.pointer (some ⟨S, 0, none⟩)) ∧ ShopU w' S ⟨#[117]⟩) ∧ Below w.heap.size w w' := by
  have lb := World.block_lt_of_cell? _ _ h0
  have hb0 := Bl.alloc (Below.refl w.heap.size w) (.cells #[.int .i64 1, .int .i64 0] 119)
  obtain ⟨bc, _⟩ := bcell hb0
  have HF := Lib.hid (follow_u b _ ((bc b 0 lb).trans h0) ((bc b 1 lb).trans h1) ((bc b 2 lb).trans h2) ((bc b 3 lb).trans h3))
  clear bc h0 h1 h2 h3
  go_enter Tryz.func100, Tryz.ntmps100
  go_wp2_with fail
  refine HF.out.mono ?_
  rintro e w1 ⟨⟨S, rfl, hs⟩, hb1⟩
  have HS := Lib.hid hs
  clear hs
  go_wp2
  go_ret
  exact ⟨⟨S, rfl, HS.out⟩, Bl.trans hb0 hb1⟩
end Go.Proofs.YtihgnpobkpnipaaGreatDoor
namespace Go.Proofs.YtihgnpobkpnipaaGreatDoor
open Go.RowKit Go.Sort Go.Maps Go.Shelf Go.Lib
theorem keysB_any (gm : Nat) (W : World) : Calls Tryz.prog 176 #[.map (some gm)] W fun e w' => e = .returned (.func (.func 204) #[] #[.pointer (some ⟨W.heap.size, 0, none⟩)]) ∧ w' = W.alloc (.cells #[.map (some gm)] 135) :=
  callsIn_wide.1 (Tryz.maps_Keys_176 (some gm) W)
theorem sortedB_any {H : Type} (b nn : Nat) (D0 : DataW H) (R : Value → Option (DataW H × List MemPlace)) (w : World) (hown : w.ownsMap Tryz.prog 9 R b nn D0) (hmax : Maps.size D0 ≤ 1099511627776) :
    Calls Tryz.prog 76 #[.func (.func 204) #[] #[.pointer (some ⟨w.heap.size, 0, none⟩)]] (w.alloc (.cells #[.map (some b)] 135)) fun e w' => ∃ (v : Value) (ss : List (List UInt8)), e = .returned v ∧ ss.Perm (strKeys D0) ∧
      w'.ownsRow w.heap.size 9 1 v ss.length ((ss.mergeSort (fun x y => decide (x ≤ y))).map encStr) ∧ (v = .slice none 0 0 ↔ ss = []) ∧ Below w.heap.size w w' :=
  (callsIn_wide.1 (Tryz.slices_Sorted_keys_76_176 b nn D0 R w hown (by unfold maxLen; omega) (by omega))).mono fun e w' ⟨v, ss, he, hS, hrow, hnil, hb⟩ =>
    ⟨v, ss, he, hS, ownsRow_base_a hrow (by simp), hnil, ((Below.refl _ w).alloc (Nat.le_refl _) _).trans (hb.mono (by simp))⟩
theorem row_form {w : World} {B : Nat} {e : TypeId} {size : Nat} {v : Value} {n : Nat} {xs : List Value} (h : w.ownsRow B e size v n xs) : ∃ a cap, v = .slice a n cap := by
  rcases h.2 with ⟨rfl, rfl⟩ | ⟨g, cap, cur, rfl, _⟩
  · exact ⟨none, 0, rfl⟩
  · exact ⟨_, cap, rfl⟩
theorem own_far {w : World} {B g : Nat} {e : TypeId} {size : Nat} {v : Value} {n : Nat} {xs : List Value} (h : w.ownsRow B e size v n xs) (hg : g < B) (j : Nat) (u : Value) : (w.setCell ⟨g, j, none⟩ u).ownsRow B e size v n xs := by
  refine ⟨h.1, h.2.imp id ?_⟩
  rintro ⟨b, cap, cur, hv, hb, hc, rest⟩
  exact ⟨b, cap, cur, hv, hb, blk_far hc g j u (by omega), rest⟩
theorem row_base {w : World} {B B' : Nat} {e : TypeId} {size : Nat} {v : Value} {n : Nat} {xs : List Value} (h : w.ownsRow B e size v n xs) (hB : B' ≤ B) : w.ownsRow B' e size v n xs := by
  refine ⟨h.1, h.2.imp id ?_⟩
  rintro ⟨b, cap, cur, hv, hb, rest⟩
  exact ⟨b, cap, cur, hv, Nat.le_trans hB hb, rest⟩
set_option maxHeartbeats 4000000 in
set_option maxRecDepth 100000 in
theorem condition_any {H : Type} (g gm nn : Nat) (st si he lp : Int) (mr : Value) (D0 : DataW H) (R : Value → Option (DataW H × List MemPlace)) (w : World) (hB : Brd w g st si he (.map (some gm)) mr lp) (hown : w.ownsMap Tryz.prog 9 R gm nn D0) (hmax : Maps.size D0 ≤ 1099511627776) :
    Calls Tryz.prog 134 #[.pointer (some ⟨g, 0, none⟩)] w fun e w' => ∃ (v : Value) (ss : List (List UInt8)), e = .returned (.agg #[.int .i64 st, .int .i64 si, .int .i64 he, v]) ∧ ss.Perm (strKeys D0) ∧
      w'.ownsRow w.heap.size 9 1 v ss.length ((ss.mergeSort (fun x y => decide (x ≤ y))).map encStr) ∧ (v = .slice none 0 0 ↔ ss = []) ∧ Below w.heap.size w w' := by
  have lg := blk_lt hB
  have hS := Lib.hid (show ∀ W, Below w.heap.size w W → W.cell? ⟨g, 0, none⟩ = some (.int .i64 st) ∧ W.cell? ⟨g, 1, none⟩ = some (.int .i64 si) ∧ W.cell? ⟨g, 2, none⟩ = some (.int .i64 he) ∧ W.cell? ⟨g, 3, none⟩ = some (.map (some gm)) from fun W hW =>
    have h := blk_below hB hW
    ⟨blk_cell h 0, blk_cell h 1, blk_cell h 2, blk_cell h 3⟩)
  have hso := Lib.hid (show ∀ W, Below w.heap.size w W → Calls Tryz.prog 76 #[.func (.func 204) #[] #[.pointer (some ⟨W.heap.size, 0, none⟩)]] (W.alloc (.cells #[.map (some gm)] 135)) fun e w' => ∃ (v : Value) (ss : List (List UInt8)), e = .returned v ∧ ss.Perm (strKeys D0) ∧
      w'.ownsRow W.heap.size 9 1 v ss.length ((ss.mergeSort (fun x y => decide (x ≤ y))).map encStr) ∧ (v = .slice none 0 0 ↔ ss = []) ∧ Below W.heap.size W w' from fun W hW =>
    sortedB_any gm nn D0 R W (hown.kept (Gr.of_below hW none) (by simp)) hmax)
  have hb0 := Bl.alloc (Below.refl w.heap.size w) (.cells #[.int .i64 0, .int .i64 0, .int .i64 0, .slice none 0 0] 115)
  have hC0 := blk_new w (.cells #[.int .i64 0, .int .i64 0, .int .i64 0, .slice none 0 0] 115)
  clear hB hown
  go_enter Tryz.func134, Tryz.ntmps134
  go_wp2
  generalize w.alloc (.cells #[.int .i64 0, .int .i64 0, .int .i64 0, .slice none 0 0] 115) = w1 at *
  have lw := blk_lt hC0
  have hso1 := Lib.hid (hso.out w1.drew (Below.drew hb0))
  have f0 := blk_free hC0 0
  have f1 := blk_free hC0 1
  have f2 := blk_free hC0 2
  have f3 := blk_free hC0 3
  clear hso
  go_region_held3 (fun W : World => W.cell? ⟨g, 0, none⟩ = some (.int .i64 st) ∧ W.cell? ⟨g, 1, none⟩ = some (.int .i64 si) ∧ W.cell? ⟨g, 2, none⟩ = some (.int .i64 he) ∧ W.cell? ⟨g, 3, none⟩ = some (.map (some gm)))
    (first | exact hS.out _ hb0 | exact hS.out _ (Below.drew hb0) | exact hS.out _ (Below.drew (Bl.alloc hb0 _)) | exact hS.out _ hb2 | exact hS.out _ (Bl.set (Bl.set (Bl.set (Bl.set hb2 _ 0 (Nat.le_refl _) _) _ 1 (Nat.le_refl _) _) _ 2 (Nat.le_refl _) _) _ 3 (Nat.le_refl _) _))
    (first
      | (go_at_call 176; refine (keysB_any gm _).mono ?_; rintro e w1 ⟨rfl, rfl⟩)
      | (go_at_call 76; refine hso1.out.mono ?_; rintro e w2 ⟨v, ss, rfl, h1, h2, h3, h4⟩; obtain ⟨va, vc, rfl⟩ := row_form h2; have hb2 := Bl.trans (Below.drew hb0) h4; have hC2 := blk_below (show w1.drew.heap[w.heap.size]? = _ from hC0) h4; have g0 := blk_free hC2 0; have g1 := blk_free hC2 1; have g2 := blk_free hC2 2; have g3 := blk_free hC2 3; have k0 : w2.cell? ⟨w.heap.size, 0, none⟩ = some (.int .i64 0) := blk_cell hC2 0; have k1 : w2.cell? ⟨w.heap.size, 1, none⟩ = some (.int .i64 0) := blk_cell hC2 1; have k2 : w2.cell? ⟨w.heap.size, 2, none⟩ = some (.int .i64 0) := blk_cell hC2 2; have k3 : w2.cell? ⟨w.heap.size, 3, none⟩ = some (.slice none 0 0) := blk_cell hC2 3))
  all_goals (
    have hC3 := blk_set (blk_set (blk_set (blk_set hC2 0 (.int .i64 st)) 1 (.int .i64 si)) 2 (.int .i64 he)) 3 (.slice va ss.length vc)
    have hb3 := Bl.set (Bl.set (Bl.set (Bl.set hb2 _ 0 (Nat.le_refl _) (.int .i64 st)) _ 1 (Nat.le_refl _) (.int .i64 si)) _ 2 (Nat.le_refl _) (.int .i64 he)) _ 3 (Nat.le_refl _) (.slice va ss.length vc)
    have h5 := own_far (own_far (own_far (own_far h2 (show w.heap.size < _ from lw) 0 (.int .i64 st)) lw 1 (.int .i64 si)) lw 2 (.int .i64 he)) lw 3 (.slice va ss.length vc)
    generalize (((w2.setCell ⟨w.heap.size, 0, none⟩ (.int .i64 st)).setCell ⟨w.heap.size, 1, none⟩ (.int .i64 si)).setCell ⟨w.heap.size, 2, none⟩ (.int .i64 he)).setCell ⟨w.heap.size, 3, none⟩ (.slice va ss.length vc) = w3 at *
    have r0 : w3.cell? ⟨w.heap.size, 0, none⟩ = some (.int .i64 st) := blk_cell hC3 0
    have r1 : w3.cell? ⟨w.heap.size, 1, none⟩ = some (.int .i64 si) := blk_cell hC3 1
    have r2 : w3.cell? ⟨w.heap.size, 2, none⟩ = some (.int .i64 he) := blk_cell hC3 2
    have r3 : w3.cell? ⟨w.heap.size, 3, none⟩ = some (.slice va ss.length vc) := blk_cell hC3 3
    go_wp2
    refine bodyPost_ret (v := .agg #[.int .i64 st, .int .i64 si, .int .i64 he, .slice va ss.length vc]) (by simp [results, Tryz.results134, go_sem, r0, r1, r2, r3]) rfl ?_
    exact ⟨_, ss, rfl, h1, row_base h5 (Nat.le_of_lt lw), h3, hb3⟩)
end Go.Proofs.YtihgnpobkpnipaaGreatDoor
