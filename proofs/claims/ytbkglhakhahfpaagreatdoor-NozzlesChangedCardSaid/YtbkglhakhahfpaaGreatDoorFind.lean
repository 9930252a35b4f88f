/- The contract of newFinder. Condition: at most 10 points, coordinates within 2^41. -/
import Derived.Test.YtbkglhakhahfpaaGreatDoorNext
import Derived.Deep.RegionWith
namespace Go.Proofs.YtbkglhakhahfpaaGreatDoor
open Go.RowKit Go.Sort

theorem info_ints : (Tryz.prog.info? 22).map (fun i => (i.zero, i.size, i.bytes)) = some (some (.slice none 0 0), 1, 24) := by kernel_rfl
theorem mk_rows (n : Nat) (hn : n ≤ 1000000) : ∀ W : World, (Instr.makeSlice 90 (.int .i64 (n : Int)) (.int .i64 (n : Int))).run Tryz.prog W = .ok (.slice (some ⟨W.heap.size, 0, none⟩) n n) (W.alloc (.cells (madeCells #[.slice none 0 0] n) 22)) := fun W => by
  obtain ⟨i, hi, hz0, hz1, hz2⟩ := info_parts info_ints
  have := run_make_rowN (P := Tryz.prog) 90 22 i _ Tryz.underlying90 hi hz0 .i64 .i64 n n (Nat.le_refl _) (by rw [hz2]; omega) (by omega) W
  rw [hz1, Nat.mul_one] at this
  exact this
theorem mk_ints (n : Nat) (hn : n ≤ 1000000) : ∀ W : World, (Instr.makeSlice 22 (.int .i64 (n : Int)) (.int .i64 (n : Int))).run Tryz.prog W = .ok (.slice (some ⟨W.heap.size, 0, none⟩) n n) (W.alloc (.cells (madeCells #[.int .i64 0] n) 3)) := fun W => by
  obtain ⟨i, hi, hz0, hz1, hz2⟩ := info_parts info_int
  have := run_make_rowN (P := Tryz.prog) 22 3 i _ Tryz.underlying22 hi hz0 .i64 .i64 n n (Nat.le_refl _) (by rw [hz2]; omega) (by omega) W
  rw [hz1, Nat.mul_one] at this
  exact this
theorem made_at (z : Value) (n j : Nat) (h : j < n) : (madeCells #[z] n)[j]? = some z := by
  have := congrArg (fun l => l[j]?) (toList_madeCells_one z n)
  simp only [Array.getElem?_toList, List.getElem?_replicate, h, if_true] at this
  exact this
theorem Tab.new {w : World} {g n : Nat} {r : Nat → Nat} {T : Nat → Nat → Int} (h : w.heap[g]? = some (.cells (madeCells #[.slice none 0 0] n) 22 (0, 0))) : Tab w g n r 0 T :=
  ⟨⟨_, h, size_madeCells _ _, fun k hk => by omega⟩, fun k hk => by omega, fun k hk => by omega, fun i j hi => by omega⟩
theorem Tab.slot {w : World} {gl n m : Nat} {r : Nat → Nat} {T : Nat → Nat → Int} (h : Tab w gl n r m T) {i : Nat} (hi : i < n) : (∃ v, w.cell? ⟨gl, i, none⟩ = some v) ∧ w.frozen? ⟨gl, i, none⟩ = false := by
  obtain ⟨⟨rows, h1, h2, h3⟩, _⟩ := h
  refine ⟨⟨rows[i]'(by omega), ?_⟩, blk_free h1 i⟩
  rw [blk_cell h1 i, Array.getElem?_eq_getElem (by omega)]
theorem Tab.lt {w : World} {gl n m : Nat} {r : Nat → Nat} {T : Nat → Nat → Int} (h : Tab w gl n r m T) : gl < w.heap.size ∧ ∀ k, k < m → r k < w.heap.size := by
  obtain ⟨⟨rows, h1, _⟩, h4, _⟩ := h
  refine ⟨blk_lt h1, fun k hk => ?_⟩
  obtain ⟨cs, g1, _⟩ := h4 k hk
  exact blk_lt g1
/-- a row more: a new block of zeros. -/
theorem Tab.add {w : World} {gl n m : Nat} {r : Nat → Nat} {T : Nat → Nat → Int} (h : Tab w gl n r m T) (hm : m < n) :
    Tab ((w.alloc (.cells (madeCells #[.int .i64 0] (pw n)) 3)).setCell ⟨gl, m, none⟩ (.slice (some ⟨w.heap.size, 0, none⟩) (pw n) (pw n))) gl n (fun k => if k = m then w.heap.size else r k) (m + 1) (fun k s => if k = m then 0 else T k s) := by
  obtain ⟨l1, l2⟩ := h.lt
  obtain ⟨⟨rows, h1, h2, h3⟩, h4, h5, h6⟩ := h
  have g1 := blk_set (blk_old h1 (.cells (madeCells #[.int .i64 0] (pw n)) 3)) m (.slice (some ⟨w.heap.size, 0, none⟩) (pw n) (pw n))
  refine ⟨⟨_, g1, by simpa using h2, fun k hk => ?_⟩, fun k hk => ?_, fun k hk => ?_, fun i j hi hj => ?_⟩
  · by_cases e : k = m
    · subst e
      have : k < rows.size := by omega
      simp [this]
    · rw [Array.getElem?_setIfInBounds_ne (by omega), h3 k (by omega)]
      simp only [if_neg e]
  · by_cases e : k = m
    · subst e
      refine ⟨madeCells #[.int .i64 0] (pw n), ?_, size_madeCells _ _, fun s hs => ?_⟩
      · simp only [if_true]
        exact blk_far (blk_new w _) _ _ _ (by omega)
      · simp only [if_true]; exact made_at _ _ _ hs
    · obtain ⟨cs, f1, f2, f3⟩ := h4 k (by omega)
      refine ⟨cs, ?_, f2, fun s hs => ?_⟩
      · simp only [if_neg e]
        exact blk_far (blk_old f1 _) _ _ _ (by have := h5 k (by omega); omega)
      · simp only [if_neg e]; exact f3 s hs
  · by_cases e : k = m
    · simp only [if_pos e]; exact l1
    · simp only [if_neg e]; exact h5 k (by omega)
  · by_cases e : i = m <;> by_cases e2 : j = m
    · intro _; omega
    · simp only [if_pos e, if_neg e2]; intro hh; have := l2 j (by omega); omega
    · simp only [if_neg e, if_pos e2]; intro hh; have := l2 i (by omega); omega
    · simp only [if_neg e, if_neg e2]; exact h6 i j (by omega) (by omega)
theorem Tab.congr {w : World} {gl n m : Nat} {r : Nat → Nat} {T T' : Nat → Nat → Int} (h : Tab w gl n r m T) (e : ∀ k s, k < m → s < pw n → T k s = T' k s) : Tab w gl n r m T' := by
  obtain ⟨h1, h4, h5, h6⟩ := h
  refine ⟨h1, fun k hk => ?_, h5, h6⟩
  obtain ⟨cs, g1, g2, g3⟩ := h4 k hk
  exact ⟨cs, g1, g2, fun s hs => by rw [g3 s hs, e k s hk hs]⟩

theorem clr_no (s k : Nat) (hs : s < 2 ^ 64) (hk : k < 64) : (clr s k).testBit k = false := by rw [clr_bit hs hk]; simp
theorem sub_of_lt {n s : Nat} (h : s < pw n) : Sub n s := fun i hi => by
  apply Classical.byContradiction
  intro hin
  have : s.testBit i = false := Nat.testBit_lt_two_pow (Nat.lt_of_lt_of_le h (Nat.pow_le_pow_right (by omega) (by omega)))
  rw [this] at hi; cases hi
theorem next_xy (sx sy ax ay : Int) (P : List Pt) (vp : Value) (F gl set : Nat) (r : Nat → Nat) (T : Nat → Nat → Int) (w : World) (hPb : ∀ p ∈ P, Bd p) (ha : Bd (ax, ay)) (hn : P.length ≤ 10)
    (hF : Fin w F (sx, sy) vp gl P.length) (hT : Tab w gl P.length r P.length T) (hbd : ∀ k, k < P.length → set.testBit k = true → 0 ≤ T k (clr set k) ∧ T k (clr set k) ≤ 9007199254740992) (hsub : Sub P.length set) (rp : Pts w 0 vp P) :
    Calls Tryz.prog 219 #[.pointer (some ⟨F, 0, none⟩), .agg #[.int .i64 ax, .int .i64 ay], .int .i64 set] w fun e w' => e = .returned (.tuple #[.int .i64 (scanTo P T (ax, ay) set P.length).1, .int .i64 (scanTo P T (ax, ay) set P.length).2]) ∧ Below w.heap.size w w' :=
  next_any (sx, sy) (ax, ay) P vp F gl set r T w hPb ha hn hF hT hbd hsub rp

set_option maxHeartbeats 2000000 in
set_option maxRecDepth 100000 in
theorem newFinder_any (st : Pt) (P : List Pt) (vp : Value) (w : World) (hst : Bd st) (hPb : ∀ p ∈ P, Bd p) (hn : P.length ≤ 10) (rp : Pts w 0 vp P) :
    Calls Tryz.prog 146 #[ptv st, vp] w fun e w' => (∃ F gl r T, e = .returned (.pointer (some ⟨F, 0, none⟩)) ∧ w.heap.size ≤ F ∧ Fin w' F st vp gl P.length ∧ Tab w' gl P.length r P.length T ∧ ∀ k s, k < P.length → s < pw P.length → s.testBit k = false → T k s = W st P k s) ∧ Below w.heap.size w w' := by
  obtain ⟨sx, sy⟩ := st
  obtain ⟨va, cap, rfl, hc1, hc2⟩ := Pts.form rp
  have hpw := pw_10 hn
  have m1 := mk_rows P.length (by omega)
  have m2 := mk_ints (pw P.length) (by omega)
  have q1 := wrap_pw P.length (by omega)
  have W0 : ∀ j, W (sx, sy) P j 0 = dist (pt P j) (sx, sy) := fun j => by rw [W_eq (sx, sy) P j 0 (by omega) (by omega)]; rfl
  unfold ptv
  go_enter Tryz.func146, Tryz.ntmps146
  go_wp2
  go_region
  go_wp2
  go_loopg [18] P.length (fun gk i wr => ∃ (k : Nat) (r : Nat → Nat) (T : Nat → Nat → Int), gk = P.length - k ∧ k ≤ P.length ∧ i = .int .i64 k ∧ Below w.heap.size w wr ∧ wr.heap[w.heap.size]? = some (.cells #[.int .i64 sx, .int .i64 sy] 81 (0, 0)) ∧ Fin wr (w.heap.size + 1 + 1) (sx, sy) (.slice va P.length cap) (w.heap.size + 1) P.length ∧ Tab wr (w.heap.size + 1) P.length r k T ∧ (∀ j, j < k → w.heap.size + 1 + 1 < r j) ∧ ∀ j, j < k → T j 0 = dist (pt P j) (sx, sy))
  case atStart =>
    refine ⟨0, fun _ => 0, fun _ _ => 0, by omega, Nat.zero_le _, rfl, Bl.drewN (Bl.alloc (Bl.alloc (Bl.alloc (Below.refl _ _) _) _) _) 1, ?_, ?_, Tab.new ?_, fun j hj => by omega, fun j hj => by omega⟩
    · exact blk_old (blk_old (blk_new w _) _) _
    · exact blk_new' _ _ (by simp)
    · exact blk_old (blk_new' _ _ (by simp)) _
  case round =>
    obtain ⟨k, r, T, rfl, hk, rfl, hb, hA, hF, hT, hrF, hT0⟩ := hrel
    by_cases hlt : k < P.length
    · obtain ⟨p, hp⟩ : ∃ p, P[k]? = some p := ⟨_, List.getElem?_eq_getElem hlt⟩
      have hpB : Bd p := hPb p (List.mem_of_getElem? hp)
      have hptk : pt P k = p := by unfold pt; rw [List.getD_eq_getElem?_getD, hp]; rfl
      have hTA := (show Tab wr.drew (w.heap.size + 1) P.length r k T from hT).add hlt
      obtain ⟨px, py⟩ := p
      obtain ⟨b2, o2, rfl, _, hl2, hx2, hx3⟩ := Pts.at rp hp
      have y2 := ((bcell hb).1 b2 (o2 + k * 2) hl2).trans hx2
      have y3 := ((bcell hb).1 b2 (o2 + k * 2 + 1) hl2).trans hx3
      obtain ⟨_, _, kF2, kF3⟩ := hF.cells
      obtain ⟨lg, _⟩ := hT.lt
      have lF := blk_lt hF
      have hsz := hb.size
      obtain ⟨⟨v0, hv0⟩, hv1⟩ := hT.slot hlt
      have m2' := m2 wr.drew
      have hbA := Bl.alloc (Below.refl wr.drew.heap.size wr.drew) (.cells (madeCells #[.int .i64 0] (pw P.length)) 3)
      have a3 := ((bcell hbA).1 (w.heap.size + 1 + 1) 3 lF).trans kF3
      have a4 := ((bcell hbA).1 (w.heap.size + 1) k lg).trans hv0
      have a5 : (wr.drew.alloc (.cells (madeCells #[.int .i64 0] (pw P.length)) 3)).frozen? ⟨w.heap.size + 1, k, none⟩ = false := by
        have := (bcell hbA).2 (w.heap.size + 1) k lg
        rw [this]; exact hv1
      go_wp2
      go_region
      have hb5 := Bl.set (Bl.alloc (Below.drew hb) (.cells (madeCells #[.int .i64 0] (pw P.length)) 3)) (w.heap.size + 1) k (by omega) (.slice (some ⟨wr.heap.size, 0, none⟩) (pw P.length) (pw P.length))
      have hA5 := blk_far (blk_old (show wr.drew.heap[w.heap.size]? = _ from hA) (.cells (madeCells #[.int .i64 0] (pw P.length)) 3)) (w.heap.size + 1) k (.slice (some ⟨wr.heap.size, 0, none⟩) (pw P.length) (pw P.length)) (by omega)
      have hF5 := blk_far (blk_old (show wr.drew.heap[w.heap.size + 1 + 1]? = _ from hF) (.cells (madeCells #[.int .i64 0] (pw P.length)) 3)) (w.heap.size + 1) k (.slice (some ⟨wr.heap.size, 0, none⟩) (pw P.length) (pw P.length)) (by omega)
      have hF5' : Fin _ (w.heap.size + 1 + 1) (sx, sy) (.slice (some ⟨b2, o2, none⟩) P.length cap) (w.heap.size + 1) P.length := hF5
      have hTA : Tab ((wr.drew.alloc (.cells (madeCells #[.int .i64 0] (pw P.length)) 3)).setCell ⟨w.heap.size + 1, k, none⟩ (.slice (some ⟨wr.heap.size, 0, none⟩) (pw P.length) (pw P.length))) (w.heap.size + 1) P.length (fun j => if j = k then wr.heap.size else r j) (k + 1) (fun j s => if j = k then 0 else T j s) := hTA
      have hw : (wr.drew.alloc (.cells (madeCells #[.int .i64 0] (pw P.length)) 3)).setCell ⟨w.heap.size + 1, k, none⟩ (.slice (some ⟨wr.heap.size, 0, none⟩) (pw P.length) (pw P.length)) = ((wr.setCell ⟨w.heap.size + 1, k, none⟩ (.slice (some ⟨wr.heap.size, 0, none⟩) (pw P.length) (pw P.length))).alloc (.cells (madeCells #[.int .i64 0] (pw P.length)) 3)).drew := by
        rw [World.alloc_drew, World.setCell_drew, World.setCell_alloc_past _ _ _ _ lg]
      rw [hw] at hb5 hA5 hF5' hTA
      have hFr := lF
      clear hF5
      clear hw hb hA hF hT kF2 kF3 a3 a4 a5 hv0 hv1 hbA m2' y2 y3 lF lg hsz
      generalize ((wr.setCell ⟨w.heap.size + 1, k, none⟩ (.slice (some ⟨wr.heap.size, 0, none⟩) (pw P.length) (pw P.length))).alloc (.cells (madeCells #[.int .i64 0] (pw P.length)) 3)).drew = w5 at *
      have hsz := hb5.size
      have y2 := ((bcell hb5).1 b2 (o2 + k * 2) hl2).trans hx2
      have y3 := ((bcell hb5).1 b2 (o2 + k * 2 + 1) hl2).trans hx3
      have lF := blk_lt hF5'
      obtain ⟨_, _, kF2, kF3⟩ := hF5'.cells
      obtain ⟨lg, lr⟩ := hTA.lt
      have c1 := hTA.row (Nat.lt_succ_self k)
      have hp0 : 0 < pw P.length := Nat.two_pow_pos _
      obtain ⟨d1, d2⟩ := hTA.at (Nat.lt_succ_self k) hp0
      have g1 := (blk2 hA5).1
      have g2 := (blk2 hA5).2
      simp only [if_pos] at c1 d1 d2
      have hpwi : (0 : Int) < ((pw P.length : Nat) : Int) := by omega
      generalize hrr : wr.heap.size = rr at *
      go_wp2
      go_region_with ((go_at_call 212; refine (distance_xy px py sx sy _ hpB hst).mono ?_; rintro e w1 ⟨rfl, hb1⟩; have c1' := ((bcell hb1).1 _ _ lg).trans c1; have d1' := ((bcell hb1).1 _ _ (World.block_lt_of_cell? _ _ d1)).trans d1; have d2' := ((bcell hb1).2 _ _ (World.block_lt_of_cell? _ _ d1)).trans d2; have k3' := ((bcell hb1).1 _ _ lF).trans kF3))
      all_goals go_wp2
      all_goals (
        have hb1' : Below w5.heap.size w5 w1 := ⟨hb1.os, hb1.tape, hb1.output, hb1.size, hb1.block⟩
        have hT1 := (hTA.below hb1').set (Nat.lt_succ_self k) hp0 (dist (px, py) (sx, sy))
        simp only [if_pos] at hT1
        have hA2 := blk_far (blk_below hA5 hb1') rr 0 (.int .i64 (dist (px, py) (sx, sy))) (by omega)
        have hF2 := blk_far (hF5'.below hb1') rr 0 (.int .i64 (dist (px, py) (sx, sy))) (by omega)
        have hb2 := Bl.set (Bl.trans hb5 hb1') rr 0 (by omega) (.int .i64 (dist (px, py) (sx, sy)))
        go_roundg (P.length - (k + 1))
        case rel =>
          refine ⟨k + 1, _, _, rfl, by omega, by go_num, hb2, hA2, hF2, hT1, fun j hj => ?_, fun j hj => ?_⟩
          · by_cases e : j = k
            · rw [if_pos e]; exact hFr
            · rw [if_neg e]; exact hrF j (by omega)
          · unfold upd
            by_cases e : j = k
            · subst e; rw [if_pos ⟨rfl, rfl⟩, hptk]
            · rw [if_neg (fun h => e h.1)]; show (if j = k then 0 else T j 0) = _; rw [if_neg e]; exact hT0 j (by omega)
        case measure => omega)
    · have hkn : k = P.length := by omega
      subst hkn
      clear hA
      go_wp2
      go_loopg [7] (pw P.length - 1) (fun gk sv wr => ∃ (s : Nat) (T : Nat → Nat → Int), gk = pw P.length - s ∧ 1 ≤ s ∧ s ≤ pw P.length ∧ sv = .int .i64 s ∧ Below w.heap.size w wr ∧ Fin wr (w.heap.size + 1 + 1) (sx, sy) (.slice va P.length cap) (w.heap.size + 1) P.length ∧ Tab wr (w.heap.size + 1) P.length r P.length T ∧ ∀ j s', j < P.length → s' < s → s'.testBit j = false → T j s' = W (sx, sy) P j s')
      case atStart =>
        refine ⟨1, T, rfl, Nat.le_refl _, Nat.two_pow_pos _, rfl, hb, hF, hT, fun j s' hj hs' _ => ?_⟩
        obtain rfl : s' = 0 := by omega
        rw [hT0 j hj, W0]
      case round =>
        clear hb hF hT hT0
        obtain ⟨s, T, rfl, hs1, hs2, rfl, hb, hF, hT, hTW⟩ := hrel
        by_cases hlt : s < pw P.length
        · have hsub := sub_of_lt hlt
          go_wp2
          go_loopg [55] P.length (fun gk iv wr => ∃ (i : Nat) (T : Nat → Nat → Int), gk = P.length - i ∧ i ≤ P.length ∧ iv = .int .i64 i ∧ Below w.heap.size w wr ∧ Fin wr (w.heap.size + 1 + 1) (sx, sy) (.slice va P.length cap) (w.heap.size + 1) P.length ∧ Tab wr (w.heap.size + 1) P.length r P.length T ∧ (∀ j s', j < P.length → s' < s → s'.testBit j = false → T j s' = W (sx, sy) P j s') ∧ ∀ j, j < i → s.testBit j = false → T j s = W (sx, sy) P j s)
          case atStart => exact ⟨0, T, rfl, Nat.zero_le _, rfl, hb, hF, hT, hTW, fun j hj => by omega⟩
          case round =>
            clear hb hF hT hTW
            obtain ⟨i, T, rfl, hi, rfl, hb, hF, hT, hTW, hTi⟩ := hrel
            by_cases hil : i < P.length
            · have r1 := op_shr s i (by omega)
              have r2 := bits_and1' s i (by omega)
              cases hbit : s.testBit i
              · have r3 := bitN_no hbit
                obtain ⟨p, hp⟩ : ∃ p, P[i]? = some p := ⟨_, List.getElem?_eq_getElem hil⟩
                have hpB : Bd p := hPb p (List.mem_of_getElem? hp)
                have hptk : pt P i = p := by unfold pt; rw [List.getD_eq_getElem?_getD, hp]; rfl
                have hWs : W (sx, sy) P i s = (scanTo P T p s P.length).2 := by
                  rw [W_eq (sx, sy) P i s (by omega) (by omega)]
                  unfold V nextW
                  rw [if_neg (by omega), hptk]
                  rw [scan_congr P p s P.length (fun j hj hb => (hTW j (clr s j) hj (clr_lt (by omega) (by omega) hb) (clr_no s _ (by omega) (by omega))).symm)]
                have hbd : ∀ k, k < P.length → s.testBit k = true → 0 ≤ T k (clr s k) ∧ T k (clr s k) ≤ 9007199254740992 := by
                  intro k hk hb
                  have hcl : clr s k < s := clr_lt (by omega) (by omega) hb
                  rw [hTW k (clr s k) hk hcl (clr_no s _ (by omega) (by omega))]
                  obtain ⟨b1, b2, _⟩ := W_bd (sx, sy) P hst hPb (by omega) 1024 (clr s k) (by omega) (by omega) hsub.clr k hk
                  exact ⟨b1, by omega⟩
                clear hptk
                obtain ⟨px, py⟩ := p
                obtain ⟨b2, o2, rfl, _, hl2, hx2, hx3⟩ := Pts.at rp hp
                clear hp
                have y2 := ((bcell hb).1 b2 (o2 + i * 2) hl2).trans hx2
                have y3 := ((bcell hb).1 b2 (o2 + i * 2 + 1) hl2).trans hx3
                have k3 := hF.cells.2.2.2
                have c1 := hT.row hil
                obtain ⟨d1, d2⟩ := hT.at hil hlt
                have lg := hT.lt.1
                have lF := blk_lt hF
                have lr := hT.lt.2 i hil
                have hgr := hT.2.2.1 i hil
                have hsz := hb.size
                have hslt : ((s : Nat) : Int) < ((pw P.length : Nat) : Int) := by omega
                have HC := Lib.hid (next_xy sx sy px py P _ (w.heap.size + 1 + 1) (w.heap.size + 1) s r T wr.drew hPb hpB hn hF hT hbd hsub (rp.below (Below.drew hb)))
                have HT := Lib.hid hT
                have HF := Lib.hid hF
                have HW := Lib.hid hWs
                have HTW := Lib.hid hTW
                have HTi := Lib.hid hTi
                have HRP := Lib.hid rp
                clear hT hF hWs hTW hTi hbd rp hx2 hx3
                generalize hq : scanTo P T (px, py) s P.length = q at *
                obtain ⟨qp, ql⟩ := q
                have HQ := Lib.hid hq
                clear hq
                have hrFi := hrF i hil
                generalize hri : r i = ri at *
                go_wp2
                go_region_with ((go_at_call 219; refine HC.out.mono ?_; rintro e w1 ⟨rfl, hb1⟩; have c1' := ((bcell hb1).1 _ _ lg).trans c1; have d1' := ((bcell hb1).1 _ _ lr).trans d1; have d2' := ((bcell hb1).2 _ _ lr).trans d2; have k3' := ((bcell hb1).1 _ _ lF).trans k3))
                all_goals go_wp2
                all_goals (
                  have hb1' : Below wr.heap.size wr w1 := ⟨hb1.os, hb1.tape, hb1.output, hb1.size, hb1.block⟩
                  have hT1 := (HT.out.below hb1').set hil hlt ql
                  have hF1 := HF.out.below hb1'
                  rw [hri] at hT1
                  have hb2 := Bl.set (Bl.trans hb hb1') ri s (by omega) (.int .i64 ql)
                  have hF2 := blk_far hF1 ri s (.int .i64 ql) (by have := hrF i hil; omega)
                  go_roundg (P.length - (i + 1))
                  case rel =>
                    refine ⟨i + 1, upd T i s ql, rfl, by omega, by go_num, hb2, hF2, hT1, fun j s' hj hs' hno => ?_, fun j hj hno => ?_⟩
                    · unfold upd; rw [if_neg (by omega)]; exact HTW.out j s' hj hs' hno
                    · unfold upd
                      by_cases e : j = i
                      · subst e; rw [if_pos ⟨rfl, rfl⟩]; exact HW.out.symm
                      · rw [if_neg (fun h => e h.1)]; exact HTi.out j (by omega) hno
                  case measure => omega)
              · have r3 := bitN_yes hbit
                go_wp2
                go_roundg (P.length - (i + 1))
                case rel =>
                  refine ⟨i + 1, T, rfl, by omega, by go_num, hb, hF, hT, hTW, fun j hj hj2 => ?_⟩
                  by_cases e : j = i
                  · subst e; rw [hbit] at hj2; cases hj2
                  · exact hTi j (by omega) hj2
                case measure => omega
            · go_wp2
              go_roundg (pw P.length - (s + 1))
              case rel =>
                refine ⟨s + 1, T, rfl, by omega, by omega, by go_num, hb, hF, hT, fun j s' hj hs' hno => ?_⟩
                by_cases e : s' = s
                · subst e; exact hTi j (by omega) hno
                · exact hTW j s' hj (by omega) hno
              case measure => omega
        · go_wp2
          go_ret
          have hsn : s = pw P.length := by omega
          subst hsn
          exact ⟨⟨_, _, r, T, rfl, by omega, hF, hT, fun k s' hk hs' hno => hTW k s' hk hs' hno⟩, hb⟩
end Go.Proofs.YtbkglhakhahfpaaGreatDoor
