/- The contract of orderFault: what is wrong with an order. Condition: at most 1000 places. -/
import Derived.Test.YtbkglhakhahfpaaGreatDoorTurn
namespace Go.Proofs.YtbkglhakhahfpaaGreatDoor
open Go.RowKit Go.Sort

theorem info_bool : (Tryz.prog.info? 4).map (fun i => (i.zero, i.size, i.bytes)) = some (some (.bool false), 1, 1) := by kernel_rfl

/-- a block of marks: of which numbers below n have been met. -/
def Marks (w : World) (g n : Nat) (l : List Int) : Prop := ∃ cs : Array Value, w.heap[g]? = some (.cells cs 4 (0, 0)) ∧ cs.size = n ∧ ∀ j, j < n → cs[j]? = some (.bool (memB j l))
theorem Marks.cell {w : World} {g n : Nat} {l : List Int} (h : Marks w g n l) {j : Nat} (hj : j < n) : w.cell? ⟨g, j, none⟩ = some (.bool (memB j l)) ∧ w.frozen? ⟨g, j, none⟩ = false := by
  obtain ⟨cs, h1, h2, h3⟩ := h
  exact ⟨(blk_cell h1 j).trans (h3 j hj), blk_free h1 j⟩
theorem memB_snoc (j x : Int) (l : List Int) : memB j (l ++ [x]) = (memB j l || decide (j = x)) := by
  simp [memB]
theorem Marks.set {w : World} {g n : Nat} {l : List Int} (h : Marks w g n l) {x : Nat} (hx : x < n) : Marks (w.setCell ⟨g, x, none⟩ (.bool true)) g n (l ++ [(x : Int)]) := by
  obtain ⟨cs, h1, h2, h3⟩ := h
  refine ⟨cs.setIfInBounds x (.bool true), blk_set h1 x _, by simpa using h2, fun j hj => ?_⟩
  rw [memB_snoc]
  by_cases hjx : x = j
  · subst hjx
    simp [h2, hx]
  · rw [Array.getElem?_setIfInBounds_ne hjx, h3 j hj]
    have : decide ((j : Int) = (x : Int)) = false := by simp; omega
    rw [this, Bool.or_false]
theorem Marks.new (w : World) (n : Nat) : Marks (w.alloc (.cells (madeCells #[.bool false] n) 4)) w.heap.size n [] :=
  ⟨_, blk_new w _, size_madeCells _ _, fun j hj => by
    have := congrArg (fun l => l[j]?) (toList_madeCells_one (.bool false) n)
    simp only [Array.getElem?_toList, List.getElem?_replicate, hj, if_true] at this
    rw [this]; rfl⟩
theorem Marks.below {w w' : World} {g n : Nat} {l : List Int} (h : Marks w g n l) (hb : Below w.heap.size w w') : Marks w' g n l := by
  obtain ⟨cs, h1, h2, h3⟩ := h
  exact ⟨cs, blk_below h1 hb, h2, h3⟩

theorem mk_bools (n : Nat) (hn : n ≤ 1000000) : ∀ W : World, (Instr.makeSlice 286 (.int .i64 (n : Int)) (.int .i64 (n : Int))).run Tryz.prog W = .ok (.slice (some ⟨W.heap.size, 0, none⟩) n n) (W.alloc (.cells (madeCells #[.bool false] n) 4)) := fun W => by
  obtain ⟨i, hi, hz0, hz1, hz2⟩ := info_parts info_bool
  have := run_make_rowN (P := Tryz.prog) 286 4 i _ Tryz.underlying286 hi hz0 .i64 .i64 n n (Nat.le_refl _) (by rw [hz2]; omega) (by omega) W
  rw [hz1, Nat.mul_one] at this
  exact this

set_option maxHeartbeats 1000000 in
set_option maxRecDepth 100000 in
theorem orderFault_any (P : List Pt) (l : List Int) (vp v : Value) (w : World) (hn : P.length ≤ 1000) (hlen : l.length ≤ 1000) (rp : Pts w 0 vp P) (rl : Ints w 0 v l) :
    Calls Tryz.prog 143 #[vp, v] w fun e w' => e = .returned (.int .i64 (orderF P.length l)) ∧ Below w.heap.size w w' := by
  obtain ⟨a, cap, rfl, hc1, hc2⟩ := Ints.form rl
  obtain ⟨a', cap', rfl, hc1', hc2'⟩ := Pts.form rp
  generalize hPn : P.length = n at *
  by_cases hq : l.length = n
  · have HQ := Lib.hid hq
    have hb : ((l.length : Int) != (n : Int)) = false := by simp [hq]
    have hmk := mk_bools n (by omega)
    clear hq
    go_enter Tryz.func143, Tryz.ntmps143
    go_wp2
    go_loopg [18] l.length (fun gk i wr => ∃ k : Nat, gk = l.length - k ∧ k ≤ l.length ∧ i = .int .i64 k ∧ Hid (ordF n [] l = ordF n (l.take k) (l.drop k)) ∧ Marks wr w.heap.size n (l.take k) ∧ Below w.heap.size w wr)
    case atStart => exact ⟨0, by omega, Nat.zero_le _, rfl, Lib.hid (by simp), Marks.new w n, Bl.alloc (Below.refl _ _) _⟩
    case round =>
      obtain ⟨k, rfl, hk, rfl, hf, hM, hbl⟩ := hrel
      by_cases hlt : k < l.length
      · obtain ⟨x, hx⟩ : ∃ x, l[k]? = some x := ⟨_, List.getElem?_eq_getElem hlt⟩
        have HS := Lib.hid (take_snoc hx)
        have HD := Lib.hid (drop_at hx)
        obtain ⟨b2, o2, rfl, _, hl2, hx2⟩ := Ints.at rl hx
        have y2 := ((bcell hbl).1 b2 (o2 + k) hl2).trans hx2
        clear hx hx2
        by_cases hr : 0 ≤ x ∧ x < n
        · obtain ⟨x, rfl⟩ := Int.eq_ofNat_of_zero_le hr.1
          have hxn : x < n := by omega
          have HI : Hid (inB 0 (x : Int) ((n : Int) - 1) = true) := Lib.hid (inB_true (by omega) (by omega))
          obtain ⟨c1, f1⟩ := Marks.cell hM hxn
          cases hF2 : memB (x : Int) (l.take k)
          all_goals
            have HF2 := Lib.hid hF2
            rw [hF2] at c1
            clear hF2 hr
            go_wp2
          · go_roundg (l.length - (k + 1))
            case rel => exact ⟨k + 1, rfl, by omega, by go_num, Lib.hid (by rw [hf.out, HD.out, HS.out, ordF, HI.out, HF2.out]; rfl), by rw [HS.out]; exact Marks.set hM hxn, Bl.set hbl _ _ (Nat.le_refl _) _⟩
            case measure => omega
          · go_ret
            exact ⟨ret_int (by unfold orderF; rw [if_pos HQ.out, hf.out, HD.out, ordF, HI.out, HF2.out]; rfl), hbl⟩
        · have HI : Hid (inB 0 x ((n : Int) - 1) = false) := Lib.hid (by
            by_cases h0 : 0 ≤ x
            · exact inB_gt (by omega)
            · exact inB_lt (by omega))
          by_cases h0 : x < 0
          all_goals
            go_wp2
            go_ret
            exact ⟨ret_int (by unfold orderF; rw [if_pos HQ.out, hf.out, HD.out, ordF, HI.out]; rfl), hbl⟩
      · have hk2 : k = l.length := by omega
        subst hk2
        go_wp2
        go_ret
        exact ⟨ret_int (by unfold orderF; rw [if_pos HQ.out, hf.out, List.drop_length]; rfl), hbl⟩
  · have HQ := Lib.hid hq
    have hb : ((l.length : Int) != (n : Int)) = true := by simp; omega
    clear hq
    go_enter Tryz.func143, Tryz.ntmps143
    go_wp2
    go_ret
    exact ⟨ret_int (by unfold orderF; rw [if_neg HQ.out]), Below.refl _ _⟩
end Go.Proofs.YtbkglhakhahfpaaGreatDoor
