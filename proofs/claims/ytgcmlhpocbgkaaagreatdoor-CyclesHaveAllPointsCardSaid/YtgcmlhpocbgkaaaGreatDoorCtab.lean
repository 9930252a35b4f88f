/- The tables of Cycles in memory; the contract of cost.less. No conditions beside sizes. -/
import Derived.Test.YtgcmlhpocbgkaaaGreatDoorOnes
namespace Go.Proofs.YtgcmlhpocbgkaaaGreatDoor
open Go.RowKit Go.Sort

theorem info_cost : (Tryz.prog.info? 155).map (fun i => (i.zero, i.size, i.bytes)) = some (some (.agg #[.int .i64 0, .int .i64 0]), 2, 16) := by kernel_rfl
theorem mk_costs (n : Nat) (hn : n ≤ 1000000) : ∀ W : World, (Instr.makeSlice 151 (.int .i64 (n : Int)) (.int .i64 (n : Int))).run Tryz.prog W = .ok (.slice (some ⟨W.heap.size, 0, none⟩) n n) (W.alloc (.cells (madeCells #[.int .i64 0, .int .i64 0] (n * 2)) 155)) := fun W => by
  obtain ⟨i, hi, hz0, hz1, hz2⟩ := info_parts info_cost
  have := run_make_rowN (P := Tryz.prog) 151 155 i _ Tryz.underlying151 hi hz0 .i64 .i64 n n (Nat.le_refl _) (by rw [hz2]; omega) (by omega) W
  rw [hz1] at this
  exact this
theorem made2_at (n j : Nat) (h : j < n) : (madeCells #[.int .i64 0, .int .i64 0] n)[j]? = some (Value.int .i64 0) := by
  unfold madeCells
  simp only [Array.getElem?_map]
  rw [Array.getElem?_eq_getElem (by simpa using h)]
  simp only [Array.getElem_range, Option.map_some, Option.some.injEq]
  have : j % 2 = 0 ∨ j % 2 = 1 := by omega
  show (#[Value.int .i64 0, Value.int .i64 0] : Array Value)[j % 2]! = _
  rcases this with h | h <;> rw [h] <;> rfl

/-- the tables of Cycles: tours and lengths of the sets below 'set', costs and first parts of all. -/
structure Ct (w : World) (gT gC gF gG lo N set : Nat) (tl : Nat → List Int) (lg : Nat → Int) (L : Nat → Int × Int) (F : Nat → Nat) : Prop where
  ord : gT < gC ∧ gC < gF ∧ gF < gG ∧ gG < lo
  hlo : lo ≤ w.heap.size
  hT : ∃ cs, w.heap[gT]? = some (.cells cs 22 (0, 0)) ∧ cs.size = N ∧ ∀ s, 0 < s → s < set → ∃ v, cs[s]? = some v ∧ Ints w lo v (tl s)
  hC : ∃ cs, w.heap[gC]? = some (.cells cs 155 (0, 0)) ∧ cs.size = N * 2 ∧ ∀ s, s < N → cs[s * 2]? = some (.int .i64 (L s).1) ∧ cs[s * 2 + 1]? = some (.int .i64 (L s).2)
  hF : ∃ cs, w.heap[gF]? = some (.cells cs 3 (0, 0)) ∧ cs.size = N ∧ ∀ s, s < N → cs[s]? = some (.int .i64 (F s))
  hG : ∃ cs, w.heap[gG]? = some (.cells cs 3 (0, 0)) ∧ cs.size = N ∧ ∀ s, 0 < s → s < set → cs[s]? = some (.int .i64 (lg s))
theorem Ct.below {w w' : World} {gT gC gF gG lo N set : Nat} {tl : Nat → List Int} {lg : Nat → Int} {L : Nat → Int × Int} {F : Nat → Nat} (h : Ct w gT gC gF gG lo N set tl lg L F) (hb : Below w.heap.size w w') : Ct w' gT gC gF gG lo N set tl lg L F := by
  obtain ⟨a, b, ⟨c1, c2, c3, c4⟩, ⟨d1, d2, d3, d4⟩, ⟨e1, e2, e3, e4⟩, ⟨f1, f2, f3, f4⟩⟩ := h
  refine ⟨a, Nat.le_trans b hb.size, ⟨c1, blk_below c2 hb, c3, fun s h1 h2 => ?_⟩, ⟨d1, blk_below d2 hb, d3, d4⟩, ⟨e1, blk_below e2 hb, e3, e4⟩, ⟨f1, blk_below f2 hb, f3, f4⟩⟩
  obtain ⟨v, h3, h4⟩ := c4 s h1 h2
  exact ⟨v, h3, h4.below hb⟩
theorem Ct.tour {w : World} {gT gC gF gG lo N set : Nat} {tl : Nat → List Int} {lg : Nat → Int} {L : Nat → Int × Int} {F : Nat → Nat} (h : Ct w gT gC gF gG lo N set tl lg L F) {s : Nat} (h1 : 0 < s) (h2 : s < set) : ∃ a c, w.cell? ⟨gT, s, none⟩ = some (.slice a (tl s).length c) ∧ Ints w lo (.slice a (tl s).length c) (tl s) := by
  obtain ⟨c1, c2, c3, c4⟩ := h.hT
  obtain ⟨v, h3, h4⟩ := c4 s h1 h2
  obtain ⟨a, c, rfl, _, _⟩ := Ints.form h4
  exact ⟨a, c, (blk_cell c2 s).trans h3, h4⟩
theorem Ct.cost {w : World} {gT gC gF gG lo N set : Nat} {tl : Nat → List Int} {lg : Nat → Int} {L : Nat → Int × Int} {F : Nat → Nat} (h : Ct w gT gC gF gG lo N set tl lg L F) {s : Nat} (h2 : s < N) : w.cell? ⟨gC, s * 2, none⟩ = some (.int .i64 (L s).1) ∧ w.cell? ⟨gC, s * 2 + 1, none⟩ = some (.int .i64 (L s).2) ∧ w.frozen? ⟨gC, s * 2, none⟩ = false ∧ w.frozen? ⟨gC, s * 2 + 1, none⟩ = false := by
  obtain ⟨c1, c2, c3, c4⟩ := h.hC
  exact ⟨(blk_cell c2 _).trans (c4 s h2).1, (blk_cell c2 _).trans (c4 s h2).2, blk_free c2 _, blk_free c2 _⟩
theorem Ct.first {w : World} {gT gC gF gG lo N set : Nat} {tl : Nat → List Int} {lg : Nat → Int} {L : Nat → Int × Int} {F : Nat → Nat} (h : Ct w gT gC gF gG lo N set tl lg L F) {s : Nat} (h2 : s < N) : w.cell? ⟨gF, s, none⟩ = some (.int .i64 (F s)) ∧ w.frozen? ⟨gF, s, none⟩ = false := by
  obtain ⟨c1, c2, c3, c4⟩ := h.hF
  exact ⟨(blk_cell c2 _).trans (c4 s h2), blk_free c2 _⟩
theorem Ct.long {w : World} {gT gC gF gG lo N set : Nat} {tl : Nat → List Int} {lg : Nat → Int} {L : Nat → Int × Int} {F : Nat → Nat} (h : Ct w gT gC gF gG lo N set tl lg L F) {s : Nat} (h1 : 0 < s) (h2 : s < set) : w.cell? ⟨gG, s, none⟩ = some (.int .i64 (lg s)) := by
  obtain ⟨c1, c2, c3, c4⟩ := h.hG
  exact (blk_cell c2 _).trans (c4 s h1 h2)
/-- the places of a row that is to be filled. -/
theorem Ct.slots {w : World} {gT gC gF gG lo N set : Nat} {tl : Nat → List Int} {lg : Nat → Int} {L : Nat → Int × Int} {F : Nat → Nat} (h : Ct w gT gC gF gG lo N set tl lg L F) {s : Nat} (h2 : s < N) : (∃ v, w.cell? ⟨gT, s, none⟩ = some v) ∧ w.frozen? ⟨gT, s, none⟩ = false ∧ (∃ v, w.cell? ⟨gG, s, none⟩ = some v) ∧ w.frozen? ⟨gG, s, none⟩ = false := by
  obtain ⟨c1, c2, c3, c4⟩ := h.hT
  obtain ⟨d1, d2, d3, d4⟩ := h.hG
  exact ⟨⟨c1[s]'(by omega), by rw [blk_cell c2 s, Array.getElem?_eq_getElem (by omega)]⟩, blk_free c2 _, ⟨d1[s]'(by omega), by rw [blk_cell d2 s, Array.getElem?_eq_getElem (by omega)]⟩, blk_free d2 _⟩
theorem ints_far {w : World} {lo g i : Nat} {v u : Value} {l : List Int} (h : Ints w lo v l) (hg : g < lo) : Ints (w.setCell ⟨g, i, none⟩ u) lo v l :=
  Rd.keep h (fun k h1 _ => Below.heap_setCell _ ⟨g, i, none⟩ _ k (by show k ≠ g; omega)) (by simp [World.setCell])
theorem Ct.row {w : World} {gT gC gF gG lo N set : Nat} {tl : Nat → List Int} {lg : Nat → Int} {L : Nat → Int × Int} {F : Nat → Nat} (h : Ct w gT gC gF gG lo N set tl lg L F) (h2 : set < N) {v : Value} (hv : Ints w lo v (tl set)) :
    Ct ((w.setCell ⟨gT, set, none⟩ v).setCell ⟨gG, set, none⟩ (.int .i64 (lg set))) gT gC gF gG lo N (set + 1) tl lg L F := by
  obtain ⟨⟨a1, a2, a3, a4⟩, b, ⟨c1, c2, c3, c4⟩, ⟨d1, d2, d3, d4⟩, ⟨e1, e2, e3, e4⟩, ⟨f1, f2, f3, f4⟩⟩ := h
  refine ⟨⟨a1, a2, a3, a4⟩, by simpa [World.setCell] using b, ⟨_, blk_far (blk_set c2 set v) gG set _ (by omega), by simpa using c3, fun s h3 h4 => ?_⟩, ⟨d1, blk_far (blk_far d2 gT set _ (by omega)) gG set _ (by omega), d3, d4⟩, ⟨e1, blk_far (blk_far e2 gT set _ (by omega)) gG set _ (by omega), e3, e4⟩,
    ⟨_, blk_set (blk_far f2 gT set v (by omega)) set _, by simpa using f3, fun s h3 h4 => ?_⟩⟩
  · by_cases e : s = set
    · subst e
      exact ⟨v, by simp [show s < c1.size by omega], ints_far (ints_far hv (by omega)) (by omega)⟩
    · obtain ⟨u, h5, h6⟩ := c4 s h3 (by omega)
      exact ⟨u, by rw [Array.getElem?_setIfInBounds_ne (by omega)]; exact h5, ints_far (ints_far h6 (by omega)) (by omega)⟩
  · by_cases e : s = set
    · subst e; simp [show s < f1.size by omega]
    · rw [Array.getElem?_setIfInBounds_ne (by omega)]; exact f4 s h3 (by omega)
def updL (L : Nat → Int × Int) (s : Nat) (c : Int × Int) : Nat → Int × Int := fun x => if x = s then c else L x
def updF (F : Nat → Nat) (s f : Nat) : Nat → Nat := fun x => if x = s then f else F x
theorem Ct.put {w : World} {gT gC gF gG lo N set : Nat} {tl : Nat → List Int} {lg : Nat → Int} {L : Nat → Int × Int} {F : Nat → Nat} (h : Ct w gT gC gF gG lo N set tl lg L F) {s : Nat} (h2 : s < N) (c : Int × Int) (f : Nat) :
    Ct (((w.setCell ⟨gC, s * 2, none⟩ (.int .i64 c.1)).setCell ⟨gC, s * 2 + 1, none⟩ (.int .i64 c.2)).setCell ⟨gF, s, none⟩ (.int .i64 f)) gT gC gF gG lo N set tl lg (updL L s c) (updF F s f) := by
  obtain ⟨⟨a1, a2, a3, a4⟩, b, ⟨c1, c2, c3, c4⟩, ⟨d1, d2, d3, d4⟩, ⟨e1, e2, e3, e4⟩, ⟨f1, f2, f3, f4⟩⟩ := h
  refine ⟨⟨a1, a2, a3, a4⟩, by simpa [World.setCell] using b, ⟨c1, blk_far (blk_far (blk_far c2 gC _ _ (by omega)) gC _ _ (by omega)) gF _ _ (by omega), c3, fun s h3 h4 => ?_⟩,
    ⟨_, blk_far (blk_set (blk_set d2 (s * 2) (.int .i64 c.1)) (s * 2 + 1) (.int .i64 c.2)) gF _ _ (by omega), by simpa using d3, fun x h3 => ?_⟩,
    ⟨_, blk_set (blk_far (blk_far e2 gC _ _ (by omega)) gC _ _ (by omega)) s _, by simpa using e3, fun x h3 => ?_⟩, ⟨f1, blk_far (blk_far (blk_far f2 gC _ _ (by omega)) gC _ _ (by omega)) gF _ _ (by omega), f3, f4⟩⟩
  · obtain ⟨u, h5, h6⟩ := c4 s h3 h4
    exact ⟨u, h5, ints_far (ints_far (ints_far h6 (by omega)) (by omega)) (by omega)⟩
  · unfold updL
    by_cases e : x = s
    · subst e
      rw [if_pos rfl]
      refine ⟨?_, ?_⟩
      · rw [Array.getElem?_setIfInBounds_ne (by omega)]
        simp [show x * 2 < d1.size by omega]
      · simp [show x * 2 + 1 < d1.size by omega]
    · rw [if_neg e, Array.getElem?_setIfInBounds_ne (by omega), Array.getElem?_setIfInBounds_ne (by omega), Array.getElem?_setIfInBounds_ne (by omega), Array.getElem?_setIfInBounds_ne (by omega)]
      exact d4 x h3
  · unfold updF
    by_cases e : x = s
    · subst e; rw [if_pos rfl]; simp [show x < e1.size by omega]
    · rw [if_neg e, Array.getElem?_setIfInBounds_ne (by omega)]; exact e4 x h3

/-- a cost is less than another one. -/
def lt2 (a b : Int × Int) : Prop := a.1 < b.1 ∨ a.1 = b.1 ∧ a.2 < b.2
theorem or_lt2 {a b : Int × Int} : orF [cmpI a.1 b.1, cmpI a.2 b.2] < 0 ↔ lt2 a b := by
  unfold lt2 orF orF orF cmpI
  constructor
  · intro h
    by_cases h1 : a.1 < b.1
    · exact .inl h1
    · rw [if_neg h1] at h
      by_cases h2 : b.1 < a.1
      · rw [if_pos h2] at h; simp at h
      · rw [if_neg h2, if_pos rfl] at h
        refine .inr ⟨by omega, ?_⟩
        by_cases h3 : a.2 < b.2
        · exact h3
        · rw [if_neg h3] at h
          by_cases h4 : b.2 < a.2
          · rw [if_pos h4] at h; simp at h
          · rw [if_neg h4] at h; simp at h
  · rintro (h | ⟨h1, h2⟩)
    · rw [if_pos h, if_neg (show ¬((-1 : Int) = 0) by decide)]; decide
    · rw [if_neg (show ¬ a.1 < b.1 by omega), if_neg (show ¬ b.1 < a.1 by omega), if_pos rfl, if_pos h2, if_neg (show ¬((-1 : Int) = 0) by decide)]; decide
open Classical in
noncomputable def lessB (a b : Int × Int) : Bool := decide (lt2 a b)
set_option maxHeartbeats 2000000 in
set_option maxRecDepth 100000 in
theorem less_any (a1 a2 b1 b2 : Int) (w : World) : Calls Tryz.prog 117 #[.agg #[.int .i64 a1, .int .i64 a2], .agg #[.int .i64 b1, .int .i64 b2]] w fun e w' => e = .returned (.bool (lessB (a1, a2) (b1, b2))) ∧ Below w.heap.size w w' := by
  have hA := blk_old (blk_new w (.cells #[.int .i64 a1, .int .i64 a2] 155)) (.cells #[.int .i64 b1, .int .i64 b2] 155)
  have hB := blk_new' (w.alloc (.cells #[.int .i64 a1, .int .i64 a2] 155)) (.cells #[.int .i64 b1, .int .i64 b2] 155) (g := w.heap.size + 1) (by simp)
  have hb2 := Bl.alloc (Bl.alloc (Below.refl w.heap.size w) (.cells #[.int .i64 a1, .int .i64 a2] 155)) (.cells #[.int .i64 b1, .int .i64 b2] 155)
  have HX : Hid (decide (orF [cmpI a1 b1, cmpI a2 b2] < 0) = lessB (a1, a2) (b1, b2)) := Lib.hid (by
    have := or_lt2 (a := (a1, a2)) (b := (b1, b2))
    unfold lessB
    rw [Bool.eq_iff_iff]; simpa using this)
  go_enter Tryz.func117, Tryz.ntmps117
  go_wp2
  generalize (w.alloc (.cells #[.int .i64 a1, .int .i64 a2] 155)).alloc (.cells #[.int .i64 b1, .int .i64 b2] 155) = w2 at *
  obtain ⟨c1, c2⟩ := blk2 hA
  obtain ⟨c3, c4⟩ := blk2 hB
  have HOR := Lib.hid (OrInt_q [cmpI a1 b1, cmpI a2 b2] (.slice (some ⟨w2.heap.size, 0, none⟩) 2 2) (w2.alloc (.cells #[.int .i64 (cmpI a1 b1), .int .i64 (cmpI a2 b2)] 3)).drew (by simp)
          (Ints.of_blk (show (w2.alloc (.cells #[.int .i64 (cmpI a1 b1), .int .i64 (cmpI a2 b2)] 3)).drew.heap[w2.heap.size]? = _ from blk_new w2 _) rfl rfl (Nat.le_refl _) (by simp) (Nat.zero_le _)))
  clear hA hB
  go_region_held2 (fun W : World => W.cell? ⟨w.heap.size, 0, none⟩ = some (.int .i64 a1) ∧ W.cell? ⟨w.heap.size, 1, none⟩ = some (.int .i64 a2) ∧ W.cell? ⟨w.heap.size + 1, 0, none⟩ = some (.int .i64 b1) ∧ W.cell? ⟨w.heap.size + 1, 1, none⟩ = some (.int .i64 b2))
    (go_keep)
    (first
      | (go_at_call 77; refine (cmpInt_any _ _ _).mono ?_; rintro e w' ⟨rfl, rfl⟩)
      | (go_at_call 76; refine HOR.out.mono ?_; rintro e w' ⟨rfl, rfl⟩))
  all_goals (
    go_wp2
    go_ret
    exact ⟨ret_bool HX.out, Below.drew (Bl.alloc hb2 _)⟩)
end Go.Proofs.YtgcmlhpocbgkaaaGreatDoor
