/- OnesCount and bits of sets below 64. · The tables of Cycles in memory; the contract of cost.less. No conditions beside sizes. -/
import Derived.Test.YtbkglhakhahfpaaGreatDoorDiv4
namespace Go.Proofs.YtbkglhakhahfpaaGreatDoor
open Go.RowKit Go.Sort

set_option maxHeartbeats 1000000 in
set_option maxRecDepth 100000 in
theorem OnesCount_any (s : Nat) (hs : s < 64) (w : World) : Calls Tryz.prog 149 #[.int .u64 s] w fun e w' => e = .returned (.int .i64 (popc s)) ∧ w = w' := by
  go_enter Tryz.func149, Tryz.ntmps149
  go_wp2
  go_ret
  refine ⟨ret_int ?_, rfl⟩
  have h : s = 0 ∨ s = 1 ∨ s = 2 ∨ s = 3 ∨ s = 4 ∨ s = 5 ∨ s = 6 ∨ s = 7 ∨ s = 8 ∨ s = 9 ∨ s = 10 ∨ s = 11 ∨ s = 12 ∨ s = 13 ∨ s = 14 ∨ s = 15 ∨ s = 16 ∨ s = 17 ∨ s = 18 ∨ s = 19 ∨ s = 20 ∨ s = 21 ∨ s = 22 ∨ s = 23 ∨ s = 24 ∨ s = 25 ∨ s = 26 ∨ s = 27 ∨ s = 28 ∨ s = 29 ∨ s = 30 ∨ s = 31 ∨ s = 32 ∨ s = 33 ∨ s = 34 ∨ s = 35 ∨ s = 36 ∨ s = 37 ∨ s = 38 ∨ s = 39 ∨ s = 40 ∨ s = 41 ∨ s = 42 ∨ s = 43 ∨ s = 44 ∨ s = 45 ∨ s = 46 ∨ s = 47 ∨ s = 48 ∨ s = 49 ∨ s = 50 ∨ s = 51 ∨ s = 52 ∨ s = 53 ∨ s = 54 ∨ s = 55 ∨ s = 56 ∨ s = 57 ∨ s = 58 ∨ s = 59 ∨ s = 60 ∨ s = 61 ∨ s = 62 ∨ s = 63 := by omega
  rcases h with rfl | rfl | rfl | rfl | rfl | rfl | rfl | rfl | rfl | rfl | rfl | rfl | rfl | rfl | rfl | rfl | rfl | rfl | rfl | rfl | rfl | rfl | rfl | rfl | rfl | rfl | rfl | rfl | rfl | rfl | rfl | rfl | rfl | rfl | rfl | rfl | rfl | rfl | rfl | rfl | rfl | rfl | rfl | rfl | rfl | rfl | rfl | rfl | rfl | rfl | rfl | rfl | rfl | rfl | rfl | rfl | rfl | rfl | rfl | rfl | rfl | rfl | rfl | rfl
  all_goals decide +kernel

theorem bits_and (a b : Nat) (ha : a < 4611686018427387904) (hb : b < 4611686018427387904) : bits .and .i64 (a : Int) (b : Int) = ((a &&& b : Nat) : Int) := by
  show IntKind.i64.wrap ((BitVec.ofInt 64 (a : Int) &&& BitVec.ofInt 64 (b : Int)).toNat : Int) = _
  rw [BitVec.toNat_and, ofInt_i64 _ (by omega), ofInt_i64 _ (by omega)]
  have h3 : a &&& b ≤ a := Nat.and_le_left
  rw [IntWalk.i64_in _ (by omega)]
theorem bits_sub (a b : Nat) (ha : a < 64) (hb : b < 64) (h : b &&& a = b) : bits .andNot .i64 (a : Int) (b : Int) = ((a - b : Nat) : Int) := by
  have key : ((List.range 64).all fun a => (List.range 64).all fun b => !((b &&& a) == b) || bits .andNot .i64 (a : Int) (b : Int) == ((a - b : Nat) : Int)) = true := by kernel_rfl
  rw [List.all_eq_true] at key
  have k1 := key a (List.mem_range.2 ha)
  rw [List.all_eq_true] at k1
  have k2 := k1 b (List.mem_range.2 hb)
  simpa [h] using k2
theorem bits_low (s : Nat) (hs : s < 64) (h0 : 0 < s) : bits .and .i64 (s : Int) (-(s : Int)) = ((2 ^ lowI 8 s : Nat) : Int) := by
  have key : ((List.range 64).all fun s => s == 0 || bits .and .i64 (s : Int) (-(s : Int)) == ((2 ^ lowI 8 s : Nat) : Int)) = true := by kernel_rfl
  rw [List.all_eq_true] at key
  have k1 := key s (List.mem_range.2 hs)
  have : s ≠ 0 := by omega
  simpa [this] using k1
theorem low_test (t s : Nat) (ht : t < 64) (hs : s < 64) : ((t &&& 2 ^ lowI 8 s) == 0) = !t.testBit (lowI 8 s) := by
  have key : ((List.range 64).all fun t => (List.range 64).all fun s => ((t &&& 2 ^ lowI 8 s) == 0) == !t.testBit (lowI 8 s)) = true := by kernel_rfl
  rw [List.all_eq_true] at key
  have k1 := key t (List.mem_range.2 ht)
  rw [List.all_eq_true] at k1
  have k2 := k1 s (List.mem_range.2 hs)
  simpa using k2
theorem low_lt (s : Nat) (hs : s < 64) : 2 ^ lowI 8 s ≤ 256 := by
  have key : ((List.range 64).all fun s => decide (2 ^ lowI 8 s ≤ 256)) = true := by kernel_rfl
  rw [List.all_eq_true] at key
  simpa using key s (List.mem_range.2 hs)
theorem next_sub (t s : Nat) (ht : t < 64) (hs : s < 64) (h0 : 0 < t) (hS : t &&& s = t) : ((t - 1) &&& s) &&& s = (t - 1) &&& s ∧ (t - 1) &&& s < t ∧ ∀ x, x &&& s = x → x < t → x ≤ (t - 1) &&& s := by
  refine ⟨by rw [Nat.and_assoc, Nat.and_self], Nat.lt_of_le_of_lt Nat.and_le_left (by omega), fun x hx hxt => ?_⟩
  have key : ((List.range 64).all fun t => (List.range 64).all fun s => t == 0 || !((t &&& s) == t) || (List.range t).all fun x => !((x &&& s) == x) || decide (x ≤ ((t - 1) &&& s))) = true := by kernel_rfl
  rw [List.all_eq_true] at key
  have k1 := key t (List.mem_range.2 ht)
  rw [List.all_eq_true] at k1
  have k2 := k1 s (List.mem_range.2 hs)
  have e1 : (t == 0) = false := by simp; omega
  have e2 : (!((t &&& s) == t)) = false := by rw [hS]; simp
  rw [e1, e2, Bool.false_or, Bool.false_or, List.all_eq_true] at k2
  have k3 := k2 x (List.mem_range.2 hxt)
  have e3 : (!((x &&& s) == x)) = false := by rw [hx]; simp
  rw [e3, Bool.false_or] at k3
  exact of_decide_eq_true k3
theorem valid_sub {z s t : Nat} (h : valid z s t = true) : t &&& s = t := by
  simp only [valid, Bool.and_eq_true, beq_iff_eq, decide_eq_true_eq] at h
  exact h.1.1
/-- on to the next part: the one at hand is no good. -/
theorem Best.skip {tl : Nat → List Int} {lg : Nat → Int} {z : Nat} {L : Nat → Int × Int} {s t f : Nat} {c : Int × Int} (h : Best tl lg z L s t c f) (ht : t < 64) (hs : s < 64) (h0 : 0 < t) (hS : t &&& s = t) (hv : valid z s t = false) : Best tl lg z L s ((t - 1) &&& s) c f := by
  obtain ⟨_, n2, n3⟩ := next_sub t s ht hs h0 hS
  have hstep : ∀ x, valid z s x = true → x ≤ t → x ≤ (t - 1) &&& s := fun x hx hxt => by
    refine n3 x (valid_sub hx) ?_
    rcases Nat.lt_or_ge x t with h | h
    · exact h
    · obtain rfl : x = t := by omega
      rw [hv] at hx; cases hx
  rcases h with ⟨h1, h2⟩ | ⟨h1, h2, h3, h4⟩
  · exact .inl ⟨h1, fun x hx => hstep x hx (h2 x hx)⟩
  · refine .inr ⟨h1, by omega, h3, fun x hx hlt => h4 x hx ?_⟩
    rcases Nat.lt_or_ge t x with h | h
    · exact h
    · have := hstep x hx h; omega
/-- the one at hand is better: it is taken. -/
theorem Best.take {tl : Nat → List Int} {lg : Nat → Int} {z : Nat} {L : Nat → Int × Int} {s t f : Nat} {c : Int × Int} (h : Best tl lg z L s t c f) (ht : t < 64) (hs : s < 64) (h0 : 0 < t) (hS : t &&& s = t) (hv : valid z s t = true)
    (hb : f ≠ 0 → le2 (cstD lg L s t) (tl t) c (tl f)) : Best tl lg z L s ((t - 1) &&& s) (cstD lg L s t) t := by
  obtain ⟨_, n2, n3⟩ := next_sub t s ht hs h0 hS
  refine .inr ⟨hv, n2, rfl, fun x hx hlt => ?_⟩
  rcases Nat.lt_trichotomy x t with hxt | rfl | hxt
  · have := n3 x (valid_sub hx) hxt; omega
  · exact .inr ⟨rfl, .inr ⟨rfl, by rw [ordL.refl]; omega⟩⟩
  · rcases h with ⟨h1, h2⟩ | ⟨h1, h2, h3, h4⟩
    · have := h2 x hx; omega
    · have h5 := h4 x hx hxt
      have h6 := hb (by have := (valid_le h1).2.1; omega)
      rw [h3] at h6
      unfold le2 at *
      have htr := ordL.trans (tl t) (tl f) (tl x)
      rcases h5 with h5 | ⟨h5, h7 | ⟨h7, h8⟩⟩ <;> rcases h6 with h6 | ⟨h6, h9 | ⟨h9, h10⟩⟩
      all_goals first
        | exact .inl (by omega)
        | exact .inr ⟨by omega, .inl (by omega)⟩
        | exact .inr ⟨by omega, .inr ⟨by omega, htr h10 h8⟩⟩
/-- the one at hand is worse: the elder one stays. -/
theorem Best.stay {tl : Nat → List Int} {lg : Nat → Int} {z : Nat} {L : Nat → Int × Int} {s t f : Nat} {c : Int × Int} (h : Best tl lg z L s t c f) (ht : t < 64) (hs : s < 64) (h0 : 0 < t) (hS : t &&& s = t) (hf : f ≠ 0)
    (hb : le2 c (tl f) (cstD lg L s t) (tl t)) : Best tl lg z L s ((t - 1) &&& s) c f := by
  obtain ⟨_, n2, n3⟩ := next_sub t s ht hs h0 hS
  rcases h with ⟨h1, _⟩ | ⟨h1, h2, h3, h4⟩
  · exact absurd h1 hf
  · refine .inr ⟨h1, by omega, h3, fun x hx hlt => ?_⟩
    rcases Nat.lt_trichotomy x t with hxt | rfl | hxt
    · have := n3 x (valid_sub hx) hxt; omega
    · rw [← h3]; exact hb
    · exact h4 x hx hxt
theorem Best.start {tl : Nat → List Int} {lg : Nat → Int} {z : Nat} {L : Nat → Int × Int} {s : Nat} {c : Int × Int} : Best tl lg z L s s c 0 := .inl ⟨rfl, fun _ hx => (valid_le hx).1⟩
end Go.Proofs.YtbkglhakhahfpaaGreatDoor
namespace Go.Proofs.YtbkglhakhahfpaaGreatDoor
open Go.RowKit Go.Sort

theorem info_cost : (Tryz.prog.info? 220).map (fun i => (i.zero, i.size, i.bytes)) = some (some (.agg #[.int .i64 0, .int .i64 0]), 2, 16) := by kernel_rfl
theorem mk_costs (n : Nat) (hn : n ≤ 1000000) : ∀ W : World, (Instr.makeSlice 216 (.int .i64 (n : Int)) (.int .i64 (n : Int))).run Tryz.prog W = .ok (.slice (some ⟨W.heap.size, 0, none⟩) n n) (W.alloc (.cells (madeCells #[.int .i64 0, .int .i64 0] (n * 2)) 220)) := fun W => by
  obtain ⟨i, hi, hz0, hz1, hz2⟩ := info_parts info_cost
  have := run_make_rowN (P := Tryz.prog) 216 220 i _ Tryz.underlying216 hi hz0 .i64 .i64 n n (Nat.le_refl _) (by rw [hz2]; omega) (by omega) W
  rw [hz1] at this
  exact this
theorem made2_at (n j : Nat) (h : j < n) : (madeCells #[.int .i64 0, .int .i64 0] n)[j]? = some (Value.int .i64 0) := by
  unfold madeCells
  simp only [Array.getElem?_map]
  rw [Array.getElem?_eq_getElem (by simpa using h)]
  simp only [Array.getElem_range, Option.map_some, Option.some.injEq]
  have : j % 2 = 0 ∨ j % 2 = 1 := by omega
  show (#[Value.int .i64 0, Value.int .i64 0] : Array Value)[j % 2]! = _
  rcases this with h | h <;> rw [h] <;> rfl

/-- the tables of Cycles: tours and lengths of the sets below 'set', costs and first parts of all. -/
structure Ct (w : World) (gT gC gF gG lo N set : Nat) (tl : Nat → List Int) (lg : Nat → Int) (L : Nat → Int × Int) (F : Nat → Nat) : Prop where
  ord : gT < gC ∧ gC < gF ∧ gF < gG ∧ gG < lo
  hlo : lo ≤ w.heap.size
  hT : ∃ cs, w.heap[gT]? = some (.cells cs 22 (0, 0)) ∧ cs.size = N ∧ ∀ s, 0 < s → s < set → ∃ v, cs[s]? = some v ∧ Own w lo v (tl s)
  hC : ∃ cs, w.heap[gC]? = some (.cells cs 220 (0, 0)) ∧ cs.size = N * 2 ∧ ∀ s, s < N → cs[s * 2]? = some (.int .i64 (L s).1) ∧ cs[s * 2 + 1]? = some (.int .i64 (L s).2)
  hF : ∃ cs, w.heap[gF]? = some (.cells cs 3 (0, 0)) ∧ cs.size = N ∧ ∀ s, s < N → cs[s]? = some (.int .i64 (F s))
  hG : ∃ cs, w.heap[gG]? = some (.cells cs 3 (0, 0)) ∧ cs.size = N ∧ ∀ s, 0 < s → s < set → cs[s]? = some (.int .i64 (lg s))
theorem Ct.below {w w' : World} {gT gC gF gG lo N set : Nat} {tl : Nat → List Int} {lg : Nat → Int} {L : Nat → Int × Int} {F : Nat → Nat} (h : Ct w gT gC gF gG lo N set tl lg L F) (hb : Below w.heap.size w w') : Ct w' gT gC gF gG lo N set tl lg L F := by
  obtain ⟨a, b, ⟨c1, c2, c3, c4⟩, ⟨d1, d2, d3, d4⟩, ⟨e1, e2, e3, e4⟩, ⟨f1, f2, f3, f4⟩⟩ := h
  refine ⟨a, Nat.le_trans b hb.size, ⟨c1, blk_below c2 hb, c3, fun s h1 h2 => ?_⟩, ⟨d1, blk_below d2 hb, d3, d4⟩, ⟨e1, blk_below e2 hb, e3, e4⟩, ⟨f1, blk_below f2 hb, f3, f4⟩⟩
  obtain ⟨v, h3, h4⟩ := c4 s h1 h2
  exact ⟨v, h3, h4.below hb⟩
theorem Ct.tour {w : World} {gT gC gF gG lo N set : Nat} {tl : Nat → List Int} {lg : Nat → Int} {L : Nat → Int × Int} {F : Nat → Nat} (h : Ct w gT gC gF gG lo N set tl lg L F) {s : Nat} (h1 : 0 < s) (h2 : s < set) : ∃ a c, w.cell? ⟨gT, s, none⟩ = some (.slice a (tl s).length c) ∧ Own w lo (.slice a (tl s).length c) (tl s) := by
  obtain ⟨c1, c2, c3, c4⟩ := h.hT
  obtain ⟨v, h3, h4⟩ := c4 s h1 h2
  obtain ⟨a, c, rfl, _, _⟩ := Ints.form h4.ints
  exact ⟨a, c, (blk_cell c2 s).trans h3, h4⟩
theorem Ct.cost {w : World} {gT gC gF gG lo N set : Nat} {tl : Nat → List Int} {lg : Nat → Int} {L : Nat → Int × Int} {F : Nat → Nat} (h : Ct w gT gC gF gG lo N set tl lg L F) {s : Nat} (h2 : s < N) : w.cell? ⟨gC, s * 2, none⟩ = some (.int .i64 (L s).1) ∧ w.cell? ⟨gC, s * 2 + 1, none⟩ = some (.int .i64 (L s).2) ∧ w.frozen? ⟨gC, s * 2, none⟩ = false ∧ w.frozen? ⟨gC, s * 2 + 1, none⟩ = false := by
  obtain ⟨c1, c2, c3, c4⟩ := h.hC
  exact ⟨(blk_cell c2 _).trans (c4 s h2).1, (blk_cell c2 _).trans (c4 s h2).2, blk_free c2 _, blk_free c2 _⟩
theorem Ct.first {w : World} {gT gC gF gG lo N set : Nat} {tl : Nat → List Int} {lg : Nat → Int} {L : Nat → Int × Int} {F : Nat → Nat} (h : Ct w gT gC gF gG lo N set tl lg L F) {s : Nat} (h2 : s < N) : w.cell? ⟨gF, s, none⟩ = some (.int .i64 (F s)) ∧ w.frozen? ⟨gF, s, none⟩ = false := by
  obtain ⟨c1, c2, c3, c4⟩ := h.hF
  exact ⟨(blk_cell c2 _).trans (c4 s h2), blk_free c2 _⟩
theorem Ct.long {w : World} {gT gC gF gG lo N set : Nat} {tl : Nat → List Int} {lg : Nat → Int} {L : Nat → Int × Int} {F : Nat → Nat} (h : Ct w gT gC gF gG lo N set tl lg L F) {s : Nat} (h1 : 0 < s) (h2 : s < set) : w.cell? ⟨gG, s, none⟩ = some (.int .i64 (lg s)) := by
  obtain ⟨c1, c2, c3, c4⟩ := h.hG
  exact (blk_cell c2 _).trans (c4 s h1 h2)
/-- the places of a row that is to be filled. -/
theorem Ct.slots {w : World} {gT gC gF gG lo N set : Nat} {tl : Nat → List Int} {lg : Nat → Int} {L : Nat → Int × Int} {F : Nat → Nat} (h : Ct w gT gC gF gG lo N set tl lg L F) {s : Nat} (h2 : s < N) : (∃ v, w.cell? ⟨gT, s, none⟩ = some v) ∧ w.frozen? ⟨gT, s, none⟩ = false ∧ (∃ v, w.cell? ⟨gG, s, none⟩ = some v) ∧ w.frozen? ⟨gG, s, none⟩ = false := by
  obtain ⟨c1, c2, c3, c4⟩ := h.hT
  obtain ⟨d1, d2, d3, d4⟩ := h.hG
  exact ⟨⟨c1[s]'(by omega), by rw [blk_cell c2 s, Array.getElem?_eq_getElem (by omega)]⟩, blk_free c2 _, ⟨d1[s]'(by omega), by rw [blk_cell d2 s, Array.getElem?_eq_getElem (by omega)]⟩, blk_free d2 _⟩
theorem ints_far {w : World} {lo g i : Nat} {v u : Value} {l : List Int} (h : Own w lo v l) (hg : g < lo) : Own (w.setCell ⟨g, i, none⟩ u) lo v l :=
  Own.far h fun k hk => by have := (World.ownsRow.lt h k hk).1; omega
theorem Ct.row {w : World} {gT gC gF gG lo N set : Nat} {tl : Nat → List Int} {lg : Nat → Int} {L : Nat → Int × Int} {F : Nat → Nat} (h : Ct w gT gC gF gG lo N set tl lg L F) (h2 : set < N) {v : Value} (hv : Own w lo v (tl set)) :
    Ct ((w.setCell ⟨gT, set, none⟩ v).setCell ⟨gG, set, none⟩ (.int .i64 (lg set))) gT gC gF gG lo N (set + 1) tl lg L F := by
  obtain ⟨⟨a1, a2, a3, a4⟩, b, ⟨c1, c2, c3, c4⟩, ⟨d1, d2, d3, d4⟩, ⟨e1, e2, e3, e4⟩, ⟨f1, f2, f3, f4⟩⟩ := h
  refine ⟨⟨a1, a2, a3, a4⟩, by simpa [World.setCell] using b, ⟨_, blk_far (blk_set c2 set v) gG set _ (by omega), by simpa using c3, fun s h3 h4 => ?_⟩, ⟨d1, blk_far (blk_far d2 gT set _ (by omega)) gG set _ (by omega), d3, d4⟩, ⟨e1, blk_far (blk_far e2 gT set _ (by omega)) gG set _ (by omega), e3, e4⟩,
    ⟨_, blk_set (blk_far f2 gT set v (by omega)) set _, by simpa using f3, fun s h3 h4 => ?_⟩⟩
  · by_cases e : s = set
    · subst e
      exact ⟨v, by simp [show s < c1.size by omega], ints_far (ints_far hv (by omega)) (by omega)⟩
    · obtain ⟨u, h5, h6⟩ := c4 s h3 (by omega)
      exact ⟨u, by rw [Array.getElem?_setIfInBounds_ne (by omega)]; exact h5, ints_far (ints_far h6 (by omega)) (by omega)⟩
  · by_cases e : s = set
    · subst e; simp [show s < f1.size by omega]
    · rw [Array.getElem?_setIfInBounds_ne (by omega)]; exact f4 s h3 (by omega)
def updL (L : Nat → Int × Int) (s : Nat) (c : Int × Int) : Nat → Int × Int := fun x => if x = s then c else L x
def updF (F : Nat → Nat) (s f : Nat) : Nat → Nat := fun x => if x = s then f else F x
theorem Ct.put {w : World} {gT gC gF gG lo N set : Nat} {tl : Nat → List Int} {lg : Nat → Int} {L : Nat → Int × Int} {F : Nat → Nat} (h : Ct w gT gC gF gG lo N set tl lg L F) {s : Nat} (h2 : s < N) (c : Int × Int) (f : Nat) :
    Ct (((w.setCell ⟨gC, s * 2, none⟩ (.int .i64 c.1)).setCell ⟨gC, s * 2 + 1, none⟩ (.int .i64 c.2)).setCell ⟨gF, s, none⟩ (.int .i64 f)) gT gC gF gG lo N set tl lg (updL L s c) (updF F s f) := by
  obtain ⟨⟨a1, a2, a3, a4⟩, b, ⟨c1, c2, c3, c4⟩, ⟨d1, d2, d3, d4⟩, ⟨e1, e2, e3, e4⟩, ⟨f1, f2, f3, f4⟩⟩ := h
  refine ⟨⟨a1, a2, a3, a4⟩, by simpa [World.setCell] using b, ⟨c1, blk_far (blk_far (blk_far c2 gC _ _ (by omega)) gC _ _ (by omega)) gF _ _ (by omega), c3, fun s h3 h4 => ?_⟩,
    ⟨_, blk_far (blk_set (blk_set d2 (s * 2) (.int .i64 c.1)) (s * 2 + 1) (.int .i64 c.2)) gF _ _ (by omega), by simpa using d3, fun x h3 => ?_⟩,
    ⟨_, blk_set (blk_far (blk_far e2 gC _ _ (by omega)) gC _ _ (by omega)) s _, by simpa using e3, fun x h3 => ?_⟩, ⟨f1, blk_far (blk_far (blk_far f2 gC _ _ (by omega)) gC _ _ (by omega)) gF _ _ (by omega), f3, f4⟩⟩
  · obtain ⟨u, h5, h6⟩ := c4 s h3 h4
    exact ⟨u, h5, ints_far (ints_far (ints_far h6 (by omega)) (by omega)) (by omega)⟩
  · unfold updL
    by_cases e : x = s
    · subst e
      rw [if_pos rfl]
      refine ⟨?_, ?_⟩
      · rw [Array.getElem?_setIfInBounds_ne (by omega)]
        simp [show x * 2 < d1.size by omega]
      · simp [show x * 2 + 1 < d1.size by omega]
    · rw [if_neg e, Array.getElem?_setIfInBounds_ne (by omega), Array.getElem?_setIfInBounds_ne (by omega), Array.getElem?_setIfInBounds_ne (by omega), Array.getElem?_setIfInBounds_ne (by omega)]
      exact d4 x h3
  · unfold updF
    by_cases e : x = s
    · subst e; rw [if_pos rfl]; simp [show x < e1.size by omega]
    · rw [if_neg e, Array.getElem?_setIfInBounds_ne (by omega)]; exact e4 x h3

/-- a cost is less than another one. -/
def lt2 (a b : Int × Int) : Prop := a.1 < b.1 ∨ a.1 = b.1 ∧ a.2 < b.2
theorem or_lt2 {a b : Int × Int} : orF [cmpI a.1 b.1, cmpI a.2 b.2] < 0 ↔ lt2 a b := by
  unfold lt2 orF orF orF cmpI
  constructor
  · intro h
    by_cases h1 : a.1 < b.1
    · exact .inl h1
    · rw [if_neg h1] at h
      by_cases h2 : b.1 < a.1
      · rw [if_pos h2] at h; simp at h
      · rw [if_neg h2, if_pos rfl] at h
        refine .inr ⟨by omega, ?_⟩
        by_cases h3 : a.2 < b.2
        · exact h3
        · rw [if_neg h3] at h
          by_cases h4 : b.2 < a.2
          · rw [if_pos h4] at h; simp at h
          · rw [if_neg h4] at h; simp at h
  · rintro (h | ⟨h1, h2⟩)
    · rw [if_pos h, if_neg (show ¬((-1 : Int) = 0) by decide)]; decide
    · rw [if_neg (show ¬ a.1 < b.1 by omega), if_neg (show ¬ b.1 < a.1 by omega), if_pos rfl, if_pos h2, if_neg (show ¬((-1 : Int) = 0) by decide)]; decide
open Classical in
noncomputable def lessB (a b : Int × Int) : Bool := decide (lt2 a b)
set_option maxHeartbeats 2000000 in
set_option maxRecDepth 100000 in
theorem less_any (a1 a2 b1 b2 : Int) (w : World) : Calls Tryz.prog 150 #[.agg #[.int .i64 a1, .int .i64 a2], .agg #[.int .i64 b1, .int .i64 b2]] w fun e w' => e = .returned (.bool (lessB (a1, a2) (b1, b2))) ∧ Below w.heap.size w w' := by
  have hA := blk_old (blk_new w (.cells #[.int .i64 a1, .int .i64 a2] 220)) (.cells #[.int .i64 b1, .int .i64 b2] 220)
  have hB := blk_new' (w.alloc (.cells #[.int .i64 a1, .int .i64 a2] 220)) (.cells #[.int .i64 b1, .int .i64 b2] 220) (g := w.heap.size + 1) (by simp)
  have hb2 := Bl.alloc (Bl.alloc (Below.refl w.heap.size w) (.cells #[.int .i64 a1, .int .i64 a2] 220)) (.cells #[.int .i64 b1, .int .i64 b2] 220)
  have HX : Hid (decide (orF [cmpI a1 b1, cmpI a2 b2] < 0) = lessB (a1, a2) (b1, b2)) := Lib.hid (by
    have := or_lt2 (a := (a1, a2)) (b := (b1, b2))
    unfold lessB
    rw [Bool.eq_iff_iff]; simpa using this)
  go_enter Tryz.func150, Tryz.ntmps150
  go_wp2
  generalize (w.alloc (.cells #[.int .i64 a1, .int .i64 a2] 220)).alloc (.cells #[.int .i64 b1, .int .i64 b2] 220) = w2 at *
  obtain ⟨c1, c2⟩ := blk2 hA
  obtain ⟨c3, c4⟩ := blk2 hB
  have HOR := Lib.hid (OrInt_q [cmpI a1 b1, cmpI a2 b2] (.slice (some ⟨w2.heap.size, 0, none⟩) 2 2) (w2.alloc (.cells #[.int .i64 (cmpI a1 b1), .int .i64 (cmpI a2 b2)] 3)).drew (by simp)
          (Ints.of_blk (show (w2.alloc (.cells #[.int .i64 (cmpI a1 b1), .int .i64 (cmpI a2 b2)] 3)).drew.heap[w2.heap.size]? = _ from blk_new w2 _) rfl rfl (Nat.le_refl _) (by simp) (Nat.zero_le _)))
  clear hA hB
  go_region_held2 (fun W : World => W.cell? ⟨w.heap.size, 0, none⟩ = some (.int .i64 a1) ∧ W.cell? ⟨w.heap.size, 1, none⟩ = some (.int .i64 a2) ∧ W.cell? ⟨w.heap.size + 1, 0, none⟩ = some (.int .i64 b1) ∧ W.cell? ⟨w.heap.size + 1, 1, none⟩ = some (.int .i64 b2))
    (go_keep)
    (first
      | (go_at_call 103; refine (cmpInt_any _ _ _).mono ?_; rintro e w' ⟨rfl, rfl⟩)
      | (go_at_call 102; refine HOR.out.mono ?_; rintro e w' ⟨rfl, rfl⟩))
  all_goals (
    go_wp2
    go_ret
    exact ⟨ret_bool HX.out, Below.drew (Bl.alloc hb2 _)⟩)
end Go.Proofs.YtbkglhakhahfpaaGreatDoor
