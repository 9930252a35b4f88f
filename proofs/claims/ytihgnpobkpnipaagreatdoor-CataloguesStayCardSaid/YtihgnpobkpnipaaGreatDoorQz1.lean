/- Texts of the proof of a law, put together, part 1 of 41. Conditions: none beyond those that each theorem names. -/
import Derived.Test.YtihgnpobkpnipaaGreatDoorProg
import Derived.WalkKit
import Derived.WalkSpells
import Derived.WalkLawsBesides
import Derived.BigQuiet
import Derived.Deep.QuietTactic
import Derived.Lib.Hide
import Derived.IntWalk
import Derived.Lib.QuietBelow
import Derived.Deep.LoopGhost
import Derived.Lib.MinMax
import Derived.Deep.DeepCutAuto
namespace Go.Proofs.YtihgnpobkpnipaaGreatDoor
open Go.RowKit Go.Sort
theorem wrap64_rng (x : Int) : -9223372036854775808 ≤ wrap64 x ∧ wrap64 x ≤ 9223372036854775807 := by
  unfold wrap64; omega
theorem ret_int {k : IntKind} {a b : Int} (h : a = b) : Ending.returned (.int k a) = .returned (.int k b) := by rw [h]
theorem ret_bool {a b : Bool} (h : a = b) : Ending.returned (.bool a) = .returned (.bool b) := by rw [h]
/-! worlds -/
theorem Bl.drewN {B : Nat} {a w : World} (h : Below B a w) (n : Nat) : Below B a (w.drewN n) := ⟨h.os, h.tape, h.output, h.size, h.block⟩
theorem Bl.trans {W w1 w2 : World} (h : Below W.heap.size W w1) (k : Below w1.heap.size w1 w2) : Below W.heap.size W w2 :=
  h.trans (k.mono h.size)
theorem Bl.alloc {W w1 : World} (h : Below W.heap.size W w1) (o : Obj) : Below W.heap.size W (w1.alloc o) := Below.alloc h h.size o
theorem bcell {W w1 : World} (hb : Below W.heap.size W w1) : (∀ b o, b < W.heap.size → w1.cell? ⟨b, o, none⟩ = W.cell? ⟨b, o, none⟩) ∧ (∀ b o, b < W.heap.size → w1.frozen? ⟨b, o, none⟩ = W.frozen? ⟨b, o, none⟩) :=
  ⟨fun b o h => hb.cell (p := ⟨b, o, none⟩) h, fun b o h => hb.frozen (p := ⟨b, o, none⟩) h⟩
theorem Gr.refl (w : World) (r : Option Nat) : w.grownBy w r := ⟨rfl, rfl, rfl, Nat.le_refl _, fun _ _ _ => rfl⟩
theorem Gr.trans {a b c : World} {r : Option Nat} (h : a.grownBy b r) (k : b.grownBy c r) : a.grownBy c r :=
  ⟨k.os.trans h.os, k.tape.trans h.tape, k.output.trans h.output, Nat.le_trans h.size k.size, fun i hi hn => (k.block i (Nat.lt_of_lt_of_le hi h.size) hn).trans (h.block i hi hn)⟩
theorem Gr.drewN {a w : World} {row : Option Nat} (h : a.grownBy w row) (n : Nat) : a.grownBy (w.drewN n) row := ⟨h.os, h.tape, h.output, h.size, h.block⟩
theorem Gr.alloc {a w : World} {row : Option Nat} (h : a.grownBy w row) (o : Obj) : a.grownBy (w.alloc o) row :=
  ⟨h.os, h.tape, h.output, Nat.le_trans h.size (by simp), fun i hi hne => (Below.heap_alloc w o i (Nat.lt_of_lt_of_le hi h.size)).trans (h.block i hi hne)⟩
theorem Gr.setCell {a w : World} {g : Nat} (h : a.grownBy w (some g)) {p : Addr} (hp : p.block = g ∨ a.heap.size ≤ p.block) (u : Value) : a.grownBy (w.setCell p u) (some g) :=
  ⟨h.os, h.tape, h.output, by simpa [World.setCell] using h.size, fun i hi hne => (Below.heap_setCell w p u i (by
    rintro rfl
    rcases hp with hp | hp
    · exact hne (by rw [hp])
    · omega)).trans (h.block i hi hne)⟩
theorem Gr.of_below {a w : World} (h : Below a.heap.size a w) (row : Option Nat) : a.grownBy w row := ⟨h.os, h.tape, h.output, h.size, fun i hi _ => h.block i hi⟩
theorem Gr.below {B s : Nat} {a w : World} (h : a.grownBy w (some s)) (h1 : B ≤ s) (h2 : B ≤ a.heap.size) : Below B a w :=
  ⟨h.os, h.tape, h.output, h.size, fun i hi => h.block i (by omega) (by intro e; injection e; omega)⟩
theorem Gr.below_none {a w : World} (h : a.grownBy w none) : Below a.heap.size a w :=
  ⟨h.os, h.tape, h.output, h.size, fun i hi => h.block i hi (by intro e; cases e)⟩
/-! a slice that reads as these cells: 'n' elements -/
def Rd (w : World) (lo : Nat) (v : Value) (n : Nat) (xs : List Value) : Prop :=
  ∃ a cap, v = .slice a n cap ∧ n ≤ cap ∧ cap ≤ 9223372036854775807 ∧ ∀ j x, xs[j]? = some x → ∃ b o, a = some ⟨b, o, none⟩ ∧ lo ≤ b ∧ b < w.heap.size ∧ w.cell? ⟨b, o + j, none⟩ = some x
theorem Rd.keep {w w' : World} {lo : Nat} {v : Value} {n : Nat} {xs : List Value} (h : Rd w lo v n xs) (hk : ∀ k, lo ≤ k → k < w.heap.size → w'.heap[k]? = w.heap[k]?) (hs : w.heap.size ≤ w'.heap.size) : Rd w' lo v n xs := by
  obtain ⟨a, cap, hv, h1, h2, h3⟩ := h
  refine ⟨a, cap, hv, h1, h2, fun j x hj => ?_⟩
  obtain ⟨b, o, ha, hlo, hb, hc⟩ := h3 j x hj
  exact ⟨b, o, ha, hlo, Nat.lt_of_lt_of_le hb hs, (World.cell?_of_block (w := w) (hk b hlo hb)).trans hc⟩
theorem Rd.below {w w' : World} {lo : Nat} {v : Value} {n : Nat} {xs : List Value} (h : Rd w lo v n xs) (hb : Below w.heap.size w w') : Rd w' lo v n xs :=
  h.keep (fun k _ hk => hb.block k hk) hb.size
theorem Rd.grown {w w' : World} {lo s : Nat} {v : Value} {n : Nat} {xs : List Value} (h : Rd w lo v n xs) (hb : w.grownBy w' (some s)) (hs : s < lo) : Rd w' lo v n xs :=
  h.keep (fun k h1 hk => hb.block k hk (by intro e; injection e; omega)) hb.size
theorem Rd.mono {w : World} {lo lo' : Nat} {v : Value} {n : Nat} {xs : List Value} (h : Rd w lo v n xs) (hl : lo' ≤ lo) : Rd w lo' v n xs := by
  obtain ⟨a, cap, hv, h1, h2, h3⟩ := h
  refine ⟨a, cap, hv, h1, h2, fun j x hj => ?_⟩
  obtain ⟨b, o, ha, hlo, hb, hc⟩ := h3 j x hj
  exact ⟨b, o, ha, Nat.le_trans hl hlo, hb, hc⟩
theorem Rd.nil (w : World) (lo : Nat) : Rd w lo (.slice none 0 0) 0 [] := ⟨none, 0, rfl, Nat.le_refl _, by omega, fun j x h => by simp at h⟩
theorem Rd.of_own {w : World} {base : Nat} {e : TypeId} {size : Nat} {v : Value} {n : Nat} {xs : List Value} (h : w.ownsRow base e size v n xs) : Rd w base v n xs := by
  have hlen := h.1
  rcases h.2 with ⟨rfl, rfl⟩ | ⟨g, cap, cur, rfl, hb, hg, h1, h2, h3, h4⟩
  · obtain rfl : xs = [] := List.eq_nil_of_length_eq_zero (by omega)
    exact Rd.nil _ _
  · refine ⟨_, cap, rfl, h1, by simpa [maxLen] using h2, fun j x hj => ⟨g, 0, rfl, hb, (Array.getElem?_eq_some_iff.1 hg).1, ?_⟩⟩
    rw [Nat.zero_add, cell_of_row w g j cur e (0, 0) hg]
    rw [← h4, List.getElem?_take] at hj
    split at hj
    · simpa using hj
    · cases hj
/-! lists of ints, of points -/
abbrev Pt := Int × Int
def ptv (p : Pt) : Value := .agg #[.int .i64 p.1, .int .i64 p.2]
def ics (l : List Int) : List Value := l.map (Value.int .i64)
def pcs : List Pt → List Value
  | [] => []
  | p :: l => .int .i64 p.1 :: .int .i64 p.2 :: pcs l
theorem ics_at {l : List Int} {k : Nat} {x : Int} (h : l[k]? = some x) : (ics l)[k]? = some (.int .i64 x) := by simp [ics, h]
theorem pcs_at : ∀ {l : List Pt} {k : Nat} {p : Pt}, l[k]? = some p → (pcs l)[k * 2]? = some (.int .i64 p.1) ∧ (pcs l)[k * 2 + 1]? = some (.int .i64 p.2)
  | [], k, p, h => by simp at h
  | q :: l, 0, p, h => by simp at h; subst h; simp [pcs]
  | q :: l, k + 1, p, h => by
    have := pcs_at (l := l) (k := k) (p := p) (by simpa using h)
    rw [show (k + 1) * 2 = k * 2 + 1 + 1 from by omega]
    simpa [pcs] using this
def Ints (w : World) (lo : Nat) (v : Value) (l : List Int) : Prop := Rd w lo v l.length (ics l)
def Pts (w : World) (lo : Nat) (v : Value) (l : List Pt) : Prop := Rd w lo v l.length (pcs l)
theorem Ints.below {w w' : World} {lo : Nat} {v : Value} {l : List Int} (h : Ints w lo v l) (hb : Below w.heap.size w w') : Ints w' lo v l := Rd.below h hb
theorem Ints.grown {w w' : World} {lo s : Nat} {v : Value} {l : List Int} (h : Ints w lo v l) (hb : w.grownBy w' (some s)) (hs : s < lo) : Ints w' lo v l := Rd.grown h hb hs
theorem Ints.mono {w : World} {lo lo' : Nat} {v : Value} {l : List Int} (h : Ints w lo v l) (hl : lo' ≤ lo) : Ints w lo' v l := Rd.mono h hl
theorem Pts.below {w w' : World} {lo : Nat} {v : Value} {l : List Pt} (h : Pts w lo v l) (hb : Below w.heap.size w w') : Pts w' lo v l := Rd.below h hb
theorem Pts.grown {w w' : World} {lo s : Nat} {v : Value} {l : List Pt} (h : Pts w lo v l) (hb : w.grownBy w' (some s)) (hs : s < lo) : Pts w' lo v l := Rd.grown h hb hs
theorem Pts.mono {w : World} {lo lo' : Nat} {v : Value} {l : List Pt} (h : Pts w lo v l) (hl : lo' ≤ lo) : Pts w lo' v l := Rd.mono h hl
theorem Ints.at {w : World} {lo : Nat} {a : Option Addr} {n cap : Nat} {l : List Int} (h : Ints w lo (.slice a n cap) l) {k : Nat} {x : Int} (hk : l[k]? = some x) :
    ∃ b o, a = some ⟨b, o, none⟩ ∧ lo ≤ b ∧ b < w.heap.size ∧ w.cell? ⟨b, o + k, none⟩ = some (.int .i64 x) := by
  obtain ⟨a', cap', hv, h1, h2, h3⟩ := h
  obtain ⟨rfl, rfl, rfl⟩ := Value.slice.inj hv
  exact h3 k _ (ics_at hk)
theorem Pts.at {w : World} {lo : Nat} {a : Option Addr} {n cap : Nat} {l : List Pt} (h : Pts w lo (.slice a n cap) l) {k : Nat} {x : Pt} (hk : l[k]? = some x) :
    ∃ b o, a = some ⟨b, o, none⟩ ∧ lo ≤ b ∧ b < w.heap.size ∧ w.cell? ⟨b, o + k * 2, none⟩ = some (.int .i64 x.1) ∧ w.cell? ⟨b, o + k * 2 + 1, none⟩ = some (.int .i64 x.2) := by
  obtain ⟨a', cap', hv, h1, h2, h3⟩ := h
  obtain ⟨rfl, rfl, rfl⟩ := Value.slice.inj hv
  obtain ⟨b, o, ha, hl, hb, hc⟩ := h3 _ _ (pcs_at hk).1
  obtain ⟨b', o', ha', _, _, hc'⟩ := h3 _ _ (pcs_at hk).2
  rw [ha] at ha'
  injection ha' with e
  injection e with e1 e2 e3
  subst e1 e2
  exact ⟨b, o, ha, hl, hb, hc, hc'⟩
theorem Ints.form {w : World} {lo : Nat} {v : Value} {l : List Int} (h : Ints w lo v l) : ∃ a cap, v = .slice a l.length cap ∧ l.length ≤ cap ∧ cap ≤ 9223372036854775807 := by
  obtain ⟨a', cap', hv, h1, h2, h3⟩ := h
  exact ⟨a', cap', hv, h1, h2⟩
theorem Pts.form {w : World} {lo : Nat} {v : Value} {l : List Pt} (h : Pts w lo v l) : ∃ a cap, v = .slice a l.length cap ∧ l.length ≤ cap ∧ cap ≤ 9223372036854775807 := by
  obtain ⟨a', cap', hv, h1, h2, h3⟩ := h
  exact ⟨a', cap', hv, h1, h2⟩
/-! a block known whole: cells, marks, stores -/
theorem blk_cell {w : World} {g : Nat} {cs : Array Value} {t : TypeId} (h : w.heap[g]? = some (.cells cs t (0, 0))) (j : Nat) : w.cell? ⟨g, j, none⟩ = cs[j]? := by
  simp [World.cell?, h]
theorem blk_free {w : World} {g : Nat} {cs : Array Value} {t : TypeId} (h : w.heap[g]? = some (.cells cs t (0, 0))) (j : Nat) : w.frozen? ⟨g, j, none⟩ = false := by
  simp [World.frozen?, h]
theorem blk_lt {w : World} {g : Nat} {o : Obj} (h : w.heap[g]? = some o) : g < w.heap.size := (Array.getElem?_eq_some_iff.1 h).1
theorem blk_set {w : World} {g : Nat} {cs : Array Value} {t : TypeId} (h : w.heap[g]? = some (.cells cs t (0, 0))) (j : Nat) (v : Value) : (w.setCell ⟨g, j, none⟩ v).heap[g]? = some (.cells (cs.setIfInBounds j v) t (0, 0)) := by
  simp [World.setCell, Array.getElem?_modify, h]
theorem blk_new (w : World) (o : Obj) : (w.alloc o).heap[w.heap.size]? = some o := heap_alloc_new w o
theorem blk_old {w : World} {g : Nat} {o : Obj} (h : w.heap[g]? = some o) (o' : Obj) : (w.alloc o').heap[g]? = some o := (heap_alloc_old w o' (blk_lt h)).trans h
theorem blk_new' (w : World) (o : Obj) {g : Nat} (hg : g = w.heap.size) : (w.alloc o).heap[g]? = some o := by rw [hg]; exact heap_alloc_new w o
theorem Bl.set {B : Nat} {a w : World} (h : Below B a w) (b o : Nat) (hb : B ≤ b) (u : Value) : Below B a (w.setCell ⟨b, o, none⟩ u) := Below.setCell h (p := ⟨b, o, none⟩) hb u
theorem Gr.set {a w : World} {g : Nat} (h : a.grownBy w (some g)) (b o : Nat) (hp : b = g ∨ a.heap.size ≤ b) (u : Value) : a.grownBy (w.setCell ⟨b, o, none⟩ u) (some g) := Gr.setCell h (p := ⟨b, o, none⟩) hp u
theorem blk_far {w : World} {g : Nat} {ob : Obj} (h : w.heap[g]? = some ob) (b o : Nat) (u : Value) (hne : g ≠ b) : (w.setCell ⟨b, o, none⟩ u).heap[g]? = some ob := (Below.heap_setCell w ⟨b, o, none⟩ u g hne).trans h
theorem Gr.blk {w w' : World} {s g : Nat} {o : Obj} (hg : w.grownBy w' (some s)) (h : w.heap[g]? = some o) (hne : g ≠ s) : w'.heap[g]? = some o :=
  (hg.block g (blk_lt h) (by intro e; injection e; contradiction)).trans h
theorem blk_below {w w' : World} {g : Nat} {o : Obj} (h : w.heap[g]? = some o) (hb : Below w.heap.size w w') : w'.heap[g]? = some o := (hb.block g (blk_lt h)).trans h
theorem Rd.of_blk {w : World} {g : Nat} {cs : Array Value} {t : TypeId} (h : w.heap[g]? = some (.cells cs t (0, 0))) {lo n cap : Nat} {xs : List Value} (hx : cs.toList = xs) (h1 : n ≤ cap) (h2 : cap ≤ 9223372036854775807) (hl : lo ≤ g) :
    Rd w lo (.slice (some ⟨g, 0, none⟩) n cap) n xs :=
  ⟨_, cap, rfl, h1, h2, fun j x hj => ⟨g, 0, rfl, hl, blk_lt h, by rw [Nat.zero_add, blk_cell h]; rw [← hx] at hj; simpa using hj⟩⟩
theorem Ints.of_blk {w : World} {g : Nat} {cs : Array Value} {t : TypeId} (h : w.heap[g]? = some (.cells cs t (0, 0))) {lo cap n : Nat} {l : List Int} (hx : cs.toList = ics l) (hn : n = l.length) (h1 : n ≤ cap) (h2 : cap ≤ 9223372036854775807) (hl : lo ≤ g) :
    Ints w lo (.slice (some ⟨g, 0, none⟩) n cap) l := by subst hn; exact Rd.of_blk h hx h1 h2 hl
theorem Pts.of_blk {w : World} {g : Nat} {cs : Array Value} {t : TypeId} (h : w.heap[g]? = some (.cells cs t (0, 0))) {lo cap n : Nat} {l : List Pt} (hx : cs.toList = pcs l) (hn : n = l.length) (h1 : n ≤ cap) (h2 : cap ≤ 9223372036854775807) (hl : lo ≤ g) :
    Pts w lo (.slice (some ⟨g, 0, none⟩) n cap) l := by subst hn; exact Rd.of_blk h hx h1 h2 hl
theorem Rd.alloc {w : World} {lo : Nat} {v : Value} {n : Nat} {xs : List Value} (h : Rd w lo v n xs) (o : Obj) : Rd (w.alloc o) lo v n xs := h.below ((Below.refl _ _).alloc (Nat.le_refl _) _)
theorem Ints.alloc {w : World} {lo : Nat} {v : Value} {l : List Int} (h : Ints w lo v l) (o : Obj) : Ints (w.alloc o) lo v l := Rd.alloc h o
theorem Pts.alloc {w : World} {lo : Nat} {v : Value} {l : List Pt} (h : Pts w lo v l) (o : Obj) : Pts (w.alloc o) lo v l := Rd.alloc h o
theorem Ints.take {w : World} {lo : Nat} {a : Option Addr} {n cap : Nat} {l : List Int} (h : Ints w lo (.slice a n cap) l) {k : Nat} (hk : k ≤ l.length) : Ints w lo (.slice a k cap) (l.take k) := by
  obtain ⟨a', cap', hv, h1, h2, h3⟩ := h
  obtain ⟨rfl, rfl, rfl⟩ := Value.slice.inj hv
  have hl : (l.take k).length = k := by rw [List.length_take]; omega
  refine ⟨a, cap, by rw [hl], by omega, h2, fun j x hj => h3 j x ?_⟩
  unfold ics at *
  rw [List.map_take, List.getElem?_take] at hj
  split at hj
  · exact hj
  · cases hj
end Go.Proofs.YtihgnpobkpnipaaGreatDoor
namespace Go.Proofs.YtihgnpobkpnipaaGreatDoor
open Go.RowKit Go.Sort
def iabs (n : Int) : Int := max n (-n)
def dist (a b : Pt) : Int := max (iabs (a.1 - b.1)) (iabs (a.2 - b.2))
def inB (l n h : Int) : Bool := decide (l ≤ n) && decide (n ≤ h)
def farB (p : Pt) : Bool := !inB (-500000) p.1 500000 || !inB (-500000) p.2 500000
def Bd (p : Pt) : Prop := -2199023255552 ≤ p.1 ∧ p.1 ≤ 2199023255552 ∧ -2199023255552 ≤ p.2 ∧ p.2 ≤ 2199023255552
theorem inB_true {l n h : Int} (a : l ≤ n) (b : n ≤ h) : inB l n h = true := by simp [inB, a, b]
theorem inB_lt {l n h : Int} (a : n < l) : inB l n h = false := by simp [inB]; omega
theorem inB_gt {l n h : Int} (a : h < n) : inB l n h = false := by simp [inB]; omega
set_option maxHeartbeats 400000 in
theorem abs_any (n : Int) (w : World) (h1 : -9223372036854775807 ≤ n) (h2 : n ≤ 9223372036854775807) : Calls Tryz.prog 129 #[.int .i64 n] w fun e w' => e = .returned (.int .i64 (iabs n)) ∧ w' = w := by
  go_enter Tryz.func129, Tryz.ntmps129
  go_wp2
  all_goals go_ret
  all_goals exact ⟨ret_int (by unfold iabs; omega), rfl⟩
set_option maxHeartbeats 400000 in
theorem in_any (n l h : Int) (w : World) : Calls Tryz.prog 41 #[.int .i64 n, .int .i64 l, .int .i64 h] w fun e w' => e = .returned (.bool (inB l n h)) ∧ w = w' := by
  by_cases h1 : l ≤ n
  · by_cases h2 : n ≤ h
    · have e := inB_true h1 h2
      have E := Lib.hid e
      clear e
      go_enter Tryz.func41, Tryz.ntmps41
      go_wp2
      go_ret
      exact ⟨ret_bool E.out.symm, rfl⟩
    · have e := inB_gt (l := l) (show h < n by omega)
      have E := Lib.hid e
      clear e
      go_enter Tryz.func41, Tryz.ntmps41
      go_wp2
      go_ret
      exact ⟨ret_bool E.out.symm, rfl⟩
  · have e := inB_lt (h := h) (show n < l by omega)
    have E := Lib.hid e
    clear e
    go_enter Tryz.func41, Tryz.ntmps41
    go_wp2
    go_ret
    exact ⟨ret_bool E.out.symm, rfl⟩
set_option maxHeartbeats 400000 in
theorem Outside_any (n l h : Int) (w : World) : Calls Tryz.prog 87 #[.int .i64 n, .int .i64 l, .int .i64 h] w fun e w' => e = .returned (.bool (!inB l n h)) ∧ w = w' := by
  by_cases h1 : l ≤ n
  · by_cases h2 : n ≤ h
    · have e := inB_true h1 h2
      have E := Lib.hid e
      clear e
      go_enter Tryz.func87, Tryz.ntmps87
      go_wp2
      go_ret
      exact ⟨ret_bool (by rw [E.out]; first | rfl | (simp; omega)), rfl⟩
    · have e := inB_gt (l := l) (show h < n by omega)
      have E := Lib.hid e
      clear e
      go_enter Tryz.func87, Tryz.ntmps87
      go_wp2
      go_ret
      exact ⟨ret_bool (by rw [E.out]; first | rfl | (simp; omega)), rfl⟩
  · have e := inB_lt (h := h) (show n < l by omega)
    have E := Lib.hid e
    clear e
    go_enter Tryz.func87, Tryz.ntmps87
    go_wp2
    go_ret
    exact ⟨ret_bool (by rw [E.out]; first | rfl | (simp; omega)), rfl⟩
set_option maxHeartbeats 400000 in
theorem distance_any (a b : Pt) (w : World) (ha : Bd a) (hb : Bd b) :
    Calls Tryz.prog 98 #[ptv a, ptv b] w fun e w' => e = .returned (.int .i64 (dist a b)) ∧ Below w.heap.size w w' := by
  obtain ⟨a1, a2⟩ := a
  obtain ⟨b1, b2⟩ := b
  obtain ⟨ha1, ha2, ha3, ha4⟩ := ha
  obtain ⟨hb1, hb2, hb3, hb4⟩ := hb
  simp only at *
  unfold ptv
  go_enter Tryz.func98, Tryz.ntmps98
  go_wp2
  go_quiet ((go_at_call 129; exact Calls.quiet_of_same (abs_any _ _ (by omega) (by omega))))
  go_wp2
  go_ret
  exact ⟨ret_int (by simp only [dist]), Bl.drewN (((Below.refl _ _).alloc (Nat.le_refl _) _).alloc (by simp) _) _⟩
set_option maxHeartbeats 400000 in
theorem isFar_any (a : Pt) (w : World) :
    Calls Tryz.prog 97 #[ptv a] w fun e w' => e = .returned (.bool (farB a)) ∧ Below w.heap.size w w' := by
  obtain ⟨a1, a2⟩ := a
  unfold ptv
  cases h1 : inB (-500000) a1 500000 <;> cases h2 : inB (-500000) a2 500000
  all_goals
    have E : Hid (farB (a1, a2) = _) := Lib.hid (by simp only [farB, h1, h2]; rfl)
    go_enter Tryz.func97, Tryz.ntmps97
    go_wp2_with (go_at_call 87; refine (Outside_any _ _ _ _).mono ?_; rintro e w' ⟨rfl, rfl⟩)
    go_ret
    exact ⟨ret_bool E.out.symm, ((Below.refl _ _).alloc (Nat.le_refl _) _)⟩
end Go.Proofs.YtihgnpobkpnipaaGreatDoor
namespace Go.Proofs.YtihgnpobkpnipaaGreatDoor
open Go.RowKit Go.Sort
/-- where the head stands, and how far it has gone, behind an order. -/
def walkTo (P : List Pt) : Pt → Int → List Nat → Pt × Int
  | at', n, [] => (at', n)
  | at', n, k :: r => walkTo P (P.getD k (0, 0)) (n + dist at' (P.getD k (0, 0))) r
def lenOf (st : Pt) (P : List Pt) (o : List Nat) : Int := (walkTo P st 0 o).2 + dist (walkTo P st 0 o).1 st
theorem take_snoc {α : Type} {l : List α} {k : Nat} {x : α} (h : l[k]? = some x) : l.take (k + 1) = l.take k ++ [x] := by
  rw [List.take_add_one, h]; rfl
end Go.Proofs.YtihgnpobkpnipaaGreatDoor
namespace Go.Proofs.YtihgnpobkpnipaaGreatDoor
open Go.RowKit Go.Sort
/-- the first that is not 0. -/
def orF : List Int → Int
  | [] => 0
  | x :: l => if x = 0 then orF l else x
theorem orF_take {l : List Int} {k : Nat} (h : ∀ x ∈ l.take k, x = 0) : orF l = orF (l.drop k) := by
  induction k generalizing l with
  | zero => rfl
  | succ k ih =>
    cases l with
    | nil => rfl
    | cons x l =>
      have hx : x = 0 := h x (by simp)
      subst hx
      simp only [orF, List.drop_succ_cons, if_true]
      exact ih (fun y hy => h y (by simp [hy]))
end Go.Proofs.YtihgnpobkpnipaaGreatDoor
