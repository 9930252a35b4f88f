/- Texts of the proof of a law, put together, part 3 of 41. Conditions: none beyond those that each theorem names. -/
import Derived.Test.YtihgnpobkpnipaaGreatDoorQz1
import Derived.Test.YtihgnpobkpnipaaGreatDoorQz2
import Derived.Deep.AppendLies
import Derived.Deep.RegionHeld3
namespace Go.Proofs.YtihgnpobkpnipaaGreatDoor
open Go.RowKit Go.Sort
def Own (w : World) (B : Nat) (v : Value) (l : List Int) : Prop := w.ownsRow B 3 1 v l.length (ics l)
theorem Own.ints {w : World} {B : Nat} {v : Value} {l : List Int} (h : Own w B v l) : Ints w B v l := Rd.of_own h
theorem Own.nil (w : World) (B : Nat) : Own w B (.slice none 0 0) [] := World.ownsRow_nil w B _ 1
theorem Ints.cells {w : World} {lo b o n cap : Nat} {l : List Int} (h : Ints w lo (.slice (some ⟨b, o, none⟩) n cap) l) : ∀ j, j < l.length → w.cell? ⟨b, o + j, none⟩ = some (.int .i64 (l.getD j 0)) := by
  intro j hj
  obtain ⟨b', o', ha, _, _, hc⟩ := h.at (k := j) (x := l.getD j 0) (by simp [List.getD, hj])
  injection ha with e
  injection e with e1 e2 e3
  subst e1 e2
  exact hc
theorem Own.drop {w : World} {B g n cap : Nat} {l : List Int} (h : Own w B (.slice (some ⟨g, 0, none⟩) n cap) l) (_hn : n = l.length) (i : Nat) : ∀ j, j < (l.drop i).length → w.cell? ⟨g, i + j, none⟩ = some (.int .i64 ((l.drop i).getD j 0)) := by
  intro j hj
  rw [List.length_drop] at hj
  have := Ints.cells h.ints (i + j) (by omega)
  rw [Nat.zero_add] at this
  rw [this]
  congr 2
  simp [List.getD]
theorem own_grown {w w' : World} {B s : Nat} {e : TypeId} {size : Nat} {v : Value} {n : Nat} {xs : List Value} (h : w.ownsRow B e size v n xs) (hg : w.grownBy w' (some s)) (hs : s < B) : w'.ownsRow B e size v n xs :=
  h.kept hg (by
    cases hv : v.ownBlock with
    | none => exact .inl rfl
    | some k => exact .inr (by intro e; injection e with e; have := (h.lt k hv).1; omega))
theorem own_belowA {w w' : World} {B : Nat} {e : TypeId} {size : Nat} {v : Value} {n : Nat} {xs : List Value} (h : w.ownsRow B e size v n xs) (hb : Below w.heap.size w w') : w'.ownsRow B e size v n xs :=
  h.kept (Gr.of_below hb none) (by cases hv : v.ownBlock <;> simp)
theorem Own.grown {w w' : World} {B s : Nat} {v : Value} {l : List Int} (h : Own w B v l) (hg : w.grownBy w' (some s)) (hs : s < B) : Own w' B v l := own_grown h hg hs
theorem Own.below {w w' : World} {B : Nat} {v : Value} {l : List Int} (h : Own w B v l) (hb : Below w.heap.size w w') : Own w' B v l := own_belowA h hb
theorem Own.alloc {w : World} {B : Nat} {v : Value} {l : List Int} (h : Own w B v l) (o : Obj) : Own (w.alloc o) B v l := h.below ((Below.refl _ _).alloc (Nat.le_refl _) _)
def OwnP (w : World) (B : Nat) (v : Value) (l : List Pt) : Prop := w.ownsRow B 113 2 v l.length (pcs l)
theorem OwnP.nil (w : World) (B : Nat) : OwnP w B (.slice none 0 0) [] := World.ownsRow_nil w B _ 2
theorem OwnP.grown {w w' : World} {B s : Nat} {v : Value} {l : List Pt} (h : OwnP w B v l) (hg : w.grownBy w' (some s)) (hs : s < B) : OwnP w' B v l := own_grown h hg hs
theorem OwnP.below {w w' : World} {B : Nat} {v : Value} {l : List Pt} (h : OwnP w B v l) (hb : Below w.heap.size w w') : OwnP w' B v l := own_belowA h hb
theorem OwnP.alloc {w : World} {B : Nat} {v : Value} {l : List Pt} (h : OwnP w B v l) (o : Obj) : OwnP (w.alloc o) B v l := h.below ((Below.refl _ _).alloc (Nat.le_refl _) _)
theorem Gr.app {a w w' : World} {s B : Nat} {e : TypeId} {size : Nat} {v : Value} {n : Nat} {xs : List Value} (h : a.grownBy w (some s)) (ho : w.ownsRow B e size v n xs) (hg : w.grownBy w' v.ownBlock) (hB : a.heap.size ≤ B) : a.grownBy w' (some s) :=
  ⟨hg.os.trans h.os, hg.tape.trans h.tape, hg.output.trans h.output, Nat.le_trans h.size hg.size, fun i hi hn => (hg.block i (Nat.lt_of_lt_of_le hi h.size) (by
    intro e; have := (ho.lt i e.symm).1; omega)).trans (h.block i hi hn)⟩
theorem app_below {w w' : World} {B : Nat} {e : TypeId} {size : Nat} {v : Value} {n : Nat} {xs : List Value} (ho : w.ownsRow B e size v n xs) (hg : w.grownBy w' v.ownBlock) (hB : B ≤ w.heap.size) : Below B w w' :=
  ⟨hg.os, hg.tape, hg.output, hg.size, fun i hi => hg.block i (by omega) (by intro e; have := (ho.lt i e.symm).1; omega)⟩
theorem info_int : (Tryz.prog.info? 3).map (fun i => (i.zero, i.size, i.bytes)) = some (some (.int .i64 0), 1, 8) := by kernel_rfl
/-- append of one number to a slice of the call's own. -/
theorem wp_app_int {w : World} {ops : Array Oper} {rest : List Oper} {o : Oper} {a : Act} {Q : Exit → Act → World → Prop} (hgd : o.guard = none) (s x : Operand)
    (ho : o.op = .call { callee := .builtin .append, args := #[s, x], argTypes := #[22, 22] }) (B : Nat) (v : Value) (l : List Int) (hs : a.eval s = v) (hown : Own w B v l)
    (g c : Nat) (y : Int) (hx : a.eval x = .slice (some ⟨g, 0, none⟩) 1 c) (hc : w.cell? ⟨g, 0, none⟩ = some (.int .i64 y)) (hlen : l.length ≤ 1000000) (hB : B ≤ w.heap.size)
    (h : ∀ v' w', Own w' B v' (l ++ [y]) → w.grownBy w' v.ownBlock → Below B w w' → wpList Tryz.prog ops Q rest (a.put o.dst v') w') : wpList Tryz.prog ops Q (o :: rest) a w := by
  obtain ⟨i, hi, hz0, hz1, hz2⟩ := info_parts info_int
  refine wpList_append_own w hgd s x 22 ho B 3 i _ 1 8 Tryz.underlying22 hi hz0 hz1 hz2 rfl (by decide) v l.length (ics l) hs hown ⟨g, 0, none⟩ 1 c [.int .i64 y] hx rfl ?_ ?_ (by unfold maxLen; omega) (by omega) hB ?_
  · intro j u hj
    cases j with
    | zero => simp at hj; subst hj; simpa [Addr.add] using hc
    | succ j => simp at hj
  · intro u hu; simp at hu; subst hu; rfl
  · intro v' w' h1 h2 _
    refine h v' w' ?_ h2 (app_below hown h2 hB)
    unfold Own
    rw [List.length_append, show ics (l ++ [y]) = ics l ++ [.int .i64 y] by simp [ics]]
    exact h1
end Go.Proofs.YtihgnpobkpnipaaGreatDoor
namespace Go.Proofs.YtihgnpobkpnipaaGreatDoor
open Go.RowKit Go.Sort
/-- a stream in block s, of which at most c numbers have been taken. -/
def Str (w : World) (s : Nat) (c : Int) : Prop :=
  ∃ (a : Option Addr) (len cap : Nat) (n : Int), w.heap[s]? = some (.cells #[.slice a len cap, .int .i64 n] 25 (0, 0)) ∧ 0 ≤ n ∧ n ≤ c ∧ len ≤ 9223372036854775807 ∧
    ∀ k, k < len → ∃ b o x, a = some ⟨b, o, none⟩ ∧ b < s ∧ b < w.heap.size ∧ w.cell? ⟨b, o + k, none⟩ = some (.int .i64 x) ∧ -9223372036854775808 ≤ x ∧ x ≤ 9223372036854775807
theorem Str.lt {w : World} {s : Nat} {c : Int} (h : Str w s c) : s < w.heap.size := by
  obtain ⟨a, len, cap, n, h1, _⟩ := h
  exact blk_lt h1
theorem Str.mono {w : World} {s : Nat} {c d : Int} (h : Str w s c) (hd : c ≤ d) : Str w s d := by
  obtain ⟨a, len, cap, n, h1, h2, h3, h4⟩ := h
  exact ⟨a, len, cap, n, h1, h2, by omega, h4⟩
theorem Str.below {w w' : World} {s : Nat} {c : Int} (h : Str w s c) (hb : Below w.heap.size w w') : Str w' s c := by
  obtain ⟨a, len, cap, n, h1, h2, h3, h4, h5⟩ := h
  refine ⟨a, len, cap, n, blk_below h1 hb, h2, h3, h4, fun k hk => ?_⟩
  obtain ⟨b, o, x, e, hne, hlt, hc, hx⟩ := h5 k hk
  exact ⟨b, o, x, e, hne, Nat.lt_of_lt_of_le hlt hb.size, ((bcell hb).1 b _ hlt).trans hc, hx⟩
theorem Str.belowB {w w' : World} {s B : Nat} {c : Int} (h : Str w s c) (hb : Below B w w') (hs : s < B) : Str w' s c := by
  obtain ⟨a, len, cap, n, h1, h2, h3, h4, h5⟩ := h
  refine ⟨a, len, cap, n, (hb.block s hs).trans h1, h2, h3, h4, fun k hk => ?_⟩
  obtain ⟨b, o, x, e, hne, hlt, hc, hx⟩ := h5 k hk
  exact ⟨b, o, x, e, hne, Nat.lt_of_lt_of_le hlt hb.size, (hb.cell (p := ⟨b, o + k, none⟩) (by show b < B; omega)).trans hc, hx⟩
theorem Str.drew {w : World} {s : Nat} {c : Int} (h : Str w s c) : Str w.drew s c := h
theorem Str.far {w : World} {s : Nat} {c : Int} (h : Str w s c) (b o : Nat) (hb : s < b) (u : Value) : Str (w.setCell ⟨b, o, none⟩ u) s c := by
  obtain ⟨a, len, cap, n, h1, h2, h3, h4, h5⟩ := h
  refine ⟨a, len, cap, n, blk_far h1 b o u (by omega), h2, h3, h4, fun k hk => ?_⟩
  obtain ⟨b2, o2, x, ha, hlt, hb2, hc, hx⟩ := h5 k hk
  exact ⟨b2, o2, x, ha, hlt, by simpa [World.setCell] using hb2, (World.cell?_of_block (w := w) (Below.heap_setCell w ⟨b, o, none⟩ u b2 (by show b2 ≠ b; omega))).trans hc, hx⟩
theorem Str.alloc {w : World} {s : Nat} {c : Int} (h : Str w s c) (o : Obj) : Str (w.alloc o) s c := h.below ((Below.refl _ _).alloc (Nat.le_refl _) _)
theorem Str.step {w w' : World} {s : Nat} {c n : Int} {a : Option Addr} {len cap : Nat} (h1 : w.heap[s]? = some (.cells #[.slice a len cap, .int .i64 n] 25 (0, 0))) (h2 : 0 ≤ n) (h3 : n ≤ c) (h4 : len ≤ 9223372036854775807)
    (h5 : ∀ k, k < len → ∃ b o x, a = some ⟨b, o, none⟩ ∧ b < s ∧ b < w.heap.size ∧ w.cell? ⟨b, o + k, none⟩ = some (.int .i64 x) ∧ -9223372036854775808 ≤ x ∧ x ≤ 9223372036854775807)
    (hw : ∃ k, w' = (w.setCell ⟨s, 1, none⟩ (.int .i64 (n + 1))).drewN k) : Str w' s (c + 1) ∧ w.grownBy w' (some s) := by
  obtain ⟨q, rfl⟩ := hw
  refine ⟨⟨a, len, cap, n + 1, blk_set h1 1 _, by omega, by omega, h4, fun k hk => ?_⟩, Gr.drewN (Gr.setCell (Gr.refl _ _) (.inl rfl) _) _⟩
  obtain ⟨b, o, x, e, hne, hlt, hc, hx⟩ := h5 k hk
  refine ⟨b, o, x, e, hne, by simpa [World.setCell] using hlt, ?_, hx⟩
  exact (World.cell?_setCell_other _ _ _ _ (by intro hh; injection hh with e1; omega)).trans hc
end Go.Proofs.YtihgnpobkpnipaaGreatDoor
namespace Go.Proofs.YtihgnpobkpnipaaGreatDoor
open Go.RowKit Go.Sort
/-- a type of records: its number, its slices' number, cells and bytes of one, the zero value, how one lies in memory. -/
structure Rty (α : Type) where
  e : TypeId
  S : TypeId
  k : Nat
  b : Nat
  z : Value
  f : α → List Value
structure Rty.Ok {α : Type} (T : Rty α) : Prop where
  info : (Tryz.prog.info? T.e).map (fun i => (i.zero, i.size, i.bytes)) = some (some T.z, T.k, T.b)
  sl : Tryz.prog.underlying T.S = some (.slice T.e)
  zs : T.z.cells.size = T.k
  pos : 0 < T.k
  len : ∀ x, (T.f x).length = T.k
  one : ∀ x, ∀ u ∈ T.f x, u.oneCell' = true
  small : T.b ≤ 1000
theorem flat_len {α : Type} {f : α → List Value} {k : Nat} (h : ∀ x, (f x).length = k) (l : List α) : (l.flatMap f).length = l.length * k := by
  induction l with
  | nil => simp
  | cons x l ih => rw [List.flatMap_cons, List.length_append, h, ih, List.length_cons, Nat.succ_mul, Nat.add_comm]
theorem flat_at {α : Type} {f : α → List Value} {k : Nat} (h : ∀ x, (f x).length = k) : ∀ (l : List α) (i : Nat) (x : α), l[i]? = some x → ∀ j u, (f x)[j]? = some u → (l.flatMap f)[i * k + j]? = some u
  | [], i, x, hx, j, u, hu => by simp at hx
  | y :: l, 0, x, hx, j, u, hu => by
    simp at hx
    subst hx
    rw [List.flatMap_cons, Nat.zero_mul, Nat.zero_add, List.getElem?_append_left (List.getElem?_eq_some_iff.1 hu).1]
    exact hu
  | y :: l, i + 1, x, hx, j, u, hu => by
    have := flat_at h l i x (by simpa using hx) j u hu
    rw [List.flatMap_cons, List.getElem?_append_right (by rw [h, Nat.succ_mul]; omega), h, show (i + 1) * k + j - k = i * k + j by rw [Nat.succ_mul]; omega]
    exact this
/-- a slice reads as a list of records. -/
def RecR {α : Type} (T : Rty α) (w : World) (lo : Nat) (v : Value) (l : List α) : Prop := Rd w lo v l.length (l.flatMap T.f)
def OwnR {α : Type} (T : Rty α) (w : World) (B : Nat) (v : Value) (l : List α) : Prop := w.ownsRow B T.e T.k v l.length (l.flatMap T.f)
variable {α : Type} {T : Rty α}
theorem RecR.below {w w' : World} {lo : Nat} {v : Value} {l : List α} (h : RecR T w lo v l) (hb : Below w.heap.size w w') : RecR T w' lo v l := Rd.below h hb
theorem RecR.grown {w w' : World} {lo s : Nat} {v : Value} {l : List α} (h : RecR T w lo v l) (hb : w.grownBy w' (some s)) (hs : s < lo) : RecR T w' lo v l := Rd.grown h hb hs
theorem RecR.mono {w : World} {lo lo' : Nat} {v : Value} {l : List α} (h : RecR T w lo v l) (hl : lo' ≤ lo) : RecR T w lo' v l := Rd.mono h hl
theorem RecR.alloc {w : World} {lo : Nat} {v : Value} {l : List α} (h : RecR T w lo v l) (o : Obj) : RecR T (w.alloc o) lo v l := Rd.alloc h o
theorem RecR.nil (w : World) (lo : Nat) : RecR T w lo (.slice none 0 0) [] := Rd.nil w lo
theorem RecR.form {w : World} {lo : Nat} {v : Value} {l : List α} (h : RecR T w lo v l) : ∃ a cap, v = .slice a l.length cap ∧ l.length ≤ cap ∧ cap ≤ 9223372036854775807 := by
  obtain ⟨a', cap', hv, h1, h2, h3⟩ := h
  exact ⟨a', cap', hv, h1, h2⟩
theorem RecR.at {w : World} {lo : Nat} {a : Option Addr} {n cap : Nat} {l : List α} (h : RecR T w lo (.slice a n cap) l) (hT : ∀ x, (T.f x).length = T.k) {i : Nat} {x : α} (hi : l[i]? = some x) (h0 : 0 < T.k) :
    ∃ b o, a = some ⟨b, o, none⟩ ∧ lo ≤ b ∧ b < w.heap.size ∧ ∀ j u, (T.f x)[j]? = some u → w.cell? ⟨b, o + i * T.k + j, none⟩ = some u := by
  obtain ⟨a', cap', hv, h1, h2, h3⟩ := h
  obtain ⟨rfl, rfl, rfl⟩ := Value.slice.inj hv
  obtain ⟨u0, hu0⟩ : ∃ u, (T.f x)[0]? = some u := ⟨_, List.getElem?_eq_getElem (by rw [hT]; exact h0)⟩
  obtain ⟨b, o, ha, hl, hb, hc⟩ := h3 _ _ (flat_at hT l i x hi 0 u0 hu0)
  refine ⟨b, o, ha, hl, hb, fun j u hu => ?_⟩
  obtain ⟨b', o', ha', _, _, hc'⟩ := h3 _ _ (flat_at hT l i x hi j u hu)
  rw [ha] at ha'
  injection ha' with e
  injection e with e1 e2 e3
  subst e1 e2
  rw [Nat.add_assoc]
  exact hc'
theorem OwnR.rec {w : World} {B : Nat} {v : Value} {l : List α} (h : OwnR T w B v l) : RecR T w B v l := Rd.of_own h
theorem OwnR.rec0 {w : World} {B : Nat} {v : Value} {l : List α} (h : OwnR T w B v l) : RecR T w 0 v l := h.rec.mono (Nat.zero_le _)
theorem OwnR.nil (w : World) (B : Nat) : OwnR T w B (.slice none 0 0) [] := World.ownsRow_nil w B _ _
theorem OwnR.keep {w w' : World} {B : Nat} {v : Value} {l : List α} (h : OwnR T w B v l) (hk : ∀ k, B ≤ k → k < w.heap.size → w'.heap[k]? = w.heap[k]?) : OwnR T w' B v l := by
  refine ⟨h.1, h.2.imp id ?_⟩
  rintro ⟨b, cap, cur, hv, hb, hc, rest⟩
  exact ⟨b, cap, cur, hv, hb, (hk b hb (blk_lt hc)).trans hc, rest⟩
theorem OwnR.below {w w' : World} {B : Nat} {v : Value} {l : List α} (h : OwnR T w B v l) (hb : Below w.heap.size w w') : OwnR T w' B v l := h.keep fun k _ hk => hb.block k hk
theorem OwnR.grown {w w' : World} {B s : Nat} {v : Value} {l : List α} (h : OwnR T w B v l) (hg : w.grownBy w' (some s)) (hs : s < B) : OwnR T w' B v l := h.keep fun k h1 hk => hg.block k hk (by intro e; injection e; omega)
theorem OwnR.alloc {w : World} {B : Nat} {v : Value} {l : List α} (h : OwnR T w B v l) (o : Obj) : OwnR T (w.alloc o) B v l := h.below ((Below.refl _ _).alloc (Nat.le_refl _) _)
theorem OwnR.base {w : World} {B B' : Nat} {v : Value} {l : List α} (h : OwnR T w B v l) (hb : B' ≤ B) : OwnR T w B' v l := by
  refine ⟨h.1, h.2.imp id ?_⟩
  rintro ⟨b, cap, cur, hv, hB, rest⟩
  exact ⟨b, cap, cur, hv, Nat.le_trans hb hB, rest⟩
theorem OwnR.far {w : World} {B g : Nat} {v : Value} {l : List α} (h : OwnR T w B v l) (hg : g < B) (j : Nat) (u : Value) : OwnR T (w.setCell ⟨g, j, none⟩ u) B v l := by
  refine ⟨h.1, h.2.imp id ?_⟩
  rintro ⟨b, cap, cur, hv, hb, hc, rest⟩
  exact ⟨b, cap, cur, hv, hb, blk_far hc g j u (by omega), rest⟩
theorem OwnR.form {w : World} {B : Nat} {v : Value} {l : List α} (h : OwnR T w B v l) : ∃ a cap, v = .slice a l.length cap ∧ l.length ≤ cap ∧ cap ≤ 9223372036854775807 := h.rec.form
/-- a row that is not empty, whole. -/
theorem OwnR.blk {w : World} {B : Nat} {v : Value} {l : List α} (h : OwnR T w B v l) (h0 : l ≠ []) : ∃ g cap cur, v = .slice (some ⟨g, 0, none⟩) l.length cap ∧ B ≤ g ∧ w.heap[g]? = some (.cells cur T.e (0, 0)) ∧ l.length ≤ cap ∧ cap ≤ maxLen ∧ cur.size = cap * T.k ∧ cur.toList.take (l.length * T.k) = l.flatMap T.f := by
  rcases h.2 with ⟨_, hn⟩ | h
  · exact absurd (List.eq_nil_of_length_eq_zero hn) h0
  · exact h
/-- one record changed in place: a cell of it. -/
theorem OwnR.of_blk {w : World} {B g cap : Nat} {cur : Array Value} {l : List α} (hB : B ≤ g) (hb : w.heap[g]? = some (.cells cur T.e (0, 0))) (h1 : l.length ≤ cap) (h2 : cap ≤ maxLen) (h3 : cur.size = cap * T.k) (h4 : cur.toList.take (l.length * T.k) = l.flatMap T.f) (hl : (l.flatMap T.f).length = l.length * T.k) : OwnR T w B (.slice (some ⟨g, 0, none⟩) l.length cap) l :=
  ⟨hl, .inr ⟨g, cap, cur, rfl, hB, hb, h1, h2, h3, h4⟩⟩
theorem app_belowR {w w' : World} {B : Nat} {v : Value} {l : List α} (ho : OwnR T w B v l) (hg : w.grownBy w' v.ownBlock) (hB : B ≤ w.heap.size) : Below B w w' :=
  ⟨hg.os, hg.tape, hg.output, hg.size, fun i hi => hg.block i (by omega) (by intro e; have := (World.ownsRow.lt ho i e.symm).1; omega)⟩
/-- append of one record to a slice of the call's own. -/
theorem wp_app_rec (hT : T.Ok) {w : World} {ops : Array Oper} {rest : List Oper} {o : Oper} {a : Act} {Q : Exit → Act → World → Prop} (hgd : o.guard = none) (s x : Operand)
    (ho : o.op = .call { callee := .builtin .append, args := #[s, x], argTypes := #[T.S, T.S] }) (B : Nat) (v : Value) (l : List α) (hs : a.eval s = v) (hown : OwnR T w B v l)
    (g c : Nat) (y : α) (hx : a.eval x = .slice (some ⟨g, 0, none⟩) 1 c) {cs : Array Value} {t : TypeId} (hblk : w.heap[g]? = some (.cells cs t (0, 0))) (hcs : cs.toList = T.f y) (hlen : l.length ≤ 1000000) (hB : B ≤ w.heap.size)
    (h : ∀ v' w', OwnR T w' B v' (l ++ [y]) → w.grownBy w' v.ownBlock → Below B w w' → wpList Tryz.prog ops Q rest (a.put o.dst v') w') : wpList Tryz.prog ops Q (o :: rest) a w := by
  obtain ⟨i, hi, hz0, hz1, hz2⟩ := info_parts hT.info
  refine wpList_append_own w hgd s x T.S ho B T.e i _ T.k T.b hT.sl hi hz0 hz1 hz2 hT.zs hT.pos v l.length (l.flatMap T.f) hs hown ⟨g, 0, none⟩ 1 c (T.f y) hx (by rw [hT.len, Nat.one_mul]) ?_ (hT.one y) (by unfold maxLen; omega) (by have := Nat.mul_le_mul (show l.length + 1 ≤ 1000001 by omega) hT.small; omega) hB ?_
  · intro j u hj
    rw [← hcs] at hj
    have : w.cell? ⟨g, j, none⟩ = some u := by rw [blk_cell hblk]; simpa using hj
    by_cases h0 : j = 0
    · subst h0; simpa [Addr.add] using this
    · simpa [Addr.add, h0] using this
  · intro v' w' h1 h2 _
    refine h v' w' ?_ h2 (app_belowR hown h2 hB)
    unfold OwnR
    rw [List.length_append, List.flatMap_append, List.flatMap_singleton]
    exact h1
theorem Gr.appR {a w w' : World} {s B : Nat} {v : Value} {l : List α} (h : a.grownBy w (some s)) (ho : OwnR T w B v l) (hg : w.grownBy w' v.ownBlock) (hB : a.heap.size ≤ B) : a.grownBy w' (some s) :=
  ⟨hg.os.trans h.os, hg.tape.trans h.tape, hg.output.trans h.output, Nat.le_trans h.size hg.size, fun i hi hn => (hg.block i (Nat.lt_of_lt_of_le hi h.size) (by
    intro e; have := (World.ownsRow.lt ho i e.symm).1; omega)).trans (h.block i hi hn)⟩
end Go.Proofs.YtihgnpobkpnipaaGreatDoor
namespace Go.Proofs.YtihgnpobkpnipaaGreatDoor
open Go.RowKit Go.Sort
def TS : Rty ByteArray := { e := 9, S := 45, k := 1, b := 16, z := .string ByteArray.empty, f := fun s => [.string s] }
theorem TS.ok : TS.Ok := ⟨by kernel_rfl, Tryz.underlying45, rfl, by decide, fun _ => rfl, fun x u hu => by simp [TS] at hu; subst hu; rfl, by decide⟩
theorem RecR.of_blk {α : Type} {T : Rty α} {w : World} {g : Nat} {cs : Array Value} {t : TypeId} (h : w.heap[g]? = some (.cells cs t (0, 0))) {lo n cap : Nat} {l : List α} (hx : cs.toList = l.flatMap T.f) (hn : n = l.length) (h1 : n ≤ cap) (h2 : cap ≤ 9223372036854775807) (hl : lo ≤ g) :
    RecR T w lo (.slice (some ⟨g, 0, none⟩) n cap) l := by subst hn; exact Rd.of_blk h hx h1 h2 hl
end Go.Proofs.YtihgnpobkpnipaaGreatDoor
namespace Go.Proofs.YtihgnpobkpnipaaGreatDoor
open Go.RowKit Go.Sort
theorem str_at {w : World} {lo : Nat} {a : Option Addr} {n cap : Nat} {l : List ByteArray} (h : RecR TS w lo (.slice a n cap) l) {k : Nat} {x : ByteArray} (hk : l[k]? = some x) :
    ∃ b o, a = some ⟨b, o, none⟩ ∧ lo ≤ b ∧ b < w.heap.size ∧ w.cell? ⟨b, o + k, none⟩ = some (.string x) := by
  obtain ⟨b, o, rfl, h1, h2, h3⟩ := h.at TS.ok.len hk TS.ok.pos
  refine ⟨b, o, rfl, h1, h2, ?_⟩
  have := h3 0 _ rfl
  simpa [TS] using this
theorem ba_inj {a b : ByteArray} (h : a.toList = b.toList) : a = b := ByteArray.ext (Array.toList_inj.1 (by rw [ByteArray.toList_eq, ByteArray.toList_eq] at h; exact h))
end Go.Proofs.YtihgnpobkpnipaaGreatDoor
namespace Go.Proofs.YtihgnpobkpnipaaGreatDoor
open Go.RowKit Go.Sort
theorem Str.begin {w : World} {a : Option Addr} {cap : Nat} {l : List Int} (rl : Ints w 0 (.slice a l.length cap) l) (hl : ∀ x ∈ l, -9223372036854775808 ≤ x ∧ x ≤ 9223372036854775807) :
    Str (w.alloc (.cells #[.slice a l.length cap, .int .i64 0] 25)) w.heap.size 0 := by
  obtain ⟨a', cap', hv, h1, h2⟩ := Ints.form rl
  injection hv with _ _ hcap
  refine ⟨a, l.length, cap, 0, blk_new w _, Int.le_refl _, Int.le_refl _, by omega, fun k hk => ?_⟩
  obtain ⟨b, o, ha, _, hb, hc⟩ := rl.at (k := k) (x := l[k]) (List.getElem?_eq_getElem hk)
  have hx := hl l[k] (List.getElem_mem hk)
  exact ⟨b, o, l[k], ha, hb, by simp; omega, ((bcell (Bl.alloc (Below.refl _ _) _)).1 _ _ hb).trans hc, hx.1, hx.2⟩
end Go.Proofs.YtihgnpobkpnipaaGreatDoor
