/- The contracts of Clone, Equal, Reverse on ints, over what the shelf has. Condition: lists of at most 1000000 elements. -/
import Derived.Test.YtcfeoapbbkfbnaaGreatDoorOrd
import Derived.Test.YtcfeoapbbkfbnaaGreatDoorShelf
namespace Go.Proofs.YtcfeoapbbkfbnaaGreatDoor
open Go.RowKit Go.Sort

def Own (w : World) (B : Nat) (v : Value) (l : List Int) : Prop := w.ownsRow B 3 1 v l.length (ics l)
theorem Own.ints {w : World} {B : Nat} {v : Value} {l : List Int} (h : Own w B v l) : Ints w B v l := Rd.of_own h
theorem Own.ints0 {w : World} {B : Nat} {v : Value} {l : List Int} (h : Own w B v l) : Ints w 0 v l := h.ints.mono (Nat.zero_le _)
theorem Own.nil (w : World) (B : Nat) : Own w B (.slice none 0 0) [] := World.ownsRow_nil w B _ 1
theorem ics_getD {l : List Int} {j : Nat} (h : j < l.length) : (ics l)[j]? = some (.int .i64 (l.getD j 0)) := by
  simp [ics, List.getD, h]
theorem Ints.cells {w : World} {lo b o n cap : Nat} {l : List Int} (h : Ints w lo (.slice (some ⟨b, o, none⟩) n cap) l) : ∀ j, j < l.length → w.cell? ⟨b, o + j, none⟩ = some (.int .i64 (l.getD j 0)) := by
  intro j hj
  obtain ⟨b', o', ha, _, _, hc⟩ := h.at (k := j) (x := l.getD j 0) (by simp [List.getD, hj])
  injection ha with e
  injection e with e1 e2 e3
  subst e1 e2
  exact hc

def eqL (a b : List Int) : Bool := a == b
/-- a list with other elements from a place on. -/
def splice {α : Type} (l : List α) (o : Nat) (r : List α) : List α := l.take o ++ r ++ l.drop (o + r.length)
theorem splice_length {α : Type} {l r : List α} {o : Nat} (h : o + r.length ≤ l.length) : (splice l o r).length = l.length := by
  simp [splice]; omega
theorem splice_cons {α : Type} {l r : List α} {o : Nat} {x : α} (h : o + r.length < l.length) : splice (l.set o x) (o + 1) r = splice l o (x :: r) := by
  apply List.ext_getElem?
  intro k
  simp only [splice, List.length_cons]
  simp only [List.getElem?_append, List.length_append, List.length_take, List.length_set, List.length_cons, List.getElem?_take, List.getElem?_drop, List.getElem?_set]
  by_cases h1 : k < o
  · simp only [show k < min o l.length by omega, show k < min o l.length + (r.length + 1) by omega, show k < min (o + 1) l.length by omega, show k < min (o + 1) l.length + r.length by omega, if_true, show k < o + 1 by omega, show o ≠ k by omega, if_false, h1]
  · by_cases h2 : k = o
    · subst h2
      simp only [show k < min (k + 1) l.length by omega, show k < min (k + 1) l.length + r.length by omega, if_true, show k < k + 1 by omega, show ¬ k < min k l.length by omega, show k < min k l.length + (r.length + 1) by omega, if_false, show k < l.length by omega]
      rw [show k - min k l.length = 0 by omega]
      simp
    · by_cases h3 : k < o + 1 + r.length
      · simp only [show k < min (o + 1) l.length + r.length by omega, if_true, show ¬ k < min (o + 1) l.length by omega, if_false, show k < min o l.length + (r.length + 1) by omega, show ¬ k < min o l.length by omega]
        rw [show k - min (o + 1) l.length = k - min o l.length - 1 by omega]
        rw [List.getElem?_cons, if_neg (by omega)]
      · simp only [show ¬ k < min (o + 1) l.length + r.length by omega, if_false, show ¬ k < min o l.length + (r.length + 1) by omega]
        rw [if_neg (by omega)]
        congr 1
        omega

theorem Own.setCells {B g n cap : Nat} : ∀ (r : List Int) (o : Nat) (l : List Int) (w : World), o + r.length ≤ l.length → n = l.length → Own w B (.slice (some ⟨g, 0, none⟩) n cap) l →
    Own (w.setCells g o (ics r)) B (.slice (some ⟨g, 0, none⟩) n cap) (splice l o r) ∧ w.grownBy (w.setCells g o (ics r)) (some g)
  | [], o, l, w, _, _, h => ⟨by (have e : splice l o [] = l := by simp [splice]); rw [e]; exact h, Gr.refl _ _⟩
  | x :: r, o, l, w, h1, h2, h => by
    subst h2
    have hs := World.ownsRow.stored h o (.int .i64 x)
    have e1 : (ics l).set o (.int .i64 x) = ics (l.set o x) := by simp [ics, List.map_set]
    rw [e1] at hs
    have h' : Own (w.setCell ⟨g, o, none⟩ (.int .i64 x)) B (.slice (some ⟨g, 0, none⟩) l.length cap) (l.set o x) := by
      have := hs.1
      unfold Own
      rw [List.length_set]; exact this
    simp only [List.length_cons] at h1
    have ih := Own.setCells r (o + 1) (l.set o x) (w.setCell ⟨g, o, none⟩ (.int .i64 x)) (by rw [List.length_set]; omega) (by rw [List.length_set]) h'
    rw [splice_cons (by omega)] at ih
    exact ⟨ih.1, Gr.trans hs.2 ih.2⟩

/-- a list of which the part from i to before k is turned. -/
def revSeg {α : Type} (l : List α) (i n : Nat) : List α := splice l i ((l.drop i).take n).reverse
theorem revSeg_length {α : Type} {l : List α} {i n : Nat} (h : i + n ≤ l.length) : (revSeg l i n).length = l.length := by
  unfold revSeg
  apply splice_length
  simp only [List.length_reverse, List.length_take, List.length_drop]; omega

theorem Own.drop {w : World} {B g n cap : Nat} {l : List Int} (h : Own w B (.slice (some ⟨g, 0, none⟩) n cap) l) (_hn : n = l.length) (i : Nat) : ∀ j, j < (l.drop i).length → w.cell? ⟨g, i + j, none⟩ = some (.int .i64 ((l.drop i).getD j 0)) := by
  intro j hj
  rw [List.length_drop] at hj
  have := Ints.cells h.ints (i + j) (by omega)
  rw [Nat.zero_add] at this
  rw [this]
  congr 2
  simp [List.getD]

theorem own_grown {w w' : World} {B s : Nat} {e : TypeId} {size : Nat} {v : Value} {n : Nat} {xs : List Value} (h : w.ownsRow B e size v n xs) (hg : w.grownBy w' (some s)) (hs : s < B) : w'.ownsRow B e size v n xs :=
  h.kept hg (by
    cases hv : v.ownBlock with
    | none => exact .inl rfl
    | some k => exact .inr (by intro e; injection e with e; have := (h.lt k hv).1; omega))
theorem own_belowA {w w' : World} {B : Nat} {e : TypeId} {size : Nat} {v : Value} {n : Nat} {xs : List Value} (h : w.ownsRow B e size v n xs) (hb : Below w.heap.size w w') : w'.ownsRow B e size v n xs :=
  h.kept (Gr.of_below hb none) (by cases hv : v.ownBlock <;> simp)
theorem Own.grown {w w' : World} {B s : Nat} {v : Value} {l : List Int} (h : Own w B v l) (hg : w.grownBy w' (some s)) (hs : s < B) : Own w' B v l := own_grown h hg hs
theorem Own.below {w w' : World} {B : Nat} {v : Value} {l : List Int} (h : Own w B v l) (hb : Below w.heap.size w w') : Own w' B v l := own_belowA h hb
theorem Own.alloc {w : World} {B : Nat} {v : Value} {l : List Int} (h : Own w B v l) (o : Obj) : Own (w.alloc o) B v l := h.below ((Below.refl _ _).alloc (Nat.le_refl _) _)
def OwnP (w : World) (B : Nat) (v : Value) (l : List Pt) : Prop := w.ownsRow B 147 2 v l.length (pcs l)
theorem OwnP.pts {w : World} {B : Nat} {v : Value} {l : List Pt} (h : OwnP w B v l) : Pts w B v l := Rd.of_own h
theorem OwnP.nil (w : World) (B : Nat) : OwnP w B (.slice none 0 0) [] := World.ownsRow_nil w B _ 2
theorem OwnP.grown {w w' : World} {B s : Nat} {v : Value} {l : List Pt} (h : OwnP w B v l) (hg : w.grownBy w' (some s)) (hs : s < B) : OwnP w' B v l := own_grown h hg hs
theorem OwnP.below {w w' : World} {B : Nat} {v : Value} {l : List Pt} (h : OwnP w B v l) (hb : Below w.heap.size w w') : OwnP w' B v l := own_belowA h hb
theorem OwnP.alloc {w : World} {B : Nat} {v : Value} {l : List Pt} (h : OwnP w B v l) (o : Obj) : OwnP (w.alloc o) B v l := h.below ((Below.refl _ _).alloc (Nat.le_refl _) _)

theorem Gr.app {a w w' : World} {s B : Nat} {e : TypeId} {size : Nat} {v : Value} {n : Nat} {xs : List Value} (h : a.grownBy w (some s)) (ho : w.ownsRow B e size v n xs) (hg : w.grownBy w' v.ownBlock) (hB : a.heap.size ≤ B) : a.grownBy w' (some s) :=
  ⟨hg.os.trans h.os, hg.tape.trans h.tape, hg.output.trans h.output, Nat.le_trans h.size hg.size, fun i hi hn => (hg.block i (Nat.lt_of_lt_of_le hi h.size) (by
    intro e; have := (ho.lt i e.symm).1; omega)).trans (h.block i hi hn)⟩
theorem app_below {w w' : World} {B : Nat} {e : TypeId} {size : Nat} {v : Value} {n : Nat} {xs : List Value} (ho : w.ownsRow B e size v n xs) (hg : w.grownBy w' v.ownBlock) (hB : B ≤ w.heap.size) : Below B w w' :=
  ⟨hg.os, hg.tape, hg.output, hg.size, fun i hi => hg.block i (by omega) (by intro e; have := (ho.lt i e.symm).1; omega)⟩

theorem info_int : (Tryz.prog.info? 3).map (fun i => (i.zero, i.size, i.bytes)) = some (some (.int .i64 0), 1, 8) := by kernel_rfl
theorem info_pt : (Tryz.prog.info? 147).map (fun i => (i.zero, i.size, i.bytes)) = some (some (.agg #[.int .i64 0, .int .i64 0]), 2, 16) := by kernel_rfl

/-- append of one number to a slice of the call's own. -/
theorem wp_app_int {w : World} {ops : Array Oper} {rest : List Oper} {o : Oper} {a : Act} {Q : Exit → Act → World → Prop} (hgd : o.guard = none) (s x : Operand)
    (ho : o.op = .call { callee := .builtin .append, args := #[s, x], argTypes := #[22, 22] }) (B : Nat) (v : Value) (l : List Int) (hs : a.eval s = v) (hown : Own w B v l)
    (g c : Nat) (y : Int) (hx : a.eval x = .slice (some ⟨g, 0, none⟩) 1 c) (hc : w.cell? ⟨g, 0, none⟩ = some (.int .i64 y)) (hlen : l.length ≤ 1000000) (hB : B ≤ w.heap.size)
    (h : ∀ v' w', Own w' B v' (l ++ [y]) → w.grownBy w' v.ownBlock → Below B w w' → wpList Tryz.prog ops Q rest (a.put o.dst v') w') : wpList Tryz.prog ops Q (o :: rest) a w := by
  obtain ⟨i, hi, hz0, hz1, hz2⟩ := info_parts info_int
  refine wpList_append_own w hgd s x 22 ho B 3 i _ 1 8 Tryz.underlying22 hi hz0 hz1 hz2 rfl (by decide) v l.length (ics l) hs hown ⟨g, 0, none⟩ 1 c [.int .i64 y] hx rfl ?_ ?_ (by unfold maxLen; omega) (by omega) hB ?_
  · intro j u hj
    cases j with
    | zero => simp at hj; subst hj; simpa [Addr.add] using hc
    | succ j => simp at hj
  · intro u hu; simp at hu; subst hu; rfl
  · intro v' w' h1 h2 _
    refine h v' w' ?_ h2 (app_below hown h2 hB)
    unfold Own
    rw [List.length_append, show ics (l ++ [y]) = ics l ++ [.int .i64 y] by simp [ics]]
    exact h1

theorem own_base {w : World} {B B' : Nat} {v : Value} {l : List Int} (h : Own w B v l) (hB : B' ≤ B) : Own w B' v l := by
  refine ⟨h.1, ?_⟩
  rcases h.2 with hn | ⟨g, cap, cur, rfl, hb, rest⟩
  · exact .inl hn
  · exact .inr ⟨g, cap, cur, rfl, Nat.le_trans hB hb, rest⟩
end Go.Proofs.YtcfeoapbbkfbnaaGreatDoor
