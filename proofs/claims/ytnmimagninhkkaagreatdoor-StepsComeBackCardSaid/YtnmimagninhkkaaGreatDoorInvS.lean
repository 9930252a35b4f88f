/- What stays in a region that draws its order, turns the stream and changes a record of a row of the call's own. No conditions. -/
import Derived.Test.YtnmimagninhkkaaGreatDoorInv
import Derived.Test.YtnmimagninhkkaaGreatDoorLGen
import Derived.Test.YtnmimagninhkkaaGreatDoorStep
namespace Go.Proofs.YtnmimagninhkkaaGreatDoor
open Go.RowKit Go.Sort

/-! what a slot holds -/
def VE (x : Value) : Value → World → Prop := fun v _ => v = x
def VI (lo hi : Int) : Value → World → Prop := fun v _ => ∃ x, v = .int .i64 x ∧ lo ≤ x ∧ x ≤ hi
def VS (n : Nat) : Value → World → Prop := fun v _ => ∃ s : ByteArray, v = .string s ∧ s.size ≤ n
def VB : Value → World → Prop := fun v _ => ∃ b : Bool, v = .bool b
def VLI (B1 : Nat) (lo hi : Int) (k : Nat) : Value → World → Prop := fun v w => ∃ l : List Int, (∃ b, v = .slice (some ⟨b, 0, none⟩) k k) ∧ l.length = k ∧ Ints w B1 v l ∧ ∀ x ∈ l, lo ≤ x ∧ x ≤ hi
def VLS (B1 n k : Nat) : Value → World → Prop := fun v w => ∃ l : List ByteArray, (∃ b, v = .slice (some ⟨b, 0, none⟩) k k) ∧ l.length = k ∧ RecR TS w B1 v l ∧ ∀ x ∈ l, x.size ≤ n
def VT : Value → World → Prop := fun _ _ => True
/-- what was made behind B1 stays. -/
def RR (B1 : Nat) (w w' : World) : Prop := w.heap.size ≤ w'.heap.size ∧ ∀ i, B1 ≤ i → i < w.heap.size → w'.heap[i]? = w.heap[i]?
theorem RR.refl (B1 : Nat) (w : World) : RR B1 w w := ⟨Nat.le_refl _, fun _ _ _ => rfl⟩
theorem RR.of_gr {B1 s : Nat} {w w' : World} (h : w.grownBy w' (some s)) (hs : s < B1) : RR B1 w w' := ⟨h.size, fun i h1 h2 => h.block i h2 (by intro e; injection e; omega)⟩
theorem RR.of_below {B1 : Nat} {w w' : World} (h : Below w.heap.size w w') : RR B1 w w' := ⟨h.size, fun i _ h2 => h.block i h2⟩
theorem VLI.stab {B1 k : Nat} {lo hi : Int} {v : Value} {w w' : World} (h : VLI B1 lo hi k v w) (hr : RR B1 w w') : VLI B1 lo hi k v w' := by
  obtain ⟨l, h1, h2, h3, h4⟩ := h
  exact ⟨l, h1, h2, Rd.keep h3 hr.2 hr.1, h4⟩
theorem VLS.stab {B1 k n : Nat} {v : Value} {w w' : World} (h : VLS B1 n k v w) (hr : RR B1 w w') : VLS B1 n k v w' := by
  obtain ⟨l, h1, h2, h3, h4⟩ := h
  exact ⟨l, h1, h2, Rd.keep h3 hr.2 hr.1, h4⟩
/-- the stream, what the call owns, what has turned. -/
structure RB (Own : World → Prop) (W0 : World) (s B1 : Nat) (c0 : Int) (u : Nat) (w : World) : Prop where
  str : Str w s (c0 - 10 * u)
  own : Own w
  size : B1 ≤ w.heap.size
  gr : W0.grownBy w (some s)
/-- what is owned stays when memory grows and the stream turns. -/
structure OwnK (Own : World → Prop) (s : Nat) : Prop where
  below : ∀ w w', Own w → Below w.heap.size w w' → Own w'
  gr : ∀ w w', Own w → w.grownBy w' (some s) → Own w'
section
variable {Own : World → Prop} {W0 : World} {s B1 : Nat} {c0 : Int}
theorem RB.mono {u u' : Nat} {w : World} (hu : u' ≤ u) (h : RB Own W0 s B1 c0 u w) : RB Own W0 s B1 c0 u' w := ⟨h.str.mono (by omega), h.own, h.size, h.gr⟩
theorem RB.below {u : Nat} {w w' : World} (hK : OwnK Own s) (h : RB Own W0 s B1 c0 (u + 1) w) (hb : Below w.heap.size w w') : RB Own W0 s B1 c0 u w' := by
  obtain ⟨h1, h2, h4, h5⟩ := h
  exact ⟨(h1.below hb).mono (by omega), hK.below _ _ h2 hb, Nat.le_trans h4 hb.size, Gr.trans h5 (Gr.of_below hb (some s))⟩
theorem RB.call {u : Nat} {w w' : World} {c : Int} (hK : OwnK Own s) (h : RB Own W0 s B1 c0 (u + 1) w) (hs : Str w' s c) (hc : c ≤ c0 - 10 * (u + 1 : Nat) + 10) (hg : w.grownBy w' (some s)) : RB Own W0 s B1 c0 u w' := by
  obtain ⟨h1, h2, h4, h5⟩ := h
  exact ⟨hs.mono (by omega), hK.gr _ _ h2 hg, Nat.le_trans h4 hg.size, Gr.trans h5 hg⟩
theorem RB.store {u : Nat} {w : World} {b o : Nat} {v : Value} (h : RB Own W0 s B1 c0 (u + 1) w) (hb : W0.heap.size ≤ b) (hs : s < W0.heap.size) (hO : Own (w.setCell ⟨b, o, none⟩ v)) : RB Own W0 s B1 c0 u (w.setCell ⟨b, o, none⟩ v) := by
  obtain ⟨h1, h2, h4, h5⟩ := h
  exact ⟨((h1.belowB (B := W0.heap.size) (Bl.set (Below.refl _ _) _ _ hb _) hs)).mono (by omega), hO, by simpa using h4, Gr.set h5 _ _ (.inr hb) _⟩
end
/-! operations -/
/-- how operands are read. -/
structure Ev (a : Act) (D : List Nat) (f : Nat → Value) (r : Operand → Value) : Prop where
  tmp : ∀ j, r (.tmp j) = if D.contains j = true ∧ j < a.tmps.size then f j else a.tmps.getD j undef
  const : ∀ v, r (.const v) = v
  func : ∀ n, r (.func n) = .func (.func n) #[] #[]
theorem Ev.mk' {a : Act} {D : List Nat} {f : Nat → Value} : Ev a D f (putsA a D f).eval := ⟨putsA_eval, fun _ => rfl, fun _ => rfl⟩
section
variable {ops : Array Oper} {Q : Exit → Act → World → Prop} {a : Act} {D : List Nat} {f : Nat → Value} {i : Nat} {o : Oper} {w : World} {Bu Rl : World → Prop} {Vi : Value → World → Prop}
theorem iv_val (ho : ops[i]? = some o) (hg : o.guard = none) (v : Value) (w' : World) (hrun : ∀ r, Ev a D f r → (execOp r o).run Tryz.prog w = .ok (.value v) w') (hB : Bu w') (hR : Rl w') (hV : Vi v w') :
    wpOp Tryz.prog ops Q i (fun a' w' => ∃ v, a' = (putsA a D f).put o.dst v ∧ Bu w' ∧ Rl w' ∧ Vi v w') (putsA a D f) w := by
  unfold wpOp
  rw [ho]
  have hw : Region.wanted o (yielded ops (putsA a D f).tmps) = true := by simp [Region.wanted, hg]
  simp only [hw, if_true]
  refine .inl ?_
  unfold Oper.wp
  rw [hrun _ Ev.mk']
  exact ⟨v, rfl, hB, hR, hV⟩
theorem iv_skip (ho : ops[i]? = some o) (hg : o.guard = none) (hd : o.dst = none) (w' : World) (hrun : ∀ r, Ev a D f r → (execOp r o).run Tryz.prog w = .ok .skip w') (hB : Bu w') (hR : Rl w') (hV : Vi undef w') :
    wpOp Tryz.prog ops Q i (fun a' w' => ∃ v, a' = (putsA a D f).put o.dst v ∧ Bu w' ∧ Rl w' ∧ Vi v w') (putsA a D f) w := by
  unfold wpOp
  rw [ho]
  have hw : Region.wanted o (yielded ops (putsA a D f).tmps) = true := by simp [Region.wanted, hg]
  simp only [hw, if_true]
  refine .inl ?_
  unfold Oper.wp
  rw [hrun _ Ev.mk']
  refine ⟨undef, ?_, hB, hR, hV⟩
  rw [hd]
theorem iv_call (ho : ops[i]? = some o) (hg : o.guard = none) (fn : Nat) (xs : Array Operand) (ts : Array TypeId) (hop : o.op = Op.call { callee := Callee.value (Operand.func fn), args := xs, argTypes := ts }) (hent : ∀ args w, (callFunc fn args).run Tryz.prog w = .ok (.enter fn args) w)
    (vs : Array Value) (hx : ∀ r, Ev a D f r → xs.map r = vs) (R : Ending → World → Prop) (hc : Calls Tryz.prog fn vs w R) (hR : ∀ e w', R e w' → ∃ v, e = .returned v ∧ Bu w' ∧ Rl w' ∧ Vi v w') :
    wpOp Tryz.prog ops Q i (fun a' w' => ∃ v, a' = (putsA a D f).put o.dst v ∧ Bu w' ∧ Rl w' ∧ Vi v w') (putsA a D f) w := by
  unfold wpOp
  rw [ho]
  have hw : Region.wanted o (yielded ops (putsA a D f).tmps) = true := by simp [Region.wanted, hg]
  simp only [hw, if_true]
  refine .inl ?_
  have hrun : (execOp (putsA a D f).eval o).run Tryz.prog w = .ok (.enter fn vs) w := by
    rw [← hx _ Ev.mk']
    simp [execOp, hop, resolve, invoke, go_sem, hent]
  unfold Oper.wp
  rw [hrun, Oper.upon_enter]
  refine hc.mono fun e w' h => ?_
  obtain ⟨v, rfl, hk⟩ := hR e w' h
  exact ⟨v, rfl, hk⟩
end
/-! one field of one record of a row of the call's own -/
theorem flat_set {α : Type} {f : α → List Value} {k : Nat} (h : ∀ x, (f x).length = k) : ∀ (l : List α) (i : Nat) (x x' : α) (fo : Nat) (v : Value), l[i]? = some x → fo < k → f x' = (f x).set fo v → (l.set i x').flatMap f = (l.flatMap f).set (i * k + fo) v
  | [], i, x, x', fo, v, hx, _, _ => by simp at hx
  | y :: l, 0, x, x', fo, v, hx, hfo, hs => by
    simp at hx
    subst hx
    rw [List.set_cons_zero, List.flatMap_cons, List.flatMap_cons, Nat.zero_mul, Nat.zero_add, List.set_append_left _ _ (by rw [h]; exact hfo), hs]
  | y :: l, i + 1, x, x', fo, v, hx, hfo, hs => by
    have ih := flat_set h l i x x' fo v (by simpa using hx) hfo hs
    rw [List.set_cons_succ, List.flatMap_cons, List.flatMap_cons, List.set_append_right _ _ (by rw [h, Nat.succ_mul]; omega), ih, h]
    congr 2
    rw [Nat.succ_mul]; omega
theorem OwnR.setf {α : Type} {T : Rty α} {w : World} {B g n cap i fo : Nat} {l : List α} {x x' : α} {v : Value} (hT : T.Ok) (h : OwnR T w B (.slice (some ⟨g, 0, none⟩) n cap) l) (hn : n = l.length) (hi : l[i]? = some x) (hfo : fo < T.k) (hs : T.f x' = (T.f x).set fo v) : OwnR T (w.setCell ⟨g, i * T.k + fo, none⟩ v) B (.slice (some ⟨g, 0, none⟩) n cap) (l.set i x') := by
  have hne : l ≠ [] := fun e => by rw [e] at hi; simp at hi
  obtain ⟨g', cap', cur, hv, hB, hb, h1, h2, h3, h4⟩ := h.blk hne
  injection hv with e1 e2 e3
  injection e1 with e1
  injection e1 with e1
  subst e1 e3
  have hil : i < l.length := (List.getElem?_eq_some_iff.1 hi).1
  have hlt : i * T.k + fo < l.length * T.k := by
    have : (i + 1) * T.k ≤ l.length * T.k := Nat.mul_le_mul_right _ hil
    rw [Nat.succ_mul] at this; omega
  refine ⟨by rw [flat_len hT.len, List.length_set], .inr ⟨g, cap, cur.setIfInBounds (i * T.k + fo) v, by rw [hn, List.length_set], hB, blk_set hb _ _, by rw [List.length_set]; exact h1, h2, by simp [h3], ?_⟩⟩
  rw [List.length_set, flat_set hT.len l i x x' fo v hi hfo hs, ← h4, Array.toList_setIfInBounds, List.take_set]
theorem OwnR.cellf {α : Type} {T : Rty α} {w : World} {B g n cap i fo : Nat} {l : List α} {x : α} {v : Value} (hT : T.Ok) (h : OwnR T w B (.slice (some ⟨g, 0, none⟩) n cap) l) (hn : n = l.length) (hi : l[i]? = some x) (hfo : (T.f x)[fo]? = some v) : w.cell? ⟨g, i * T.k + fo, none⟩ = some v ∧ w.frozen? ⟨g, i * T.k + fo, none⟩ = false := by
  have hne : l ≠ [] := fun e => by rw [e] at hi; simp at hi
  obtain ⟨g', cap', cur, hv, hB, hb, h1, h2, h3, h4⟩ := h.blk hne
  injection hv with e1 e2 e3
  injection e1 with e1
  injection e1 with e1
  subst e1
  refine ⟨?_, blk_free hb _⟩
  rw [blk_cell hb]
  have h5 := flat_at hT.len l i x hi fo v hfo
  rw [← h4, List.getElem?_take] at h5
  split at h5
  · simpa using h5
  · cases h5
theorem own_off {α : Type} {T : Rty α} {w w' : World} {B X : Nat} {v : Value} {l : List α} (h : OwnR T w B v l) (hk : ∀ k, ¬ k = X → w'.heap[k]? = w.heap[k]?) (hne : ∀ g, v.ownBlock = some g → g ≠ X) : OwnR T w' B v l := by
  refine ⟨h.1, h.2.imp id ?_⟩
  rintro ⟨b, cap, cur, hv, hB, hc, rest⟩
  refine ⟨b, cap, cur, hv, hB, (hk b (hne b ?_)).trans hc, rest⟩
  rw [hv]; rfl
end Go.Proofs.YtnmimagninhkkaaGreatDoor
