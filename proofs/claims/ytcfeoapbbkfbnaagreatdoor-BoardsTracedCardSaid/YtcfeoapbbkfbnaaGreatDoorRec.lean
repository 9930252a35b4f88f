/- Slices of records: each of k cells; they read as lists; append to a slice of the call's own. No conditions. -/
import Derived.Test.YtcfeoapbbkfbnaaGreatDoorBase
import Derived.Deep.AppendLies
namespace Go.Proofs.YtcfeoapbbkfbnaaGreatDoor
open Go.RowKit Go.Sort

/-- a type of records: its number, its slices' number, cells and bytes of one, the zero value, how one lies in memory. -/
structure Rty (α : Type) where
  e : TypeId
  S : TypeId
  k : Nat
  b : Nat
  z : Value
  f : α → List Value
structure Rty.Ok {α : Type} (T : Rty α) : Prop where
  info : (Tryz.prog.info? T.e).map (fun i => (i.zero, i.size, i.bytes)) = some (some T.z, T.k, T.b)
  sl : Tryz.prog.underlying T.S = some (.slice T.e)
  zs : T.z.cells.size = T.k
  pos : 0 < T.k
  len : ∀ x, (T.f x).length = T.k
  one : ∀ x, ∀ u ∈ T.f x, u.oneCell' = true
  small : T.b ≤ 1000
theorem flat_len {α : Type} {f : α → List Value} {k : Nat} (h : ∀ x, (f x).length = k) (l : List α) : (l.flatMap f).length = l.length * k := by
  induction l with
  | nil => simp
  | cons x l ih => rw [List.flatMap_cons, List.length_append, h, ih, List.length_cons, Nat.succ_mul, Nat.add_comm]
theorem flat_at {α : Type} {f : α → List Value} {k : Nat} (h : ∀ x, (f x).length = k) : ∀ (l : List α) (i : Nat) (x : α), l[i]? = some x → ∀ j u, (f x)[j]? = some u → (l.flatMap f)[i * k + j]? = some u
  | [], i, x, hx, j, u, hu => by simp at hx
  | y :: l, 0, x, hx, j, u, hu => by
    simp at hx
    subst hx
    rw [List.flatMap_cons, Nat.zero_mul, Nat.zero_add, List.getElem?_append_left (List.getElem?_eq_some_iff.1 hu).1]
    exact hu
  | y :: l, i + 1, x, hx, j, u, hu => by
    have := flat_at h l i x (by simpa using hx) j u hu
    rw [List.flatMap_cons, List.getElem?_append_right (by rw [h, Nat.succ_mul]; omega), h, show (i + 1) * k + j - k = i * k + j by rw [Nat.succ_mul]; omega]
    exact this
/-- a slice reads as a list of records. -/
def RecR {α : Type} (T : Rty α) (w : World) (lo : Nat) (v : Value) (l : List α) : Prop := Rd w lo v l.length (l.flatMap T.f)
def OwnR {α : Type} (T : Rty α) (w : World) (B : Nat) (v : Value) (l : List α) : Prop := w.ownsRow B T.e T.k v l.length (l.flatMap T.f)
variable {α : Type} {T : Rty α}
theorem RecR.below {w w' : World} {lo : Nat} {v : Value} {l : List α} (h : RecR T w lo v l) (hb : Below w.heap.size w w') : RecR T w' lo v l := Rd.below h hb
theorem RecR.grown {w w' : World} {lo s : Nat} {v : Value} {l : List α} (h : RecR T w lo v l) (hb : w.grownBy w' (some s)) (hs : s < lo) : RecR T w' lo v l := Rd.grown h hb hs
theorem RecR.mono {w : World} {lo lo' : Nat} {v : Value} {l : List α} (h : RecR T w lo v l) (hl : lo' ≤ lo) : RecR T w lo' v l := Rd.mono h hl
theorem RecR.alloc {w : World} {lo : Nat} {v : Value} {l : List α} (h : RecR T w lo v l) (o : Obj) : RecR T (w.alloc o) lo v l := Rd.alloc h o
theorem RecR.nil (w : World) (lo : Nat) : RecR T w lo (.slice none 0 0) [] := Rd.nil w lo
theorem RecR.form {w : World} {lo : Nat} {v : Value} {l : List α} (h : RecR T w lo v l) : ∃ a cap, v = .slice a l.length cap ∧ l.length ≤ cap ∧ cap ≤ 9223372036854775807 := by
  obtain ⟨a', cap', hv, h1, h2, h3⟩ := h
  exact ⟨a', cap', hv, h1, h2⟩
theorem RecR.at {w : World} {lo : Nat} {a : Option Addr} {n cap : Nat} {l : List α} (h : RecR T w lo (.slice a n cap) l) (hT : ∀ x, (T.f x).length = T.k) {i : Nat} {x : α} (hi : l[i]? = some x) (h0 : 0 < T.k) :
    ∃ b o, a = some ⟨b, o, none⟩ ∧ lo ≤ b ∧ b < w.heap.size ∧ ∀ j u, (T.f x)[j]? = some u → w.cell? ⟨b, o + i * T.k + j, none⟩ = some u := by
  obtain ⟨a', cap', hv, h1, h2, h3⟩ := h
  obtain ⟨rfl, rfl, rfl⟩ := Value.slice.inj hv
  obtain ⟨u0, hu0⟩ : ∃ u, (T.f x)[0]? = some u := ⟨_, List.getElem?_eq_getElem (by rw [hT]; exact h0)⟩
  obtain ⟨b, o, ha, hl, hb, hc⟩ := h3 _ _ (flat_at hT l i x hi 0 u0 hu0)
  refine ⟨b, o, ha, hl, hb, fun j u hu => ?_⟩
  obtain ⟨b', o', ha', _, _, hc'⟩ := h3 _ _ (flat_at hT l i x hi j u hu)
  rw [ha] at ha'
  injection ha' with e
  injection e with e1 e2 e3
  subst e1 e2
  rw [Nat.add_assoc]
  exact hc'
theorem OwnR.rec {w : World} {B : Nat} {v : Value} {l : List α} (h : OwnR T w B v l) : RecR T w B v l := Rd.of_own h
theorem OwnR.rec0 {w : World} {B : Nat} {v : Value} {l : List α} (h : OwnR T w B v l) : RecR T w 0 v l := h.rec.mono (Nat.zero_le _)
theorem OwnR.nil (w : World) (B : Nat) : OwnR T w B (.slice none 0 0) [] := World.ownsRow_nil w B _ _
theorem OwnR.keep {w w' : World} {B : Nat} {v : Value} {l : List α} (h : OwnR T w B v l) (hk : ∀ k, B ≤ k → k < w.heap.size → w'.heap[k]? = w.heap[k]?) : OwnR T w' B v l := by
  refine ⟨h.1, h.2.imp id ?_⟩
  rintro ⟨b, cap, cur, hv, hb, hc, rest⟩
  exact ⟨b, cap, cur, hv, hb, (hk b hb (blk_lt hc)).trans hc, rest⟩
theorem OwnR.below {w w' : World} {B : Nat} {v : Value} {l : List α} (h : OwnR T w B v l) (hb : Below w.heap.size w w') : OwnR T w' B v l := h.keep fun k _ hk => hb.block k hk
theorem OwnR.grown {w w' : World} {B s : Nat} {v : Value} {l : List α} (h : OwnR T w B v l) (hg : w.grownBy w' (some s)) (hs : s < B) : OwnR T w' B v l := h.keep fun k h1 hk => hg.block k hk (by intro e; injection e; omega)
theorem OwnR.alloc {w : World} {B : Nat} {v : Value} {l : List α} (h : OwnR T w B v l) (o : Obj) : OwnR T (w.alloc o) B v l := h.below ((Below.refl _ _).alloc (Nat.le_refl _) _)
theorem OwnR.base {w : World} {B B' : Nat} {v : Value} {l : List α} (h : OwnR T w B v l) (hb : B' ≤ B) : OwnR T w B' v l := by
  refine ⟨h.1, h.2.imp id ?_⟩
  rintro ⟨b, cap, cur, hv, hB, rest⟩
  exact ⟨b, cap, cur, hv, Nat.le_trans hb hB, rest⟩
theorem OwnR.far {w : World} {B g : Nat} {v : Value} {l : List α} (h : OwnR T w B v l) (hg : g < B) (j : Nat) (u : Value) : OwnR T (w.setCell ⟨g, j, none⟩ u) B v l := by
  refine ⟨h.1, h.2.imp id ?_⟩
  rintro ⟨b, cap, cur, hv, hb, hc, rest⟩
  exact ⟨b, cap, cur, hv, hb, blk_far hc g j u (by omega), rest⟩
theorem OwnR.form {w : World} {B : Nat} {v : Value} {l : List α} (h : OwnR T w B v l) : ∃ a cap, v = .slice a l.length cap ∧ l.length ≤ cap ∧ cap ≤ 9223372036854775807 := h.rec.form
/-- a row that is not empty, whole. -/
theorem OwnR.blk {w : World} {B : Nat} {v : Value} {l : List α} (h : OwnR T w B v l) (h0 : l ≠ []) : ∃ g cap cur, v = .slice (some ⟨g, 0, none⟩) l.length cap ∧ B ≤ g ∧ w.heap[g]? = some (.cells cur T.e (0, 0)) ∧ l.length ≤ cap ∧ cap ≤ maxLen ∧ cur.size = cap * T.k ∧ cur.toList.take (l.length * T.k) = l.flatMap T.f := by
  rcases h.2 with ⟨_, hn⟩ | h
  · exact absurd (List.eq_nil_of_length_eq_zero hn) h0
  · exact h
/-- one record changed in place: a cell of it. -/
theorem OwnR.of_blk {w : World} {B g cap : Nat} {cur : Array Value} {l : List α} (hB : B ≤ g) (hb : w.heap[g]? = some (.cells cur T.e (0, 0))) (h1 : l.length ≤ cap) (h2 : cap ≤ maxLen) (h3 : cur.size = cap * T.k) (h4 : cur.toList.take (l.length * T.k) = l.flatMap T.f) (hl : (l.flatMap T.f).length = l.length * T.k) : OwnR T w B (.slice (some ⟨g, 0, none⟩) l.length cap) l :=
  ⟨hl, .inr ⟨g, cap, cur, rfl, hB, hb, h1, h2, h3, h4⟩⟩
theorem app_belowR {w w' : World} {B : Nat} {v : Value} {l : List α} (ho : OwnR T w B v l) (hg : w.grownBy w' v.ownBlock) (hB : B ≤ w.heap.size) : Below B w w' :=
  ⟨hg.os, hg.tape, hg.output, hg.size, fun i hi => hg.block i (by omega) (by intro e; have := (World.ownsRow.lt ho i e.symm).1; omega)⟩
/-- append of one record to a slice of the call's own. -/
theorem wp_app_rec (hT : T.Ok) {w : World} {ops : Array Oper} {rest : List Oper} {o : Oper} {a : Act} {Q : Exit → Act → World → Prop} (hgd : o.guard = none) (s x : Operand)
    (ho : o.op = .call { callee := .builtin .append, args := #[s, x], argTypes := #[T.S, T.S] }) (B : Nat) (v : Value) (l : List α) (hs : a.eval s = v) (hown : OwnR T w B v l)
    (g c : Nat) (y : α) (hx : a.eval x = .slice (some ⟨g, 0, none⟩) 1 c) {cs : Array Value} {t : TypeId} (hblk : w.heap[g]? = some (.cells cs t (0, 0))) (hcs : cs.toList = T.f y) (hlen : l.length ≤ 1000000) (hB : B ≤ w.heap.size)
    (h : ∀ v' w', OwnR T w' B v' (l ++ [y]) → w.grownBy w' v.ownBlock → Below B w w' → wpList Tryz.prog ops Q rest (a.put o.dst v') w') : wpList Tryz.prog ops Q (o :: rest) a w := by
  obtain ⟨i, hi, hz0, hz1, hz2⟩ := info_parts hT.info
  refine wpList_append_own w hgd s x T.S ho B T.e i _ T.k T.b hT.sl hi hz0 hz1 hz2 hT.zs hT.pos v l.length (l.flatMap T.f) hs hown ⟨g, 0, none⟩ 1 c (T.f y) hx (by rw [hT.len, Nat.one_mul]) ?_ (hT.one y) (by unfold maxLen; omega) (by have := Nat.mul_le_mul (show l.length + 1 ≤ 1000001 by omega) hT.small; omega) hB ?_
  · intro j u hj
    rw [← hcs] at hj
    have : w.cell? ⟨g, j, none⟩ = some u := by rw [blk_cell hblk]; simpa using hj
    by_cases h0 : j = 0
    · subst h0; simpa [Addr.add] using this
    · simpa [Addr.add, h0] using this
  · intro v' w' h1 h2 _
    refine h v' w' ?_ h2 (app_belowR hown h2 hB)
    unfold OwnR
    rw [List.length_append, List.flatMap_append, List.flatMap_singleton]
    exact h1
theorem Gr.appR {a w w' : World} {s B : Nat} {v : Value} {l : List α} (h : a.grownBy w (some s)) (ho : OwnR T w B v l) (hg : w.grownBy w' v.ownBlock) (hB : a.heap.size ≤ B) : a.grownBy w' (some s) :=
  ⟨hg.os.trans h.os, hg.tape.trans h.tape, hg.output.trans h.output, Nat.le_trans h.size hg.size, fun i hi hn => (hg.block i (Nat.lt_of_lt_of_le hi h.size) (by
    intro e; have := (World.ownsRow.lt ho i e.symm).1; omega)).trans (h.block i hi hn)⟩
/-- the same in a region that draws its order. -/
theorem step_app_rec (hT : T.Ok) {ops : Array Oper} {o : Oper} {a : Act} {w : World} {K : Act → World → Prop} {Q : Exit → Act → World → Prop} {E : Prop}
    (hg : o.guard = none) (s x : Operand) (hop : o.op = Op.call { callee := Callee.builtin Builtin.append, args := #[s, x], argTypes := #[T.S, T.S] })
    (B : Nat) (v : Value) (l : List α) (hs : a.eval s = v) (hown : OwnR T w B v l)
    (g c : Nat) (y : α) (hx : a.eval x = .slice (some ⟨g, 0, none⟩) 1 c) {cs : Array Value} {t : TypeId} (hblk : w.heap[g]? = some (.cells cs t (0, 0))) (hcs : cs.toList = T.f y) (hlen : l.length ≤ 1000000) (hB : B ≤ w.heap.size)
    (hK : ∀ v' w', OwnR T w' B v' (l ++ [y]) → w.grownBy w' v.ownBlock → Below B w w' → K (a.put o.dst v') w') :
    if Region.wanted o (yielded ops a.tmps) = true then Oper.wp Tryz.prog o a w K Q else E := by
  have hw : Region.wanted o (yielded ops a.tmps) = true := by simp [Region.wanted, hg]
  rw [if_pos hw]
  obtain ⟨i, hi, hz0, hz1, hz2⟩ := info_parts hT.info
  obtain ⟨v', w', hrun, r1, r2, _⟩ := run_append_own (P := Tryz.prog) w B T.S o.type T.e i _ T.k T.b hT.sl hi hz0 hz1 hz2 hT.zs hT.pos v l.length (l.flatMap T.f) hown ⟨g, 0, none⟩ 1 c (T.f y) (by rw [hT.len, Nat.one_mul]) (by
    intro j u hj
    rw [← hcs] at hj
    have : w.cell? ⟨g, j, none⟩ = some u := by rw [blk_cell hblk]; simpa using hj
    by_cases h0 : j = 0
    · subst h0; simpa [Addr.add] using this
    · simpa [Addr.add, h0] using this) (hT.one y) (by unfold maxLen; omega) (by have := Nat.mul_le_mul (show l.length + 1 ≤ 1000001 by omega) hT.small; omega) hB
  unfold Oper.wp
  simp [execOp, hop, resolve, invoke, builtin, hs, hx, hrun, Result.andThen]
  refine hK v' w' ?_ r2 (app_belowR hown r2 hB)
  unfold OwnR
  rw [List.length_append, List.flatMap_append, List.flatMap_singleton]
  exact r1
end Go.Proofs.YtcfeoapbbkfbnaaGreatDoor
