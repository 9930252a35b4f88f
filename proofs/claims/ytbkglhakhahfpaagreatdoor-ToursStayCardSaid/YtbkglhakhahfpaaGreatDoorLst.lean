/- Contracts: cmp.Or of ints, cost.less, slices.Compare, CompareFunc, EqualFunc, Clone of lists of lists, OnesCount of small numbers, SpanFault. Conditions: lists of at most a million. · Rows of slices of ints that a call owns; Clone of one; append of one; a store into one. The contract of cycle. Conditions: at most a million elements; at most 9 points. -/
import Derived.Test.YtbkglhakhahfpaaGreatDoorCyc
import Derived.Test.YtbkglhakhahfpaaGreatDoorCmq
import Derived.Test.YtbkglhakhahfpaaGreatDoorSpan
namespace Go.Proofs.YtbkglhakhahfpaaGreatDoor
open Go.RowKit Go.Sort

/-! lists of lists of ints -/
def Lists (w : World) (lo : Nat) (v : Value) (ls : List (List Int)) : Prop := ∃ vs : List Value, vs.length = ls.length ∧ Rd w lo v ls.length vs ∧ ∀ (j : Nat) (x : Value) (l : List Int), vs[j]? = some x → ls[j]? = some l → Ints w lo x l
theorem Lists.keep {w w' : World} {lo : Nat} {v : Value} {ls : List (List Int)} (h : Lists w lo v ls) (hk : ∀ k, lo ≤ k → k < w.heap.size → w'.heap[k]? = w.heap[k]?) (hs : w.heap.size ≤ w'.heap.size) : Lists w' lo v ls := by
  obtain ⟨vs, h1, h2, h3⟩ := h
  exact ⟨vs, h1, h2.keep hk hs, fun j x l hx hl => Rd.keep (h3 j x l hx hl) hk hs⟩
theorem Lists.below {w w' : World} {lo : Nat} {v : Value} {ls : List (List Int)} (h : Lists w lo v ls) (hb : Below w.heap.size w w') : Lists w' lo v ls := h.keep (fun k _ hk => hb.block k hk) hb.size
theorem Lists.mono {w : World} {lo lo' : Nat} {v : Value} {ls : List (List Int)} (h : Lists w lo v ls) (hl : lo' ≤ lo) : Lists w lo' v ls := by
  obtain ⟨vs, h1, h2, h3⟩ := h
  exact ⟨vs, h1, h2.mono hl, fun j x l hx hll => (h3 j x l hx hll).mono hl⟩
theorem Lists.alloc {w : World} {lo : Nat} {v : Value} {ls : List (List Int)} (h : Lists w lo v ls) (o : Obj) : Lists (w.alloc o) lo v ls := h.below ((Below.refl _ _).alloc (Nat.le_refl _) _)
theorem Lists.form {w : World} {lo : Nat} {v : Value} {ls : List (List Int)} (h : Lists w lo v ls) : ∃ a cap, v = .slice a ls.length cap ∧ ls.length ≤ cap ∧ cap ≤ 9223372036854775807 := by
  obtain ⟨vs, h1, ⟨a, cap, hv, h2, h3, _⟩, _⟩ := h
  exact ⟨a, cap, hv, h2, h3⟩
theorem Lists.at {w : World} {lo : Nat} {a : Option Addr} {n cap : Nat} {ls : List (List Int)} (h : Lists w lo (.slice a n cap) ls) {k : Nat} {l : List Int} (hk : ls[k]? = some l) :
    ∃ b o x c, a = some ⟨b, o, none⟩ ∧ lo ≤ b ∧ b < w.heap.size ∧ w.cell? ⟨b, o + k, none⟩ = some (.slice x l.length c) ∧ Ints w lo (.slice x l.length c) l := by
  obtain ⟨vs, h1, ⟨a', cap', hv, h2, h3, h4⟩, h5⟩ := h
  obtain ⟨rfl, rfl, rfl⟩ := Value.slice.inj hv
  obtain ⟨x, hx⟩ : ∃ x, vs[k]? = some x := ⟨_, List.getElem?_eq_getElem (by have := (List.getElem?_eq_some_iff.1 hk).1; omega)⟩
  have h6 := h5 k x l hx hk
  obtain ⟨a2, c2, rfl, _, _⟩ := Ints.form h6
  obtain ⟨b, o, ha, hl, hb, hc⟩ := h4 k _ hx
  exact ⟨b, o, a2, c2, ha, hl, hb, hc, h6⟩
theorem Lists.nil (w : World) (lo : Nat) : Lists w lo (.slice none 0 0) [] := ⟨[], rfl, Rd.nil _ _, fun j x l h => by simp at h⟩

theorem cmpLL_step {l m : List (List Int)} {k : Nat} {x y : List Int} (hx : l[k]? = some x) (hy : m[k]? = some y) : cmpLL (l.drop k) (m.drop k) = if cmpL x y = 0 then cmpLL (l.drop (k + 1)) (m.drop (k + 1)) else cmpL x y := by
  obtain ⟨h1, e1⟩ := List.getElem?_eq_some_iff.1 hx
  obtain ⟨h2, e2⟩ := List.getElem?_eq_some_iff.1 hy
  rw [List.drop_eq_getElem_cons h1, List.drop_eq_getElem_cons h2, e1, e2]
  rfl
end Go.Proofs.YtbkglhakhahfpaaGreatDoor
namespace Go.Proofs.YtbkglhakhahfpaaGreatDoor
open Go.RowKit Go.Sort

/-- a row of slices of ints that the call owns: its cells. -/
def OwnV (w : World) (B : Nat) (v : Value) (vs : List Value) : Prop := w.ownsRow B 22 1 v vs.length vs
theorem OwnV.nil (w : World) (B : Nat) : OwnV w B (.slice none 0 0) [] := World.ownsRow_nil w B _ 1
theorem OwnV.rd {w : World} {B : Nat} {v : Value} {vs : List Value} (h : OwnV w B v vs) : Rd w B v vs.length vs := Rd.of_own h
theorem OwnV.below {w w' : World} {B : Nat} {v : Value} {vs : List Value} (h : OwnV w B v vs) (hb : Below w.heap.size w w') : OwnV w' B v vs := own_belowA h hb
theorem OwnV.alloc {w : World} {B : Nat} {v : Value} {vs : List Value} (h : OwnV w B v vs) (o : Obj) : OwnV (w.alloc o) B v vs := h.below ((Below.refl _ _).alloc (Nat.le_refl _) _)
theorem OwnV.set {w : World} {B g n cap : Nat} {vs : List Value} (h : OwnV w B (.slice (some ⟨g, 0, none⟩) n cap) vs) (hn : n = vs.length) (j : Nat) (x : Value) : OwnV (w.setCell ⟨g, j, none⟩ x) B (.slice (some ⟨g, 0, none⟩) n cap) (vs.set j x) := by
  subst hn
  have hs := (World.ownsRow.stored h j x).1
  unfold OwnV
  rw [List.length_set]; exact hs
theorem OwnV.nonnil {w : World} {B : Nat} {v : Value} {vs : List Value} (h : OwnV w B v vs) (h0 : vs ≠ []) : ∃ g cap, v = .slice (some ⟨g, 0, none⟩) vs.length cap ∧ B ≤ g ∧ g < w.heap.size ∧ vs.length ≤ cap := by
  rcases h.2 with ⟨_, h1⟩ | ⟨g, cap, cur, rfl, hb, hg, h1, h2, h3, h4⟩
  · exact absurd (List.eq_nil_of_length_eq_zero h1) h0
  · exact ⟨g, cap, rfl, hb, blk_lt hg, h1⟩
theorem OwnV.free {w : World} {B g n cap : Nat} {vs : List Value} (h : OwnV w B (.slice (some ⟨g, 0, none⟩) n cap) vs) (hn : n = vs.length) (j : Nat) : w.frozen? ⟨g, j, none⟩ = false := by
  subst hn
  exact World.ownsRow.frozenAt h j
theorem OwnV.base {w : World} {B B' : Nat} {v : Value} {vs : List Value} (h : OwnV w B v vs) (hb : B' ≤ B) : OwnV w B' v vs := by
  refine ⟨h.1, ?_⟩
  rcases h.2 with hn | ⟨g, cap, cur, hv, hb2, hg, rest⟩
  · exact .inl hn
  · exact .inr ⟨g, cap, cur, hv, by omega, hg, rest⟩
theorem OwnV.lists {w : World} {B lo : Nat} {v : Value} {vs : List Value} {ls : List (List Int)} (h : OwnV w B v vs) (hl : vs.length = ls.length) (hlo : lo ≤ B) (hv : ∀ (j : Nat) (x : Value) (l : List Int), vs[j]? = some x → ls[j]? = some l → Ints w lo x l) : Lists w lo v ls :=
  ⟨vs, hl, hl ▸ (h.rd.mono hlo), hv⟩

theorem info_ii : (Tryz.prog.info? 22).map (fun i => (i.zero, i.size, i.bytes)) = some (some (.slice none 0 0), 1, 24) := by kernel_rfl
theorem wp_app_row {w : World} {ops : Array Oper} {rest : List Oper} {o : Oper} {a : Act} {Q : Exit → Act → World → Prop} (hgd : o.guard = none) (s x : Operand)
    (ho : o.op = .call { callee := .builtin .append, args := #[s, x], argTypes := #[90, 90] }) (B : Nat) (v : Value) (vs : List Value) (hs : a.eval s = v) (hown : OwnV w B v vs)
    (g c : Nat) (y : Value) (hx : a.eval x = .slice (some ⟨g, 0, none⟩) 1 c) (hc : w.cell? ⟨g, 0, none⟩ = some y) (hy : y.oneCell' = true) (hlen : vs.length ≤ 1000000) (hB : B ≤ w.heap.size)
    (h : ∀ v' w', OwnV w' B v' (vs ++ [y]) → w.grownBy w' v.ownBlock → Below B w w' → wpList Tryz.prog ops Q rest (a.put o.dst v') w') : wpList Tryz.prog ops Q (o :: rest) a w := by
  obtain ⟨i, hi, hz0, hz1, hz2⟩ := info_parts info_ii
  refine wpList_append_own w hgd s x 90 ho B 22 i _ 1 24 Tryz.underlying90 hi hz0 hz1 hz2 rfl (by decide) v vs.length vs hs hown ⟨g, 0, none⟩ 1 c [y] hx rfl ?_ ?_ (by unfold maxLen; omega) (by omega) hB ?_
  · intro j u hj
    cases j with
    | zero => simp at hj; subst hj; simpa [Addr.add] using hc
    | succ j => simp at hj
  · intro u hu; simp at hu; subst hu; exact hy
  · intro v' w' h1 h2 _
    refine h v' w' ?_ h2 (app_below hown h2 hB)
    unfold OwnV
    rw [List.length_append]
    exact h1
theorem step_app_row {ops : Array Oper} {o : Oper} {a : Act} {w : World} {K : Act → World → Prop} {Q : Exit → Act → World → Prop} {E : Prop}
    (hg : o.guard = none) (s x : Operand) (hop : o.op = Op.call { callee := Callee.builtin Builtin.append, args := #[s, x], argTypes := #[90, 90] })
    (B : Nat) (v : Value) (vs : List Value) (hs : a.eval s = v) (hown : OwnV w B v vs)
    (g c : Nat) (y : Value) (hx : a.eval x = .slice (some ⟨g, 0, none⟩) 1 c) (hc : w.cell? ⟨g, 0, none⟩ = some y) (hy : y.oneCell' = true) (hlen : vs.length ≤ 1000000) (hB : B ≤ w.heap.size)
    (hK : ∀ v' w', OwnV w' B v' (vs ++ [y]) → w.grownBy w' v.ownBlock → Below B w w' → K (a.put o.dst v') w') :
    if Region.wanted o (yielded ops a.tmps) = true then Oper.wp Tryz.prog o a w K Q else E := by
  have hw : Region.wanted o (yielded ops a.tmps) = true := by simp [Region.wanted, hg]
  rw [if_pos hw]
  obtain ⟨i, hi, hz0, hz1, hz2⟩ := info_parts info_ii
  obtain ⟨v', w', hrun, r1, r2, _⟩ := run_append_own (P := Tryz.prog) w B 90 o.type 22 i _ 1 24 Tryz.underlying90 hi hz0 hz1 hz2 rfl (by decide) v vs.length vs hown ⟨g, 0, none⟩ 1 c [y] rfl (by
    intro j u hj
    cases j with
    | zero => simp at hj; subst hj; simpa [Addr.add] using hc
    | succ j => simp at hj) (by intro u hu; simp at hu; subst hu; exact hy) (by unfold maxLen; omega) (by omega) hB
  unfold Oper.wp
  simp [execOp, hop, resolve, invoke, builtin, hs, hx, hrun, Result.andThen]
  refine hK v' w' ?_ r2 (app_below hown r2 hB)
  unfold OwnV
  rw [List.length_append]
  exact r1

theorem tlist_le (st : Pt) (P : List Pt) : ∀ (f : Nat) (a : Pt) (s : Nat), (tlist st P f a s).length ≤ f
  | 0, _, _ => Nat.le_refl _
  | f + 1, a, s => by
    simp only [tlist]
    split
    · simp
    · rw [List.length_cons]; have := tlist_le st P f (pt P (nextW st P a s).1.toNat) (clr s (nextW st P a s).1.toNat); omega
theorem tl_lt {st : Pt} {Q : List Pt} (hn : Q.length ≤ 16) : ∀ j ∈ tlist st Q Q.length st (pw Q.length - 1), j < Q.length := by
  intro j hj
  rw [tlist_mem hn j Q.length _ st (Few.start (sub_full _)) (sub_full _), full_bit] at hj
  simpa using hj
end Go.Proofs.YtbkglhakhahfpaaGreatDoor
