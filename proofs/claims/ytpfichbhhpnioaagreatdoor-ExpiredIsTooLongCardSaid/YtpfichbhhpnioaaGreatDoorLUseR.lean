/- The contract of UsableIn. Conditions: a level from 1 to 6, at most 500 stays in order, a window of moments. -/
import Derived.Test.YtpfichbhhpnioaaGreatDoorLUse
import Derived.Maps.AppendAt
namespace Go.Proofs.YtpfichbhhpnioaaGreatDoor
open Go.RowKit Go.Sort

theorem Ub.belowB {w w' : World} {P W B : Nat} {key : ByteArray} {lv bk lo hi : Int} (h : Ub w P W key lv bk lo hi) (hb : Below B w w') (h1 : P < B) (h2 : W < B) : Ub w' P W key lv bk lo hi :=
  ⟨(hb.cell (p := ⟨P, 0, none⟩) h1).trans h.p0, (hb.cell (p := ⟨P, 1, none⟩) h1).trans h.p1, (hb.cell (p := ⟨P, 2, none⟩) h1).trans h.p2, (hb.cell (p := ⟨P, 3, none⟩) h1).trans h.p3, (hb.cell (p := ⟨W, 0, none⟩) h2).trans h.q0, (hb.cell (p := ⟨W, 1, none⟩) h2).trans h.q1, Nat.lt_of_lt_of_le h.lP hb.size, Nat.lt_of_lt_of_le h.lW hb.size⟩
/-- append of one number, with where it lies. -/
theorem wp_app_int_at {w : World} {ops : Array Oper} {rest : List Oper} {o : Oper} {a : Act} {Q : Exit → Act → World → Prop} (hgd : o.guard = none) (s x : Operand)
    (ho : o.op = .call { callee := .builtin .append, args := #[s, x], argTypes := #[22, 22] }) (B : Nat) (v : Value) (l : List Int) (hs : a.eval s = v) (hown : Own w B v l)
    (g c : Nat) (y : Int) (hx : a.eval x = .slice (some ⟨g, 0, none⟩) 1 c) (hc : w.cell? ⟨g, 0, none⟩ = some (.int .i64 y)) (hlen : l.length ≤ 1000000) (hB : B ≤ w.heap.size)
    (h : ∀ v' w', Own w' B v' (l ++ [y]) → w.grownBy w' v.ownBlock → Below B w w' → (v'.ownBlock = v.ownBlock ∨ v'.ownBlock = some w.heap.size) → wpList Tryz.prog ops Q rest (a.put o.dst v') w') : wpList Tryz.prog ops Q (o :: rest) a w := by
  obtain ⟨i, hi, hz0, hz1, hz2⟩ := info_parts info_int
  refine wpList_append_own_at w hgd s x 22 ho B 3 i _ 1 8 Tryz.underlying22 hi hz0 hz1 hz2 rfl (by decide) v l.length (ics l) hs hown ⟨g, 0, none⟩ 1 c [.int .i64 y] hx rfl ?_ ?_ (by unfold maxLen; omega) (by omega) hB ?_
  · intro j u hj
    cases j with
    | zero => simp at hj; subst hj; simpa [Addr.add] using hc
    | succ j => simp at hj
  · intro u hu; simp at hu; subst hu; rfl
  · intro v' w' h1 h2 _ h4
    refine h v' w' ?_ h2 (app_below hown h2 hB) h4
    unfold Own
    rw [List.length_append, show ics (l ++ [y]) = ics l ++ [.int .i64 y] by simp [ics]]
    exact h1
theorem all_le (l : List Int) (X : Int → Int) (L : Int) : (!l.any fun t => decide (L < X t)) = l.all fun t => decide (X t ≤ L) := by
  induction l with
  | nil => rfl
  | cons x l ih =>
    rw [List.any_cons, List.all_cons, Bool.not_or, ih]
    congr 1
    rw [Bool.eq_iff_iff]
    simp
theorem own_two {w : World} {g B : Nat} {x y : Int} (h : w.heap[g]? = some (.cells #[.int .i64 x, .int .i64 y] 3 (0, 0))) (hB : B ≤ g) : Own w B (.slice (some ⟨g, 0, none⟩) 2 2) [x, y] :=
  ⟨rfl, .inr ⟨g, 2, _, rfl, hB, h, Nat.le_refl _, by unfold maxLen; omega, rfl, rfl⟩⟩
theorem tsOf_len (l : List Sty) : (tsOf l).length = 2 * l.length := by
  unfold tsOf
  induction l with
  | nil => rfl
  | cons x l ih => rw [List.flatMap_cons, List.length_append, ih]; simp; omega
end Go.Proofs.YtpfichbhhpnioaaGreatDoor
