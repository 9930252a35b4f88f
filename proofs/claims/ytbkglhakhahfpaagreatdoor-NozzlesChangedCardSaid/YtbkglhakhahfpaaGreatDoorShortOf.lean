/- The contract of ShortestOf's inner search: it does what dfs says. Condition: at most 9 points, coordinates within 2^41. · The contract of ShortestOf. Condition: at most 9 points, coordinates within 2^41. -/
import Derived.Test.YtbkglhakhahfpaaGreatDoorShort
import Derived.Deep.RegionHeld2
import Derived.Laws.EntriesVeiled
namespace Go.Proofs.YtbkglhakhahfpaaGreatDoor
open Go.RowKit Go.Sort

/-- what a search changes: two boxes, and nothing else of old. -/
structure Tw (gB gL : Nat) (w w' : World) : Prop where
  os : w'.os = w.os
  tape : w'.tape = w.tape
  output : w'.output = w.output
  size : w.heap.size ≤ w'.heap.size
  block : ∀ i, i < w.heap.size → i ≠ gB → i ≠ gL → w'.heap[i]? = w.heap[i]?
theorem Tw.of_below {gB gL : Nat} {w w' : World} (h : Below w.heap.size w w') : Tw gB gL w w' := ⟨h.os, h.tape, h.output, h.size, fun i hi _ _ => h.block i hi⟩
theorem Tw.trans {gB gL : Nat} {a b c : World} (h : Tw gB gL a b) (k : Tw gB gL b c) : Tw gB gL a c :=
  ⟨k.os.trans h.os, k.tape.trans h.tape, k.output.trans h.output, Nat.le_trans h.size k.size, fun i hi h1 h2 => (k.block i (Nat.lt_of_lt_of_le hi h.size) h1 h2).trans (h.block i hi h1 h2)⟩
theorem Tw.below {gB gL : Nat} {w0 w w' : World} (h : Below w0.heap.size w0 w) (k : Tw gB gL w w') (h1 : w0.heap.size ≤ gB) (h2 : w0.heap.size ≤ gL) : Below w0.heap.size w0 w' :=
  ⟨k.os.trans h.os, k.tape.trans h.tape, k.output.trans h.output, Nat.le_trans h.size k.size, fun i hi => (k.block i (Nat.lt_of_lt_of_le hi h.size) (by omega) (by omega)).trans (h.block i hi)⟩
theorem Tw.blk {gB gL g : Nat} {w w' : World} {o : Obj} (k : Tw gB gL w w') (h : w.heap[g]? = some o) (h1 : g ≠ gB) (h2 : g ≠ gL) : w'.heap[g]? = some o := (k.block g (blk_lt h) h1 h2).trans h
theorem Tw.refl (gB gL : Nat) (w : World) : Tw gB gL w w := ⟨rfl, rfl, rfl, Nat.le_refl _, fun _ _ _ _ => rfl⟩
theorem Tw.own {gB gL lo : Nat} {w w' : World} {v : Value} {l : List Int} (k : Tw gB gL w w') (h : Own w lo v l) (h1 : gB < lo) (h2 : gL < lo) : Own w' lo v l := by
  refine ⟨h.1, ?_⟩
  rcases h.2 with hn | ⟨g, cap, cur, hv, hb, hg, rest⟩
  · exact .inl hn
  · exact .inr ⟨g, cap, cur, hv, hb, k.blk hg (by omega) (by omega), rest⟩
/-- append of one number, as a step of a region that draws. -/
theorem step_app_int {ops : Array Oper} {o : Oper} {a : Act} {w : World} {K : Act → World → Prop} {Q : Exit → Act → World → Prop} {E : Prop}
    (hg : o.guard = none) (s x : Operand) (hop : o.op = Op.call { callee := Callee.builtin Builtin.append, args := #[s, x], argTypes := #[22, 22] })
    (B : Nat) (v : Value) (l : List Int) (hs : a.eval s = v) (hown : Own w B v l)
    (g c : Nat) (y : Int) (hx : a.eval x = .slice (some ⟨g, 0, none⟩) 1 c) (hc : w.cell? ⟨g, 0, none⟩ = some (.int .i64 y)) (hlen : l.length ≤ 1000000) (hB : B ≤ w.heap.size)
    (hK : ∀ v' w', Own w' B v' (l ++ [y]) → Below B w w' → K (a.put o.dst v') w') :
    if Region.wanted o (yielded ops a.tmps) = true then Oper.wp Tryz.prog o a w K Q else E := by
  have hw : Region.wanted o (yielded ops a.tmps) = true := by simp [Region.wanted, hg]
  rw [if_pos hw]
  obtain ⟨i, hi, hz0, hz1, hz2⟩ := info_parts info_int
  obtain ⟨v', w', hrun, r1, r2, _⟩ := run_append_own (P := Tryz.prog) w B 22 o.type 3 i _ 1 8 Tryz.underlying22 hi hz0 hz1 hz2 rfl (by decide) v l.length (ics l) hown ⟨g, 0, none⟩ 1 c [.int .i64 y] rfl (by
    intro j u hj
    cases j with
    | zero => simp at hj; subst hj; simpa [Addr.add] using hc
    | succ j => simp at hj) (by intro u hu; simp at hu; subst hu; rfl) (by unfold maxLen; omega) (by omega) hB
  unfold Oper.wp
  simp [execOp, hop, resolve, invoke, builtin, hs, hx, hrun, Result.andThen]
  refine hK v' w' ?_ (app_below hown r2 hB)
  unfold Own
  rw [List.length_append, show ics (l ++ [y]) = ics l ++ [.int .i64 y] by simp [ics]]
  exact r1

end Go.Proofs.YtbkglhakhahfpaaGreatDoor
namespace Go.Proofs.YtbkglhakhahfpaaGreatDoor
open Go.RowKit Go.Sort

theorem full_bit (n i : Nat) : (pw n - 1).testBit i = decide (i < n) := Nat.testBit_two_pow_sub_one n i
theorem dfs_all (st : Pt) (P : List Pt) (hst : Bd st) (hPb : ∀ p ∈ P, Bd p) (hn : P.length ≤ 9) : dfs st P P.length [] st 0 ([], -1) = (tlist st P P.length st (pw P.length - 1), V st P st (pw P.length - 1)) := by
  rw [dfs_eq st P hst hPb (by omega) P.length [] (pw P.length - 1) st 0 ([], -1) (by simp) List.nodup_nil (by simp) (fun i => by rw [full_bit]; simp) hst (Int.le_refl _)]
  rw [if_pos (.inl (by decide))]
  simp

end Go.Proofs.YtbkglhakhahfpaaGreatDoor
