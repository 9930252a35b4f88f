/- The contract of finder.tour: the order that the table gives. Condition: at most 10 points, coordinates within 2^41, a table that is right. -/
import Derived.Test.YtnmimagninhkkaaGreatDoorFind
namespace Go.Proofs.YtnmimagninhkkaaGreatDoor
open Go.RowKit Go.Sort

/-- at most f numbers are in a set. -/
def Few (f s : Nat) : Prop := ∀ l : List Nat, l.Nodup → (∀ i ∈ l, s.testBit i = true) → l.length ≤ f
theorem Few.start {n s : Nat} (h : Sub n s) : Few n s := by
  intro l hnd hl
  apply Classical.byContradiction
  intro hc
  cases l with
  | nil => simp at hc
  | cons x t =>
    have hx := h x (hl x List.mem_cons_self)
    have := pigeon_nodup t n (List.nodup_cons.1 hnd).2 (fun k hk => h k (hl k (List.mem_cons_of_mem _ hk))) (by simp at hc; omega) x hx
    exact (List.nodup_cons.1 hnd).1 this
theorem Few.zero {s : Nat} (h : Few 0 s) : s = 0 := by
  apply Classical.byContradiction
  intro h0
  obtain ⟨i, hi⟩ := Nat.exists_testBit_of_ne_zero h0
  have := h [i] (by simp) (by simpa using hi)
  simp at this
theorem Few.step {f s k : Nat} (h : Few (f + 1) s) (hs : s < 2 ^ 64) (hk : k < 64) (hb : s.testBit k = true) : Few f (clr s k) := by
  intro l hnd hl
  have h1 : ∀ i ∈ l, s.testBit i = true ∧ i ≠ k := by
    intro i hi
    have := hl i hi
    rw [clr_bit hs hk] at this
    simpa using this
  have := h (k :: l) (List.nodup_cons.2 ⟨fun hm => (h1 k hm).2 rfl, hnd⟩) (fun i hi => by
    rcases List.mem_cons.1 hi with rfl | hi
    · exact hb
    · exact (h1 i hi).1)
  simpa using this
theorem Own.far {w : World} {B ab o : Nat} {v u : Value} {l : List Int} (h : Own w B v l) (hne : ∀ k, v.ownBlock = some k → k ≠ ab) : Own (w.setCell ⟨ab, o, none⟩ u) B v l :=
  h.kept (Gr.set (Gr.refl w (some ab)) ab o (.inl rfl) u) (by
    cases hv : v.ownBlock with
    | none => exact .inl rfl
    | some k => exact .inr (by intro e; injection e with e; exact hne k hv e))
theorem Own.ne_pt {w : World} {B ab : Nat} {v : Value} {l : List Int} {cs : Array Value} (h : Own w B v l) (hb : w.heap[ab]? = some (.cells cs 139 (0, 0))) : ∀ k, v.ownBlock = some k → k ≠ ab := by
  intro k hk e
  subst e
  rcases h.2 with ⟨rfl, _⟩ | ⟨g, cap, cur, rfl, _, hg, _⟩
  · simp [Value.ownBlock] at hk
  · simp only [Value.ownBlock, Option.some.injEq] at hk
    subst hk
    rw [hg] at hb
    injection hb with hb
    injection hb with _ hb _
    exact absurd hb (by decide)
end Go.Proofs.YtnmimagninhkkaaGreatDoor
