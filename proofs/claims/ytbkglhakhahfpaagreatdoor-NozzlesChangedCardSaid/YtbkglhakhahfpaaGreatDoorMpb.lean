/- Maps from ints to bools that are only stored into. No conditions but 64 bits. -/
import Derived.Test.YtbkglhakhahfpaaGreatDoorSt3
namespace Go.Proofs.YtbkglhakhahfpaaGreatDoor
open Go.RowKit Go.Sort Go.Maps

/-- a map that has each key of a list. -/
def MapB (w : World) (g : Nat) (ks : List Int) : Prop :=
  ∃ D : DataW Unit, w.ownsMap Tryz.prog 3 (plainElem Tryz.prog 4) g (Maps.size D) D ∧ Maps.size D = dcount ks ∧ (∀ k, Rg k → Maps.has D (.int .i64 k) = decide (k ∈ ks))
theorem MapB.made (w : World) : MapB (w.alloc (.map #[] 0)) w.heap.size [] := ⟨.map [], World.ownsMap_made w _ _ _, rfl, fun _ _ => rfl⟩
theorem MapB.kept {w w' : World} {g : Nat} {ks : List Int} (h : MapB w g ks) {row : Option Nat} (hg : w.grownBy w' row) (hne : some g ≠ row) : MapB w' g ks := by
  obtain ⟨D, h1, h2⟩ := h
  exact ⟨D, h1.kept hg hne, h2⟩
theorem MapB.lt {w : World} {g : Nat} {ks : List Int} (h : MapB w g ks) : g < w.heap.size := by
  obtain ⟨D, h1, _⟩ := h
  exact h1.lt
theorem MapB.len {w : World} {g : Nat} {ks : List Int} (h : MapB w g ks) (ty : TypeId) : (Builtin.len_ #[205] ty #[.map (some g)]).run Tryz.prog w = .ok (.int .i64 (dcount ks)) w := by
  obtain ⟨D, h1, h2, _⟩ := h
  rw [← h2]
  exact h1.len Tryz.underlying205 ty
set_option maxRecDepth 100000 in
theorem MapB.put {w : World} {g : Nat} {ks : List Int} (h : MapB w g ks) {k : Int} (v : Bool) (hk : Rg k) (hsm : dcount ks < 1000000) :
    ∃ w', (Instr.mapUpdate 205 (.map (some g)) (.int .i64 k) (.bool v)).run Tryz.prog w = .ok () w' ∧ MapB w' g (k :: ks) ∧ w.grownBy w' (some g) := by
  obtain ⟨D, h1, h2, h3⟩ := h
  obtain ⟨w', hrun, ho, hg⟩ := h1.update intK Tryz.underlying205 (by unfold maxLen; omega) (keyOf_int_mk Tryz.underlying3 hk.wf) (plainElem_bool Tryz.underlying4 v)
  refine ⟨w', hrun, ⟨_, own_tight ho, ?_, fun x hx => ?_⟩, hg⟩
  · rw [size_put (h1.tidy intK), h3 k hk, h2]
    simp only [dcount, decide_eq_true_eq]
  · by_cases hxk : x = k
    · subst hxk
      rw [has_put_same (h1.isMap) (keyLit x)]
      simp
    · rw [has_put_other (by intro e; injection e; contradiction), h3 x hx]
      simp [hxk]
end Go.Proofs.YtbkglhakhahfpaaGreatDoor
