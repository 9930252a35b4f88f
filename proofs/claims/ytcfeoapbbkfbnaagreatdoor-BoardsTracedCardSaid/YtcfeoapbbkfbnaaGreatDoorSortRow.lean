/- A slice that the call owns behind the library's sort: it owns the sorted list. No conditions. -/
import Derived.Test.YtcfeoapbbkfbnaaGreatDoorBase
import Derived.Sort.Grow
import Derived.Sort.Row
namespace Go.Proofs.YtcfeoapbbkfbnaaGreatDoor
open Go.RowKit Go.Sort

theorem holds_row {α : Type} [Inhabited α] (enc : α → Value) {w : World} {g : Nat} {cur : Array Value} {e : TypeId} {l : List α} (hb : w.heap[g]? = some (.cells cur e (0, 0))) (ht : cur.toList.take l.length = l.map enc) : Holds enc w g 0 l.toArray := by
  intro j hj
  have hj' : j < l.length := by simpa using hj
  refine ⟨?_, by simp [World.frozen?, hb]⟩
  have h1 : (cur.toList.take l.length)[j]? = (l.map enc)[j]? := by rw [ht]
  rw [List.getElem?_take_of_lt hj'] at h1
  simp only [World.cell?, hb, Nat.zero_add]
  simp only [Option.isSome_none, Bool.false_eq_true, if_false]
  rw [← Array.getElem?_toList, h1]
  simp [hj']
theorem heap_resorted {α : Type} [Inhabited α] (enc : α → Value) {w : World} {g n : Nat} {os : Array Obj} {cur : Array Value} {e : TypeId} {fr : Nat × Nat} (d : Array α) (hb : w.heap[g]? = some (.cells cur e fr)) :
    (grow (putRow enc (Sort.ahead w n) g 0 d) os).heap[g]? = some (.cells (putCells enc 0 d cur) e fr) := by
  have hg : g < w.heap.size := (Array.getElem?_eq_some_iff.1 hb).1
  rw [heap_grow_old _ _ (by simpa using hg)]
  simp [putRow, mapBlock, Sort.ahead, Array.getElem?_modify, hb, onCells]
theorem grownBy_resorted {α : Type} [Inhabited α] (enc : α → Value) {w : World} {g n : Nat} {os : Array Obj} (d : Array α) : w.grownBy (grow (putRow enc (Sort.ahead w n) g 0 d) os) (some g) := by
  refine ⟨rfl, rfl, rfl, by simp, fun k hk hne => ?_⟩
  rw [heap_grow_old _ _ (by simpa using hk)]
  have : g ≠ k := fun e => hne (by rw [e])
  simp [putRow, mapBlock, Sort.ahead, Array.getElem?_modify, this]
theorem take_putCells' {α : Type} [Inhabited α] (enc : α → Value) (cur : Array Value) (ts : List α) (h : ts.length ≤ cur.size) : (putCells enc 0 ts.toArray cur).toList.take ts.length = ts.map enc := by
  apply List.ext_getElem?
  intro j
  by_cases hj : j < ts.length
  · rw [List.getElem?_take_of_lt hj, Array.getElem?_toList]
    simp [putCells, hj, show j < cur.size by omega]
  · rw [List.getElem?_take_eq_none (by omega), List.getElem?_eq_none (by simp; omega)]
theorem own_resorted {α : Type} [Inhabited α] (enc : α → Value) {w : World} {base g cap n q : Nat} {e : TypeId} {os : Array Obj} {l m : List α} (h : w.ownsRow base e 1 (.slice (some ⟨g, 0, none⟩) n cap) n (l.map enc)) (hn : n = l.length) (hm : m.length = l.length) :
    (grow (putRow enc (Sort.ahead w q) g 0 m.toArray) os).ownsRow base e 1 (.slice (some ⟨g, 0, none⟩) n cap) n (m.map enc) := by
  subst hn
  rcases h.2 with ⟨h0, _⟩ | ⟨g', cap', cur, hv, hg, hb, h1, h2, h3, h4⟩
  · cases h0
  · obtain ⟨hv1, _, hv2⟩ := Value.slice.inj hv
    injection hv1 with hv1
    injection hv1 with hv1
    subst hv1 hv2
    exact ⟨by simp [hm], .inr ⟨g, cap, _, rfl, hg, heap_resorted enc _ hb, h1, h2, by simp [putCells, h3], by rw [Nat.mul_one, ← hm]; exact take_putCells' enc cur m (by omega)⟩⟩
theorem holds_own {α : Type} [Inhabited α] (enc : α → Value) {w : World} {base g cap n : Nat} {e : TypeId} {l : List α} (h : w.ownsRow base e 1 (.slice (some ⟨g, 0, none⟩) n cap) n (l.map enc)) (hn : n = l.length) : Holds enc w g 0 l.toArray ∧ g < w.heap.size ∧ base ≤ g := by
  subst hn
  rcases h.2 with ⟨h0, _⟩ | ⟨g', cap', cur, hv, hg, hb, h1, h2, h3, h4⟩
  · cases h0
  · obtain ⟨hv1, _, hv2⟩ := Value.slice.inj hv
    injection hv1 with hv1
    injection hv1 with hv1
    subst hv1
    exact ⟨holds_row enc hb (by simpa using h4), blk_lt hb, hg⟩
end Go.Proofs.YtcfeoapbbkfbnaaGreatDoor
