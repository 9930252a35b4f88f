/- Maps from ints to bools that are only stored into; slots moved together; plain facts for StrokesTakeAll. -/
import Derived.Test.YtgcmlhpocbgkaaaGreatDoorSt5
import Derived.Test.YtgcmlhpocbgkaaaGreatDoorIsOrd
namespace Go.Proofs.YtgcmlhpocbgkaaaGreatDoor
open Go.RowKit Go.Sort Go.Maps

/-- a map that has each key of a list. -/
def MapB (w : World) (g : Nat) (ks : List Int) : Prop :=
  ∃ D : DataW Unit, w.ownsMap Tryz.prog 3 (plainElem Tryz.prog 4) g (Maps.size D) D ∧ Maps.size D = dcount ks ∧ (∀ k, Rg k → Maps.has D (.int .i64 k) = decide (k ∈ ks))
theorem MapB.made (w : World) : MapB (w.alloc (.map #[] 0)) w.heap.size [] := ⟨.map [], World.ownsMap_made w _ _ _, rfl, fun _ _ => rfl⟩
theorem MapB.kept {w w' : World} {g : Nat} {ks : List Int} (h : MapB w g ks) {row : Option Nat} (hg : w.grownBy w' row) (hne : some g ≠ row) : MapB w' g ks := by
  obtain ⟨D, h1, h2⟩ := h
  exact ⟨D, h1.kept hg hne, h2⟩
theorem MapB.lt {w : World} {g : Nat} {ks : List Int} (h : MapB w g ks) : g < w.heap.size := by
  obtain ⟨D, h1, _⟩ := h
  exact h1.lt
theorem MapB.len {w : World} {g : Nat} {ks : List Int} (h : MapB w g ks) (ty : TypeId) : (Builtin.len_ #[71] ty #[.map (some g)]).run Tryz.prog w = .ok (.int .i64 (dcount ks)) w := by
  obtain ⟨D, h1, h2, _⟩ := h
  rw [← h2]
  exact h1.len Tryz.underlying71 ty
set_option maxRecDepth 100000 in
theorem MapB.put {w : World} {g : Nat} {ks : List Int} (h : MapB w g ks) {k : Int} (v : Bool) (hk : Rg k) (hsm : dcount ks < 1000000) :
    ∃ w', (Instr.mapUpdate 71 (.map (some g)) (.int .i64 k) (.bool v)).run Tryz.prog w = .ok () w' ∧ MapB w' g (k :: ks) ∧ w.grownBy w' (some g) := by
  obtain ⟨D, h1, h2, h3⟩ := h
  obtain ⟨w', hrun, ho, hg⟩ := h1.update intK Tryz.underlying71 (by unfold maxLen; omega) (keyOf_int_mk Tryz.underlying3 hk.wf) (plainElem_bool Tryz.underlying4 v)
  refine ⟨w', hrun, ⟨_, own_tight ho, ?_, fun x hx => ?_⟩, hg⟩
  · rw [size_put (h1.tidy intK), h3 k hk, h2]
    simp only [dcount, decide_eq_true_eq]
  · by_cases hxk : x = k
    · subst hxk
      rw [has_put_same (h1.isMap) (keyLit x)]
      simp
    · rw [has_put_other (by intro e; injection e; contradiction), h3 x hx]
      simp [hxk]
/-- slots moved together. -/
def movS (S : List Int) : List Int := S.map fun x => min x 900 + 50
theorem movS_len (S : List Int) : (movS S).length = S.length := List.length_map _
theorem movS_slot {S : List Int} (h : slotF S = 0) : slotF (movS S) = 0 := by
  obtain ⟨h0, h1, h2⟩ := slotF_zero h
  refine slotF_ok (fun e => h0 (List.map_eq_nil_iff.1 e)) (by rw [movS_len]; exact h1) fun x hx => ?_
  obtain ⟨y, hy, rfl⟩ := List.mem_map.1 hx
  have := h2 y hy
  omega
theorem movS_best {S : List Int} (h : ∀ x ∈ S, x ≤ 900) : bestP (movS S) = bestP S := by
  unfold bestP
  rw [movS_len]
  refine tryP_move S (movS S) 50 (movS_len S) (fun i hi => ?_) S.length [] ([], 0) (by simp)
  unfold movS
  rw [List.getD_eq_getElem?_getD, List.getD_eq_getElem?_getD, List.getElem?_map, List.getElem?_eq_getElem hi]
  have := h S[i] (List.getElem_mem hi)
  simp only [Option.map_some, Option.getD_some]
  omega
theorem strk_take {S : List Int} {q : List Nat} {k j : Nat} (hq : q[k]? = some j) : strk S (q.take (k + 1)).reverse = (S.getD k 0 - j) :: strk S (q.take k).reverse := by
  have hk := (List.getElem?_eq_some_iff.1 hq).1
  rw [List.take_add_one, hq]
  simp only [Option.toList_some, List.reverse_append, List.reverse_cons, List.reverse_nil, List.nil_append, List.singleton_append, strk]
  rw [List.length_reverse, List.length_take, Nat.min_eq_left (by omega)]
end Go.Proofs.YtgcmlhpocbgkaaaGreatDoor
