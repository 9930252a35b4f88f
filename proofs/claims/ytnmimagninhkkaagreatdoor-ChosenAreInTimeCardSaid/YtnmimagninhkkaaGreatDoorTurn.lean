/- The contracts of turn and shorter: the first part of an order whose turn makes the tour shorter. Condition: orders of at most 1000 places. -/
import Derived.Test.YtnmimagninhkkaaGreatDoorPlain
import Derived.Test.YtnmimagninhkkaaGreatDoorMake2
namespace Go.Proofs.YtnmimagninhkkaaGreatDoor
open Go.RowKit Go.Sort

theorem distance_xy (ax ay bx bY : Int) (w : World) (ha : Bd (ax, ay)) (hb : Bd (bx, bY)) :
    Calls Tryz.prog 179 #[.agg #[.int .i64 ax, .int .i64 ay], .agg #[.int .i64 bx, .int .i64 bY]] w fun e w' => e = .returned (.int .i64 (dist (ax, ay) (bx, bY))) ∧ Below w.heap.size w w' := distance_any (ax, ay) (bx, bY) w ha hb
theorem blk2 {w : World} {g : Nat} {x y : Value} {t : TypeId} (h : w.heap[g]? = some (.cells #[x, y] t (0, 0))) : w.cell? ⟨g, 0, none⟩ = some x ∧ w.cell? ⟨g, 1, none⟩ = some y :=
  ⟨blk_cell h 0, blk_cell h 1⟩
theorem pointAt_out {st : Pt} {P : List Pt} {o : List Nat} {place : Int} (h : place < 0 ∨ place = o.length) : pointAt st P o place = st := by unfold pointAt; rw [if_pos h]
theorem pointAt_in {st : Pt} {P : List Pt} {o : List Nat} {k i : Nat} {p : Pt} (h1 : o[k]? = some i) (h2 : P[i]? = some p) : pointAt st P o k = p := by
  have hk := (List.getElem?_eq_some_iff.1 h1).1
  unfold pointAt
  rw [if_neg (by omega), Int.toNat_natCast, List.getD_eq_getElem?_getD, h1]
  simp only [Option.getD_some, pt]
  rw [List.getD_eq_getElem?_getD, h2]; rfl

def First (st : Pt) (P : List Pt) (o : List Nat) (i k : Nat) : Prop :=
  i < k ∧ k < o.length ∧ gain st P o i k ∧ ∀ i' k', i' < k' → k' < o.length → (i' < i ∨ (i' = i ∧ k' < k)) → ¬ gain st P o i' k'
def NoGain (st : Pt) (P : List Pt) (o : List Nat) : Prop := ∀ i' k', i' < k' → k' < o.length → ¬ gain st P o i' k'
theorem nats_rev (o : List Nat) (i m : Nat) : nats (revSeg o i m) = revSeg (nats o) i m := by
  simp [nats, revSeg, splice, List.map_take, List.map_drop]
theorem pointAt_bd {st : Pt} {P : List Pt} {o : List Nat} {place : Int} (hst : Bd st) (hP : ∀ p ∈ P, Bd p) (hin : ∀ k ∈ o, k < P.length) (h2 : place ≤ o.length) : Bd (pointAt st P o place) := by
  unfold pointAt
  split
  · exact hst
  · have hk : place.toNat < o.length := by omega
    refine hP _ (getD_mem (hin _ ?_))
    rw [List.getD_eq_getElem?_getD, List.getElem?_eq_getElem hk]
    exact List.getElem_mem hk

theorem own_base {w : World} {B B' : Nat} {v : Value} {l : List Int} (h : Own w B v l) (hB : B' ≤ B) : Own w B' v l := by
  refine ⟨h.1, ?_⟩
  rcases h.2 with hn | ⟨g, cap, cur, rfl, hb, rest⟩
  · exact .inl hn
  · exact .inr ⟨g, cap, cur, rfl, Nat.le_trans hB hb, rest⟩
end Go.Proofs.YtnmimagninhkkaaGreatDoor
