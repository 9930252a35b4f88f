/- The contracts of length and LengthOf: what each computes. Condition: coordinates within 2^41, right orders. -/
import Derived.Test.YtcfeoapbbkfbnaaGreatDoorDist
namespace Go.Proofs.YtcfeoapbbkfbnaaGreatDoor
open Go.RowKit Go.Sort

/-- where the head stands, and how far it has gone, behind an order. -/
def walkTo (P : List Pt) : Pt → Int → List Nat → Pt × Int
  | at', n, [] => (at', n)
  | at', n, k :: r => walkTo P (P.getD k (0, 0)) (n + dist at' (P.getD k (0, 0))) r
def lenOf (st : Pt) (P : List Pt) (o : List Nat) : Int := (walkTo P st 0 o).2 + dist (walkTo P st 0 o).1 st

def nats (o : List Nat) : List Int := o.map fun (k : Nat) => (k : Int)
theorem nats_at {o : List Nat} {k i : Nat} (h : o[k]? = some i) : (nats o)[k]? = some (i : Int) := by simp [nats, h]
theorem nats_len (o : List Nat) : (nats o).length = o.length := by simp [nats]
theorem dist_bd {a b : Pt} (ha : Bd a) (hb : Bd b) : 0 ≤ dist a b ∧ dist a b ≤ 8796093022208 := by
  obtain ⟨h1, h2, h3, h4⟩ := ha
  obtain ⟨g1, g2, g3, g4⟩ := hb
  unfold dist iabs
  omega
theorem walkTo_snoc (P : List Pt) (k : Nat) : ∀ (l : List Nat) (a : Pt) (n : Int), walkTo P a n (l ++ [k]) = (P.getD k (0, 0), (walkTo P a n l).2 + dist (walkTo P a n l).1 (P.getD k (0, 0)))
  | [], a, n => rfl
  | i :: l, a, n => by simp only [List.cons_append, walkTo]; exact walkTo_snoc P k l _ _
theorem getD_mem {P : List Pt} {k : Nat} (h : k < P.length) : P.getD k (0, 0) ∈ P := by
  rw [List.getD_eq_getElem?_getD, List.getElem?_eq_getElem h]; exact List.getElem_mem h
theorem walkTo_bd {P : List Pt} (hP : ∀ p ∈ P, Bd p) : ∀ (l : List Nat) (a : Pt) (n : Int), Bd a → (∀ k ∈ l, k < P.length) → Bd (walkTo P a n l).1 ∧ n ≤ (walkTo P a n l).2 ∧ (walkTo P a n l).2 ≤ n + l.length * 8796093022208
  | [], a, n, ha, _ => ⟨ha, Int.le_refl _, by simp [walkTo]⟩
  | i :: l, a, n, ha, h => by
    have hi := hP _ (getD_mem (h i (by simp)))
    have hd := dist_bd ha hi
    obtain ⟨h1, h2, h3⟩ := walkTo_bd hP l (P.getD i (0, 0)) (n + dist a (P.getD i (0, 0))) hi (fun k hk => h k (by simp [hk]))
    simp only [walkTo, List.length_cons]
    refine ⟨h1, by omega, by omega⟩
theorem take_snoc {α : Type} {l : List α} {k : Nat} {x : α} (h : l[k]? = some x) : l.take (k + 1) = l.take k ++ [x] := by
  rw [List.take_add_one, h]; rfl

end Go.Proofs.YtcfeoapbbkfbnaaGreatDoor
