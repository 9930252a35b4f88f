/- Plain facts on tours: their lengths as sums over lists of points; a part that is turned. No program, no conditions. -/
import Derived.Test.YtgcmlhpocbgkaaaGreatDoorSl
namespace Go.Proofs.YtgcmlhpocbgkaaaGreatDoor

def pl : List Pt → Int
  | [] => 0
  | [_] => 0
  | a :: b :: r => dist a b + pl (b :: r)

theorem iabs_neg (n : Int) : iabs (-n) = iabs n := by unfold iabs; omega
theorem dist_comm (a b : Pt) : dist a b = dist b a := by
  unfold dist
  rw [show a.1 - b.1 = -(b.1 - a.1) by omega, show a.2 - b.2 = -(b.2 - a.2) by omega, iabs_neg, iabs_neg]
theorem dist_nonneg (a b : Pt) : 0 ≤ dist a b := by unfold dist iabs; omega
theorem dist_self (a : Pt) : dist a a = 0 := by unfold dist iabs; omega
theorem dist_tri (a b c : Pt) : dist a c ≤ dist a b + dist b c := by unfold dist iabs; omega

theorem pl_append : ∀ (A B : List Pt) (hA : A ≠ []) (hB : B ≠ []), pl (A ++ B) = pl A + dist (A.getLast hA) (B.head hB) + pl B
  | [], _, hA, _ => absurd rfl hA
  | [a], B, _, hB => by
    cases B with
    | nil => exact absurd rfl hB
    | cons b r => simp [pl]
  | a :: a' :: A, B, _, hB => by
    have ih := pl_append (a' :: A) B (by simp) hB
    simp only [List.cons_append, pl, List.getLast_cons_cons] at ih ⊢
    rw [ih]; omega
theorem pl_reverse (l : List Pt) : pl l.reverse = pl l := by
  induction l with
  | nil => rfl
  | cons a l ih =>
    cases l with
    | nil => rfl
    | cons b r =>
      rw [List.reverse_cons, pl_append _ _ (by simp) (by simp), ih]
      simp only [List.getLast_reverse, List.head_cons, pl]
      rw [dist_comm b a]; omega

def pt (P : List Pt) (k : Nat) : Pt := P.getD k (0, 0)
theorem walkTo_pl (P : List Pt) : ∀ (o : List Nat) (a : Pt) (n : Int), (walkTo P a n o).2 = n + pl (a :: o.map (pt P)) ∧ (walkTo P a n o).1 = (a :: o.map (pt P)).getLast (by simp)
  | [], a, n => by simp [walkTo, pl]
  | k :: o, a, n => by
    obtain ⟨h1, h2⟩ := walkTo_pl P o (pt P k) (n + dist a (pt P k))
    simp only [walkTo, List.map_cons]
    refine ⟨?_, ?_⟩
    · show (walkTo P (pt P k) (n + dist a (pt P k)) o).2 = _
      rw [h1]; simp only [pl]; omega
    · show (walkTo P (pt P k) (n + dist a (pt P k)) o).1 = _
      rw [h2, List.getLast_cons_cons]
theorem lenOf_pl (st : Pt) (P : List Pt) (o : List Nat) : lenOf st P o = pl (st :: o.map (pt P) ++ [st]) := by
  obtain ⟨h1, h2⟩ := walkTo_pl P o st 0
  unfold lenOf
  rw [h1, h2, pl_append _ _ (by simp) (by simp)]
  simp [pl]
theorem pl_nonneg : ∀ l : List Pt, 0 ≤ pl l
  | [] => Int.le_refl _
  | [_] => Int.le_refl _
  | a :: b :: r => by
    have := pl_nonneg (b :: r)
    have := dist_nonneg a b
    simp only [pl]; omega
theorem lenOf_nonneg (st : Pt) (P : List Pt) (o : List Nat) : 0 ≤ lenOf st P o := by rw [lenOf_pl]; exact pl_nonneg _

/-- the point at a place of an order: the start ahead of it and behind it. -/
def pointAt (st : Pt) (P : List Pt) (o : List Nat) (place : Int) : Pt := if place < 0 ∨ place = o.length then st else pt P (o.getD place.toNat 0)

/-- what the turn of the part from i to k changes. -/
def gain (st : Pt) (P : List Pt) (o : List Nat) (i k : Nat) : Prop :=
  dist (pointAt st P o ((i : Int) - 1)) (pointAt st P o k) + dist (pointAt st P o i) (pointAt st P o ((k : Int) + 1)) < dist (pointAt st P o ((i : Int) - 1)) (pointAt st P o i) + dist (pointAt st P o k) (pointAt st P o ((k : Int) + 1))

theorem turn_pl (A B C : List Pt) (hA : A ≠ []) (hB : B ≠ []) (hC : C ≠ []) :
    pl (A ++ B.reverse ++ C) = pl (A ++ B ++ C) + (dist (A.getLast hA) (B.getLast hB) + dist (B.head hB) (C.head hC)) - (dist (A.getLast hA) (B.head hB) + dist (B.getLast hB) (C.head hC)) := by
  rw [pl_append (A ++ B.reverse) C (by simp [hA]) hC, pl_append A B.reverse hA (by simpa using hB), pl_append (A ++ B) C (by simp [hA]) hC, pl_append A B hA hB, pl_reverse]
  rw [List.getLast_append_of_ne_nil _ (show B.reverse ≠ [] by simpa using hB), List.getLast_append_of_ne_nil _ hB, List.head_reverse, List.getLast_reverse]
  omega

theorem rev_len (st : Pt) (P : List Pt) (o : List Nat) (i k : Nat) (hik : i ≤ k) (hk : k < o.length) :
    lenOf st P (revSeg o i (k + 1 - i)) < lenOf st P o ↔ gain st P o i k := by
  have ho : o = o.take i ++ (o.drop i).take (k + 1 - i) ++ o.drop (k + 1) := by
    conv => lhs; rw [← List.take_append_drop i o, ← List.take_append_drop (k + 1 - i) (o.drop i), List.drop_drop, show i + (k + 1 - i) = k + 1 by omega]
    rw [List.append_assoc]
  have hr : revSeg o i (k + 1 - i) = o.take i ++ ((o.drop i).take (k + 1 - i)).reverse ++ o.drop (k + 1) := by
    unfold revSeg splice
    rw [List.length_reverse, List.length_take, List.length_drop, show i + min (k + 1 - i) (o.length - i) = k + 1 by omega]
  have hB : (o.drop i).take (k + 1 - i) ≠ [] := by
    intro h
    have := congrArg List.length h
    rw [List.length_take, List.length_drop] at this
    simp at this; omega
  have hA' : (st :: (o.take i).map (pt P)) ≠ [] := by simp
  have hB' : ((o.drop i).take (k + 1 - i)).map (pt P) ≠ [] := by simpa using hB
  have hC' : ((o.drop (k + 1)).map (pt P) ++ [st]) ≠ [] := by simp
  have key := turn_pl _ _ _ hA' hB' hC'
  have e1 : lenOf st P (revSeg o i (k + 1 - i)) = pl ((st :: (o.take i).map (pt P)) ++ (((o.drop i).take (k + 1 - i)).map (pt P)).reverse ++ ((o.drop (k + 1)).map (pt P) ++ [st])) := by
    rw [lenOf_pl, hr]; simp
  have e2 : lenOf st P o = pl ((st :: (o.take i).map (pt P)) ++ ((o.drop i).take (k + 1 - i)).map (pt P) ++ ((o.drop (k + 1)).map (pt P) ++ [st])) := by
    rw [lenOf_pl]; conv => lhs; rw [ho]
    simp
  have hi : i < o.length := by omega
  have f1 : (st :: (o.take i).map (pt P)).getLast hA' = pointAt st P o ((i : Int) - 1) := by
    unfold pointAt
    cases i with
    | zero => simp
    | succ j =>
      rw [if_neg (by omega)]
      rw [List.getLast_cons (by simp; intro h; rw [h] at hk; simp at hk), List.getLast_map, List.getLast_eq_getElem]
      congr 1
      simp only [List.length_take]
      rw [List.getElem_take]
      rw [List.getD_eq_getElem?_getD, List.getElem?_eq_getElem (by omega)]
      simp only [Option.getD_some]
      congr 1; omega
  have f2 : (((o.drop i).take (k + 1 - i)).map (pt P)).head hB' = pointAt st P o i := by
    unfold pointAt
    rw [if_neg (by omega), List.head_map, List.head_take, List.head_drop]
    congr 1
    rw [List.getD_eq_getElem?_getD, Int.toNat_natCast, List.getElem?_eq_getElem hi]; rfl
  have f3 : (((o.drop i).take (k + 1 - i)).map (pt P)).getLast hB' = pointAt st P o k := by
    unfold pointAt
    rw [if_neg (by omega), List.getLast_map, List.getLast_eq_getElem]
    congr 1
    simp only [List.length_take, List.length_drop]
    rw [List.getElem_take, List.getElem_drop, List.getD_eq_getElem?_getD, Int.toNat_natCast, List.getElem?_eq_getElem hk]
    simp only [Option.getD_some]
    congr 1; omega
  have f4 : ((o.drop (k + 1)).map (pt P) ++ [st]).head hC' = pointAt st P o ((k : Int) + 1) := by
    unfold pointAt
    by_cases h : k + 1 < o.length
    · rw [if_neg (by omega)]
      have hne : o.drop (k + 1) ≠ [] := by intro h'; have := congrArg List.length h'; simp at this; omega
      rw [List.head_append_of_ne_nil (by simpa using hne), List.head_map, List.head_drop]
      congr 1
      rw [List.getD_eq_getElem?_getD, show ((k : Int) + 1).toNat = k + 1 by omega, List.getElem?_eq_getElem h]; rfl
    · rw [if_pos (by omega)]
      have : o.drop (k + 1) = [] := List.drop_eq_nil_of_le (by omega)
      simp [this]
  rw [f1, f2, f3, f4] at key
  unfold gain
  rw [e1, e2, key]
  omega
end Go.Proofs.YtgcmlhpocbgkaaaGreatDoor
