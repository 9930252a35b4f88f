/- Keys of maps as rows of strings. No conditions. -/
import Derived.Test.YtcfeoapbbkfbnaaGreatDoorSm
import Derived.Test.YtcfeoapbbkfbnaaGreatDoorStrs
namespace Go.Proofs.YtcfeoapbbkfbnaaGreatDoor
open Go.RowKit Go.Sort Go.Maps Go.Shelf Go.Lib

/-! keys of sorted maps -/
theorem bb_le : ∀ a b : Bs, bytesBefore a b = true → a ≤ b
  | [], [], h => by simp [bytesBefore] at h
  | [], _ :: _, _ => List.nil_le _
  | _ :: _, [], h => by simp [bytesBefore] at h
  | a :: r, b :: s, h => by
    simp only [bytesBefore, Bool.or_eq_true, decide_eq_true_eq, Bool.and_eq_true, beq_iff_eq] at h
    rw [List.cons_le_cons_iff]
    rcases h with h | ⟨h, h2⟩
    · exact .inl h
    · exact .inr ⟨h, bb_le r s h2⟩
theorem Sm.keys_sorted {α : Type} {m : Sm α} (h : Sm.Ok m) : m.keys.Pairwise fun a b => leB a b = true := by
  unfold Sm.keys
  rw [List.pairwise_map]
  exact h.imp fun {a b} hab => decide_eq_true (bb_le _ _ hab)
theorem Sm.keys_nodup {α : Type} {m : Sm α} (h : Sm.Ok m) : m.keys.Nodup := by
  unfold Sm.keys List.Nodup
  rw [List.pairwise_map]
  exact h.imp fun {a b} hab => Sm.bb_ne hab
theorem Sm.sort_keys {α : Type} {m : Sm α} (h : Sm.Ok m) {ss : List Bs} (hp : ss.Perm m.keys) : ss.mergeSort leB = m.keys := by
  rw [mergeSort_of_perm hp]
  exact List.mergeSort_of_pairwise (Sm.keys_sorted h)
theorem keys_len {α : Type} (m : Sm α) : m.keys.length = m.length := List.length_map _
def bsOf (b : ByteArray) : Bs := b.data.toList
def baOf (k : Bs) : ByteArray := ⟨k.toArray⟩
theorem bsOf_baOf (k : Bs) : bsOf (baOf k) = k := by simp [bsOf, baOf]
theorem baOf_inj {a b : Bs} (h : baOf a = baOf b) : a = b := by rw [← bsOf_baOf a, h, bsOf_baOf]
theorem encStr_ba (k : Bs) : encStr k = .string (baOf k) := rfl
theorem flat_ba (ks : List Bs) : ks.map encStr = (ks.map baOf).flatMap TS.f := by
  induction ks with
  | nil => rfl
  | cons a l ih => rw [List.map_cons, ih, List.map_cons, List.flatMap_cons]; rfl
theorem own_keys {α : Type} {w : World} {B : Nat} {v : Value} {ss : List Bs} {m : Sm α} (hm : Sm.Ok m) (hp : ss.Perm m.keys) (h : w.ownsRow B 9 1 v ss.length ((ss.mergeSort (fun x y => decide (x ≤ y))).map encStr)) : OwnR TS w B v (m.keys.map baOf) := by
  rw [show ss.mergeSort (fun x y => decide (x ≤ y)) = m.keys from Sm.sort_keys hm hp, flat_ba, hp.length_eq] at h
  unfold OwnR
  rw [List.length_map]
  exact h
end Go.Proofs.YtcfeoapbbkfbnaaGreatDoor
