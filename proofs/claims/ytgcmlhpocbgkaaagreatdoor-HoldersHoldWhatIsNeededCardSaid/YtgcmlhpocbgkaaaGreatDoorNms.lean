/- The order of names by their bytes; names sorted. No program. -/
import Derived.Test.YtgcmlhpocbgkaaaGreatDoorHold2
import Derived.Lib.SlicesS
import GoSem.Op.String
namespace Go.Proofs.YtgcmlhpocbgkaaaGreatDoor
open Go

theorem u8_lt (a b : UInt8) : a < b ↔ a.toNat < b.toNat := UInt8.lt_iff_toNat_lt
theorem u8_eq {a b : UInt8} (h : a.toNat = b.toNat) : a = b := UInt8.toNat_inj.1 h
theorem bl_cons (a b : UInt8) (x y : List UInt8) : Op.bytesLess (a :: x) (b :: y) = (decide (a < b) || (a == b && Op.bytesLess x y)) := rfl
theorem bl_irr : ∀ x : List UInt8, Op.bytesLess x x = false
  | [] => rfl
  | a :: x => by rw [bl_cons, bl_irr x]; simp [UInt8.lt_irrefl]
theorem bl_tot : ∀ x y : List UInt8, Op.bytesLess x y = false → Op.bytesLess y x = false → x = y
  | [], [], _, _ => rfl
  | [], _ :: _, h, _ => by simp [Op.bytesLess] at h
  | _ :: _, [], _, h => by simp [Op.bytesLess] at h
  | a :: x, b :: y, h1, h2 => by
    rw [bl_cons] at h1 h2
    simp only [Bool.or_eq_false_iff, decide_eq_false_iff_not, Bool.and_eq_false_iff, beq_eq_false_iff_ne] at h1 h2
    have hab : a = b := u8_eq (by have := mt (u8_lt a b).2 h1.1; have := mt (u8_lt b a).2 h2.1; omega)
    subst hab
    rw [bl_tot x y (h1.2.resolve_left fun h => h rfl) (h2.2.resolve_left fun h => h rfl)]
theorem bl_trans : ∀ x y z : List UInt8, Op.bytesLess x y = true → Op.bytesLess y z = true → Op.bytesLess x z = true
  | _, [], _, h, _ => by cases ‹List UInt8› <;> simp [Op.bytesLess] at h
  | _, _ :: _, [], _, h => by simp [Op.bytesLess] at h
  | [], _ :: _, _ :: _, _, _ => rfl
  | a :: x, b :: y, c :: z, h1, h2 => by
    rw [bl_cons] at h1 h2 ⊢
    simp only [Bool.or_eq_true, decide_eq_true_eq, Bool.and_eq_true, beq_iff_eq] at h1 h2 ⊢
    rcases h1 with h1 | ⟨rfl, h1⟩
    · rcases h2 with h2 | ⟨rfl, h2⟩
      · exact .inl ((u8_lt _ _).2 (by have := (u8_lt _ _).1 h1; have := (u8_lt _ _).1 h2; omega))
      · exact .inl h1
    · rcases h2 with h2 | ⟨rfl, h2⟩
      · exact .inl h2
      · exact .inr ⟨rfl, bl_trans x y z h1 h2⟩
theorem bl_asym (x y : List UInt8) (h : Op.bytesLess x y = true) : Op.bytesLess y x = false := by
  cases h2 : Op.bytesLess y x
  · rfl
  · have := bl_trans x y x h h2
    rw [bl_irr] at this; cases this
/-- one name is ahead of another one. -/
def nlt (a b : ByteArray) : Bool := Op.bytesLess a.toList b.toList
theorem bytes_eq {a b : ByteArray} (h : a.toList = b.toList) : a = b := (Lib.bytes_beq_iff a b).1 (by rw [h]; simp)
theorem nlt_names : Names nlt :=
  ⟨fun _ => bl_irr _, fun _ _ h1 h2 => bytes_eq (bl_tot _ _ h1 h2), fun _ _ h => bl_asym _ _ h, fun _ _ _ h1 h2 => bl_trans _ _ _ h1 h2⟩
section
variable {α : Type} [DecidableEq α]
/-- the place of the first one; as many as there are, if there is none. -/
def idxD (x : α) (l : List α) : Nat := l.idxOf x
theorem filt_eq (p : α → Bool) (c l : List α) (hp : ∀ x, p x = true ↔ x ∈ c) : (l.filter fun x => !p x) = l.filter fun x => !decide (x ∈ c) := by
  refine List.filter_congr fun x _ => ?_
  congr 1
  rw [Bool.eq_iff_iff, hp, decide_eq_true_eq]
theorem idxD_hit (x : α) (l : List α) : idxD x (x :: l) = 0 := by simp [idxD]
theorem idxD_next {x z : α} (h : z ≠ x) (l : List α) : idxD x (z :: l) = idxD x l + 1 := idx_ne l h
theorem idxD_none {x : α} {l : List α} (h : x ∉ l) : idxD x l = l.length := List.idxOf_eq_length h
theorem idxD_le (x : α) (l : List α) : idxD x l ≤ l.length := List.idxOf_le_length
theorem vicS_eq (lt : α → α → Bool) (later held : List α) (a : Int × Int) (i : Nat) (x : α) : vicS lt later held a i x = if a.2 < (idxD x later : Int) then ((i : Int), (idxD x later : Int)) else if (idxD x later : Int) = a.2 ∧ ((held[a.1.toNat]?).any fun y => lt x y) = true then ((i : Int), (idxD x later : Int)) else a := rfl
end
theorem idxFromS_eq (x : ByteArray) : ∀ (l : List ByteArray) (i : Nat), (x ∈ l → Lib.idxFromS l x i = ((i + idxD x l : Nat) : Int)) ∧ (x ∉ l → Lib.idxFromS l x i = -1)
  | [], _ => by simp [Lib.idxFromS]
  | z :: l, i => by
    rw [Lib.idxFromS]
    by_cases hz : z = x
    · subst hz; rw [if_pos rfl, idxD_hit]; simp
    · rw [if_neg hz, idxD_next hz]
      have hz' : x ≠ z := fun e => hz e.symm
      obtain ⟨h1, h2⟩ := idxFromS_eq x l (i + 1)
      refine ⟨fun hm => ?_, fun hm => h2 fun h => hm (List.mem_cons_of_mem _ h)⟩
      rw [h1 ((List.mem_cons.1 hm).resolve_left hz')]
      congr 1; omega
theorem idxOfS_in {x : ByteArray} {l : List ByteArray} (h : x ∈ l) : Lib.idxOfS l x = ((idxD x l : Nat) : Int) := by
  have := (idxFromS_eq x l 0).1 h
  rwa [Nat.zero_add] at this
theorem idxOfS_out {x : ByteArray} {l : List ByteArray} (h : x ∉ l) : Lib.idxOfS l x = -1 := (idxFromS_eq x l 0).2 h
/-- sorted by bytes. -/
def sortN (l : List ByteArray) : List ByteArray := (((l.map fun s => s.data.toList).mergeSort fun x y => decide (x ≤ y))).map fun x => ⟨x.toArray⟩
theorem map_back (l : List ByteArray) : ((l.map fun s => s.data.toList).map fun x => (⟨x.toArray⟩ : ByteArray)) = l := by
  rw [List.map_map]
  conv => rhs; rw [← List.map_id l]
  exact List.map_congr_left fun s _ => rfl
theorem sortN_perm (l : List ByteArray) : (sortN l).Perm l := by
  have h := (List.mergeSort_perm (l.map fun s => s.data.toList) fun x y => decide (x ≤ y)).map fun x => (⟨x.toArray⟩ : ByteArray)
  rw [map_back] at h
  exact h
theorem sortN_len (l : List ByteArray) : (sortN l).length = l.length := (sortN_perm l).length_eq
theorem sortN_mem (l : List ByteArray) (x : ByteArray) : x ∈ sortN l ↔ x ∈ l := (sortN_perm l).mem_iff
theorem le_bl (x y : List UInt8) : decide (x ≤ y) = !Op.bytesLess y x := by
  have : ∀ x y : List UInt8, Op.bytesLess x y = decide (x < y) := by
    intro x
    induction x with
    | nil => intro y; cases y <;> simp [Op.bytesLess]
    | cons a x ih =>
      intro y
      cases y with
      | nil => simp [Op.bytesLess]
      | cons b y =>
        rw [Op.bytesLess, ih y]
        simp only [List.cons_lt_cons_iff]
        by_cases h1 : a < b <;> by_cases h2 : a = b <;> by_cases h3 : x < y <;> simp [h1, h2, h3]
  rw [this]
  by_cases h : y < x
  · simp [h]
  · simp [h, List.not_lt.1 h]
theorem sortN_sorted (l : List ByteArray) : (sortN l).Pairwise fun a b => nlt b a = false := by
  unfold sortN
  rw [List.pairwise_map]
  have h := List.pairwise_mergeSort (le := fun x y : List UInt8 => decide (x ≤ y)) (by
    intro a b c h1 h2
    rw [le_bl] at h1 h2 ⊢
    simp only [Bool.not_eq_eq_eq_not, Bool.not_true] at h1 h2 ⊢
    cases h3 : Op.bytesLess c a
    · rfl
    · exfalso
      by_cases h4 : Op.bytesLess b a = true
      · rw [h4] at h1; cases h1
      · simp only [Bool.not_eq_true] at h4
        cases h5 : Op.bytesLess a b
        · have := bl_tot a b h5 h4
          subst this
          rw [h3] at h2; cases h2
        · have := bl_trans c a b h3 h5
          rw [this] at h2; cases h2) (by
    intro a b
    rw [le_bl, le_bl]
    cases h1 : Op.bytesLess b a
    · rfl
    · rw [bl_asym _ _ h1]; rfl) (l.map fun s => s.data.toList)
  refine h.imp fun {x y} hxy => ?_
  rw [le_bl] at hxy
  unfold nlt
  rw [ByteArray.toList_eq, ByteArray.toList_eq]
  simpa using hxy
end Go.Proofs.YtgcmlhpocbgkaaaGreatDoor
