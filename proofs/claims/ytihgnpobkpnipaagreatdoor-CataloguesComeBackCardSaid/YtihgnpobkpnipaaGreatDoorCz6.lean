/- Texts of the proof of a law, put together, part 6 of 35. Conditions: none beyond those that each theorem names. -/
import Derived.Test.YtihgnpobkpnipaaGreatDoorCz1
import Derived.Lib.SlicesS
import GoSem.Op.String
namespace Go.Proofs.YtihgnpobkpnipaaGreatDoor
section
variable {α : Type} [DecidableEq α] (lt : α → α → Bool)
theorem sub_len {l m : List α} (hnd : l.Nodup) (hs : ∀ x ∈ l, x ∈ m) : l.length ≤ m.length := by
  induction l generalizing m with
  | nil => simp
  | cons x l ih =>
    obtain ⟨h1, h2⟩ := List.nodup_cons.1 hnd
    have hx := hs x (by simp)
    have := ih (m := m.erase x) h2 fun i hi => (List.mem_erase_of_ne fun e => h1 (by rw [← e]; exact hi)).2 (hs i (List.mem_cons_of_mem _ hi))
    rw [List.length_erase_of_mem hx] at this
    have := List.length_pos_of_mem hx
    simp only [List.length_cons]; omega
end
end Go.Proofs.YtihgnpobkpnipaaGreatDoor
namespace Go.Proofs.YtihgnpobkpnipaaGreatDoor
/-- two full sets that differ in one member. -/
structure Swap {α : Type} (h : Nat) (u v : α) (a b : List α) : Prop where
  na : a.Nodup
  nb : b.Nodup
  la : a.length = h
  lb : b.length = h
  ua : u ∈ a
  vb : v ∈ b
  ub : u ∉ b
  va : v ∉ a
  eq : ∀ x, x ≠ u → x ≠ v → (x ∈ a ↔ x ∈ b)
theorem Swap.symm {α : Type} {h : Nat} {u v : α} {a b : List α} (s : Swap h u v a b) : Swap h v u b a := ⟨s.nb, s.na, s.lb, s.la, s.vb, s.ua, s.va, s.ub, fun x h1 h2 => (s.eq x h2 h1).symm⟩
section
variable {α : Type} [DecidableEq α] (lt : α → α → Bool)
/-- two sets of the same members. -/
structure Same (a b : List α) : Prop where
  na : a.Nodup
  nb : b.Nodup
  eq : ∀ x, x ∈ a ↔ x ∈ b
theorem Same.len {a b : List α} (s : Same a b) : a.length = b.length :=
  Nat.le_antisymm (sub_len s.na fun x hx => (s.eq x).1 hx) (sub_len s.nb fun x hx => (s.eq x).2 hx)
end
end Go.Proofs.YtihgnpobkpnipaaGreatDoor
namespace Go.Proofs.YtihgnpobkpnipaaGreatDoor
open Go
theorem u8_lt (a b : UInt8) : a < b ↔ a.toNat < b.toNat := UInt8.lt_iff_toNat_lt
theorem u8_eq {a b : UInt8} (h : a.toNat = b.toNat) : a = b := UInt8.toNat_inj.1 h
theorem bl_cons (a b : UInt8) (x y : List UInt8) : Op.bytesLess (a :: x) (b :: y) = (decide (a < b) || (a == b && Op.bytesLess x y)) := rfl
theorem bl_tot : ∀ x y : List UInt8, Op.bytesLess x y = false → Op.bytesLess y x = false → x = y
  | [], [], _, _ => rfl
  | [], _ :: _, h, _ => by simp [Op.bytesLess] at h
  | _ :: _, [], _, h => by simp [Op.bytesLess] at h
  | a :: x, b :: y, h1, h2 => by
    rw [bl_cons] at h1 h2
    simp only [Bool.or_eq_false_iff, decide_eq_false_iff_not, Bool.and_eq_false_iff, beq_eq_false_iff_ne] at h1 h2
    have hab : a = b := u8_eq (by have := mt (u8_lt a b).2 h1.1; have := mt (u8_lt b a).2 h2.1; omega)
    subst hab
    rw [bl_tot x y (h1.2.resolve_left fun h => h rfl) (h2.2.resolve_left fun h => h rfl)]
theorem bl_trans : ∀ x y z : List UInt8, Op.bytesLess x y = true → Op.bytesLess y z = true → Op.bytesLess x z = true
  | _, [], _, h, _ => by cases ‹List UInt8› <;> simp [Op.bytesLess] at h
  | _, _ :: _, [], _, h => by simp [Op.bytesLess] at h
  | [], _ :: _, _ :: _, _, _ => rfl
  | a :: x, b :: y, c :: z, h1, h2 => by
    rw [bl_cons] at h1 h2 ⊢
    simp only [Bool.or_eq_true, decide_eq_true_eq, Bool.and_eq_true, beq_iff_eq] at h1 h2 ⊢
    rcases h1 with h1 | ⟨rfl, h1⟩
    · rcases h2 with h2 | ⟨rfl, h2⟩
      · exact .inl ((u8_lt _ _).2 (by have := (u8_lt _ _).1 h1; have := (u8_lt _ _).1 h2; omega))
      · exact .inl h1
    · rcases h2 with h2 | ⟨rfl, h2⟩
      · exact .inl h2
      · exact .inr ⟨rfl, bl_trans x y z h1 h2⟩
end Go.Proofs.YtihgnpobkpnipaaGreatDoor
