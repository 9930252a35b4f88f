/- Texts of the proof of a law, put together, part 7 of 35. Conditions: none beyond those that each theorem names. -/
import Derived.Test.YtihgnpobkpnipaaGreatDoorMz1
import Derived.Test.YtihgnpobkpnipaaGreatDoorMz6
import Derived.Lib.SlicesS
import GoSem.Op.String
namespace Go.Proofs.YtihgnpobkpnipaaGreatDoor
open Go.RowKit Go.Sort Go.Maps
/-- sorted, each once. -/
def Srt (l : List Bs) : Prop := l.Pairwise fun a b => a ≤ b ∧ a ≠ b
theorem Srt.nodup {l : List Bs} (h : Srt l) : l.Nodup := h.imp fun q => q.2
theorem Srt.filter {l : List Bs} (h : Srt l) (f : Bs → Bool) : Srt (l.filter f) := List.Pairwise.filter f h
theorem Srt.other {l : List Bs} (h : Srt l) (hl : 1 < l.length) (p : Bs) : ∃ q ∈ l, q ≠ p := by
  match l, h, hl with
  | a :: b :: r, h, _ =>
    have hab := (List.rel_of_pairwise_cons h (List.mem_cons_self ..)).2
    by_cases e : a = p
    · exact ⟨b, by simp, fun q => hab (e.trans q.symm)⟩
    · exact ⟨a, by simp, e⟩
end Go.Proofs.YtihgnpobkpnipaaGreatDoor
namespace Go.Proofs.YtihgnpobkpnipaaGreatDoor
section
variable {α : Type} [DecidableEq α] (lt : α → α → Bool)
theorem sub_len {l m : List α} (hnd : l.Nodup) (hs : ∀ x ∈ l, x ∈ m) : l.length ≤ m.length := by
  induction l generalizing m with
  | nil => simp
  | cons x l ih =>
    obtain ⟨h1, h2⟩ := List.nodup_cons.1 hnd
    have hx := hs x (by simp)
    have := ih (m := m.erase x) h2 fun i hi => (List.mem_erase_of_ne fun e => h1 (by rw [← e]; exact hi)).2 (hs i (List.mem_cons_of_mem _ hi))
    rw [List.length_erase_of_mem hx] at this
    have := List.length_pos_of_mem hx
    simp only [List.length_cons]; omega
end
end Go.Proofs.YtihgnpobkpnipaaGreatDoor
namespace Go.Proofs.YtihgnpobkpnipaaGreatDoor
/-- two full sets that differ in one member. -/
structure Swap {α : Type} (h : Nat) (u v : α) (a b : List α) : Prop where
  na : a.Nodup
  nb : b.Nodup
  la : a.length = h
  lb : b.length = h
  ua : u ∈ a
  vb : v ∈ b
  ub : u ∉ b
  va : v ∉ a
  eq : ∀ x, x ≠ u → x ≠ v → (x ∈ a ↔ x ∈ b)
theorem Swap.symm {α : Type} {h : Nat} {u v : α} {a b : List α} (s : Swap h u v a b) : Swap h v u b a := ⟨s.nb, s.na, s.lb, s.la, s.vb, s.ua, s.va, s.ub, fun x h1 h2 => (s.eq x h2 h1).symm⟩
section
variable {α : Type} [DecidableEq α] (lt : α → α → Bool)
/-- two sets of the same members. -/
structure Same (a b : List α) : Prop where
  na : a.Nodup
  nb : b.Nodup
  eq : ∀ x, x ∈ a ↔ x ∈ b
theorem Same.len {a b : List α} (s : Same a b) : a.length = b.length :=
  Nat.le_antisymm (sub_len s.na fun x hx => (s.eq x).1 hx) (sub_len s.nb fun x hx => (s.eq x).2 hx)
end
end Go.Proofs.YtihgnpobkpnipaaGreatDoor
namespace Go.Proofs.YtihgnpobkpnipaaGreatDoor
open Go
theorem u8_lt (a b : UInt8) : a < b ↔ a.toNat < b.toNat := UInt8.lt_iff_toNat_lt
theorem u8_eq {a b : UInt8} (h : a.toNat = b.toNat) : a = b := UInt8.toNat_inj.1 h
theorem bl_cons (a b : UInt8) (x y : List UInt8) : Op.bytesLess (a :: x) (b :: y) = (decide (a < b) || (a == b && Op.bytesLess x y)) := rfl
theorem bl_tot : ∀ x y : List UInt8, Op.bytesLess x y = false → Op.bytesLess y x = false → x = y
  | [], [], _, _ => rfl
  | [], _ :: _, h, _ => by simp [Op.bytesLess] at h
  | _ :: _, [], _, h => by simp [Op.bytesLess] at h
  | a :: x, b :: y, h1, h2 => by
    rw [bl_cons] at h1 h2
    simp only [Bool.or_eq_false_iff, decide_eq_false_iff_not, Bool.and_eq_false_iff, beq_eq_false_iff_ne] at h1 h2
    have hab : a = b := u8_eq (by have := mt (u8_lt a b).2 h1.1; have := mt (u8_lt b a).2 h2.1; omega)
    subst hab
    rw [bl_tot x y (h1.2.resolve_left fun h => h rfl) (h2.2.resolve_left fun h => h rfl)]
theorem bl_trans : ∀ x y z : List UInt8, Op.bytesLess x y = true → Op.bytesLess y z = true → Op.bytesLess x z = true
  | _, [], _, h, _ => by cases ‹List UInt8› <;> simp [Op.bytesLess] at h
  | _, _ :: _, [], _, h => by simp [Op.bytesLess] at h
  | [], _ :: _, _ :: _, _, _ => rfl
  | a :: x, b :: y, c :: z, h1, h2 => by
    rw [bl_cons] at h1 h2 ⊢
    simp only [Bool.or_eq_true, decide_eq_true_eq, Bool.and_eq_true, beq_iff_eq] at h1 h2 ⊢
    rcases h1 with h1 | ⟨rfl, h1⟩
    · rcases h2 with h2 | ⟨rfl, h2⟩
      · exact .inl ((u8_lt _ _).2 (by have := (u8_lt _ _).1 h1; have := (u8_lt _ _).1 h2; omega))
      · exact .inl h1
    · rcases h2 with h2 | ⟨rfl, h2⟩
      · exact .inl h2
      · exact .inr ⟨rfl, bl_trans x y z h1 h2⟩
end Go.Proofs.YtihgnpobkpnipaaGreatDoor
namespace Go.Proofs.YtihgnpobkpnipaaGreatDoor
open Go.RowKit Go.Sort Go.Maps
theorem bl_le : ∀ a b : Bs, Op.bytesLess a b = true → a ≤ b ∧ a ≠ b
  | [], [], h => by simp [Op.bytesLess] at h
  | [], _ :: _, _ => ⟨List.nil_le _, by simp⟩
  | _ :: _, [], h => by simp [Op.bytesLess] at h
  | a :: r, b :: s, h => by
    rw [bl_cons, Bool.or_eq_true, Bool.and_eq_true] at h
    rcases h with h | ⟨h, h2⟩
    · have h := of_decide_eq_true h
      refine ⟨List.cons_le_cons_iff.2 (.inl h), fun e => ?_⟩
      injection e with e
      subst e
      exact absurd h (UInt8.lt_irrefl a)
    · have h : a = b := by simpa using h
      obtain ⟨h3, h4⟩ := bl_le r s h2
      exact ⟨List.cons_le_cons_iff.2 (.inr ⟨h, h3⟩), fun e => h4 (by injection e)⟩
def keysP (ps : List Prt) : List Bs := ps.map fun x => bsOf x.1
/-! what is reached, one after the other -/
end Go.Proofs.YtihgnpobkpnipaaGreatDoor
namespace Go.Proofs.YtihgnpobkpnipaaGreatDoor
open Go.RowKit Go.Sort Go.Maps
/-- so many of a part, taken of the parts of a list as far as they last. -/
def takeS : Int → Sm Int → List Bs → Int × Sm Int
  | n, m, [] => (n, m)
  | n, m, s :: r => takeS (n - min n ((m.get s).getD 0)) (m.put s ((m.get s).getD 0 - min n ((m.get s).getD 0))) r
/-- what is missing: part by part, of itself and of what replaces it. -/
def shortG (nx : Bs → List Bs) (needs : Bs → Int) : Sm Int → List Bs → List Bs
  | _, [] => []
  | m, p :: r => (if 0 < (takeS (needs p) m (p :: nx p)).1 then [p] else []) ++ shortG nx needs (takeS (needs p) m (p :: nx p)).2 r
/-- numbers stay between 0 and N. -/
def BdSk (N : Int) (m : Sm Int) : Prop := ∀ s, 0 ≤ (m.get s).getD 0 ∧ (m.get s).getD 0 ≤ N
theorem takeS_bd {N : Int} : ∀ (l : List Bs) (n : Int) (m : Sm Int), BdSk N m → 0 ≤ n → BdSk N (takeS n m l).2 ∧ 0 ≤ (takeS n m l).1 ∧ (takeS n m l).1 ≤ n
  | [], n, m, h, hn => ⟨h, hn, Int.le_refl _⟩
  | s :: r, n, m, h, hn => by
    have hs := h s
    have hb : BdSk N (m.put s ((m.get s).getD 0 - min n ((m.get s).getD 0))) := fun t => by
      by_cases e : s = t
      · subst e
        rw [Sm.get_put_same]
        show 0 ≤ (m.get s).getD 0 - min n ((m.get s).getD 0) ∧ (m.get s).getD 0 - min n ((m.get s).getD 0) ≤ N
        omega
      · rw [Sm.get_put_other e]; exact h t
    obtain ⟨h1, h2, h3⟩ := takeS_bd r (n - min n ((m.get s).getD 0)) _ hb (by omega)
    exact ⟨h1, h2, by rw [takeS]; omega⟩
/-- where no part replaces another one. -/
theorem shortG_nil {nx : Bs → List Bs} (hx : ∀ p, nx p = []) (needs : Bs → Int) : ∀ (l : List Bs) (m : Sm Int), shortG nx needs m l = shortF needs (fun p => (m.get p).getD 0) l
  | [], _ => rfl
  | p :: r, m => by
    have ht : takeS (needs p) m (p :: nx p) = (needs p - min (needs p) ((m.get p).getD 0), m.put p ((m.get p).getD 0 - min (needs p) ((m.get p).getD 0))) := by rw [hx]; rfl
    rw [shortG, shortF, ht, shortG_nil hx needs r]
    have hf : (fun q => ((m.put p ((m.get p).getD 0 - min (needs p) ((m.get p).getD 0))).get q).getD 0) = fun x => if x = p then (m.get p).getD 0 - min (needs p) ((m.get p).getD 0) else (m.get x).getD 0 := by
      funext q
      by_cases e : q = p
      · subst e; rw [Sm.get_put_same, if_pos rfl]; rfl
      · rw [Sm.get_put_other (Ne.symm e), if_neg e]
    show (if 0 < needs p - min (needs p) ((m.get p).getD 0) then [p] else []) ++ shortF needs (fun q => ((m.put p ((m.get p).getD 0 - min (needs p) ((m.get p).getD 0))).get q).getD 0) r = _
    rw [hf]
theorem nextL_noAlt (p : Bs) : nextL [] p = [] := by simp [nextL, waysL]
/-! alternates whose parts have different packages -/
/-- the package of a part. -/
def pkgP (ps : List Prt) (k : ByteArray) : ByteArray := ((ps.find? fun x => decide (x.1 = k)).map (·.2.1)).getD ByteArray.empty
def oddP (ps : List Prt) (l : List Alt) : List (ByteArray × ByteArray) := (l.filter fun x => decide (pkgP ps x.1 ≠ pkgP ps x.2.1)).map fun x => (x.1, x.2.1)
end Go.Proofs.YtihgnpobkpnipaaGreatDoor
namespace Go.Proofs.YtihgnpobkpnipaaGreatDoor
open Go.RowKit Go.Sort Go.Maps
/-- what is directly replaced lies among the parts. -/
theorem next_in {ps : List Prt} {l : List Alt} (h : catsF ps l = 0) {p s : Bs} (hs : s ∈ nextL l p) : p ∈ keysP ps ∧ s ∈ keysP ps ∧ p ≠ s :=
  ways_in (catsF_ok h).2.2.2 (nextL_mem.1 hs)
end Go.Proofs.YtihgnpobkpnipaaGreatDoor
