/- OnesCount and bits of sets below 32. -/
import Derived.Test.YtgcmlhpocbgkaaaGreatDoorDiv4
namespace Go.Proofs.YtgcmlhpocbgkaaaGreatDoor
open Go.RowKit Go.Sort

set_option maxHeartbeats 1000000 in
set_option maxRecDepth 100000 in
theorem OnesCount_any (s : Nat) (hs : s < 32) (w : World) : Calls Tryz.prog 116 #[.int .u64 s] w fun e w' => e = .returned (.int .i64 (popc s)) ∧ w = w' := by
  go_enter Tryz.func116, Tryz.ntmps116
  go_wp2
  go_ret
  refine ⟨ret_int ?_, rfl⟩
  have h : s = 0 ∨ s = 1 ∨ s = 2 ∨ s = 3 ∨ s = 4 ∨ s = 5 ∨ s = 6 ∨ s = 7 ∨ s = 8 ∨ s = 9 ∨ s = 10 ∨ s = 11 ∨ s = 12 ∨ s = 13 ∨ s = 14 ∨ s = 15 ∨ s = 16 ∨ s = 17 ∨ s = 18 ∨ s = 19 ∨ s = 20 ∨ s = 21 ∨ s = 22 ∨ s = 23 ∨ s = 24 ∨ s = 25 ∨ s = 26 ∨ s = 27 ∨ s = 28 ∨ s = 29 ∨ s = 30 ∨ s = 31 := by omega
  rcases h with rfl | rfl | rfl | rfl | rfl | rfl | rfl | rfl | rfl | rfl | rfl | rfl | rfl | rfl | rfl | rfl | rfl | rfl | rfl | rfl | rfl | rfl | rfl | rfl | rfl | rfl | rfl | rfl | rfl | rfl | rfl | rfl
  all_goals decide +kernel

theorem bits_and (a b : Nat) (ha : a < 4611686018427387904) (hb : b < 4611686018427387904) : bits .and .i64 (a : Int) (b : Int) = ((a &&& b : Nat) : Int) := by
  show IntKind.i64.wrap ((BitVec.ofInt 64 (a : Int) &&& BitVec.ofInt 64 (b : Int)).toNat : Int) = _
  rw [BitVec.toNat_and, ofInt_i64 _ (by omega), ofInt_i64 _ (by omega)]
  have h3 : a &&& b ≤ a := Nat.and_le_left
  rw [IntWalk.i64_in _ (by omega)]
theorem bits_sub (a b : Nat) (ha : a < 32) (hb : b < 32) (h : b &&& a = b) : bits .andNot .i64 (a : Int) (b : Int) = ((a - b : Nat) : Int) := by
  have key : ((List.range 32).all fun a => (List.range 32).all fun b => !((b &&& a) == b) || bits .andNot .i64 (a : Int) (b : Int) == ((a - b : Nat) : Int)) = true := by kernel_rfl
  rw [List.all_eq_true] at key
  have k1 := key a (List.mem_range.2 ha)
  rw [List.all_eq_true] at k1
  have k2 := k1 b (List.mem_range.2 hb)
  simpa [h] using k2
theorem bits_low (s : Nat) (hs : s < 32) (h0 : 0 < s) : bits .and .i64 (s : Int) (-(s : Int)) = ((2 ^ lowI 8 s : Nat) : Int) := by
  have key : ((List.range 32).all fun s => s == 0 || bits .and .i64 (s : Int) (-(s : Int)) == ((2 ^ lowI 8 s : Nat) : Int)) = true := by kernel_rfl
  rw [List.all_eq_true] at key
  have k1 := key s (List.mem_range.2 hs)
  have : s ≠ 0 := by omega
  simpa [this] using k1
theorem low_test (t s : Nat) (ht : t < 32) (hs : s < 32) : ((t &&& 2 ^ lowI 8 s) == 0) = !t.testBit (lowI 8 s) := by
  have key : ((List.range 32).all fun t => (List.range 32).all fun s => ((t &&& 2 ^ lowI 8 s) == 0) == !t.testBit (lowI 8 s)) = true := by kernel_rfl
  rw [List.all_eq_true] at key
  have k1 := key t (List.mem_range.2 ht)
  rw [List.all_eq_true] at k1
  have k2 := k1 s (List.mem_range.2 hs)
  simpa using k2
theorem low_lt (s : Nat) (hs : s < 32) : 2 ^ lowI 8 s ≤ 256 := by
  have key : ((List.range 32).all fun s => decide (2 ^ lowI 8 s ≤ 256)) = true := by kernel_rfl
  rw [List.all_eq_true] at key
  simpa using key s (List.mem_range.2 hs)
theorem next_sub (t s : Nat) (ht : t < 32) (hs : s < 32) (h0 : 0 < t) (hS : t &&& s = t) : ((t - 1) &&& s) &&& s = (t - 1) &&& s ∧ (t - 1) &&& s < t ∧ ∀ x, x &&& s = x → x < t → x ≤ (t - 1) &&& s := by
  refine ⟨by rw [Nat.and_assoc, Nat.and_self], Nat.lt_of_le_of_lt Nat.and_le_left (by omega), fun x hx hxt => ?_⟩
  have key : ((List.range 32).all fun t => (List.range 32).all fun s => (List.range 32).all fun x => t == 0 || !((t &&& s) == t) || !((x &&& s) == x) || decide (t ≤ x) || decide (x ≤ ((t - 1) &&& s))) = true := by kernel_rfl
  rw [List.all_eq_true] at key
  have k1 := key t (List.mem_range.2 ht)
  rw [List.all_eq_true] at k1
  have k2 := k1 s (List.mem_range.2 hs)
  rw [List.all_eq_true] at k2
  have k3 := k2 x (List.mem_range.2 (by omega))
  have e1 : t ≠ 0 := by omega
  have e2 : ¬ t ≤ x := by omega
  simpa [e1, hx, e2, hS] using k3
theorem valid_sub {z s t : Nat} (h : valid z s t = true) : t &&& s = t := by
  simp only [valid, Bool.and_eq_true, beq_iff_eq, decide_eq_true_eq] at h
  exact h.1.1
/-- on to the next part: the one at hand is no good. -/
theorem Best.skip {tl : Nat → List Int} {lg : Nat → Int} {z : Nat} {L : Nat → Int × Int} {s t f : Nat} {c : Int × Int} (h : Best tl lg z L s t c f) (ht : t < 32) (hs : s < 32) (h0 : 0 < t) (hS : t &&& s = t) (hv : valid z s t = false) : Best tl lg z L s ((t - 1) &&& s) c f := by
  obtain ⟨_, n2, n3⟩ := next_sub t s ht hs h0 hS
  have hstep : ∀ x, valid z s x = true → x ≤ t → x ≤ (t - 1) &&& s := fun x hx hxt => by
    refine n3 x (valid_sub hx) ?_
    rcases Nat.lt_or_ge x t with h | h
    · exact h
    · obtain rfl : x = t := by omega
      rw [hv] at hx; cases hx
  rcases h with ⟨h1, h2⟩ | ⟨h1, h2, h3, h4⟩
  · exact .inl ⟨h1, fun x hx => hstep x hx (h2 x hx)⟩
  · refine .inr ⟨h1, by omega, h3, fun x hx hlt => h4 x hx ?_⟩
    rcases Nat.lt_or_ge t x with h | h
    · exact h
    · have := hstep x hx h; omega
/-- the one at hand is better: it is taken. -/
theorem Best.take {tl : Nat → List Int} {lg : Nat → Int} {z : Nat} {L : Nat → Int × Int} {s t f : Nat} {c : Int × Int} (h : Best tl lg z L s t c f) (ht : t < 32) (hs : s < 32) (h0 : 0 < t) (hS : t &&& s = t) (hv : valid z s t = true)
    (hb : f ≠ 0 → le2 (cstD lg L s t) (tl t) c (tl f)) : Best tl lg z L s ((t - 1) &&& s) (cstD lg L s t) t := by
  obtain ⟨_, n2, n3⟩ := next_sub t s ht hs h0 hS
  refine .inr ⟨hv, n2, rfl, fun x hx hlt => ?_⟩
  rcases Nat.lt_trichotomy x t with hxt | rfl | hxt
  · have := n3 x (valid_sub hx) hxt; omega
  · exact .inr ⟨rfl, .inr ⟨rfl, by rw [ordL.refl]; omega⟩⟩
  · rcases h with ⟨h1, h2⟩ | ⟨h1, h2, h3, h4⟩
    · have := h2 x hx; omega
    · have h5 := h4 x hx hxt
      have h6 := hb (by have := (valid_le h1).2.1; omega)
      rw [h3] at h6
      unfold le2 at *
      have htr := ordL.trans (tl t) (tl f) (tl x)
      rcases h5 with h5 | ⟨h5, h7 | ⟨h7, h8⟩⟩ <;> rcases h6 with h6 | ⟨h6, h9 | ⟨h9, h10⟩⟩
      all_goals first
        | exact .inl (by omega)
        | exact .inr ⟨by omega, .inl (by omega)⟩
        | exact .inr ⟨by omega, .inr ⟨by omega, htr h10 h8⟩⟩
/-- the one at hand is worse: the elder one stays. -/
theorem Best.stay {tl : Nat → List Int} {lg : Nat → Int} {z : Nat} {L : Nat → Int × Int} {s t f : Nat} {c : Int × Int} (h : Best tl lg z L s t c f) (ht : t < 32) (hs : s < 32) (h0 : 0 < t) (hS : t &&& s = t) (hf : f ≠ 0)
    (hb : le2 c (tl f) (cstD lg L s t) (tl t)) : Best tl lg z L s ((t - 1) &&& s) c f := by
  obtain ⟨_, n2, n3⟩ := next_sub t s ht hs h0 hS
  rcases h with ⟨h1, _⟩ | ⟨h1, h2, h3, h4⟩
  · exact absurd h1 hf
  · refine .inr ⟨h1, by omega, h3, fun x hx hlt => ?_⟩
    rcases Nat.lt_trichotomy x t with hxt | rfl | hxt
    · have := n3 x (valid_sub hx) hxt; omega
    · rw [← h3]; exact hb
    · exact h4 x hx hxt
theorem Best.start {tl : Nat → List Int} {lg : Nat → Int} {z : Nat} {L : Nat → Int × Int} {s : Nat} {c : Int × Int} : Best tl lg z L s s c 0 := .inl ⟨rfl, fun _ hx => (valid_le hx).1⟩
end Go.Proofs.YtgcmlhpocbgkaaaGreatDoor
