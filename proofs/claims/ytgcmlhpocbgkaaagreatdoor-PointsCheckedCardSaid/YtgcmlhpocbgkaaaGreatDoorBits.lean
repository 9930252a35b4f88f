/- Shifts and bits of small sets, in the walk's words. Condition: sets below 2^62. -/
import Derived.Test.YtgcmlhpocbgkaaaGreatDoorDp
import Derived.Laws.BitsAllLaws
namespace Go.Proofs.YtgcmlhpocbgkaaaGreatDoor
open Go.RowKit Go.Sort

def pw (k : Nat) : Nat := 2 ^ k
def shrN (s k : Nat) : Nat := s / 2 ^ k
def bitN (s k : Nat) : Nat := if s.testBit k then 1 else 0
theorem pw_le {k : Nat} (h : k ≤ 60) : pw k ≤ 1152921504606846976 := by
  unfold pw
  exact Nat.le_trans (Nat.pow_le_pow_right (by omega) h) (by decide)
theorem op_shr (s k : Nat) (hk : k ≤ 60) : Op.shift .shr .i64 (s : Int) .i64 (k : Int) = pure (.int .i64 ((shrN s k : Nat) : Int)) := by
  have e : min ((k : Int).toNat) IntKind.i64.bits = k := by
    rw [Int.toNat_natCast]; show min k 64 = k; omega
  unfold Op.shift
  rw [if_neg (by omega)]
  simp only [e]
  congr 2
  unfold shrN
  rw [Int.fdiv_eq_ediv_of_nonneg _ (by exact Int.pow_nonneg (by omega))]
  simp
theorem op_shl (k : Nat) (hk : k ≤ 60) : Op.shift .shl .i64 1 .i64 (k : Int) = pure (.int .i64 ((pw k : Nat) : Int)) := by
  have e : min ((k : Int).toNat) IntKind.i64.bits = k := by
    rw [Int.toNat_natCast]; show min k 64 = k; omega
  have h := pw_le hk
  unfold Op.shift
  rw [if_neg (by omega)]
  simp only [e]
  congr 2
  have e2 : (1 : Int) * 2 ^ k = ((pw k : Nat) : Int) := by unfold pw; simp
  rw [e2, IntWalk.i64_in _ (by omega)]
theorem ofInt_i64 (a : Nat) (ha : a < 9223372036854775808) : (BitVec.ofInt 64 (a : Int)).toNat = a := by
  rw [BitVec.ofInt_natCast, BitVec.toNat_ofNat]; exact Nat.mod_eq_of_lt (by omega)
theorem bits_and1 (s k : Nat) (hs : s < 4611686018427387904) : bits .and .i64 ((shrN s k : Nat) : Int) 1 = ((bitN s k : Nat) : Int) := by
  have h1 : shrN s k < 9223372036854775808 := by unfold shrN; exact Nat.lt_of_le_of_lt (Nat.div_le_self _ _) (by omega)
  show IntKind.i64.wrap ((BitVec.ofInt 64 ((shrN s k : Nat) : Int) &&& BitVec.ofInt 64 ((1 : Nat) : Int)).toNat : Int) = _
  rw [BitVec.toNat_and, ofInt_i64 _ h1, ofInt_i64 1 (by omega)]
  have h2 : shrN s k &&& 1 = bitN s k := by
    rw [Nat.and_one_is_mod]
    unfold shrN bitN
    rw [Nat.testBit_eq_decide_div_mod_eq]
    have : s / 2 ^ k % 2 < 2 := Nat.mod_lt _ (by omega)
    by_cases h : s / 2 ^ k % 2 = 1
    · simp [h]
    · have h0 : s / 2 ^ k % 2 = 0 := by omega
      simp [h0]
  rw [h2, IntWalk.i64_in _ (by unfold bitN; split <;> omega)]
theorem bits_clr (s k : Nat) (hs : s < 4611686018427387904) (hk : k ≤ 60) : bits .andNot .i64 (s : Int) ((pw k : Nat) : Int) = ((clr s k : Nat) : Int) := by
  have h1 := pw_le hk
  show IntKind.i64.wrap ((BitVec.ofInt 64 (s : Int) &&& ~~~ BitVec.ofInt 64 ((pw k : Nat) : Int)).toNat : Int) = _
  rw [BitVec.toNat_and, BitVec.toNat_not, ofInt_i64 _ (by omega), ofInt_i64 _ (by omega)]
  have h2 : s &&& (2 ^ 64 - 1 - pw k) = clr s k := by
    unfold clr pw
    congr 1
  have h3 : clr s k ≤ s := Nat.and_le_left
  rw [h2, IntWalk.i64_in _ (by omega)]
theorem bits_and1' (s k : Nat) (hs : s < 4611686018427387904) : bits .and .i64 ((s : Int) / 2 ^ k) 1 = ((bitN s k : Nat) : Int) := by
  have := bits_and1 s k hs
  unfold shrN at this
  rw [← this]; simp
theorem wrap_pw (k : Nat) (hk : k ≤ 60) : IntKind.i64.wrap ((2 : Int) ^ k) = ((pw k : Nat) : Int) := by
  have h := pw_le hk
  have e2 : (2 : Int) ^ k = ((pw k : Nat) : Int) := by unfold pw; simp
  rw [e2, IntWalk.i64_in _ (by omega)]
theorem bitN_no {s k : Nat} (h : s.testBit k = false) : (((bitN s k : Nat) : Int) == 0) = true := by unfold bitN; rw [h]; rfl
theorem bitN_yes {s k : Nat} (h : s.testBit k = true) : (((bitN s k : Nat) : Int) == 0) = false := by unfold bitN; rw [h]; rfl
theorem sub_pw {n s : Nat} (h : Sub n s) : s < pw n := Nat.lt_pow_two_of_testBit _ (fun i hi => by
  cases hb : s.testBit i with
  | false => rfl
  | true => have := h i hb; omega)
theorem pw_10 {n : Nat} (h : n ≤ 10) : pw n ≤ 1024 := Nat.le_trans (Nat.pow_le_pow_right (by omega) h) (by decide)

/-- what a finder has in memory: a start, points, and a table of ways, of which m rows are made. -/
def Tab (w : World) (gl n : Nat) (r : Nat → Nat) (m : Nat) (T : Nat → Nat → Int) : Prop :=
  (∃ rows : Array Value, w.heap[gl]? = some (.cells rows 22 (0, 0)) ∧ rows.size = n ∧ ∀ k, k < m → rows[k]? = some (.slice (some ⟨r k, 0, none⟩) (pw n) (pw n))) ∧
  (∀ k, k < m → ∃ cs : Array Value, w.heap[r k]? = some (.cells cs 3 (0, 0)) ∧ cs.size = pw n ∧ ∀ s, s < pw n → cs[s]? = some (.int .i64 (T k s))) ∧
  (∀ k, k < m → gl < r k) ∧ (∀ i j, i < m → j < m → r i = r j → i = j)
theorem Tab.below {w w' : World} {gl n m : Nat} {r : Nat → Nat} {T : Nat → Nat → Int} (h : Tab w gl n r m T) (hb : Below w.heap.size w w') : Tab w' gl n r m T := by
  obtain ⟨⟨rows, h1, h2, h3⟩, h4, h5, h6⟩ := h
  refine ⟨⟨rows, blk_below h1 hb, h2, h3⟩, fun k hk => ?_, h5, h6⟩
  obtain ⟨cs, g1, g2, g3⟩ := h4 k hk
  exact ⟨cs, blk_below g1 hb, g2, g3⟩
theorem Tab.row {w : World} {gl n m : Nat} {r : Nat → Nat} {T : Nat → Nat → Int} (h : Tab w gl n r m T) {k : Nat} (hk : k < m) : w.cell? ⟨gl, k, none⟩ = some (.slice (some ⟨r k, 0, none⟩) (pw n) (pw n)) := by
  obtain ⟨⟨rows, h1, h2, h3⟩, _⟩ := h
  exact (blk_cell h1 k).trans (h3 k hk)
theorem Tab.at {w : World} {gl n m : Nat} {r : Nat → Nat} {T : Nat → Nat → Int} (h : Tab w gl n r m T) {k s : Nat} (hk : k < m) (hs : s < pw n) : w.cell? ⟨r k, s, none⟩ = some (.int .i64 (T k s)) ∧ w.frozen? ⟨r k, s, none⟩ = false := by
  obtain ⟨_, h4, _⟩ := h
  obtain ⟨cs, g1, g2, g3⟩ := h4 k hk
  exact ⟨(blk_cell g1 s).trans (g3 s hs), blk_free g1 s⟩
def upd (T : Nat → Nat → Int) (k s : Nat) (v : Int) : Nat → Nat → Int := fun k' s' => if k' = k ∧ s' = s then v else T k' s'
theorem Tab.set {w : World} {gl n m : Nat} {r : Nat → Nat} {T : Nat → Nat → Int} (h : Tab w gl n r m T) {k s : Nat} (hk : k < m) (hs : s < pw n) (v : Int) : Tab (w.setCell ⟨r k, s, none⟩ (.int .i64 v)) gl n r m (upd T k s v) := by
  obtain ⟨⟨rows, h1, h2, h3⟩, h4, h5, h6⟩ := h
  refine ⟨⟨rows, blk_far h1 _ _ _ (by have := h5 k hk; omega), h2, h3⟩, fun k' hk' => ?_, h5, h6⟩
  obtain ⟨cs, g1, g2, g3⟩ := h4 k' hk'
  by_cases e : k' = k
  · subst e
    refine ⟨cs.setIfInBounds s (.int .i64 v), blk_set g1 s _, by simpa using g2, fun s' hs' => ?_⟩
    by_cases e2 : s' = s
    · subst e2
      have : s' < cs.size := by omega
      simp [this, upd]
    · rw [Array.getElem?_setIfInBounds_ne (by omega), g3 s' hs']
      simp [upd, e2]
  · refine ⟨cs, blk_far g1 _ _ _ (fun hh => e (h6 k' k hk' hk hh)), g2, fun s' hs' => ?_⟩
    rw [g3 s' hs']
    simp [upd, e]
end Go.Proofs.YtgcmlhpocbgkaaaGreatDoor
