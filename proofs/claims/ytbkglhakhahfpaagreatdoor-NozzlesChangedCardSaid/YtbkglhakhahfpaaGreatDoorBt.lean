/- Bits of small numbers. No conditions. -/
import Derived.Test.YtbkglhakhahfpaaGreatDoorBase
import Derived.Laws.BitsAllLaws
namespace Go.Proofs.YtbkglhakhahfpaaGreatDoor
open Go.RowKit Go.Sort

def pw (k : Nat) : Nat := 2 ^ k
def shrN (s k : Nat) : Nat := s / 2 ^ k
def bitN (s k : Nat) : Nat := if s.testBit k then 1 else 0
theorem pw_le {k : Nat} (h : k ≤ 60) : pw k ≤ 1152921504606846976 := by
  unfold pw
  exact Nat.le_trans (Nat.pow_le_pow_right (by omega) h) (by decide)
theorem op_shr (s k : Nat) (hk : k ≤ 60) : Op.shift .shr .i64 (s : Int) .i64 (k : Int) = pure (.int .i64 ((shrN s k : Nat) : Int)) := by
  have e : min ((k : Int).toNat) IntKind.i64.bits = k := by
    rw [Int.toNat_natCast]; show min k 64 = k; omega
  unfold Op.shift
  rw [if_neg (by omega)]
  simp only [e]
  congr 2
  unfold shrN
  rw [Int.fdiv_eq_ediv_of_nonneg _ (by exact Int.pow_nonneg (by omega))]
  simp
theorem op_shl (k : Nat) (hk : k ≤ 60) : Op.shift .shl .i64 1 .i64 (k : Int) = pure (.int .i64 ((pw k : Nat) : Int)) := by
  have e : min ((k : Int).toNat) IntKind.i64.bits = k := by
    rw [Int.toNat_natCast]; show min k 64 = k; omega
  have h := pw_le hk
  unfold Op.shift
  rw [if_neg (by omega)]
  simp only [e]
  congr 2
  have e2 : (1 : Int) * 2 ^ k = ((pw k : Nat) : Int) := by unfold pw; simp
  rw [e2, IntWalk.i64_in _ (by omega)]
theorem ofInt_i64 (a : Nat) (ha : a < 9223372036854775808) : (BitVec.ofInt 64 (a : Int)).toNat = a := by
  rw [BitVec.ofInt_natCast, BitVec.toNat_ofNat]; exact Nat.mod_eq_of_lt (by omega)
theorem bits_and1 (s k : Nat) (hs : s < 4611686018427387904) : bits .and .i64 ((shrN s k : Nat) : Int) 1 = ((bitN s k : Nat) : Int) := by
  have h1 : shrN s k < 9223372036854775808 := by unfold shrN; exact Nat.lt_of_le_of_lt (Nat.div_le_self _ _) (by omega)
  show IntKind.i64.wrap ((BitVec.ofInt 64 ((shrN s k : Nat) : Int) &&& BitVec.ofInt 64 ((1 : Nat) : Int)).toNat : Int) = _
  rw [BitVec.toNat_and, ofInt_i64 _ h1, ofInt_i64 1 (by omega)]
  have h2 : shrN s k &&& 1 = bitN s k := by
    rw [Nat.and_one_is_mod]
    unfold shrN bitN
    rw [Nat.testBit_eq_decide_div_mod_eq]
    have : s / 2 ^ k % 2 < 2 := Nat.mod_lt _ (by omega)
    by_cases h : s / 2 ^ k % 2 = 1
    · simp [h]
    · have h0 : s / 2 ^ k % 2 = 0 := by omega
      simp [h0]
  rw [h2, IntWalk.i64_in _ (by unfold bitN; split <;> omega)]
theorem bits_and1' (s k : Nat) (hs : s < 4611686018427387904) : bits .and .i64 ((s : Int) / 2 ^ k) 1 = ((bitN s k : Nat) : Int) := by
  have := bits_and1 s k hs
  unfold shrN at this
  rw [← this]; simp
theorem wrap_pw (k : Nat) (hk : k ≤ 60) : IntKind.i64.wrap ((2 : Int) ^ k) = ((pw k : Nat) : Int) := by
  have h := pw_le hk
  have e2 : (2 : Int) ^ k = ((pw k : Nat) : Int) := by unfold pw; simp
  rw [e2, IntWalk.i64_in _ (by omega)]
theorem bitN_no {s k : Nat} (h : s.testBit k = false) : (((bitN s k : Nat) : Int) == 0) = true := by unfold bitN; rw [h]; rfl
theorem bitN_yes {s k : Nat} (h : s.testBit k = true) : (((bitN s k : Nat) : Int) == 0) = false := by unfold bitN; rw [h]; rfl
end Go.Proofs.YtbkglhakhahfpaaGreatDoor
