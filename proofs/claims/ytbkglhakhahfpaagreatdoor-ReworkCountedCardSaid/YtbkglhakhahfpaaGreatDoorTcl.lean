/- The contracts of numbers in texts: strconv.Itoa, Atoi; kit.Number, the reference's Number. Conditions: the table of powers of ten as it lies in the library; strings of at most 2^47 bytes; at most 15 digits. · The contracts of texts in parts: kit.Numbers, kit.Lines, kit.Join. Conditions: what lies in the library (TxW); texts of at most 10^6 bytes. -/
import Derived.Test.YtbkglhakhahfpaaGreatDoorKey
import Derived.Test.YtbkglhakhahfpaaGreatDoorLines
import Derived.Test.YtbkglhakhahfpaaGreatDoorDist
import Derived.Lib.SmallJoins
import Derived.Lib.LaidTab
import Derived.Test.YtbkglhakhahfpaaGreatDoorStrs
import Derived.Test.YtbkglhakhahfpaaGreatDoorSl
import Derived.Lib.SplitLaws
namespace Go.Proofs.YtbkglhakhahfpaaGreatDoor
open Go.RowKit Go.Sort

/-- what lies in the library's variables: the powers of ten; some greatest length. -/
structure TxW (w : World) : Prop where
  tab : Lib.TabIs Tryz.prog w "internal/strconv.uint64pow10" .u64 Lib.pow10Tab
  max : ∃ m, w.cell? ⟨0, 0, none⟩ = some (.int .i64 m)
theorem TxW.size {w : World} (h : TxW w) : 1 < w.heap.size ∧ 0 < w.heap.size := by
  refine ⟨?_, ?_⟩
  · have hgn : Tryz.prog.globalNamed "internal/strconv.uint64pow10" = some 1 := by kernel_rfl
    have ht := h.tab
    unfold Lib.TabIs World.var? at ht
    rw [hgn] at ht
    simp only [Option.bind_some] at ht
    rcases Nat.lt_or_ge 1 w.heap.size with h' | h'
    · exact h'
    · rw [Array.getElem?_eq_none h'] at ht; cases ht
  · obtain ⟨m, hm⟩ := h.max
    exact World.block_lt_of_cell? _ _ hm
theorem TxW.below {w w' : World} (h : TxW w) (hb : Below w.heap.size w w') : TxW w' := by
  obtain ⟨h1, h2⟩ := h.size
  refine ⟨?_, ?_⟩
  · have hgn : Tryz.prog.globalNamed "internal/strconv.uint64pow10" = some 1 := by kernel_rfl
    have ht := h.tab
    unfold Lib.TabIs World.var? at ht ⊢
    rw [hgn] at ht ⊢
    simp only [Option.bind_some] at ht ⊢
    rw [hb.block _ h1]
    exact ht
  · obtain ⟨m, hm⟩ := h.max
    exact ⟨m, (hb.cell (p := ⟨0, 0, none⟩) h2).trans hm⟩
theorem below_growN (w : World) (k : Nat) (os : Array Obj) : Below w.heap.size w (grow (w.drewN k) os) :=
  ⟨rfl, rfl, rfl, by simp [grow, World.drewN], fun j hj => by simp [grow, World.drewN, Array.getElem?_append, hj]⟩
theorem Itoa_any (n : Int) (w : World) (hT : TxW w) (h0 : -9223372036854775808 ≤ n) (h1 : n ≤ 9223372036854775807) :
    Calls Tryz.prog 98 #[.int .i64 n] w fun e w' => e = .returned (.string ⟨(Lib.itoa n).toArray⟩) ∧ Below w.heap.size w w' := by
  refine (Tryz.strconv_Itoa n h0 h1 w hT.tab).mono ?_
  rintro e w' ⟨rfl, k, os, rfl⟩
  exact ⟨rfl, below_growN w k os⟩
def digL : List UInt8 := [48, 49, 50, 51, 52, 53, 54, 55, 56, 57]
theorem digL_all : ((List.range 256).all fun n => digL.contains (UInt8.ofNat n) == isDig (UInt8.ofNat n)) = true := by decide +kernel
theorem digL_is (b : UInt8) : digL.contains b = isDig b := by
  have h := List.all_eq_true.1 digL_all b.toNat (List.mem_range.2 b.toNat_lt)
  simpa using h
set_option maxRecDepth 100000 in
theorem trimD_any (s : ByteArray) (w : World) (hs : s.size ≤ 140737488355328) : Calls Tryz.prog 173 #[.string s, .string ⟨#[48, 49, 50, 51, 52, 53, 54, 55, 56, 57]⟩] w fun e w' => e = .returned (.string ⟨(Lib.trimS s.data.toList digL).toArray⟩) ∧ Below w.heap.size w w' :=
  Tryz.strings_Trim s ⟨#[48, 49, 50, 51, 52, 53, 54, 55, 56, 57]⟩ w (by omega) (by show 10 < 4294967281; omega) (by
    intro j b h
    have hb := List.mem_of_getElem? h
    have : ((⟨#[48, 49, 50, 51, 52, 53, 54, 55, 56, 57]⟩ : ByteArray).data.toList.all fun b => decide (b.toNat < 128)) = true := by decide +kernel
    rw [List.all_eq_true] at this
    simpa using this b hb)
theorem trimD_nil (l : List UInt8) : Lib.trimS l digL = [] ↔ ∀ b ∈ l, isDig b = true := by
  rw [trimS_nil, List.all_eq_true]
  constructor
  · intro h b hb; rw [← digL_is]; exact h b hb
  · intro h b hb; rw [digL_is]; exact h b hb
theorem decV_lt : ∀ (l : List UInt8) (a : Nat), (∀ b ∈ l, isDig b = true) → decV a l < (a + 1) * 10 ^ l.length
  | [], a, _ => by simp [decV]
  | b :: r, a, h => by
    have hb : isDig b = true := h b (by simp)
    have h9 : b.toNat % 16 ≤ 9 := by unfold isDig at hb; simp at hb; omega
    have := decV_lt r (a * 10 + (b.toNat % 16)) (fun x hx => h x (by simp [hx]))
    rw [decV_cons, List.length_cons, Nat.pow_succ]
    refine Nat.lt_of_lt_of_le this ?_
    have h2 : a * 10 + b.toNat % 16 + 1 ≤ (a + 1) * 10 := by omega
    calc (a * 10 + b.toNat % 16 + 1) * 10 ^ r.length ≤ (a + 1) * 10 * 10 ^ r.length := Nat.mul_le_mul_right _ h2
      _ = (a + 1) * (10 ^ r.length * 10) := by rw [Nat.mul_assoc, Nat.mul_comm 10]
theorem atoi_dig {d : List UInt8} (h0 : d ≠ []) (h : ∀ b ∈ d, isDig b = true) : Lib.atoi d = some (decV 0 d : Int) := by
  cases d with
  | nil => exact absurd rfl h0
  | cons b r =>
    have hb := h b (by simp)
    have h45 : (b == 45) = false := by
      rw [beq_eq_false_iff_ne]; rintro rfl; revert hb; decide
    have h43 : (b == 43) = false := by
      rw [beq_eq_false_iff_ne]; rintro rfl; revert hb; decide
    simp only [Lib.atoi, h45, h43, Lib.decNat]
    rw [decFrom_decV _ _ h]
    rfl
theorem ba_list (l : List UInt8) : (⟨l.toArray⟩ : ByteArray).toList = l := by rw [ByteArray.toList_eq]
theorem numT_some {most : Nat} {l : List UInt8} (h : (unsign l).1 ≠ [] ∧ (unsign l).1.length ≤ most ∧ (∀ b ∈ (unsign l).1, isDig b = true) ∧ ¬((unsign l).1.head? = some 48 ∧ (1 < (unsign l).1.length ∨ (unsign l).2 = true))) :
    numT most l = some (if (unsign l).2 = true then -(decV 0 (unsign l).1 : Int) else decV 0 (unsign l).1) := by unfold numT; rw [if_pos h]
theorem numT_none {most : Nat} {l : List UInt8} (h : ¬((unsign l).1 ≠ [] ∧ (unsign l).1.length ≤ most ∧ (∀ b ∈ (unsign l).1, isDig b = true) ∧ ¬((unsign l).1.head? = some 48 ∧ (1 < (unsign l).1.length ∨ (unsign l).2 = true)))) : numT most l = none := by unfold numT; rw [if_neg h]
end Go.Proofs.YtbkglhakhahfpaaGreatDoor
namespace Go.Proofs.YtbkglhakhahfpaaGreatDoor
open Go.RowKit Go.Sort

/-- numbers of many pieces. -/
def numsK : List (List UInt8) → Option (List Int)
  | [] => some []
  | x :: r => match numT 15 x with
    | none => none
    | some n => match numsK r with
      | none => none
      | some ns => some (n :: ns)
theorem numsK_snoc {xs : List (List UInt8)} {ns : List Int} (h : numsK xs = some ns) (x : List UInt8) {n : Int} (hx : numT 15 x = some n) : numsK (xs ++ [x]) = some (ns ++ [n]) := by
  induction xs generalizing ns with
  | nil =>
    simp only [numsK, Option.some.injEq] at h
    subst h
    simp [numsK, hx]
  | cons y r ih =>
    rw [List.cons_append]
    rw [numsK] at h ⊢
    cases hy : numT 15 y with
    | none => rw [hy] at h; cases h
    | some m =>
      rw [hy] at h
      cases hr : numsK r with
      | none => simp only [hr] at h; cases h
      | some ms =>
        simp only [hr, Option.some.injEq] at h
        subst h
        simp only [ih hr]
        rfl
theorem numsK_bad {x : List UInt8} (hx : numT 15 x = none) : ∀ (xs ys : List (List UInt8)), numsK (xs ++ x :: ys) = none
  | [], ys => by simp [numsK, hx]
  | y :: r, ys => by
    rw [List.cons_append, numsK, numsK_bad hx r ys]
    cases numT 15 y <;> rfl
theorem strs_at {w : World} {lo : Nat} {a : Option Addr} {n cap : Nat} {l : List ByteArray} (h : RecR TS w lo (.slice a n cap) l) {i : Nat} {x : ByteArray} (hx : l[i]? = some x) :
    ∃ b o, a = some ⟨b, o, none⟩ ∧ lo ≤ b ∧ b < w.heap.size ∧ w.cell? ⟨b, o + i, none⟩ = some (.string x) := by
  obtain ⟨b, o, ha, hl, hb, hc⟩ := h.at TS.ok.len hx (by decide)
  have := hc 0 (.string x) rfl
  rw [show TS.k = 1 from rfl, Nat.mul_one, Nat.add_zero] at this
  exact ⟨b, o, ha, hl, hb, this⟩
theorem suffix_nl (l : List UInt8) : (l.getLast? = some 10 → Lib.hasSuffix l [10] = true ∧ Lib.trimSuffix l [10] = l.dropLast) ∧ (l.getLast? ≠ some 10 → Lib.hasSuffix l [10] = false ∧ Lib.trimSuffix l [10] = l) := by
  have h : Lib.hasSuffix l [10] = true ↔ l.getLast? = some 10 := by
    unfold Lib.hasSuffix
    rw [List.isSuffixOf_iff_suffix]
    constructor
    · rintro ⟨r, rfl⟩; simp
    · intro h
      obtain ⟨r, hr⟩ := List.getLast?_eq_some_iff.1 h
      exact ⟨r, hr.symm⟩
  refine ⟨fun e => ?_, fun e => ?_⟩
  · refine ⟨h.2 e, ?_⟩
    unfold Lib.trimSuffix
    rw [if_pos (h.2 e), List.dropLast_eq_take]; rfl
  · have hf : Lib.hasSuffix l [10] = false := by
      cases hb : Lib.hasSuffix l [10] with
      | false => rfl
      | true => exact absurd (h.1 hb) e
    refine ⟨hf, ?_⟩
    unfold Lib.trimSuffix
    rw [hf]; rfl
end Go.Proofs.YtbkglhakhahfpaaGreatDoor
