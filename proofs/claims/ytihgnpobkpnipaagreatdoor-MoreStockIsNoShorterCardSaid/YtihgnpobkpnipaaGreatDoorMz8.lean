/- Texts of the proof of a law, put together, part 8 of 35. Conditions: none beyond those that each theorem names. -/
import Derived.Test.YtihgnpobkpnipaaGreatDoorMz2
import Derived.Test.YtihgnpobkpnipaaGreatDoorMz4
import Derived.Test.YtihgnpobkpnipaaGreatDoorMz5
import Derived.Test.YtihgnpobkpnipaaGreatDoorMz6
import Derived.Lib.Split
import Derived.Lib.CountLaws
import Derived.Lib.ItoaNum
import Derived.Lib.ItoaMem
import Derived.Lib.Atoi
import Derived.Lib.Join
import Derived.Lib.Strings
import Derived.Lib.SlTrimSet
import Derived.Lib.SmallJoins
import Derived.Lib.LaidTab
import Derived.Lib.SplitLaws
namespace Go.Proofs.YtihgnpobkpnipaaGreatDoor
open Go.Lib
/-! pieces between bytes c -/
/-! decimal digits -/
def isDig (b : UInt8) : Bool := decide (48 ≤ b.toNat) && decide (b.toNat ≤ 57)
/-- the number that digits spell. -/
def decV (a : Nat) (l : List UInt8) : Nat := l.foldl (fun a b => a * 10 + (b.toNat % 16)) a
theorem decV_nil (a : Nat) : decV a [] = a := rfl
theorem decV_cons (a : Nat) (b : UInt8) (r : List UInt8) : decV a (b :: r) = decV (a * 10 + (b.toNat % 16)) r := rfl
theorem decV_snoc (b : UInt8) (l : List UInt8) (a : Nat) : decV a (l ++ [b]) = decV a l * 10 + (b.toNat % 16) := by
  unfold decV; rw [List.foldl_append]; rfl
theorem decFrom_decV : ∀ (l : List UInt8) (a : Nat), (∀ b ∈ l, isDig b = true) → decFrom a l = some (decV a l)
  | [], a, _ => rfl
  | b :: r, a, h => by
    have hb := h b (by simp)
    unfold isDig at hb
    simp only [Bool.and_eq_true, decide_eq_true_eq] at hb
    simp only [decFrom, decV_cons]
    have : digitVal b = some (b.toNat % 16) := by unfold digitVal; rw [if_pos hb, show b.toNat - 48 = b.toNat % 16 by omega]
    rw [this]
    exact decFrom_decV r _ fun x hx => h x (List.mem_cons_of_mem _ hx)
theorem dig_val {d : Nat} (h : d < 10) : (UInt8.ofNat (48 + d)).toNat = 48 + d := by
  rw [UInt8.toNat_ofNat']; omega
theorem dig_is {d : Nat} (h : d < 10) : isDig (UInt8.ofNat (48 + d)) = true := by
  unfold isDig; rw [dig_val h]; simp; omega
theorem dig_back {b : UInt8} (h : isDig b = true) : UInt8.ofNat (48 + (b.toNat % 16)) = b := by
  unfold isDig at h
  simp only [Bool.and_eq_true, decide_eq_true_eq] at h
  rw [show 48 + b.toNat % 16 = b.toNat by omega]
  simp
theorem decDigits_digs (u : Nat) : ∀ b ∈ decDigits u, isDig b = true := by
  induction u using Nat.strongRecOn with
  | _ u ih =>
    intro b hb
    rw [decDigits] at hb
    split at hb
    · rename_i h
      rw [List.mem_singleton] at hb; subst hb
      exact dig_is h
    · rename_i h
      rw [List.mem_append, List.mem_singleton] at hb
      rcases hb with hb | rfl
      · exact ih (u / 10) (by omega) b hb
      · exact dig_is (by omega)
theorem decDigits_val (u : Nat) : decV 0 (decDigits u) = u := by
  induction u using Nat.strongRecOn with
  | _ u ih =>
    rw [decDigits]
    split
    · rename_i h
      rw [decV_cons, decV_nil, dig_val h]; omega
    · rename_i h
      rw [decV_snoc, ih (u / 10) (by omega), dig_val (by omega)]
      omega
theorem decDigits_ne (u : Nat) : decDigits u ≠ [] := by
  intro h
  have := decDigits_length u
  rw [h] at this
  have := nDigits_pos u
  simp at *; omega
theorem decDigits_head (u : Nat) : (decDigits u).head? = some 48 → decDigits u = [48] := by
  induction u using Nat.strongRecOn with
  | _ u ih =>
    intro hh
    rw [decDigits] at hh ⊢
    split at hh
    · rename_i h
      rw [dif_pos h]
      simp only [List.head?_cons, Option.some.injEq] at hh
      rw [hh]
    · rename_i h
      exfalso
      have hne := decDigits_ne (u / 10)
      cases hd : decDigits (u / 10) with
      | nil => exact hne hd
      | cons y ys =>
        rw [hd] at hh
        simp only [List.cons_append, List.head?_cons, Option.some.injEq] at hh
        have := ih (u / 10) (by omega) (by rw [hd, hh]; rfl)
        have hv := decDigits_val (u / 10)
        rw [this] at hv
        rw [decV_cons, decV_nil] at hv
        simp at hv
        omega
theorem decV_pos : ∀ (l : List UInt8) (a : Nat), 1 ≤ a → 1 ≤ decV a l
  | [], a, h => h
  | b :: r, a, h => by rw [decV_cons]; exact decV_pos r _ (by omega)
/-- digits without a leading zero are those of their number. -/
theorem decDigits_of (l : List UInt8) : (∀ b ∈ l, isDig b = true) → l ≠ [] → (l.head? = some 48 → l = [48]) → decDigits (decV 0 l) = l := by
  induction hn : l.length using Nat.strongRecOn generalizing l with
  | _ n ih =>
    intro hd hne hz
    obtain ⟨p, b, rfl⟩ : ∃ p b, l = p ++ [b] := ⟨l.dropLast, l.getLast hne, (List.dropLast_concat_getLast hne).symm⟩
    have hb := hd b (by simp)
    have hb' := hb
    unfold isDig at hb'
    simp only [Bool.and_eq_true, decide_eq_true_eq] at hb'
    rw [decV_snoc]
    by_cases hp : p = []
    · subst hp
      rw [List.nil_append, decV_nil, decDigits, dif_pos (by omega), Nat.zero_mul, Nat.zero_add, dig_back hb]
    · have hpz : p.head? ≠ some 48 := by
        intro h
        have h1 : (p ++ [b]).head? = some 48 := by
          cases p with
          | nil => exact absurd rfl hp
          | cons y ys => simpa using h
        have := hz h1
        have hl := congrArg List.length this
        simp at hl
        exact hp hl
      have hpos : 1 ≤ decV 0 p := by
        cases p with
        | nil => exact absurd rfl hp
        | cons y ys =>
          have hy := hd y (by simp)
          unfold isDig at hy
          simp only [Bool.and_eq_true, decide_eq_true_eq] at hy
          rw [decV_cons]
          apply decV_pos
          apply Classical.byContradiction
          intro hlt
          apply hpz
          have : y.toNat = 48 := by omega
          simp only [List.head?_cons, Option.some.injEq]
          exact UInt8.toNat_inj.1 this
      have := ih p.length (by simp at hn; omega) p rfl (fun x hx => hd x (by simp [hx])) hp (fun h => absurd h hpz)
      rw [decDigits, dif_neg (by omega), show (decV 0 p * 10 + (b.toNat % 16)) / 10 = decV 0 p by omega, show (decV 0 p * 10 + (b.toNat % 16)) % 10 = b.toNat % 16 by omega, this, dig_back hb]
/-! numbers as they are written -/
/-- what follows a minus; whether there is one. -/
def unsign (l : List UInt8) : List UInt8 × Bool := match l with
  | [] => ([], false)
  | b :: r => if b = 45 then (r, true) else (b :: r, false)
/-- a number of at most so many digits; none: it is none. -/
def numT (most : Nat) (l : List UInt8) : Option Int :=
  if (unsign l).1 ≠ [] ∧ (unsign l).1.length ≤ most ∧ (∀ b ∈ (unsign l).1, isDig b = true) ∧ ¬((unsign l).1.head? = some 48 ∧ (1 < (unsign l).1.length ∨ (unsign l).2 = true))
  then some (if (unsign l).2 = true then -(decV 0 (unsign l).1 : Int) else decV 0 (unsign l).1) else none
theorem itoa_unsign (n : Int) : unsign (itoa n) = (decDigits n.natAbs, decide (n < 0)) := by
  unfold itoa
  by_cases h : n < 0
  · rw [if_pos h]; simp [unsign, h]
  · rw [if_neg h]
    have e : n.toNat = n.natAbs := by omega
    rw [e]
    cases hd : decDigits n.natAbs with
    | nil => exact absurd hd (decDigits_ne _)
    | cons b r =>
      have hb := decDigits_digs n.natAbs b (by rw [hd]; simp)
      have : b ≠ 45 := by rintro rfl; exact absurd hb (by decide)
      simp only [unsign]
      rw [if_neg this]; simp [h]
theorem numT_itoa {most : Nat} {n : Int} (h : (decDigits n.natAbs).length ≤ most) : numT most (itoa n) = some n := by
  unfold numT
  rw [itoa_unsign]
  simp only
  rw [if_pos]
  · rw [decDigits_val]
    by_cases hn : n < 0
    · simp [hn]; omega
    · simp [hn]; omega
  · refine ⟨decDigits_ne _, h, decDigits_digs _, fun ⟨h1, h2⟩ => ?_⟩
    have h3 := decDigits_head _ h1
    have hv := decDigits_val n.natAbs
    rw [h3] at hv h2
    rw [decV_cons, decV_nil] at hv
    simp at hv
    simp at h2
    omega
theorem itoa_numT {most : Nat} {n : Int} {l : List UInt8} (h : numT most l = some n) : itoa n = l ∧ (decDigits n.natAbs).length ≤ most := by
  unfold numT at h
  split at h
  · rename_i hc
    obtain ⟨h1, h2, h3, h4⟩ := hc
    have hdd := decDigits_of (unsign l).1 h3 h1 (fun hz => by
      apply Classical.byContradiction
      intro hne
      apply h4
      refine ⟨hz, .inl ?_⟩
      cases hu : (unsign l).1 with
      | nil => exact absurd hu h1
      | cons y ys =>
        rw [hu] at hz hne
        simp only [List.head?_cons, Option.some.injEq] at hz
        subst hz
        cases ys with
        | nil => exact absurd rfl hne
        | cons z zs => simp)
    injection h with h
    cases l with
    | nil => exact absurd rfl h1
    | cons b r =>
      by_cases hb : b = 45
      · have e : unsign (b :: r) = (r, true) := by simp [unsign, hb]
        rw [e] at h h1 h2 h4 hdd
        rw [if_pos rfl] at h
        have hpos : 1 ≤ decV 0 r := by
          apply Classical.byContradiction
          intro hlt
          have hz : decV 0 r = 0 := by omega
          rw [hz] at hdd
          have : decDigits 0 = [48] := by rw [decDigits_one (by omega)]; rfl
          rw [this] at hdd
          apply h4
          rw [← hdd]
          exact ⟨rfl, .inr rfl⟩
        subst h
        have hna : (-(decV 0 r : Int)).natAbs = decV 0 r := by rw [Int.natAbs_neg, Int.natAbs_natCast]
        have hlt : -(decV 0 r : Int) < 0 := by omega
        clear hpos
        unfold itoa
        rw [if_pos hlt, hna, hdd, hb]
        exact ⟨rfl, h2⟩
      · have e : unsign (b :: r) = (b :: r, false) := by simp [unsign, hb]
        rw [e] at h h1 h2 h4 hdd
        rw [if_neg Bool.false_ne_true] at h
        subst h
        unfold itoa
        rw [if_neg (by omega), Int.toNat_natCast, Int.natAbs_natCast, hdd]
        exact ⟨rfl, h2⟩
  · cases h
end Go.Proofs.YtihgnpobkpnipaaGreatDoor
namespace Go.Proofs.YtihgnpobkpnipaaGreatDoor
open Go.Lib
/-! points -/
end Go.Proofs.YtihgnpobkpnipaaGreatDoor
namespace Go.Proofs.YtihgnpobkpnipaaGreatDoor
open Go.RowKit Go.Sort
/-- what lies in the library's variables: the powers of ten; some greatest length. -/
structure TxW (w : World) : Prop where
  tab : Lib.TabIs Tryz.prog w "internal/strconv.uint64pow10" .u64 Lib.pow10Tab
  max : ∃ m, w.cell? ⟨0, 0, none⟩ = some (.int .i64 m)
theorem TxW.size {w : World} (h : TxW w) : 3 < w.heap.size ∧ 0 < w.heap.size := by
  refine ⟨?_, ?_⟩
  · have hgn : Tryz.prog.globalNamed "internal/strconv.uint64pow10" = some 3 := by kernel_rfl
    have ht := h.tab
    unfold Lib.TabIs World.var? at ht
    rw [hgn] at ht
    simp only [Option.bind_some] at ht
    rcases Nat.lt_or_ge 3 w.heap.size with h' | h'
    · exact h'
    · rw [Array.getElem?_eq_none h'] at ht; cases ht
  · obtain ⟨m, hm⟩ := h.max
    exact World.block_lt_of_cell? _ _ hm
theorem TxW.below {w w' : World} (h : TxW w) (hb : Below w.heap.size w w') : TxW w' := by
  obtain ⟨h1, h2⟩ := h.size
  refine ⟨?_, ?_⟩
  · have hgn : Tryz.prog.globalNamed "internal/strconv.uint64pow10" = some 3 := by kernel_rfl
    have ht := h.tab
    unfold Lib.TabIs World.var? at ht ⊢
    rw [hgn] at ht ⊢
    simp only [Option.bind_some] at ht ⊢
    rw [hb.block _ h1]
    exact ht
  · obtain ⟨m, hm⟩ := h.max
    exact ⟨m, (hb.cell (p := ⟨0, 0, none⟩) h2).trans hm⟩
theorem below_growN (w : World) (k : Nat) (os : Array Obj) : Below w.heap.size w (grow (w.drewN k) os) :=
  ⟨rfl, rfl, rfl, by simp [grow, World.drewN], fun j hj => by simp [grow, World.drewN, Array.getElem?_append, hj]⟩
theorem Itoa_any (n : Int) (w : World) (hT : TxW w) (h0 : -9223372036854775808 ≤ n) (h1 : n ≤ 9223372036854775807) :
    Calls Tryz.prog 25 #[.int .i64 n] w fun e w' => e = .returned (.string ⟨(Lib.itoa n).toArray⟩) ∧ Below w.heap.size w w' := by
  refine (Tryz.strconv_Itoa n h0 h1 w hT.tab).mono ?_
  rintro e w' ⟨rfl, k, os, rfl⟩
  exact ⟨rfl, below_growN w k os⟩
theorem Atoi_any (s : ByteArray) (n : Int) (w : World) (hl : s.size ≤ 18) (h : Lib.atoi s.data.toList = some n) :
    Calls Tryz.prog 71 #[.string s] w fun e w' => e = .returned (.tuple #[.int .i64 n, .nilIface]) ∧ Below w.heap.size w w' := by
  refine (Tryz.strconv_Atoi s n hl h w).mono ?_
  rintro e w' ⟨rfl, t, rfl⟩
  exact ⟨rfl, Joins.below_bytesWorld _ w _ t (Nat.le_refl _)⟩
def digL : List UInt8 := [48, 49, 50, 51, 52, 53, 54, 55, 56, 57]
theorem digL_all : ((List.range 256).all fun n => digL.contains (UInt8.ofNat n) == isDig (UInt8.ofNat n)) = true := by decide +kernel
theorem digL_is (b : UInt8) : digL.contains b = isDig b := by
  have h := List.all_eq_true.1 digL_all b.toNat (List.mem_range.2 b.toNat_lt)
  simpa using h
set_option maxRecDepth 100000 in
theorem trimD_any (s : ByteArray) (w : World) (hs : s.size ≤ 140737488355328) : Calls Tryz.prog 70 #[.string s, .string ⟨#[48, 49, 50, 51, 52, 53, 54, 55, 56, 57]⟩] w fun e w' => e = .returned (.string ⟨(Lib.trimS s.data.toList digL).toArray⟩) ∧ Below w.heap.size w w' :=
  Tryz.strings_Trim s ⟨#[48, 49, 50, 51, 52, 53, 54, 55, 56, 57]⟩ w (by omega) (by show 10 < 4294967281; omega) (by
    intro j b h
    have hb := List.mem_of_getElem? h
    have : ((⟨#[48, 49, 50, 51, 52, 53, 54, 55, 56, 57]⟩ : ByteArray).data.toList.all fun b => decide (b.toNat < 128)) = true := by decide +kernel
    rw [List.all_eq_true] at this
    simpa using this b hb)
theorem trimD_nil (l : List UInt8) : Lib.trimS l digL = [] ↔ ∀ b ∈ l, isDig b = true := by
  rw [trimS_nil, List.all_eq_true]
  constructor
  · intro h b hb; rw [← digL_is]; exact h b hb
  · intro h b hb; rw [digL_is]; exact h b hb
theorem cutMinus_any (s : ByteArray) (w : World) : Calls Tryz.prog 136 #[.string s, .string ⟨#[45]⟩] w fun e w' => e = .returned (.tuple #[.string ⟨(unsign s.data.toList).1.toArray⟩, .bool (unsign s.data.toList).2]) ∧ w = w' := by
  have h1 : Lib.trimPrefix s.data.toList [45] = (unsign s.data.toList).1 ∧ Lib.hasPrefix s.data.toList [45] = (unsign s.data.toList).2 := by
    unfold Lib.trimPrefix Lib.hasPrefix unsign
    cases s.data.toList with
    | nil => simp
    | cons b r =>
      by_cases hb : b = 45
      · subst hb; simp
      · have : ¬ (45 : UInt8) = b := fun e => hb e.symm
        simp [hb, this, List.isPrefixOf]
  refine (Tryz.strings_CutPrefix s ⟨#[45]⟩ w).mono ?_
  rintro e w' ⟨rfl, rfl⟩
  exact ⟨by rw [show (⟨#[45]⟩ : ByteArray).data.toList = [45] from rfl, h1.1, h1.2], rfl⟩
theorem decV_lt : ∀ (l : List UInt8) (a : Nat), (∀ b ∈ l, isDig b = true) → decV a l < (a + 1) * 10 ^ l.length
  | [], a, _ => by simp [decV]
  | b :: r, a, h => by
    have hb : isDig b = true := h b (by simp)
    have h9 : b.toNat % 16 ≤ 9 := by unfold isDig at hb; simp at hb; omega
    have := decV_lt r (a * 10 + (b.toNat % 16)) (fun x hx => h x (by simp [hx]))
    rw [decV_cons, List.length_cons, Nat.pow_succ]
    refine Nat.lt_of_lt_of_le this ?_
    have h2 : a * 10 + b.toNat % 16 + 1 ≤ (a + 1) * 10 := by omega
    calc (a * 10 + b.toNat % 16 + 1) * 10 ^ r.length ≤ (a + 1) * 10 * 10 ^ r.length := Nat.mul_le_mul_right _ h2
      _ = (a + 1) * (10 ^ r.length * 10) := by rw [Nat.mul_assoc, Nat.mul_comm 10]
theorem atoi_dig {d : List UInt8} (h0 : d ≠ []) (h : ∀ b ∈ d, isDig b = true) : Lib.atoi d = some (decV 0 d : Int) := by
  cases d with
  | nil => exact absurd rfl h0
  | cons b r =>
    have hb := h b (by simp)
    have h45 : (b == 45) = false := by
      rw [beq_eq_false_iff_ne]; rintro rfl; revert hb; decide
    have h43 : (b == 43) = false := by
      rw [beq_eq_false_iff_ne]; rintro rfl; revert hb; decide
    simp only [Lib.atoi, h45, h43, Lib.decNat]
    rw [decFrom_decV _ _ h]
    rfl
theorem ba_list (l : List UInt8) : (⟨l.toArray⟩ : ByteArray).toList = l := by rw [ByteArray.toList_eq]
theorem numT_some {most : Nat} {l : List UInt8} (h : (unsign l).1 ≠ [] ∧ (unsign l).1.length ≤ most ∧ (∀ b ∈ (unsign l).1, isDig b = true) ∧ ¬((unsign l).1.head? = some 48 ∧ (1 < (unsign l).1.length ∨ (unsign l).2 = true))) :
    numT most l = some (if (unsign l).2 = true then -(decV 0 (unsign l).1 : Int) else decV 0 (unsign l).1) := by unfold numT; rw [if_pos h]
theorem numT_none {most : Nat} {l : List UInt8} (h : ¬((unsign l).1 ≠ [] ∧ (unsign l).1.length ≤ most ∧ (∀ b ∈ (unsign l).1, isDig b = true) ∧ ¬((unsign l).1.head? = some 48 ∧ (1 < (unsign l).1.length ∨ (unsign l).2 = true)))) : numT most l = none := by unfold numT; rw [if_neg h]
set_option maxHeartbeats 4000000 in
set_option maxRecDepth 100000 in
theorem Number_any (s : ByteArray) (most : Nat) (w : World) (hs : s.size ≤ 140737488355328) (hm : most ≤ 15) :
    Calls Tryz.prog 102 #[.string s, .int .i64 most] w fun e w' => e = .returned (.tuple #[.int .i64 ((numT most s.data.toList).getD 0), .bool (numT most s.data.toList).isSome]) ∧ Below w.heap.size w w' := by
  have HC := Lib.hid (fun W => cutMinus_any s W)
  obtain ⟨d, hd⟩ : ∃ d, d = (unsign s.data.toList).1 := ⟨_, rfl⟩
  obtain ⟨ng, hng⟩ : ∃ ng, ng = (unsign s.data.toList).2 := ⟨_, rfl⟩
  have hdl : d.length ≤ s.size := by
    rw [hd]
    have : s.data.toList.length = s.size := Array.length_toList
    rw [← this]
    unfold unsign
    cases s.data.toList with
    | nil => simp
    | cons b r =>
      simp only
      by_cases hb : b = 45
      · rw [if_pos hb]; simp
      · rw [if_neg hb]; exact Nat.le_refl _
  rw [← hd, ← hng] at HC
  have hno : ¬(d ≠ [] ∧ d.length ≤ most ∧ (∀ b ∈ d, isDig b = true) ∧ ¬(d.head? = some 48 ∧ (1 < d.length ∨ ng = true))) → numT most s.data.toList = none := fun h => numT_none (by rw [← hd, ← hng]; exact h)
  have hyes : (d ≠ [] ∧ d.length ≤ most ∧ (∀ b ∈ d, isDig b = true) ∧ ¬(d.head? = some 48 ∧ (1 < d.length ∨ ng = true))) → numT most s.data.toList = some (if ng = true then -(decV 0 d : Int) else decV 0 d) := fun h => by
    rw [numT_some (by rw [← hd, ← hng]; exact h), ← hd, ← hng]
  have HNO := Lib.hid hno
  have HYES := Lib.hid hyes
  clear hd hng hno hyes
  generalize numT most s.data.toList = r at *
  obtain ⟨ds, hds⟩ : ∃ ds : ByteArray, ds = ⟨d.toArray⟩ := ⟨_, rfl⟩
  have hdd : ds.data.toList = d := by rw [hds]
  have hsz : ds.size = d.length := by rw [← hdd]; exact (Array.length_toList).symm
  have htl : ds.toList = d := by rw [hds]; exact ba_list d
  rw [← hds] at HC
  by_cases h0 : d = []
  · have HR : Hid (r = none) := Lib.hid (HNO.out fun h => h.1 h0)
    have hde : ds = ⟨#[]⟩ := by rw [hds, h0]
    subst hde
    clear hds hdd hsz htl
    go_enter Tryz.func102, Tryz.ntmps102
    go_wp2_with fail
    refine (HC.out _).mono ?_
    rintro e w' ⟨rfl, rfl⟩
    go_wp2
    go_ret2
    exact ⟨by rw [HR.out] <;> rfl, Below.refl _ _⟩
  · have e1 : ds.toList.isEmpty = false := by
      rw [htl]; cases d with | nil => exact absurd rfl h0 | cons => rfl
    have e2 : ¬ ds.toList = [] := by rw [htl]; exact h0
    have hpos : 0 < ds.size := by rw [hsz]; exact List.length_pos_iff.2 h0
    have hposI : (0 : Int) < (ds.size : Int) := by omega
    by_cases h1 : d.length ≤ most
    · have e3 : ¬ (most : Int) < (ds.size : Int) := by omega
      have HTR := Lib.hid (fun W => trimD_any ds W (by omega))
      have htn := trimD_nil ds.data.toList
      by_cases hall : ∀ b ∈ d, isDig b = true
      · rw [htn.2 (by rw [hdd]; exact hall)] at HTR
        have hh : d.head? = some ds[0] := by
          have : ds.data.toList[0]? = some ds[0] := by
            rw [Array.getElem?_toList]; exact Array.getElem?_eq_getElem hpos
          rw [hdd] at this
          rw [List.head?_eq_getElem?]; exact this
        have hAt := atoi_dig h0 hall
        rw [← hdd] at hAt
        have hlt := decV_lt d 0 hall
        have hp15 : 10 ^ d.length ≤ 10 ^ 15 := Nat.pow_le_pow_right (by omega) (by omega)
        have hv : decV 0 d < 1000000000000000 := by
          have : (10 : Nat) ^ 15 = 1000000000000000 := rfl
          omega
        have HAT := Lib.hid (fun W => Atoi_any ds (decV 0 ds.data.toList : Int) W (by omega) hAt)
        rw [hdd] at HAT
        have hw : IntKind.i64.wrap (-((decV 0 d : Nat) : Int)) = -((decV 0 d : Nat) : Int) := IntWalk.i64_in _ (by omega)
        by_cases h48 : ds[0] = 48
        · have e4 : ((ds[0].toNat : Int) == 48) = true := by rw [h48]; rfl
          by_cases hbad : 1 < d.length ∨ ng = true
          · have HR : Hid (r = none) := Lib.hid (HNO.out fun h => h.2.2.2 ⟨by rw [hh, h48], hbad⟩)
            clear hAt hlt hp15 htn hall hh h48 hds hdd htl HAT
            by_cases h1d : 1 < d.length
            · have e5 : (1 : Int) < (ds.size : Int) := by omega
              clear hbad
              go_enter Tryz.func102, Tryz.ntmps102
              go_wp2_with fail
              refine (HC.out _).mono ?_
              rintro e w' ⟨rfl, rfl⟩
              go_wp2_with fail
              refine (HTR.out _).mono ?_
              rintro e w1 ⟨rfl, hb1⟩
              go_wp2
              go_ret2
              exact ⟨by rw [HR.out] <;> rfl, hb1⟩
            · have e5 : ¬ (1 : Int) < (ds.size : Int) := by omega
              obtain rfl : ng = true := hbad.resolve_left h1d
              go_enter Tryz.func102, Tryz.ntmps102
              go_wp2_with fail
              refine (HC.out _).mono ?_
              rintro e w' ⟨rfl, rfl⟩
              go_wp2_with fail
              refine (HTR.out _).mono ?_
              rintro e w1 ⟨rfl, hb1⟩
              go_wp2
              go_ret2
              exact ⟨by rw [HR.out] <;> rfl, hb1⟩
          · have e5 : ¬ (1 : Int) < (ds.size : Int) := by omega
            have hngf : ng = false := by cases ng with | false => rfl | true => exact absurd (.inr rfl) hbad
            subst hngf
            have HR : Hid (r = some ((decV 0 d : Nat) : Int)) := Lib.hid (by rw [HYES.out ⟨h0, h1, hall, fun h => hbad h.2⟩]; rfl)
            clear hAt hlt hp15 htn hall hh h48 hds hdd htl hbad
            go_enter Tryz.func102, Tryz.ntmps102
            go_wp2_with fail
            refine (HC.out _).mono ?_
            rintro e w' ⟨rfl, rfl⟩
            go_wp2_with fail
            refine (HTR.out _).mono ?_
            rintro e w1 ⟨rfl, hb1⟩
            go_wp2_with fail
            refine (HAT.out _).mono ?_
            rintro e w2 ⟨rfl, hb2⟩
            go_wp2
            go_region
            all_goals (
              go_wp2
              go_ret2
              exact ⟨by rw [HR.out] <;> rfl, Below.drew (Bl.trans hb1 hb2)⟩)
        · have e4 : ((ds[0].toNat : Int) == 48) = false := by
            rw [beq_eq_false_iff_ne]
            intro h
            exact h48 (UInt8.toNat_inj.1 (by show ds[0].toNat = 48; omega))
          have HR : Hid (r = some (if ng = true then -((decV 0 d : Nat) : Int) else ((decV 0 d : Nat) : Int))) := Lib.hid (HYES.out ⟨h0, h1, hall, fun h => h48 (by have := h.1; rw [hh] at this; injection this)⟩)
          clear hAt hlt hp15 htn hall hh h48 hds hdd htl
          cases ng
          all_goals
            go_enter Tryz.func102, Tryz.ntmps102
            go_wp2_with fail
            refine (HC.out _).mono ?_
            rintro e w' ⟨rfl, rfl⟩
            go_wp2_with fail
            refine (HTR.out _).mono ?_
            rintro e w1 ⟨rfl, hb1⟩
            go_wp2_with fail
            refine (HAT.out _).mono ?_
            rintro e w2 ⟨rfl, hb2⟩
            go_wp2
            go_region
            all_goals (
              go_wp2
              go_ret2
              exact ⟨by rw [HR.out] <;> rfl, Below.drew (Bl.trans hb1 hb2)⟩)
      · have HR : Hid (r = none) := Lib.hid (HNO.out fun h => hall h.2.2.1)
        obtain ⟨b, m, hbm⟩ : ∃ b m, Lib.trimS ds.data.toList digL = b :: m := by
          cases h : Lib.trimS ds.data.toList digL with
          | nil => exact absurd (by rw [← hdd]; exact htn.1 h) hall
          | cons b m => exact ⟨b, m, rfl⟩
        rw [hbm] at HTR
        have f1 : (⟨(b :: m).toArray⟩ : ByteArray).toList.isEmpty = false := by rw [ba_list]; rfl
        have f2 : ¬ (⟨(b :: m).toArray⟩ : ByteArray).toList = [] := by rw [ba_list]; simp
        clear htn hall hbm hds hdd htl hsz
        generalize (⟨(b :: m).toArray⟩ : ByteArray) = tr at *
        go_enter Tryz.func102, Tryz.ntmps102
        go_wp2_with fail
        refine (HC.out _).mono ?_
        rintro e w' ⟨rfl, rfl⟩
        go_wp2_with fail
        refine (HTR.out _).mono ?_
        rintro e w1 ⟨rfl, hb1⟩
        go_wp2
        go_ret2
        exact ⟨by rw [HR.out] <;> rfl, hb1⟩
    · have HR : Hid (r = none) := Lib.hid (HNO.out fun h => h1 h.2.1)
      have e3 : (most : Int) < (ds.size : Int) := by omega
      clear hds hdd htl hsz
      go_enter Tryz.func102, Tryz.ntmps102
      go_wp2_with fail
      refine (HC.out _).mono ?_
      rintro e w' ⟨rfl, rfl⟩
      go_wp2
      go_ret2
      exact ⟨by rw [HR.out] <;> rfl, Below.refl _ _⟩
end Go.Proofs.YtihgnpobkpnipaaGreatDoor
namespace Go.Proofs.YtihgnpobkpnipaaGreatDoor
open Go.RowKit Go.Sort
end Go.Proofs.YtihgnpobkpnipaaGreatDoor
