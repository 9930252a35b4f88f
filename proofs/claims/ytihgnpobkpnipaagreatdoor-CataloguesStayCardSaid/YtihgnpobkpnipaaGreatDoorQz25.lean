/- Texts of the proof of a law, put together, part 25 of 41. Conditions: none beyond those that each theorem names. -/
import Derived.Test.YtihgnpobkpnipaaGreatDoorQz1
import Derived.Test.YtihgnpobkpnipaaGreatDoorQz3
import Derived.Test.YtihgnpobkpnipaaGreatDoorQz11
import Derived.Lib.Split
import Derived.Lib.CountLaws
import Derived.Lib.ItoaNum
import Derived.Lib.ItoaMem
import Derived.Lib.Atoi
import Derived.Lib.Join
import Derived.Lib.Strings
import Derived.Lib.SlTrimSet
import Derived.Lib.SmallJoins
import Derived.Lib.LaidTab
import Derived.Lib.SplitLaws
namespace Go.Proofs.YtihgnpobkpnipaaGreatDoor
open Go.Lib
/-! pieces between bytes c -/
def splitL (c : UInt8) : List UInt8 → List (List UInt8)
  | [] => [[]]
  | b :: r => if b = c then [] :: splitL c r else match splitL c r with
    | [] => [[b]]
    | x :: xs => (b :: x) :: xs
theorem splitL_ne (c : UInt8) : ∀ l, splitL c l ≠ []
  | [] => by simp [splitL]
  | b :: r => by
    simp only [splitL]
    split
    · simp
    · split <;> simp
theorem splitL_no {c : UInt8} : ∀ {l : List UInt8}, c ∉ l → splitL c l = [l]
  | [], _ => rfl
  | b :: r, h => by
    have h1 : b ≠ c := fun e => h (by simp [e])
    simp only [splitL]
    rw [if_neg h1, splitL_no fun hr => h (List.mem_cons_of_mem _ hr)]
theorem splitL_sep {c : UInt8} (b : List UInt8) : ∀ {a : List UInt8}, c ∉ a → splitL c (a ++ c :: b) = a :: splitL c b
  | [], _ => by simp [splitL]
  | x :: a, h => by
    have h1 : x ≠ c := fun e => h (by simp [e])
    rw [List.cons_append]
    simp only [splitL]
    rw [if_neg h1, splitL_sep b fun hr => h (List.mem_cons_of_mem _ hr)]
/-- pieces with c between. -/
def joinL (c : UInt8) : List (List UInt8) → List UInt8
  | [] => []
  | [x] => x
  | x :: y :: r => x ++ c :: joinL c (y :: r)
theorem split_join (c : UInt8) : ∀ (xs : List (List UInt8)), xs ≠ [] → (∀ x ∈ xs, c ∉ x) → splitL c (joinL c xs) = xs
  | [], h, _ => absurd rfl h
  | [x], _, h => by simp only [joinL]; exact splitL_no (h x (by simp))
  | x :: y :: r, _, h => by
    simp only [joinL]
    rw [splitL_sep _ (h x (by simp)), split_join c (y :: r) (by simp) fun z hz => h z (List.mem_cons_of_mem _ hz)]
theorem splitL_len (c : UInt8) : ∀ l, (splitL c l).length = l.count c + 1
  | [] => rfl
  | b :: r => by
    have ih := splitL_len c r
    simp only [splitL]
    by_cases hb : b = c
    · subst hb
      rw [if_pos rfl, List.length_cons, ih, List.count_cons_self]
    · rw [if_neg hb, List.count_cons_of_ne hb, ← ih]
      cases hs : splitL c r with
      | nil => exact absurd hs (splitL_ne c r)
      | cons y ys => rfl
theorem index_one (c : UInt8) : ∀ l : List UInt8, (index l [c] = -1 ∧ c ∉ l) ∨ ∃ i : Nat, index l [c] = i ∧ i < l.length ∧ c ∉ l.take i ∧ l.drop i = c :: l.drop (i + 1)
  | [] => .inl ⟨rfl, by simp⟩
  | b :: r => by
    rw [index]
    by_cases hb : c = b
    · subst hb
      rw [if_pos (by simp)]
      exact .inr ⟨0, rfl, by simp, by simp, by simp⟩
    · rw [if_neg (by simp [hb])]
      rcases index_one c r with ⟨h1, h2⟩ | ⟨i, h1, h2, h3, h4⟩
      · rw [h1]
        exact .inl ⟨rfl, by simp [hb, h2]⟩
      · rw [h1, if_neg (by simp <;> omega)]
        exact .inr ⟨i + 1, by omega, by simp; omega, by simp [hb, h3], by simpa using h4⟩
theorem splitK_one (c : UInt8) : ∀ (k : Nat) (l : List UInt8), l.count c = k → splitK [c] 0 k l = splitL c l
  | 0, l, h => by
    rw [splitL_no (List.count_eq_zero.1 h)]; rfl
  | k + 1, l, h => by
    rcases index_one c l with ⟨_, h2⟩ | ⟨i, h1, h2, h3, h4⟩
    · rw [List.count_eq_zero.2 h2] at h; omega
    · have hl : l = l.take i ++ c :: l.drop (i + 1) := by
        conv => lhs; rw [← List.take_append_drop i l, h4]
      rw [splitK, h1, if_neg (by simp <;> omega)]
      have e1 : ((i : Int)).toNat = i := by omega
      rw [e1, Nat.add_zero, List.length_singleton]
      have hc : (l.drop (i + 1)).count c = k := by
        rw [hl, List.count_append, List.count_eq_zero.2 h3, List.count_cons_self] at h
        omega
      rw [splitK_one c k _ hc]
      conv => rhs; rw [hl, splitL_sep _ h3]
theorem split_bytes (s : ByteArray) (c : UInt8) (hc : countB s ⟨#[c]⟩ = s.data.toList.count c) : (splitB ⟨#[c]⟩ 0 (countB s ⟨#[c]⟩) s).map (·.data.toList) = splitL c s.data.toList := by
  rw [splitB_data, hc]
  exact splitK_one c _ _ rfl
/-! decimal digits -/
def isDig (b : UInt8) : Bool := decide (48 ≤ b.toNat) && decide (b.toNat ≤ 57)
/-- the number that digits spell. -/
def decV (a : Nat) (l : List UInt8) : Nat := l.foldl (fun a b => a * 10 + (b.toNat % 16)) a
theorem decV_nil (a : Nat) : decV a [] = a := rfl
theorem decV_cons (a : Nat) (b : UInt8) (r : List UInt8) : decV a (b :: r) = decV (a * 10 + (b.toNat % 16)) r := rfl
theorem decV_snoc (b : UInt8) (l : List UInt8) (a : Nat) : decV a (l ++ [b]) = decV a l * 10 + (b.toNat % 16) := by
  unfold decV; rw [List.foldl_append]; rfl
theorem decFrom_decV : ∀ (l : List UInt8) (a : Nat), (∀ b ∈ l, isDig b = true) → decFrom a l = some (decV a l)
  | [], a, _ => rfl
  | b :: r, a, h => by
    have hb := h b (by simp)
    unfold isDig at hb
    simp only [Bool.and_eq_true, decide_eq_true_eq] at hb
    simp only [decFrom, decV_cons]
    have : digitVal b = some (b.toNat % 16) := by unfold digitVal; rw [if_pos hb, show b.toNat - 48 = b.toNat % 16 by omega]
    rw [this]
    exact decFrom_decV r _ fun x hx => h x (List.mem_cons_of_mem _ hx)
theorem dig_val {d : Nat} (h : d < 10) : (UInt8.ofNat (48 + d)).toNat = 48 + d := by
  rw [UInt8.toNat_ofNat']; omega
theorem dig_is {d : Nat} (h : d < 10) : isDig (UInt8.ofNat (48 + d)) = true := by
  unfold isDig; rw [dig_val h]; simp; omega
theorem dig_back {b : UInt8} (h : isDig b = true) : UInt8.ofNat (48 + (b.toNat % 16)) = b := by
  unfold isDig at h
  simp only [Bool.and_eq_true, decide_eq_true_eq] at h
  rw [show 48 + b.toNat % 16 = b.toNat by omega]
  simp
theorem decDigits_digs (u : Nat) : ∀ b ∈ decDigits u, isDig b = true := by
  induction u using Nat.strongRecOn with
  | _ u ih =>
    intro b hb
    rw [decDigits] at hb
    split at hb
    · rename_i h
      rw [List.mem_singleton] at hb; subst hb
      exact dig_is h
    · rename_i h
      rw [List.mem_append, List.mem_singleton] at hb
      rcases hb with hb | rfl
      · exact ih (u / 10) (by omega) b hb
      · exact dig_is (by omega)
theorem decDigits_val (u : Nat) : decV 0 (decDigits u) = u := by
  induction u using Nat.strongRecOn with
  | _ u ih =>
    rw [decDigits]
    split
    · rename_i h
      rw [decV_cons, decV_nil, dig_val h]; omega
    · rename_i h
      rw [decV_snoc, ih (u / 10) (by omega), dig_val (by omega)]
      omega
theorem decDigits_ne (u : Nat) : decDigits u ≠ [] := by
  intro h
  have := decDigits_length u
  rw [h] at this
  have := nDigits_pos u
  simp at *; omega
theorem decDigits_head (u : Nat) : (decDigits u).head? = some 48 → decDigits u = [48] := by
  induction u using Nat.strongRecOn with
  | _ u ih =>
    intro hh
    rw [decDigits] at hh ⊢
    split at hh
    · rename_i h
      rw [dif_pos h]
      simp only [List.head?_cons, Option.some.injEq] at hh
      rw [hh]
    · rename_i h
      exfalso
      have hne := decDigits_ne (u / 10)
      cases hd : decDigits (u / 10) with
      | nil => exact hne hd
      | cons y ys =>
        rw [hd] at hh
        simp only [List.cons_append, List.head?_cons, Option.some.injEq] at hh
        have := ih (u / 10) (by omega) (by rw [hd, hh]; rfl)
        have hv := decDigits_val (u / 10)
        rw [this] at hv
        rw [decV_cons, decV_nil] at hv
        simp at hv
        omega
theorem decV_pos : ∀ (l : List UInt8) (a : Nat), 1 ≤ a → 1 ≤ decV a l
  | [], a, h => h
  | b :: r, a, h => by rw [decV_cons]; exact decV_pos r _ (by omega)
/-- digits without a leading zero are those of their number. -/
theorem decDigits_of (l : List UInt8) : (∀ b ∈ l, isDig b = true) → l ≠ [] → (l.head? = some 48 → l = [48]) → decDigits (decV 0 l) = l := by
  induction hn : l.length using Nat.strongRecOn generalizing l with
  | _ n ih =>
    intro hd hne hz
    obtain ⟨p, b, rfl⟩ : ∃ p b, l = p ++ [b] := ⟨l.dropLast, l.getLast hne, (List.dropLast_concat_getLast hne).symm⟩
    have hb := hd b (by simp)
    have hb' := hb
    unfold isDig at hb'
    simp only [Bool.and_eq_true, decide_eq_true_eq] at hb'
    rw [decV_snoc]
    by_cases hp : p = []
    · subst hp
      rw [List.nil_append, decV_nil, decDigits, dif_pos (by omega), Nat.zero_mul, Nat.zero_add, dig_back hb]
    · have hpz : p.head? ≠ some 48 := by
        intro h
        have h1 : (p ++ [b]).head? = some 48 := by
          cases p with
          | nil => exact absurd rfl hp
          | cons y ys => simpa using h
        have := hz h1
        have hl := congrArg List.length this
        simp at hl
        exact hp hl
      have hpos : 1 ≤ decV 0 p := by
        cases p with
        | nil => exact absurd rfl hp
        | cons y ys =>
          have hy := hd y (by simp)
          unfold isDig at hy
          simp only [Bool.and_eq_true, decide_eq_true_eq] at hy
          rw [decV_cons]
          apply decV_pos
          apply Classical.byContradiction
          intro hlt
          apply hpz
          have : y.toNat = 48 := by omega
          simp only [List.head?_cons, Option.some.injEq]
          exact UInt8.toNat_inj.1 this
      have := ih p.length (by simp at hn; omega) p rfl (fun x hx => hd x (by simp [hx])) hp (fun h => absurd h hpz)
      rw [decDigits, dif_neg (by omega), show (decV 0 p * 10 + (b.toNat % 16)) / 10 = decV 0 p by omega, show (decV 0 p * 10 + (b.toNat % 16)) % 10 = b.toNat % 16 by omega, this, dig_back hb]
/-! numbers as they are written -/
/-- what follows a minus; whether there is one. -/
def unsign (l : List UInt8) : List UInt8 × Bool := match l with
  | [] => ([], false)
  | b :: r => if b = 45 then (r, true) else (b :: r, false)
/-- a number of at most so many digits; none: it is none. -/
def numT (most : Nat) (l : List UInt8) : Option Int :=
  if (unsign l).1 ≠ [] ∧ (unsign l).1.length ≤ most ∧ (∀ b ∈ (unsign l).1, isDig b = true) ∧ ¬((unsign l).1.head? = some 48 ∧ (1 < (unsign l).1.length ∨ (unsign l).2 = true))
  then some (if (unsign l).2 = true then -(decV 0 (unsign l).1 : Int) else decV 0 (unsign l).1) else none
theorem itoa_unsign (n : Int) : unsign (itoa n) = (decDigits n.natAbs, decide (n < 0)) := by
  unfold itoa
  by_cases h : n < 0
  · rw [if_pos h]; simp [unsign, h]
  · rw [if_neg h]
    have e : n.toNat = n.natAbs := by omega
    rw [e]
    cases hd : decDigits n.natAbs with
    | nil => exact absurd hd (decDigits_ne _)
    | cons b r =>
      have hb := decDigits_digs n.natAbs b (by rw [hd]; simp)
      have : b ≠ 45 := by rintro rfl; exact absurd hb (by decide)
      simp only [unsign]
      rw [if_neg this]; simp [h]
theorem numT_itoa {most : Nat} {n : Int} (h : (decDigits n.natAbs).length ≤ most) : numT most (itoa n) = some n := by
  unfold numT
  rw [itoa_unsign]
  simp only
  rw [if_pos]
  · rw [decDigits_val]
    by_cases hn : n < 0
    · simp [hn]; omega
    · simp [hn]; omega
  · refine ⟨decDigits_ne _, h, decDigits_digs _, fun ⟨h1, h2⟩ => ?_⟩
    have h3 := decDigits_head _ h1
    have hv := decDigits_val n.natAbs
    rw [h3] at hv h2
    rw [decV_cons, decV_nil] at hv
    simp at hv
    simp at h2
    omega
theorem itoa_numT {most : Nat} {n : Int} {l : List UInt8} (h : numT most l = some n) : itoa n = l ∧ (decDigits n.natAbs).length ≤ most := by
  unfold numT at h
  split at h
  · rename_i hc
    obtain ⟨h1, h2, h3, h4⟩ := hc
    have hdd := decDigits_of (unsign l).1 h3 h1 (fun hz => by
      apply Classical.byContradiction
      intro hne
      apply h4
      refine ⟨hz, .inl ?_⟩
      cases hu : (unsign l).1 with
      | nil => exact absurd hu h1
      | cons y ys =>
        rw [hu] at hz hne
        simp only [List.head?_cons, Option.some.injEq] at hz
        subst hz
        cases ys with
        | nil => exact absurd rfl hne
        | cons z zs => simp)
    injection h with h
    cases l with
    | nil => exact absurd rfl h1
    | cons b r =>
      by_cases hb : b = 45
      · have e : unsign (b :: r) = (r, true) := by simp [unsign, hb]
        rw [e] at h h1 h2 h4 hdd
        rw [if_pos rfl] at h
        have hpos : 1 ≤ decV 0 r := by
          apply Classical.byContradiction
          intro hlt
          have hz : decV 0 r = 0 := by omega
          rw [hz] at hdd
          have : decDigits 0 = [48] := by rw [decDigits_one (by omega)]; rfl
          rw [this] at hdd
          apply h4
          rw [← hdd]
          exact ⟨rfl, .inr rfl⟩
        subst h
        have hna : (-(decV 0 r : Int)).natAbs = decV 0 r := by rw [Int.natAbs_neg, Int.natAbs_natCast]
        have hlt : -(decV 0 r : Int) < 0 := by omega
        clear hpos
        unfold itoa
        rw [if_pos hlt, hna, hdd, hb]
        exact ⟨rfl, h2⟩
      · have e : unsign (b :: r) = (b :: r, false) := by simp [unsign, hb]
        rw [e] at h h1 h2 h4 hdd
        rw [if_neg Bool.false_ne_true] at h
        subst h
        unfold itoa
        rw [if_neg (by omega), Int.toNat_natCast, Int.natAbs_natCast, hdd]
        exact ⟨rfl, h2⟩
  · cases h
end Go.Proofs.YtihgnpobkpnipaaGreatDoor
namespace Go.Proofs.YtihgnpobkpnipaaGreatDoor
open Go.Lib
section
variable {α : Type} (rd : List UInt8 → Option α)
/-- the lines of a text, and whether the last one is ended. -/
def linesK (t : List UInt8) : List (List UInt8) × Bool :=
  if t = [] then ([], true) else if t.getLast? = some 10 then (splitL 10 t.dropLast, true) else (splitL 10 t, false)
theorem splitL_end (c : UInt8) : ∀ t : List UInt8, splitL c (t ++ [c]) = splitL c t ++ [[]]
  | [] => by simp [splitL]
  | b :: r => by
    have ih := splitL_end c r
    rw [List.cons_append]
    simp only [splitL]
    by_cases hb : b = c
    · rw [if_pos hb, if_pos hb, ih]; rfl
    · rw [if_neg hb, if_neg hb, ih]
      cases hs : splitL c r with
      | nil => exact absurd hs (splitL_ne c r)
      | cons y ys => rfl
theorem split_last (c : UInt8) : ∀ t : List UInt8, t ≠ [] → t.getLast? ≠ some c → ∃ xs l, splitL c t = xs ++ [l] ∧ l ≠ []
  | [], h, _ => absurd rfl h
  | [b], _, h => by
    have hb : b ≠ c := fun e => h (by simp [e])
    exact ⟨[], [b], by simp [splitL, hb], by simp⟩
  | b :: d :: r, _, h => by
    obtain ⟨xs, l, e, hl⟩ := split_last c (d :: r) (by simp) (by rw [List.getLast?_cons_cons] at h; exact h)
    rw [splitL]
    by_cases hb : b = c
    · rw [if_pos hb, e]; exact ⟨[] :: xs, l, rfl, hl⟩
    · rw [if_neg hb, e]
      cases xs with
      | nil => exact ⟨[], b :: l, rfl, by simp⟩
      | cons y ys => exact ⟨(b :: y) :: ys, l, rfl, hl⟩
end
section
variable {α : Type} (rd : List UInt8 → Option α) (wr : α → List UInt8)
/-- a text: each thing on a line of its own. -/
def textL (l : List α) : List UInt8 := l.flatMap fun a => wr a ++ [10]
theorem textL_cons (a : α) (l : List α) : textL wr (a :: l) = wr a ++ 10 :: textL wr l := by simp [textL]
theorem split_text : ∀ l : List α, (∀ a ∈ l, (10 : UInt8) ∉ wr a) → splitL 10 (textL wr l) = l.map wr ++ [[]]
  | [], _ => rfl
  | a :: l, h => by
    rw [textL_cons, splitL_sep _ (h a (by simp)), split_text l fun b hb => h b (List.mem_cons_of_mem _ hb)]; rfl
end
/-! points -/
theorem itoa_free (n : Int) {c : UInt8} (hc : isDig c = false) (h45 : c ≠ 45) : c ∉ itoa n := by
  have hd : c ∉ decDigits n.natAbs := fun h => by have := decDigits_digs _ c h; rw [this] at hc; cases hc
  unfold itoa
  split
  · intro h
    rcases List.mem_cons.1 h with e | h
    · exact h45 e
    · exact hd h
  · rename_i hn
    have : n.toNat = n.natAbs := by omega
    rw [this]; exact hd
end Go.Proofs.YtihgnpobkpnipaaGreatDoor
namespace Go.Proofs.YtihgnpobkpnipaaGreatDoor
open Go.RowKit Go.Sort
/-- what lies in the library's variables: the powers of ten; some greatest length. -/
structure TxW (w : World) : Prop where
  tab : Lib.TabIs Tryz.prog w "internal/strconv.uint64pow10" .u64 Lib.pow10Tab
  max : ∃ m, w.cell? ⟨0, 0, none⟩ = some (.int .i64 m)
theorem TxW.size {w : World} (h : TxW w) : 3 < w.heap.size ∧ 0 < w.heap.size := by
  refine ⟨?_, ?_⟩
  · have hgn : Tryz.prog.globalNamed "internal/strconv.uint64pow10" = some 3 := by kernel_rfl
    have ht := h.tab
    unfold Lib.TabIs World.var? at ht
    rw [hgn] at ht
    simp only [Option.bind_some] at ht
    rcases Nat.lt_or_ge 3 w.heap.size with h' | h'
    · exact h'
    · rw [Array.getElem?_eq_none h'] at ht; cases ht
  · obtain ⟨m, hm⟩ := h.max
    exact World.block_lt_of_cell? _ _ hm
theorem TxW.below {w w' : World} (h : TxW w) (hb : Below w.heap.size w w') : TxW w' := by
  obtain ⟨h1, h2⟩ := h.size
  refine ⟨?_, ?_⟩
  · have hgn : Tryz.prog.globalNamed "internal/strconv.uint64pow10" = some 3 := by kernel_rfl
    have ht := h.tab
    unfold Lib.TabIs World.var? at ht ⊢
    rw [hgn] at ht ⊢
    simp only [Option.bind_some] at ht ⊢
    rw [hb.block _ h1]
    exact ht
  · obtain ⟨m, hm⟩ := h.max
    exact ⟨m, (hb.cell (p := ⟨0, 0, none⟩) h2).trans hm⟩
theorem below_growN (w : World) (k : Nat) (os : Array Obj) : Below w.heap.size w (grow (w.drewN k) os) :=
  ⟨rfl, rfl, rfl, by simp [grow, World.drewN], fun j hj => by simp [grow, World.drewN, Array.getElem?_append, hj]⟩
theorem Itoa_any (n : Int) (w : World) (hT : TxW w) (h0 : -9223372036854775808 ≤ n) (h1 : n ≤ 9223372036854775807) :
    Calls Tryz.prog 25 #[.int .i64 n] w fun e w' => e = .returned (.string ⟨(Lib.itoa n).toArray⟩) ∧ Below w.heap.size w w' := by
  refine (Tryz.strconv_Itoa n h0 h1 w hT.tab).mono ?_
  rintro e w' ⟨rfl, k, os, rfl⟩
  exact ⟨rfl, below_growN w k os⟩
theorem Atoi_any (s : ByteArray) (n : Int) (w : World) (hl : s.size ≤ 18) (h : Lib.atoi s.data.toList = some n) :
    Calls Tryz.prog 71 #[.string s] w fun e w' => e = .returned (.tuple #[.int .i64 n, .nilIface]) ∧ Below w.heap.size w w' := by
  refine (Tryz.strconv_Atoi s n hl h w).mono ?_
  rintro e w' ⟨rfl, t, rfl⟩
  exact ⟨rfl, Joins.below_bytesWorld _ w _ t (Nat.le_refl _)⟩
def digL : List UInt8 := [48, 49, 50, 51, 52, 53, 54, 55, 56, 57]
theorem digL_all : ((List.range 256).all fun n => digL.contains (UInt8.ofNat n) == isDig (UInt8.ofNat n)) = true := by decide +kernel
theorem digL_is (b : UInt8) : digL.contains b = isDig b := by
  have h := List.all_eq_true.1 digL_all b.toNat (List.mem_range.2 b.toNat_lt)
  simpa using h
set_option maxRecDepth 100000 in
theorem trimD_any (s : ByteArray) (w : World) (hs : s.size ≤ 140737488355328) : Calls Tryz.prog 70 #[.string s, .string ⟨#[48, 49, 50, 51, 52, 53, 54, 55, 56, 57]⟩] w fun e w' => e = .returned (.string ⟨(Lib.trimS s.data.toList digL).toArray⟩) ∧ Below w.heap.size w w' :=
  Tryz.strings_Trim s ⟨#[48, 49, 50, 51, 52, 53, 54, 55, 56, 57]⟩ w (by omega) (by show 10 < 4294967281; omega) (by
    intro j b h
    have hb := List.mem_of_getElem? h
    have : ((⟨#[48, 49, 50, 51, 52, 53, 54, 55, 56, 57]⟩ : ByteArray).data.toList.all fun b => decide (b.toNat < 128)) = true := by decide +kernel
    rw [List.all_eq_true] at this
    simpa using this b hb)
theorem trimD_nil (l : List UInt8) : Lib.trimS l digL = [] ↔ ∀ b ∈ l, isDig b = true := by
  rw [trimS_nil, List.all_eq_true]
  constructor
  · intro h b hb; rw [← digL_is]; exact h b hb
  · intro h b hb; rw [digL_is]; exact h b hb
theorem cutMinus_any (s : ByteArray) (w : World) : Calls Tryz.prog 136 #[.string s, .string ⟨#[45]⟩] w fun e w' => e = .returned (.tuple #[.string ⟨(unsign s.data.toList).1.toArray⟩, .bool (unsign s.data.toList).2]) ∧ w = w' := by
  have h1 : Lib.trimPrefix s.data.toList [45] = (unsign s.data.toList).1 ∧ Lib.hasPrefix s.data.toList [45] = (unsign s.data.toList).2 := by
    unfold Lib.trimPrefix Lib.hasPrefix unsign
    cases s.data.toList with
    | nil => simp
    | cons b r =>
      by_cases hb : b = 45
      · subst hb; simp
      · have : ¬ (45 : UInt8) = b := fun e => hb e.symm
        simp [hb, this, List.isPrefixOf]
  refine (Tryz.strings_CutPrefix s ⟨#[45]⟩ w).mono ?_
  rintro e w' ⟨rfl, rfl⟩
  exact ⟨by rw [show (⟨#[45]⟩ : ByteArray).data.toList = [45] from rfl, h1.1, h1.2], rfl⟩
theorem decV_lt : ∀ (l : List UInt8) (a : Nat), (∀ b ∈ l, isDig b = true) → decV a l < (a + 1) * 10 ^ l.length
  | [], a, _ => by simp [decV]
  | b :: r, a, h => by
    have hb : isDig b = true := h b (by simp)
    have h9 : b.toNat % 16 ≤ 9 := by unfold isDig at hb; simp at hb; omega
    have := decV_lt r (a * 10 + (b.toNat % 16)) (fun x hx => h x (by simp [hx]))
    rw [decV_cons, List.length_cons, Nat.pow_succ]
    refine Nat.lt_of_lt_of_le this ?_
    have h2 : a * 10 + b.toNat % 16 + 1 ≤ (a + 1) * 10 := by omega
    calc (a * 10 + b.toNat % 16 + 1) * 10 ^ r.length ≤ (a + 1) * 10 * 10 ^ r.length := Nat.mul_le_mul_right _ h2
      _ = (a + 1) * (10 ^ r.length * 10) := by rw [Nat.mul_assoc, Nat.mul_comm 10]
theorem atoi_dig {d : List UInt8} (h0 : d ≠ []) (h : ∀ b ∈ d, isDig b = true) : Lib.atoi d = some (decV 0 d : Int) := by
  cases d with
  | nil => exact absurd rfl h0
  | cons b r =>
    have hb := h b (by simp)
    have h45 : (b == 45) = false := by
      rw [beq_eq_false_iff_ne]; rintro rfl; revert hb; decide
    have h43 : (b == 43) = false := by
      rw [beq_eq_false_iff_ne]; rintro rfl; revert hb; decide
    simp only [Lib.atoi, h45, h43, Lib.decNat]
    rw [decFrom_decV _ _ h]
    rfl
theorem ba_list (l : List UInt8) : (⟨l.toArray⟩ : ByteArray).toList = l := by rw [ByteArray.toList_eq]
theorem numT_some {most : Nat} {l : List UInt8} (h : (unsign l).1 ≠ [] ∧ (unsign l).1.length ≤ most ∧ (∀ b ∈ (unsign l).1, isDig b = true) ∧ ¬((unsign l).1.head? = some 48 ∧ (1 < (unsign l).1.length ∨ (unsign l).2 = true))) :
    numT most l = some (if (unsign l).2 = true then -(decV 0 (unsign l).1 : Int) else decV 0 (unsign l).1) := by unfold numT; rw [if_pos h]
theorem numT_none {most : Nat} {l : List UInt8} (h : ¬((unsign l).1 ≠ [] ∧ (unsign l).1.length ≤ most ∧ (∀ b ∈ (unsign l).1, isDig b = true) ∧ ¬((unsign l).1.head? = some 48 ∧ (1 < (unsign l).1.length ∨ (unsign l).2 = true)))) : numT most l = none := by unfold numT; rw [if_neg h]
set_option maxHeartbeats 4000000 in
set_option maxRecDepth 100000 in
theorem Number_any (s : ByteArray) (most : Nat) (w : World) (hs : s.size ≤ 140737488355328) (hm : most ≤ 15) :
    Calls Tryz.prog 102 #[.string s, .int .i64 most] w fun e w' => e = .returned (.tuple #[.int .i64 ((numT most s.data.toList).getD 0), .bool (numT most s.data.toList).isSome]) ∧ Below w.heap.size w w' := by
  have HC := Lib.hid (fun W => cutMinus_any s W)
  obtain ⟨d, hd⟩ : ∃ d, d = (unsign s.data.toList).1 := ⟨_, rfl⟩
  obtain ⟨ng, hng⟩ : ∃ ng, ng = (unsign s.data.toList).2 := ⟨_, rfl⟩
  have hdl : d.length ≤ s.size := by
    rw [hd]
    have : s.data.toList.length = s.size := Array.length_toList
    rw [← this]
    unfold unsign
    cases s.data.toList with
    | nil => simp
    | cons b r =>
      simp only
      by_cases hb : b = 45
      · rw [if_pos hb]; simp
      · rw [if_neg hb]; exact Nat.le_refl _
  rw [← hd, ← hng] at HC
  have hno : ¬(d ≠ [] ∧ d.length ≤ most ∧ (∀ b ∈ d, isDig b = true) ∧ ¬(d.head? = some 48 ∧ (1 < d.length ∨ ng = true))) → numT most s.data.toList = none := fun h => numT_none (by rw [← hd, ← hng]; exact h)
  have hyes : (d ≠ [] ∧ d.length ≤ most ∧ (∀ b ∈ d, isDig b = true) ∧ ¬(d.head? = some 48 ∧ (1 < d.length ∨ ng = true))) → numT most s.data.toList = some (if ng = true then -(decV 0 d : Int) else decV 0 d) := fun h => by
    rw [numT_some (by rw [← hd, ← hng]; exact h), ← hd, ← hng]
  have HNO := Lib.hid hno
  have HYES := Lib.hid hyes
  clear hd hng hno hyes
  generalize numT most s.data.toList = r at *
  obtain ⟨ds, hds⟩ : ∃ ds : ByteArray, ds = ⟨d.toArray⟩ := ⟨_, rfl⟩
  have hdd : ds.data.toList = d := by rw [hds]
  have hsz : ds.size = d.length := by rw [← hdd]; exact (Array.length_toList).symm
  have htl : ds.toList = d := by rw [hds]; exact ba_list d
  rw [← hds] at HC
  by_cases h0 : d = []
  · have HR : Hid (r = none) := Lib.hid (HNO.out fun h => h.1 h0)
    have hde : ds = ⟨#[]⟩ := by rw [hds, h0]
    subst hde
    clear hds hdd hsz htl
    go_enter Tryz.func102, Tryz.ntmps102
    go_wp2_with fail
    refine (HC.out _).mono ?_
    rintro e w' ⟨rfl, rfl⟩
    go_wp2
    go_ret2
    exact ⟨by rw [HR.out] <;> rfl, Below.refl _ _⟩
  · have e1 : ds.toList.isEmpty = false := by
      rw [htl]; cases d with | nil => exact absurd rfl h0 | cons => rfl
    have e2 : ¬ ds.toList = [] := by rw [htl]; exact h0
    have hpos : 0 < ds.size := by rw [hsz]; exact List.length_pos_iff.2 h0
    have hposI : (0 : Int) < (ds.size : Int) := by omega
    by_cases h1 : d.length ≤ most
    · have e3 : ¬ (most : Int) < (ds.size : Int) := by omega
      have HTR := Lib.hid (fun W => trimD_any ds W (by omega))
      have htn := trimD_nil ds.data.toList
      by_cases hall : ∀ b ∈ d, isDig b = true
      · rw [htn.2 (by rw [hdd]; exact hall)] at HTR
        have hh : d.head? = some ds[0] := by
          have : ds.data.toList[0]? = some ds[0] := by
            rw [Array.getElem?_toList]; exact Array.getElem?_eq_getElem hpos
          rw [hdd] at this
          rw [List.head?_eq_getElem?]; exact this
        have hAt := atoi_dig h0 hall
        rw [← hdd] at hAt
        have hlt := decV_lt d 0 hall
        have hp15 : 10 ^ d.length ≤ 10 ^ 15 := Nat.pow_le_pow_right (by omega) (by omega)
        have hv : decV 0 d < 1000000000000000 := by
          have : (10 : Nat) ^ 15 = 1000000000000000 := rfl
          omega
        have HAT := Lib.hid (fun W => Atoi_any ds (decV 0 ds.data.toList : Int) W (by omega) hAt)
        rw [hdd] at HAT
        have hw : IntKind.i64.wrap (-((decV 0 d : Nat) : Int)) = -((decV 0 d : Nat) : Int) := IntWalk.i64_in _ (by omega)
        by_cases h48 : ds[0] = 48
        · have e4 : ((ds[0].toNat : Int) == 48) = true := by rw [h48]; rfl
          by_cases hbad : 1 < d.length ∨ ng = true
          · have HR : Hid (r = none) := Lib.hid (HNO.out fun h => h.2.2.2 ⟨by rw [hh, h48], hbad⟩)
            clear hAt hlt hp15 htn hall hh h48 hds hdd htl HAT
            by_cases h1d : 1 < d.length
            · have e5 : (1 : Int) < (ds.size : Int) := by omega
              clear hbad
              go_enter Tryz.func102, Tryz.ntmps102
              go_wp2_with fail
              refine (HC.out _).mono ?_
              rintro e w' ⟨rfl, rfl⟩
              go_wp2_with fail
              refine (HTR.out _).mono ?_
              rintro e w1 ⟨rfl, hb1⟩
              go_wp2
              go_ret2
              exact ⟨by rw [HR.out] <;> rfl, hb1⟩
            · have e5 : ¬ (1 : Int) < (ds.size : Int) := by omega
              obtain rfl : ng = true := hbad.resolve_left h1d
              go_enter Tryz.func102, Tryz.ntmps102
              go_wp2_with fail
              refine (HC.out _).mono ?_
              rintro e w' ⟨rfl, rfl⟩
              go_wp2_with fail
              refine (HTR.out _).mono ?_
              rintro e w1 ⟨rfl, hb1⟩
              go_wp2
              go_ret2
              exact ⟨by rw [HR.out] <;> rfl, hb1⟩
          · have e5 : ¬ (1 : Int) < (ds.size : Int) := by omega
            have hngf : ng = false := by cases ng with | false => rfl | true => exact absurd (.inr rfl) hbad
            subst hngf
            have HR : Hid (r = some ((decV 0 d : Nat) : Int)) := Lib.hid (by rw [HYES.out ⟨h0, h1, hall, fun h => hbad h.2⟩]; rfl)
            clear hAt hlt hp15 htn hall hh h48 hds hdd htl hbad
            go_enter Tryz.func102, Tryz.ntmps102
            go_wp2_with fail
            refine (HC.out _).mono ?_
            rintro e w' ⟨rfl, rfl⟩
            go_wp2_with fail
            refine (HTR.out _).mono ?_
            rintro e w1 ⟨rfl, hb1⟩
            go_wp2_with fail
            refine (HAT.out _).mono ?_
            rintro e w2 ⟨rfl, hb2⟩
            go_wp2
            go_region
            all_goals (
              go_wp2
              go_ret2
              exact ⟨by rw [HR.out] <;> rfl, Below.drew (Bl.trans hb1 hb2)⟩)
        · have e4 : ((ds[0].toNat : Int) == 48) = false := by
            rw [beq_eq_false_iff_ne]
            intro h
            exact h48 (UInt8.toNat_inj.1 (by show ds[0].toNat = 48; omega))
          have HR : Hid (r = some (if ng = true then -((decV 0 d : Nat) : Int) else ((decV 0 d : Nat) : Int))) := Lib.hid (HYES.out ⟨h0, h1, hall, fun h => h48 (by have := h.1; rw [hh] at this; injection this)⟩)
          clear hAt hlt hp15 htn hall hh h48 hds hdd htl
          cases ng
          all_goals
            go_enter Tryz.func102, Tryz.ntmps102
            go_wp2_with fail
            refine (HC.out _).mono ?_
            rintro e w' ⟨rfl, rfl⟩
            go_wp2_with fail
            refine (HTR.out _).mono ?_
            rintro e w1 ⟨rfl, hb1⟩
            go_wp2_with fail
            refine (HAT.out _).mono ?_
            rintro e w2 ⟨rfl, hb2⟩
            go_wp2
            go_region
            all_goals (
              go_wp2
              go_ret2
              exact ⟨by rw [HR.out] <;> rfl, Below.drew (Bl.trans hb1 hb2)⟩)
      · have HR : Hid (r = none) := Lib.hid (HNO.out fun h => hall h.2.2.1)
        obtain ⟨b, m, hbm⟩ : ∃ b m, Lib.trimS ds.data.toList digL = b :: m := by
          cases h : Lib.trimS ds.data.toList digL with
          | nil => exact absurd (by rw [← hdd]; exact htn.1 h) hall
          | cons b m => exact ⟨b, m, rfl⟩
        rw [hbm] at HTR
        have f1 : (⟨(b :: m).toArray⟩ : ByteArray).toList.isEmpty = false := by rw [ba_list]; rfl
        have f2 : ¬ (⟨(b :: m).toArray⟩ : ByteArray).toList = [] := by rw [ba_list]; simp
        clear htn hall hbm hds hdd htl hsz
        generalize (⟨(b :: m).toArray⟩ : ByteArray) = tr at *
        go_enter Tryz.func102, Tryz.ntmps102
        go_wp2_with fail
        refine (HC.out _).mono ?_
        rintro e w' ⟨rfl, rfl⟩
        go_wp2_with fail
        refine (HTR.out _).mono ?_
        rintro e w1 ⟨rfl, hb1⟩
        go_wp2
        go_ret2
        exact ⟨by rw [HR.out] <;> rfl, hb1⟩
    · have HR : Hid (r = none) := Lib.hid (HNO.out fun h => h1 h.2.1)
      have e3 : (most : Int) < (ds.size : Int) := by omega
      clear hds hdd htl hsz
      go_enter Tryz.func102, Tryz.ntmps102
      go_wp2_with fail
      refine (HC.out _).mono ?_
      rintro e w' ⟨rfl, rfl⟩
      go_wp2
      go_ret2
      exact ⟨by rw [HR.out] <;> rfl, Below.refl _ _⟩
end Go.Proofs.YtihgnpobkpnipaaGreatDoor
namespace Go.Proofs.YtihgnpobkpnipaaGreatDoor
open Go.RowKit Go.Sort
/-- numbers of many pieces. -/
def numsK : List (List UInt8) → Option (List Int)
  | [] => some []
  | x :: r => match numT 15 x with
    | none => none
    | some n => match numsK r with
      | none => none
      | some ns => some (n :: ns)
theorem numsK_snoc {xs : List (List UInt8)} {ns : List Int} (h : numsK xs = some ns) (x : List UInt8) {n : Int} (hx : numT 15 x = some n) : numsK (xs ++ [x]) = some (ns ++ [n]) := by
  induction xs generalizing ns with
  | nil =>
    simp only [numsK, Option.some.injEq] at h
    subst h
    simp [numsK, hx]
  | cons y r ih =>
    rw [List.cons_append]
    rw [numsK] at h ⊢
    cases hy : numT 15 y with
    | none => rw [hy] at h; cases h
    | some m =>
      rw [hy] at h
      cases hr : numsK r with
      | none => simp only [hr] at h; cases h
      | some ms =>
        simp only [hr, Option.some.injEq] at h
        subst h
        simp only [ih hr]
        rfl
theorem numsK_bad {x : List UInt8} (hx : numT 15 x = none) : ∀ (xs ys : List (List UInt8)), numsK (xs ++ x :: ys) = none
  | [], ys => by simp [numsK, hx]
  | y :: r, ys => by
    rw [List.cons_append, numsK, numsK_bad hx r ys]
    cases numT 15 y <;> rfl
theorem strsT_at {w : World} {lo : Nat} {a : Option Addr} {n cap : Nat} {l : List ByteArray} (h : RecR TS w lo (.slice a n cap) l) {i : Nat} {x : ByteArray} (hx : l[i]? = some x) :
    ∃ b o, a = some ⟨b, o, none⟩ ∧ lo ≤ b ∧ b < w.heap.size ∧ w.cell? ⟨b, o + i, none⟩ = some (.string x) := by
  obtain ⟨b, o, ha, hl, hb, hc⟩ := h.at TS.ok.len hx (by decide)
  have := hc 0 (.string x) rfl
  rw [show TS.k = 1 from rfl, Nat.mul_one, Nat.add_zero] at this
  exact ⟨b, o, ha, hl, hb, this⟩
set_option maxHeartbeats 4000000 in
set_option maxRecDepth 100000 in
theorem Numbers_any (v : Value) (l : List ByteArray) (w : World) (rl : RecR TS w 0 v l) (hl : l.length ≤ 1000000) (hs : ∀ x ∈ l, x.size ≤ 140737488355328) :
    Calls Tryz.prog 94 #[v] w fun e w' => ∃ u, e = .returned (.tuple #[u, .bool (numsK (l.map (·.data.toList))).isSome]) ∧ Own w' w.heap.size u ((numsK (l.map (·.data.toList))).getD []) ∧ Below w.heap.size w w' := by
  obtain ⟨a, cap, rfl, hc1, hc2⟩ := rl.form
  have RL := Lib.hid rl
  have HS := Lib.hid hs
  clear rl hs
  go_enter Tryz.func94, Tryz.ntmps94
  go_wp2_with fail
  go_loopw [4, 11] (fun v i wr => ∃ (k : Nat) (ns : List Int), k ≤ l.length ∧ i = .int .i64 k ∧ Own wr w.heap.size v ns ∧ Hid (ns.length = k ∧ numsK ((l.take k).map (·.data.toList)) = some ns) ∧ Below w.heap.size w wr) (fun _ i _ => l.length - (intOf i).toNat)
  case atStart => exact ⟨0, [], Nat.zero_le _, rfl, Own.nil _ _, Lib.hid ⟨rfl, rfl⟩, Below.refl _ _⟩
  case round =>
    obtain ⟨k, ns, hk, rfl, hO, hP, hB⟩ := hrel
    by_cases hlt : k < l.length
    · obtain ⟨x, hx⟩ : ∃ x, l[k]? = some x := ⟨_, List.getElem?_eq_getElem hlt⟩
      obtain ⟨b, o, rfl, _, hb, c0⟩ := strsT_at (RL.out.below hB) hx
      have hw1 : IntKind.i64.wrap ((k : Int) + 1) = ((k + 1 : Nat) : Int) := by rw [IntWalk.i64_in _ (by omega)]; omega
      have HN := Lib.hid fun W => Number_any x 15 W (HS.out x (List.mem_of_getElem? hx)) (by omega)
      have HX := Lib.hid hx
      clear hx
      cases hn : numT 15 x.data.toList with
      | none =>
        have HR : Hid (numsK (l.map (·.data.toList)) = none) := Lib.hid (by
          have h1 := List.getElem?_eq_some_iff.1 HX.out
          obtain ⟨h2, h3⟩ := h1
          rw [← List.take_append_drop k l, List.drop_eq_getElem_cons h2, h3, List.map_append, List.map_cons]
          exact numsK_bad hn _ _)
        rw [hn] at HN
        clear hn
        go_wp2_with fail
        refine (HN.out _).mono ?_
        rintro e w1 ⟨rfl, hb1⟩
        have hB1 := Bl.trans hB hb1
        clear hb1
        go_wp2
        go_ret2
        exact ⟨_, by rw [HR.out] <;> rfl, by rw [HR.out]; exact Own.nil _ _, hB1⟩
      | some q =>
        have HP : Hid (numsK ((l.take (k + 1)).map (·.data.toList)) = some (ns ++ [q])) := Lib.hid (by
          rw [List.take_add_one, HX.out, List.map_append]
          exact numsK_snoc hP.out.2 _ hn)
        rw [hn] at HN
        clear hn
        go_wp2_with fail
        refine (HN.out _).mono ?_
        rintro e w1 ⟨rfl, hb1⟩
        have hO1 := hO.below hb1
        have hB1 := Bl.trans hB hb1
        have hz1 := hB1.size
        clear hb1 hO hB c0
        go_wp2_with (at_builtin; refine wp_app_int rfl _ _ rfl w.heap.size _ ns rfl (hO1.alloc _) w1.heap.size 1 q rfl (by rw [blk_cell (blk_new w1 _) 0]; rfl) (by have := hP.out.1; omega) (by simp; omega) ?_)
        intro v' w3 hO3 hA3 hb3
        go_wp2
        go_roundw
        case rel => exact ⟨k + 1, ns ++ [q], by omega, by go_num, hO3, Lib.hid ⟨by rw [List.length_append, hP.out.1]; rfl, HP.out⟩, (Bl.alloc hB1 _).trans hb3⟩
        case measure => simp [intOf]; omega
    · obtain rfl : k = l.length := by omega
      have HR : Hid (numsK (l.map (·.data.toList)) = some ns) := Lib.hid (by have := hP.out.2; rw [List.take_length] at this; exact this)
      go_wp2
      go_ret2
      exact ⟨_, by rw [HR.out] <;> rfl, by rw [HR.out]; exact hO, hB⟩
/-- strings.Split at one byte. -/
theorem Split_any (s : ByteArray) (c : UInt8) (w : World) (hT : TxW w) (hs : s.size ≤ 1000000) :
    Calls Tryz.prog 92 #[.string s, .string ⟨#[c]⟩] w fun e w' => ∃ v l, e = .returned v ∧ OwnR TS w' w.heap.size v l ∧ l.map (·.data.toList) = splitL c s.data.toList ∧ l.length ≤ 1000001 ∧ Below w.heap.size w w' := by
  obtain ⟨m, hm⟩ := hT.max
  refine (Tryz.strings_Split s ⟨#[c]⟩ m w (by omega) hm (by show 1 ≤ 1; omega)).mono ?_
  rintro e w' ⟨rfl, rfl⟩
  have hc : Lib.countB s ⟨#[c]⟩ = s.data.toList.count c := Lib.count_one c s.data.toList
  have hle : Lib.countB s ⟨#[c]⟩ ≤ s.size := Lib.countB_le ⟨#[c]⟩ (by show 1 ≤ 1; omega) s.size s (Nat.le_refl _)
  have hmap := split_bytes s c hc
  have hlen : (Lib.splitB ⟨#[c]⟩ 0 (Lib.countB s ⟨#[c]⟩) s).length = Lib.countB s ⟨#[c]⟩ + 1 := by
    rw [← List.length_map (f := fun (x : ByteArray) => x.data.toList), hmap, splitL_len, hc]
  generalize Lib.splitB ⟨#[c]⟩ 0 (Lib.countB s ⟨#[c]⟩) s = l at *
  refine ⟨_, l, rfl, ?_, hmap, by omega, Bl.alloc (Below.refl _ _) _⟩
  rw [← hlen]
  refine OwnR.of_blk (T := TS) (Nat.le_refl _) (blk_new w _) (Nat.le_refl _) (by unfold maxLen; omega) (by show ((l.map Value.string).toArray).size = l.length * 1; simp) ?_ (by rw [flat_len TS.ok.len])
  have h1 : l.flatMap TS.f = l.map Value.string := by
    clear hlen hmap
    induction l with
    | nil => rfl
    | cons x r ih => rw [List.flatMap_cons, ih]; rfl
  rw [h1, show TS.k = 1 from rfl, Nat.mul_one, List.toList_toArray]
  exact List.take_of_length_le (by rw [List.length_map]; exact Nat.le_refl _)
theorem suffix_nl (l : List UInt8) : (l.getLast? = some 10 → Lib.hasSuffix l [10] = true ∧ Lib.trimSuffix l [10] = l.dropLast) ∧ (l.getLast? ≠ some 10 → Lib.hasSuffix l [10] = false ∧ Lib.trimSuffix l [10] = l) := by
  have h : Lib.hasSuffix l [10] = true ↔ l.getLast? = some 10 := by
    unfold Lib.hasSuffix
    rw [List.isSuffixOf_iff_suffix]
    constructor
    · rintro ⟨r, rfl⟩; simp
    · intro h
      obtain ⟨r, hr⟩ := List.getLast?_eq_some_iff.1 h
      exact ⟨r, hr.symm⟩
  refine ⟨fun e => ?_, fun e => ?_⟩
  · refine ⟨h.2 e, ?_⟩
    unfold Lib.trimSuffix
    rw [if_pos (h.2 e), List.dropLast_eq_take]; rfl
  · have hf : Lib.hasSuffix l [10] = false := by
      cases hb : Lib.hasSuffix l [10] with
      | false => rfl
      | true => exact absurd (h.1 hb) e
    refine ⟨hf, ?_⟩
    unfold Lib.trimSuffix
    rw [hf]; rfl
set_option maxHeartbeats 4000000 in
set_option maxRecDepth 100000 in
theorem Lines_any (s : ByteArray) (w : World) (hT : TxW w) (hs : s.size ≤ 1000000) :
    Calls Tryz.prog 53 #[.string s] w fun e w' => ∃ v l, e = .returned (.tuple #[v, .bool (linesK s.data.toList).2]) ∧ OwnR TS w' w.heap.size v l ∧ l.map (·.data.toList) = (linesK s.data.toList).1 ∧ l.length ≤ 1000001 ∧ Below w.heap.size w w' := by
  by_cases h0 : s.size = 0
  · obtain rfl : s = ⟨#[]⟩ := by
      apply ByteArray.ext
      exact Array.eq_empty_of_size_eq_zero h0
    have HR : Hid (linesK (⟨#[]⟩ : ByteArray).data.toList = ([], true)) := Lib.hid rfl
    clear h0 hs hT
    go_enter Tryz.func53, Tryz.ntmps53
    go_wp2
    go_ret2
    exact ⟨_, by rw [HR.out] <;> rfl, [], OwnR.nil _ _, by rw [HR.out]; rfl, by simp, Below.refl _ _⟩
  · have hne : s.data.toList ≠ [] := by
      intro e
      have : s.data.toList.length = s.size := Array.length_toList
      rw [e] at this; exact h0 this.symm
    have e1 : s.toList.isEmpty = false := by
      rw [ByteArray.toList_eq]; cases h : s.data.toList with | nil => exact absurd h hne | cons => rfl
    have e2 : ¬ s.toList = [] := by rw [ByteArray.toList_eq]; exact hne
    have hsz : s.data.toList.length = s.size := Array.length_toList
    have HX : ∃ (t : ByteArray) (b : Bool), linesK s.data.toList = (splitL 10 t.data.toList, b) ∧ t.size ≤ 1000000 ∧ Lib.trimSuffix s.data.toList [10] = t.data.toList ∧ Lib.hasSuffix s.data.toList [10] = b := by
      by_cases hl : s.data.toList.getLast? = some 10
      · obtain ⟨h1, h2⟩ := (suffix_nl _).1 hl
        refine ⟨⟨s.data.toList.dropLast.toArray⟩, true, by unfold linesK; rw [if_neg hne, if_pos hl], ?_, h2, h1⟩
        show s.data.toList.dropLast.toArray.size ≤ 1000000
        simp; omega
      · obtain ⟨h1, h2⟩ := (suffix_nl _).2 hl
        exact ⟨s, false, by unfold linesK; rw [if_neg hne, if_neg hl], hs, h2, h1⟩
    obtain ⟨t, b, HL, ht, h1, h2⟩ := HX
    have HC : Hid (∀ W, Calls Tryz.prog 91 #[.string s, .string ⟨#[10]⟩] W fun e w' => e = .returned (.tuple #[.string t, .bool b]) ∧ w' = W) := Lib.hid fun W => by
      have := Tryz.strings_CutSuffix s ⟨#[10]⟩ W (by omega)
      rw [show (⟨#[10]⟩ : ByteArray).data.toList = [10] from rfl, h1, h2] at this
      exact this
    have HS := Lib.hid (Split_any t 10 w hT ht)
    have HLL := Lib.hid HL
    clear HL h1 h2 hne hsz hT ht hs
    go_enter Tryz.func53, Tryz.ntmps53
    go_wp2_with fail
    refine (HC.out _).mono ?_
    rintro e w' ⟨rfl, rfl⟩
    go_wp2_with fail
    refine HS.out.mono ?_
    rintro e w1 ⟨v, l, rfl, hO, hm, hl, hb⟩
    have HM := Lib.hid hm
    clear hm
    go_wp2
    go_ret2
    exact ⟨v, l, by rw [HLL.out] <;> rfl, hO, by rw [HLL.out]; exact HM.out, hl, hb⟩
set_option maxHeartbeats 4000000 in
theorem JoinK_any (bk o c : Nat) (xs : List ByteArray) (w : World) (hcells : ∀ (j : Nat) x, xs[j]? = some x → w.cell? ⟨bk, o + j, none⟩ = some (.string x)) (hbk : bk < w.heap.size) (hN : xs.length ≤ 1000000) (hcap : xs.length ≤ c) (hlen : (Lib.join (xs.map (·.data.toList)) [32]).length ≤ 1000000) :
    Calls Tryz.prog 49 #[.slice (some ⟨bk, o, none⟩) xs.length c] w fun e w' => ∃ r : ByteArray, e = .returned (.string r) ∧ r.data.toList = Lib.join (xs.map (·.data.toList)) [32] ++ [10] ∧ Below w.heap.size w w' := by
  have HJ : Hid (Calls Tryz.prog 90 #[.slice (some ⟨bk, o, none⟩) xs.length c, .string ⟨#[32]⟩] w fun e w' => ∃ r : ByteArray, e = .returned (.string r) ∧ r.data.toList = Lib.join (xs.map (·.data.toList)) [32] ∧ r.size ≤ 1000000 ∧ Below w.heap.size w w') := Lib.hid (by
    refine (Tryz.strings_Join bk o c xs ⟨#[32]⟩ w hcells hbk (by omega) hcap (by rw [show (⟨#[32]⟩ : ByteArray).data.toList = [32] from rfl]; omega)).mono ?_
    rintro e w' ⟨rfl, hb⟩
    refine ⟨_, rfl, rfl, ?_, hb⟩
    rw [show (⟨#[32]⟩ : ByteArray).data.toList = [32] from rfl]
    show (Lib.join (xs.map (·.data.toList)) [32]).toArray.size ≤ 1000000
    simpa using hlen)
  clear hcells hlen
  go_enter Tryz.func49, Tryz.ntmps49
  go_wp2_with fail
  refine HJ.out.mono ?_
  rintro e w1 ⟨r, rfl, hr, hrs, hb⟩
  have HR := Lib.hid hr
  clear hr
  go_wp2
  go_ret
  exact ⟨_, rfl, by rw [← HR.out]; simp, hb⟩
end Go.Proofs.YtihgnpobkpnipaaGreatDoor
