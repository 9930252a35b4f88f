/- Plain laws of texts: pieces of a line, lines of a text, decimal numbers as they are written and read. No program. · Plain laws of texts by lines: a text is read line by line; two ways to do so are one; what is written is read as it was, and what is read is written so. No program. · The contracts of numbers in texts: strconv.Itoa, Atoi; kit.Number, the reference's Number. Conditions: the table of powers of ten as it lies in the library; strings of at most 2^47 bytes; at most 15 digits. · The contracts of texts in parts: kit.Numbers, kit.Lines, kit.Join. Conditions: what lies in the library (TxW); texts of at most 10^6 bytes. -/
import Derived.Lib.Split
import Derived.Lib.CountLaws
import Derived.Lib.ItoaNum
import Derived.Lib.ItoaMem
import Derived.Lib.Atoi
import Derived.Lib.Join
import Derived.Lib.Strings
import Derived.Lib.SlTrimSet
import Derived.Test.YtcfeoapbbkfbnaaGreatDoorKey
import Derived.Test.YtcfeoapbbkfbnaaGreatDoorDist
import Derived.Lib.SmallJoins
import Derived.Lib.LaidTab
import Derived.Test.YtcfeoapbbkfbnaaGreatDoorStrs
import Derived.Test.YtcfeoapbbkfbnaaGreatDoorSl
import Derived.Lib.SplitLaws
namespace Go.Proofs.YtcfeoapbbkfbnaaGreatDoor
open Go.Lib

/-! pieces between bytes c -/
def splitL (c : UInt8) : List UInt8 → List (List UInt8)
  | [] => [[]]
  | b :: r => if b = c then [] :: splitL c r else match splitL c r with
    | [] => [[b]]
    | x :: xs => (b :: x) :: xs
theorem splitL_ne (c : UInt8) : ∀ l, splitL c l ≠ []
  | [] => by simp [splitL]
  | b :: r => by
    simp only [splitL]
    split
    · simp
    · split <;> simp
theorem splitL_no {c : UInt8} : ∀ {l : List UInt8}, c ∉ l → splitL c l = [l]
  | [], _ => rfl
  | b :: r, h => by
    have h1 : b ≠ c := fun e => h (by simp [e])
    simp only [splitL]
    rw [if_neg h1, splitL_no fun hr => h (List.mem_cons_of_mem _ hr)]
theorem splitL_sep {c : UInt8} (b : List UInt8) : ∀ {a : List UInt8}, c ∉ a → splitL c (a ++ c :: b) = a :: splitL c b
  | [], _ => by simp [splitL]
  | x :: a, h => by
    have h1 : x ≠ c := fun e => h (by simp [e])
    rw [List.cons_append]
    simp only [splitL]
    rw [if_neg h1, splitL_sep b fun hr => h (List.mem_cons_of_mem _ hr)]
theorem splitL_free (c : UInt8) : ∀ (l : List UInt8), ∀ x ∈ splitL c l, c ∉ x
  | [], x, h => by simp [splitL] at h; subst h; simp
  | b :: r, x, h => by
    have ih := splitL_free c r
    simp only [splitL] at h
    split at h
    · rcases List.mem_cons.1 h with rfl | h
      · simp
      · exact ih x h
    · rename_i hb
      split at h
      · rename_i e; exact absurd e (splitL_ne c r)
      · rename_i y ys e
        rw [e] at ih
        rcases List.mem_cons.1 h with rfl | h
        · intro hc
          rcases List.mem_cons.1 hc with e | hc
          · exact hb e.symm
          · exact ih y (by simp) hc
        · exact ih x (List.mem_cons_of_mem _ h)
/-- pieces with c between. -/
def joinL (c : UInt8) : List (List UInt8) → List UInt8
  | [] => []
  | [x] => x
  | x :: y :: r => x ++ c :: joinL c (y :: r)
theorem join_split (c : UInt8) : ∀ l, joinL c (splitL c l) = l
  | [] => rfl
  | b :: r => by
    have ih := join_split c r
    simp only [splitL]
    by_cases hb : b = c
    · rw [if_pos hb]
      cases hs : splitL c r with
      | nil => exact absurd hs (splitL_ne c r)
      | cons y ys =>
        rw [hs] at ih
        simp only [joinL]
        rw [ih, hb]; rfl
    · rw [if_neg hb]
      cases hs : splitL c r with
      | nil => exact absurd hs (splitL_ne c r)
      | cons y ys =>
        rw [hs] at ih
        simp only
        cases ys with
        | nil => simp only [joinL] at ih ⊢; rw [ih]
        | cons z zs => simp only [joinL] at ih ⊢; rw [List.cons_append, ih]
theorem split_join (c : UInt8) : ∀ (xs : List (List UInt8)), xs ≠ [] → (∀ x ∈ xs, c ∉ x) → splitL c (joinL c xs) = xs
  | [], h, _ => absurd rfl h
  | [x], _, h => by simp only [joinL]; exact splitL_no (h x (by simp))
  | x :: y :: r, _, h => by
    simp only [joinL]
    rw [splitL_sep _ (h x (by simp)), split_join c (y :: r) (by simp) fun z hz => h z (List.mem_cons_of_mem _ hz)]
theorem splitL_len (c : UInt8) : ∀ l, (splitL c l).length = l.count c + 1
  | [] => rfl
  | b :: r => by
    have ih := splitL_len c r
    simp only [splitL]
    by_cases hb : b = c
    · subst hb
      rw [if_pos rfl, List.length_cons, ih, List.count_cons_self]
    · rw [if_neg hb, List.count_cons_of_ne hb, ← ih]
      cases hs : splitL c r with
      | nil => exact absurd hs (splitL_ne c r)
      | cons y ys => rfl
theorem index_one (c : UInt8) : ∀ l : List UInt8, (index l [c] = -1 ∧ c ∉ l) ∨ ∃ i : Nat, index l [c] = i ∧ i < l.length ∧ c ∉ l.take i ∧ l.drop i = c :: l.drop (i + 1)
  | [] => .inl ⟨rfl, by simp⟩
  | b :: r => by
    rw [index]
    by_cases hb : c = b
    · subst hb
      rw [if_pos (by simp)]
      exact .inr ⟨0, rfl, by simp, by simp, by simp⟩
    · rw [if_neg (by simp [hb])]
      rcases index_one c r with ⟨h1, h2⟩ | ⟨i, h1, h2, h3, h4⟩
      · rw [h1]
        exact .inl ⟨rfl, by simp [hb, h2]⟩
      · rw [h1, if_neg (by simp <;> omega)]
        exact .inr ⟨i + 1, by omega, by simp; omega, by simp [hb, h3], by simpa using h4⟩
theorem splitK_one (c : UInt8) : ∀ (k : Nat) (l : List UInt8), l.count c = k → splitK [c] 0 k l = splitL c l
  | 0, l, h => by
    rw [splitL_no (List.count_eq_zero.1 h)]; rfl
  | k + 1, l, h => by
    rcases index_one c l with ⟨_, h2⟩ | ⟨i, h1, h2, h3, h4⟩
    · rw [List.count_eq_zero.2 h2] at h; omega
    · have hl : l = l.take i ++ c :: l.drop (i + 1) := by
        conv => lhs; rw [← List.take_append_drop i l, h4]
      rw [splitK, h1, if_neg (by simp <;> omega)]
      have e1 : ((i : Int)).toNat = i := by omega
      rw [e1, Nat.add_zero, List.length_singleton]
      have hc : (l.drop (i + 1)).count c = k := by
        rw [hl, List.count_append, List.count_eq_zero.2 h3, List.count_cons_self] at h
        omega
      rw [splitK_one c k _ hc]
      conv => rhs; rw [hl, splitL_sep _ h3]
theorem split_bytes (s : ByteArray) (c : UInt8) (hc : countB s ⟨#[c]⟩ = s.data.toList.count c) : (splitB ⟨#[c]⟩ 0 (countB s ⟨#[c]⟩) s).map (·.data.toList) = splitL c s.data.toList := by
  rw [splitB_data, hc]
  exact splitK_one c _ _ rfl

/-! decimal digits -/
def isDig (b : UInt8) : Bool := decide (48 ≤ b.toNat) && decide (b.toNat ≤ 57)
/-- the number that digits spell. -/
def decV (a : Nat) (l : List UInt8) : Nat := l.foldl (fun a b => a * 10 + (b.toNat % 16)) a
theorem decV_nil (a : Nat) : decV a [] = a := rfl
theorem decV_cons (a : Nat) (b : UInt8) (r : List UInt8) : decV a (b :: r) = decV (a * 10 + (b.toNat % 16)) r := rfl
theorem decV_snoc (b : UInt8) (l : List UInt8) (a : Nat) : decV a (l ++ [b]) = decV a l * 10 + (b.toNat % 16) := by
  unfold decV; rw [List.foldl_append]; rfl
theorem decFrom_decV : ∀ (l : List UInt8) (a : Nat), (∀ b ∈ l, isDig b = true) → decFrom a l = some (decV a l)
  | [], a, _ => rfl
  | b :: r, a, h => by
    have hb := h b (by simp)
    unfold isDig at hb
    simp only [Bool.and_eq_true, decide_eq_true_eq] at hb
    simp only [decFrom, decV_cons]
    have : digitVal b = some (b.toNat % 16) := by unfold digitVal; rw [if_pos hb, show b.toNat - 48 = b.toNat % 16 by omega]
    rw [this]
    exact decFrom_decV r _ fun x hx => h x (List.mem_cons_of_mem _ hx)
theorem dig_val {d : Nat} (h : d < 10) : (UInt8.ofNat (48 + d)).toNat = 48 + d := by
  rw [UInt8.toNat_ofNat']; omega
theorem dig_is {d : Nat} (h : d < 10) : isDig (UInt8.ofNat (48 + d)) = true := by
  unfold isDig; rw [dig_val h]; simp; omega
theorem dig_back {b : UInt8} (h : isDig b = true) : UInt8.ofNat (48 + (b.toNat % 16)) = b := by
  unfold isDig at h
  simp only [Bool.and_eq_true, decide_eq_true_eq] at h
  rw [show 48 + b.toNat % 16 = b.toNat by omega]
  simp
theorem decDigits_digs (u : Nat) : ∀ b ∈ decDigits u, isDig b = true := by
  induction u using Nat.strongRecOn with
  | _ u ih =>
    intro b hb
    rw [decDigits] at hb
    split at hb
    · rename_i h
      rw [List.mem_singleton] at hb; subst hb
      exact dig_is h
    · rename_i h
      rw [List.mem_append, List.mem_singleton] at hb
      rcases hb with hb | rfl
      · exact ih (u / 10) (by omega) b hb
      · exact dig_is (by omega)
theorem decDigits_val (u : Nat) : decV 0 (decDigits u) = u := by
  induction u using Nat.strongRecOn with
  | _ u ih =>
    rw [decDigits]
    split
    · rename_i h
      rw [decV_cons, decV_nil, dig_val h]; omega
    · rename_i h
      rw [decV_snoc, ih (u / 10) (by omega), dig_val (by omega)]
      omega
theorem decDigits_ne (u : Nat) : decDigits u ≠ [] := by
  intro h
  have := decDigits_length u
  rw [h] at this
  have := nDigits_pos u
  simp at *; omega
theorem decDigits_head (u : Nat) : (decDigits u).head? = some 48 → decDigits u = [48] := by
  induction u using Nat.strongRecOn with
  | _ u ih =>
    intro hh
    rw [decDigits] at hh ⊢
    split at hh
    · rename_i h
      rw [dif_pos h]
      simp only [List.head?_cons, Option.some.injEq] at hh
      rw [hh]
    · rename_i h
      exfalso
      have hne := decDigits_ne (u / 10)
      cases hd : decDigits (u / 10) with
      | nil => exact hne hd
      | cons y ys =>
        rw [hd] at hh
        simp only [List.cons_append, List.head?_cons, Option.some.injEq] at hh
        have := ih (u / 10) (by omega) (by rw [hd, hh]; rfl)
        have hv := decDigits_val (u / 10)
        rw [this] at hv
        rw [decV_cons, decV_nil] at hv
        simp at hv
        omega
theorem decV_pos : ∀ (l : List UInt8) (a : Nat), 1 ≤ a → 1 ≤ decV a l
  | [], a, h => h
  | b :: r, a, h => by rw [decV_cons]; exact decV_pos r _ (by omega)
/-- digits without a leading zero are those of their number. -/
theorem decDigits_of (l : List UInt8) : (∀ b ∈ l, isDig b = true) → l ≠ [] → (l.head? = some 48 → l = [48]) → decDigits (decV 0 l) = l := by
  induction hn : l.length using Nat.strongRecOn generalizing l with
  | _ n ih =>
    intro hd hne hz
    obtain ⟨p, b, rfl⟩ : ∃ p b, l = p ++ [b] := ⟨l.dropLast, l.getLast hne, (List.dropLast_concat_getLast hne).symm⟩
    have hb := hd b (by simp)
    have hb' := hb
    unfold isDig at hb'
    simp only [Bool.and_eq_true, decide_eq_true_eq] at hb'
    rw [decV_snoc]
    by_cases hp : p = []
    · subst hp
      rw [List.nil_append, decV_nil, decDigits, dif_pos (by omega), Nat.zero_mul, Nat.zero_add, dig_back hb]
    · have hpz : p.head? ≠ some 48 := by
        intro h
        have h1 : (p ++ [b]).head? = some 48 := by
          cases p with
          | nil => exact absurd rfl hp
          | cons y ys => simpa using h
        have := hz h1
        have hl := congrArg List.length this
        simp at hl
        exact hp hl
      have hpos : 1 ≤ decV 0 p := by
        cases p with
        | nil => exact absurd rfl hp
        | cons y ys =>
          have hy := hd y (by simp)
          unfold isDig at hy
          simp only [Bool.and_eq_true, decide_eq_true_eq] at hy
          rw [decV_cons]
          apply decV_pos
          apply Classical.byContradiction
          intro hlt
          apply hpz
          have : y.toNat = 48 := by omega
          simp only [List.head?_cons, Option.some.injEq]
          exact UInt8.toNat_inj.1 this
      have := ih p.length (by simp at hn; omega) p rfl (fun x hx => hd x (by simp [hx])) hp (fun h => absurd h hpz)
      rw [decDigits, dif_neg (by omega), show (decV 0 p * 10 + (b.toNat % 16)) / 10 = decV 0 p by omega, show (decV 0 p * 10 + (b.toNat % 16)) % 10 = b.toNat % 16 by omega, this, dig_back hb]

/-! numbers as they are written -/
/-- what follows a minus; whether there is one. -/
def unsign (l : List UInt8) : List UInt8 × Bool := match l with
  | [] => ([], false)
  | b :: r => if b = 45 then (r, true) else (b :: r, false)
/-- a number of at most so many digits; none: it is none. -/
def numT (most : Nat) (l : List UInt8) : Option Int :=
  if (unsign l).1 ≠ [] ∧ (unsign l).1.length ≤ most ∧ (∀ b ∈ (unsign l).1, isDig b = true) ∧ ¬((unsign l).1.head? = some 48 ∧ (1 < (unsign l).1.length ∨ (unsign l).2 = true))
  then some (if (unsign l).2 = true then -(decV 0 (unsign l).1 : Int) else decV 0 (unsign l).1) else none
theorem itoa_unsign (n : Int) : unsign (itoa n) = (decDigits n.natAbs, decide (n < 0)) := by
  unfold itoa
  by_cases h : n < 0
  · rw [if_pos h]; simp [unsign, h]
  · rw [if_neg h]
    have e : n.toNat = n.natAbs := by omega
    rw [e]
    cases hd : decDigits n.natAbs with
    | nil => exact absurd hd (decDigits_ne _)
    | cons b r =>
      have hb := decDigits_digs n.natAbs b (by rw [hd]; simp)
      have : b ≠ 45 := by rintro rfl; exact absurd hb (by decide)
      simp only [unsign]
      rw [if_neg this]; simp [h]
theorem numT_itoa {most : Nat} {n : Int} (h : (decDigits n.natAbs).length ≤ most) : numT most (itoa n) = some n := by
  unfold numT
  rw [itoa_unsign]
  simp only
  rw [if_pos]
  · rw [decDigits_val]
    by_cases hn : n < 0
    · simp [hn]; omega
    · simp [hn]; omega
  · refine ⟨decDigits_ne _, h, decDigits_digs _, fun ⟨h1, h2⟩ => ?_⟩
    have h3 := decDigits_head _ h1
    have hv := decDigits_val n.natAbs
    rw [h3] at hv h2
    rw [decV_cons, decV_nil] at hv
    simp at hv
    simp at h2
    omega
theorem itoa_numT {most : Nat} {n : Int} {l : List UInt8} (h : numT most l = some n) : itoa n = l ∧ (decDigits n.natAbs).length ≤ most := by
  unfold numT at h
  split at h
  · rename_i hc
    obtain ⟨h1, h2, h3, h4⟩ := hc
    have hdd := decDigits_of (unsign l).1 h3 h1 (fun hz => by
      apply Classical.byContradiction
      intro hne
      apply h4
      refine ⟨hz, .inl ?_⟩
      cases hu : (unsign l).1 with
      | nil => exact absurd hu h1
      | cons y ys =>
        rw [hu] at hz hne
        simp only [List.head?_cons, Option.some.injEq] at hz
        subst hz
        cases ys with
        | nil => exact absurd rfl hne
        | cons z zs => simp)
    injection h with h
    cases l with
    | nil => exact absurd rfl h1
    | cons b r =>
      by_cases hb : b = 45
      · have e : unsign (b :: r) = (r, true) := by simp [unsign, hb]
        rw [e] at h h1 h2 h4 hdd
        rw [if_pos rfl] at h
        have hpos : 1 ≤ decV 0 r := by
          apply Classical.byContradiction
          intro hlt
          have hz : decV 0 r = 0 := by omega
          rw [hz] at hdd
          have : decDigits 0 = [48] := by rw [decDigits_one (by omega)]; rfl
          rw [this] at hdd
          apply h4
          rw [← hdd]
          exact ⟨rfl, .inr rfl⟩
        subst h
        have hna : (-(decV 0 r : Int)).natAbs = decV 0 r := by rw [Int.natAbs_neg, Int.natAbs_natCast]
        have hlt : -(decV 0 r : Int) < 0 := by omega
        clear hpos
        unfold itoa
        rw [if_pos hlt, hna, hdd, hb]
        exact ⟨rfl, h2⟩
      · have e : unsign (b :: r) = (b :: r, false) := by simp [unsign, hb]
        rw [e] at h h1 h2 h4 hdd
        rw [if_neg Bool.false_ne_true] at h
        subst h
        unfold itoa
        rw [if_neg (by omega), Int.toNat_natCast, Int.natAbs_natCast, hdd]
        exact ⟨rfl, h2⟩
  · cases h
end Go.Proofs.YtcfeoapbbkfbnaaGreatDoor
namespace Go.Proofs.YtcfeoapbbkfbnaaGreatDoor
open Go.Lib

section
variable {α : Type} (rd : List UInt8 → Option α)
/-- reading the pieces between line feeds, behind so many lines: behind the last line feed stands nothing. -/
def readS : Nat → List (List UInt8) → Except Nat (List α)
  | _, [] => .ok []
  | i, [x] => if x = [] then .ok [] else .error i
  | i, x :: y :: r => match rd x with
    | none => .error i
    | some a => match readS (i + 1) (y :: r) with
      | .error e => .error e
      | .ok l => .ok (a :: l)
/-- reading lines, of which the last one may lack its line feed. -/
def readK (ended : Bool) : Nat → List (List UInt8) → Except Nat (List α)
  | _, [] => .ok []
  | i, x :: r => match rd x with
    | none => .error i
    | some a => if ended = false ∧ r = [] then .error i else match readK ended (i + 1) r with
      | .error e => .error e
      | .ok l => .ok (a :: l)
/-- the lines of a text, and whether the last one is ended. -/
def linesK (t : List UInt8) : List (List UInt8) × Bool :=
  if t = [] then ([], true) else if t.getLast? = some 10 then (splitL 10 t.dropLast, true) else (splitL 10 t, false)
theorem splitL_end (c : UInt8) : ∀ t : List UInt8, splitL c (t ++ [c]) = splitL c t ++ [[]]
  | [] => by simp [splitL]
  | b :: r => by
    have ih := splitL_end c r
    rw [List.cons_append]
    simp only [splitL]
    by_cases hb : b = c
    · rw [if_pos hb, if_pos hb, ih]; rfl
    · rw [if_neg hb, if_neg hb, ih]
      cases hs : splitL c r with
      | nil => exact absurd hs (splitL_ne c r)
      | cons y ys => rfl
theorem readS_ended : ∀ (i : Nat) (xs : List (List UInt8)), readS rd i (xs ++ [[]]) = readK rd true i xs
  | i, [] => by simp [readS, readK]
  | i, [x] => by
    simp only [List.cons_append, List.nil_append, readS, readK]
    cases rd x with
    | none => rfl
    | some a => simp
  | i, x :: y :: r => by
    have ih := readS_ended (i + 1) (y :: r)
    rw [List.cons_append] at ih
    simp only [List.cons_append]
    rw [readS, readK, ih]
    cases rd x with
    | none => rfl
    | some a => simp
theorem readK_open : ∀ (i : Nat) (xs : List (List UInt8)) (l : List UInt8), l ≠ [] → readK rd false i (xs ++ [l]) = readS rd i (xs ++ [l])
  | i, [], l, hl => by
    simp only [List.nil_append, readS, readK]
    rw [if_neg hl]
    cases rd l with
    | none => rfl
    | some a => simp
  | i, [x], l, hl => by
    have ih := readK_open (i + 1) [] l hl
    simp only [List.nil_append] at ih
    simp only [List.cons_append, List.nil_append]
    rw [readK, ih]
    conv => rhs; rw [readS]
    cases rd x with
    | none => rfl
    | some a => simp
  | i, x :: y :: r, l, hl => by
    have ih := readK_open (i + 1) (y :: r) l hl
    rw [List.cons_append] at ih
    simp only [List.cons_append]
    rw [readK, ih, readS]
    cases rd x with
    | none => rfl
    | some a => simp
theorem split_last (c : UInt8) : ∀ t : List UInt8, t ≠ [] → t.getLast? ≠ some c → ∃ xs l, splitL c t = xs ++ [l] ∧ l ≠ []
  | [], h, _ => absurd rfl h
  | [b], _, h => by
    have hb : b ≠ c := fun e => h (by simp [e])
    exact ⟨[], [b], by simp [splitL, hb], by simp⟩
  | b :: d :: r, _, h => by
    obtain ⟨xs, l, e, hl⟩ := split_last c (d :: r) (by simp) (by rw [List.getLast?_cons_cons] at h; exact h)
    rw [splitL]
    by_cases hb : b = c
    · rw [if_pos hb, e]; exact ⟨[] :: xs, l, rfl, hl⟩
    · rw [if_neg hb, e]
      cases xs with
      | nil => exact ⟨[], b :: l, rfl, by simp⟩
      | cons y ys => exact ⟨(b :: y) :: ys, l, rfl, hl⟩
/-- the two ways are one. -/
theorem readK_eq (t : List UInt8) : readK rd (linesK t).2 0 (linesK t).1 = readS rd 0 (splitL 10 t) := by
  unfold linesK
  by_cases h0 : t = []
  · rw [if_pos h0, h0]; simp [readK, readS, splitL]
  · rw [if_neg h0]
    by_cases h1 : t.getLast? = some 10
    · rw [if_pos h1]
      have ht : t = t.dropLast ++ [10] := by
        obtain ⟨l, e⟩ := List.getLast?_eq_some_iff.1 h1
        rw [e]; simp
      conv => rhs; rw [ht, splitL_end]
      exact (readS_ended rd 0 _).symm
    · rw [if_neg h1]
      obtain ⟨xs, l, e, hl⟩ := split_last 10 t h0 h1
      simp only
      rw [e]
      exact readK_open rd 0 xs l hl
/-- as the reference goes: one line after the other is cut off. -/
def readR : Nat → Nat → List UInt8 → Except Nat (List α)
  | 0, _, _ => .ok []
  | f + 1, i, t => if t = [] then .ok [] else if 10 ∈ t then match rd (t.takeWhile (· ≠ 10)) with
      | none => .error i
      | some a => match readR f (i + 1) (t.drop ((t.takeWhile (· ≠ 10)).length + 1)) with
        | .error e => .error e
        | .ok l => .ok (a :: l)
    else .error i
theorem take_sep {c : UInt8} : ∀ {t : List UInt8}, c ∈ t → c ∉ t.takeWhile (· ≠ c) ∧ t = t.takeWhile (· ≠ c) ++ c :: t.drop ((t.takeWhile (· ≠ c)).length + 1)
  | [], h => by simp at h
  | b :: r, h => by
    by_cases hb : b = c
    · subst hb; simp
    · have hr : c ∈ r := by
        rcases List.mem_cons.1 h with e | h
        · exact absurd e.symm hb
        · exact h
      obtain ⟨h1, h2⟩ := take_sep hr
      have e : (b :: r).takeWhile (· ≠ c) = b :: r.takeWhile (· ≠ c) := by simp [hb]
      rw [e]
      refine ⟨?_, ?_⟩
      · intro hm
        rcases List.mem_cons.1 hm with e | hm
        · exact hb e.symm
        · exact h1 hm
      · rw [List.length_cons, List.drop_succ_cons, List.cons_append, ← h2]
theorem readR_eq : ∀ (f i : Nat) (t : List UInt8), t.length < f → readR rd f i t = readS rd i (splitL 10 t)
  | 0, _, _, h => by omega
  | f + 1, i, t, h => by
    rw [readR]
    by_cases h0 : t = []
    · rw [if_pos h0, h0]; simp [splitL, readS]
    · rw [if_neg h0]
      by_cases h1 : (10 : UInt8) ∈ t
      · rw [if_pos h1]
        obtain ⟨h2, h3⟩ := take_sep h1
        have hs : splitL 10 t = t.takeWhile (· ≠ 10) :: splitL 10 (t.drop ((t.takeWhile (· ≠ 10)).length + 1)) := by
          conv => lhs; rw [h3, splitL_sep _ h2]
        have hlt : (t.drop ((t.takeWhile (· ≠ 10)).length + 1)).length < f := by
          have := congrArg List.length h3
          rw [List.length_append, List.length_cons] at this
          omega
        rw [readR_eq f (i + 1) _ hlt, hs]
        cases hd : splitL 10 (t.drop ((t.takeWhile (· ≠ 10)).length + 1)) with
        | nil => exact absurd hd (splitL_ne 10 _)
        | cons y ys => rw [readS]
      · rw [if_neg h1, splitL_no h1, readS, if_neg h0]
end
section
variable {α : Type} (rd : List UInt8 → Option α) (wr : α → List UInt8)
/-- a text: each thing on a line of its own. -/
def textL (l : List α) : List UInt8 := l.flatMap fun a => wr a ++ [10]
theorem textL_cons (a : α) (l : List α) : textL wr (a :: l) = wr a ++ 10 :: textL wr l := by simp [textL]
theorem split_text : ∀ l : List α, (∀ a ∈ l, (10 : UInt8) ∉ wr a) → splitL 10 (textL wr l) = l.map wr ++ [[]]
  | [], _ => rfl
  | a :: l, h => by
    rw [textL_cons, splitL_sep _ (h a (by simp)), split_text l fun b hb => h b (List.mem_cons_of_mem _ hb)]; rfl
theorem read_text (l : List α) (h10 : ∀ a ∈ l, (10 : UInt8) ∉ wr a) (hr : ∀ a ∈ l, rd (wr a) = some a) : readS rd 0 (splitL 10 (textL wr l)) = .ok l := by
  rw [split_text wr l h10, readS_ended]
  have : ∀ (i : Nat) (l : List α), (∀ a ∈ l, rd (wr a) = some a) → readK rd true i (l.map wr) = .ok l := by
    intro i l
    induction l generalizing i with
    | nil => intro _; rfl
    | cons a l ih =>
      intro h
      rw [List.map_cons, readK, h a (by simp), ih (i + 1) fun b hb => h b (List.mem_cons_of_mem _ hb)]
      simp
  exact this 0 l hr
theorem readS_join (hw : ∀ x a, rd x = some a → wr a = x) : ∀ (i : Nat) (xs : List (List UInt8)) (l : List α), xs ≠ [] → readS rd i xs = .ok l → joinL 10 xs = textL wr l
  | _, [], _, h, _ => absurd rfl h
  | i, [x], l, _, h => by
    rw [readS] at h
    split at h
    · rename_i hx
      injection h with h
      subst h; subst hx; rfl
    · cases h
  | i, x :: y :: r, l, _, h => by
    rw [readS] at h
    cases hx : rd x with
    | none => rw [hx] at h; cases h
    | some a =>
      rw [hx] at h
      cases hr : readS rd (i + 1) (y :: r) with
      | error e => rw [hr] at h; cases h
      | ok m =>
        rw [hr] at h
        injection h with h
        subst h
        rw [joinL, readS_join hw (i + 1) (y :: r) m (by simp) hr, textL_cons, hw x a hx]
theorem text_read (hw : ∀ x a, rd x = some a → wr a = x) {t : List UInt8} {l : List α} (h : readS rd 0 (splitL 10 t) = .ok l) : textL wr l = t := by
  rw [← readS_join rd wr hw 0 _ l (splitL_ne 10 t) h, join_split]
end

/-! points -/
/-- a line with a point. -/
def rdP (x : List UInt8) : Option (Int × Int) := match splitL 32 x with
  | [a, b] => match numT 15 a, numT 15 b with
    | some m, some n => some (m, n)
    | _, _ => none
  | _ => none
def wrP (p : Int × Int) : List UInt8 := itoa p.1 ++ 32 :: itoa p.2
theorem itoa_free (n : Int) {c : UInt8} (hc : isDig c = false) (h45 : c ≠ 45) : c ∉ itoa n := by
  have hd : c ∉ decDigits n.natAbs := fun h => by have := decDigits_digs _ c h; rw [this] at hc; cases hc
  unfold itoa
  split
  · intro h
    rcases List.mem_cons.1 h with e | h
    · exact h45 e
    · exact hd h
  · rename_i hn
    have : n.toNat = n.natAbs := by omega
    rw [this]; exact hd
theorem rdP_wrP {p : Int × Int} (h1 : (decDigits p.1.natAbs).length ≤ 15) (h2 : (decDigits p.2.natAbs).length ≤ 15) : rdP (wrP p) = some p := by
  unfold rdP wrP
  rw [splitL_sep _ (itoa_free _ (by decide) (by decide)), splitL_no (itoa_free _ (by decide) (by decide))]
  simp only
  rw [numT_itoa h1, numT_itoa h2]
theorem wrP_rdP {x : List UInt8} {p : Int × Int} (h : rdP x = some p) : wrP p = x ∧ (decDigits p.1.natAbs).length ≤ 15 ∧ (decDigits p.2.natAbs).length ≤ 15 := by
  unfold rdP at h
  split at h
  · rename_i a b hs
    split at h
    · rename_i m n ha hb
      injection h with h
      subst h
      have hj := join_split 32 x
      rw [hs] at hj
      simp only [joinL] at hj
      obtain ⟨a1, a2⟩ := itoa_numT ha
      obtain ⟨b1, b2⟩ := itoa_numT hb
      unfold wrP
      simp only
      rw [a1, b1]
      exact ⟨hj, a2, b2⟩
    · cases h
  · cases h
theorem wrP_free (p : Int × Int) : (10 : UInt8) ∉ wrP p := by
  unfold wrP
  intro h
  rw [List.mem_append, List.mem_cons] at h
  rcases h with h | h | h
  · exact itoa_free _ (by decide) (by decide) h
  · exact absurd h (by decide)
  · exact itoa_free _ (by decide) (by decide) h
theorem digits_le {u k : Nat} (h : u < 10 ^ (k + 1)) : (decDigits u).length ≤ k + 1 := by
  rw [decDigits_length]
  apply Classical.byContradiction
  intro hgt
  have : ∀ u, 1 ≤ nDigits u → (1 < nDigits u → 10 ^ (nDigits u - 1) ≤ u) := by
    intro u
    induction u using Nat.strongRecOn with
    | _ u ih =>
      intro _ h1
      by_cases hu : u < 10
      · rw [nDigits_small hu] at h1; omega
      · rw [nDigits_big hu] at h1 ⊢
        rw [Nat.add_sub_cancel]
        by_cases h2 : 1 < nDigits (u / 10)
        · have := ih (u / 10) (by omega) (nDigits_pos _) h2
          have e : nDigits (u / 10) = (nDigits (u / 10) - 1) + 1 := by omega
          rw [e, Nat.pow_succ]
          omega
        · have e : nDigits (u / 10) = 1 := by have := nDigits_pos (u / 10); omega
          rw [e]; omega
  have h1 := this u (nDigits_pos u) (by omega)
  have h2 : 10 ^ (k + 1) ≤ 10 ^ (nDigits u - 1) := Nat.pow_le_pow_right (by decide) (by omega)
  omega
end Go.Proofs.YtcfeoapbbkfbnaaGreatDoor
namespace Go.Proofs.YtcfeoapbbkfbnaaGreatDoor
open Go.RowKit Go.Sort

/-- what lies in the library's variables: the powers of ten; some greatest length. -/
structure TxW (w : World) : Prop where
  tab : Lib.TabIs Tryz.prog w "internal/strconv.uint64pow10" .u64 Lib.pow10Tab
  max : ∃ m, w.cell? ⟨0, 0, none⟩ = some (.int .i64 m)
theorem TxW.size {w : World} (h : TxW w) : 1 < w.heap.size ∧ 0 < w.heap.size := by
  refine ⟨?_, ?_⟩
  · have hgn : Tryz.prog.globalNamed "internal/strconv.uint64pow10" = some 1 := by kernel_rfl
    have ht := h.tab
    unfold Lib.TabIs World.var? at ht
    rw [hgn] at ht
    simp only [Option.bind_some] at ht
    rcases Nat.lt_or_ge 1 w.heap.size with h' | h'
    · exact h'
    · rw [Array.getElem?_eq_none h'] at ht; cases ht
  · obtain ⟨m, hm⟩ := h.max
    exact World.block_lt_of_cell? _ _ hm
theorem TxW.below {w w' : World} (h : TxW w) (hb : Below w.heap.size w w') : TxW w' := by
  obtain ⟨h1, h2⟩ := h.size
  refine ⟨?_, ?_⟩
  · have hgn : Tryz.prog.globalNamed "internal/strconv.uint64pow10" = some 1 := by kernel_rfl
    have ht := h.tab
    unfold Lib.TabIs World.var? at ht ⊢
    rw [hgn] at ht ⊢
    simp only [Option.bind_some] at ht ⊢
    rw [hb.block _ h1]
    exact ht
  · obtain ⟨m, hm⟩ := h.max
    exact ⟨m, (hb.cell (p := ⟨0, 0, none⟩) h2).trans hm⟩
theorem below_growN (w : World) (k : Nat) (os : Array Obj) : Below w.heap.size w (grow (w.drewN k) os) :=
  ⟨rfl, rfl, rfl, by simp [grow, World.drewN], fun j hj => by simp [grow, World.drewN, Array.getElem?_append, hj]⟩
theorem Itoa_any (n : Int) (w : World) (hT : TxW w) (h0 : -9223372036854775808 ≤ n) (h1 : n ≤ 9223372036854775807) :
    Calls Tryz.prog 103 #[.int .i64 n] w fun e w' => e = .returned (.string ⟨(Lib.itoa n).toArray⟩) ∧ Below w.heap.size w w' := by
  refine (Tryz.strconv_Itoa n h0 h1 w hT.tab).mono ?_
  rintro e w' ⟨rfl, k, os, rfl⟩
  exact ⟨rfl, below_growN w k os⟩
def digL : List UInt8 := [48, 49, 50, 51, 52, 53, 54, 55, 56, 57]
theorem digL_all : ((List.range 256).all fun n => digL.contains (UInt8.ofNat n) == isDig (UInt8.ofNat n)) = true := by decide +kernel
theorem digL_is (b : UInt8) : digL.contains b = isDig b := by
  have h := List.all_eq_true.1 digL_all b.toNat (List.mem_range.2 b.toNat_lt)
  simpa using h
set_option maxRecDepth 100000 in
theorem trimD_any (s : ByteArray) (w : World) (hs : s.size ≤ 140737488355328) : Calls Tryz.prog 112 #[.string s, .string ⟨#[48, 49, 50, 51, 52, 53, 54, 55, 56, 57]⟩] w fun e w' => e = .returned (.string ⟨(Lib.trimS s.data.toList digL).toArray⟩) ∧ Below w.heap.size w w' :=
  Tryz.strings_Trim s ⟨#[48, 49, 50, 51, 52, 53, 54, 55, 56, 57]⟩ w (by omega) (by show 10 < 4294967281; omega) (by
    intro j b h
    have hb := List.mem_of_getElem? h
    have : ((⟨#[48, 49, 50, 51, 52, 53, 54, 55, 56, 57]⟩ : ByteArray).data.toList.all fun b => decide (b.toNat < 128)) = true := by decide +kernel
    rw [List.all_eq_true] at this
    simpa using this b hb)
theorem trimD_nil (l : List UInt8) : Lib.trimS l digL = [] ↔ ∀ b ∈ l, isDig b = true := by
  rw [trimS_nil, List.all_eq_true]
  constructor
  · intro h b hb; rw [← digL_is]; exact h b hb
  · intro h b hb; rw [digL_is]; exact h b hb
theorem decV_lt : ∀ (l : List UInt8) (a : Nat), (∀ b ∈ l, isDig b = true) → decV a l < (a + 1) * 10 ^ l.length
  | [], a, _ => by simp [decV]
  | b :: r, a, h => by
    have hb : isDig b = true := h b (by simp)
    have h9 : b.toNat % 16 ≤ 9 := by unfold isDig at hb; simp at hb; omega
    have := decV_lt r (a * 10 + (b.toNat % 16)) (fun x hx => h x (by simp [hx]))
    rw [decV_cons, List.length_cons, Nat.pow_succ]
    refine Nat.lt_of_lt_of_le this ?_
    have h2 : a * 10 + b.toNat % 16 + 1 ≤ (a + 1) * 10 := by omega
    calc (a * 10 + b.toNat % 16 + 1) * 10 ^ r.length ≤ (a + 1) * 10 * 10 ^ r.length := Nat.mul_le_mul_right _ h2
      _ = (a + 1) * (10 ^ r.length * 10) := by rw [Nat.mul_assoc, Nat.mul_comm 10]
theorem atoi_dig {d : List UInt8} (h0 : d ≠ []) (h : ∀ b ∈ d, isDig b = true) : Lib.atoi d = some (decV 0 d : Int) := by
  cases d with
  | nil => exact absurd rfl h0
  | cons b r =>
    have hb := h b (by simp)
    have h45 : (b == 45) = false := by
      rw [beq_eq_false_iff_ne]; rintro rfl; revert hb; decide
    have h43 : (b == 43) = false := by
      rw [beq_eq_false_iff_ne]; rintro rfl; revert hb; decide
    simp only [Lib.atoi, h45, h43, Lib.decNat]
    rw [decFrom_decV _ _ h]
    rfl
theorem ba_list (l : List UInt8) : (⟨l.toArray⟩ : ByteArray).toList = l := by rw [ByteArray.toList_eq]
theorem numT_some {most : Nat} {l : List UInt8} (h : (unsign l).1 ≠ [] ∧ (unsign l).1.length ≤ most ∧ (∀ b ∈ (unsign l).1, isDig b = true) ∧ ¬((unsign l).1.head? = some 48 ∧ (1 < (unsign l).1.length ∨ (unsign l).2 = true))) :
    numT most l = some (if (unsign l).2 = true then -(decV 0 (unsign l).1 : Int) else decV 0 (unsign l).1) := by unfold numT; rw [if_pos h]
theorem numT_none {most : Nat} {l : List UInt8} (h : ¬((unsign l).1 ≠ [] ∧ (unsign l).1.length ≤ most ∧ (∀ b ∈ (unsign l).1, isDig b = true) ∧ ¬((unsign l).1.head? = some 48 ∧ (1 < (unsign l).1.length ∨ (unsign l).2 = true)))) : numT most l = none := by unfold numT; rw [if_neg h]
end Go.Proofs.YtcfeoapbbkfbnaaGreatDoor
namespace Go.Proofs.YtcfeoapbbkfbnaaGreatDoor
open Go.RowKit Go.Sort

/-- numbers of many pieces. -/
def numsK : List (List UInt8) → Option (List Int)
  | [] => some []
  | x :: r => match numT 15 x with
    | none => none
    | some n => match numsK r with
      | none => none
      | some ns => some (n :: ns)
theorem numsK_snoc {xs : List (List UInt8)} {ns : List Int} (h : numsK xs = some ns) (x : List UInt8) {n : Int} (hx : numT 15 x = some n) : numsK (xs ++ [x]) = some (ns ++ [n]) := by
  induction xs generalizing ns with
  | nil =>
    simp only [numsK, Option.some.injEq] at h
    subst h
    simp [numsK, hx]
  | cons y r ih =>
    rw [List.cons_append]
    rw [numsK] at h ⊢
    cases hy : numT 15 y with
    | none => rw [hy] at h; cases h
    | some m =>
      rw [hy] at h
      cases hr : numsK r with
      | none => simp only [hr] at h; cases h
      | some ms =>
        simp only [hr, Option.some.injEq] at h
        subst h
        simp only [ih hr]
        rfl
theorem numsK_bad {x : List UInt8} (hx : numT 15 x = none) : ∀ (xs ys : List (List UInt8)), numsK (xs ++ x :: ys) = none
  | [], ys => by simp [numsK, hx]
  | y :: r, ys => by
    rw [List.cons_append, numsK, numsK_bad hx r ys]
    cases numT 15 y <;> rfl
theorem strsT_at {w : World} {lo : Nat} {a : Option Addr} {n cap : Nat} {l : List ByteArray} (h : RecR TS w lo (.slice a n cap) l) {i : Nat} {x : ByteArray} (hx : l[i]? = some x) :
    ∃ b o, a = some ⟨b, o, none⟩ ∧ lo ≤ b ∧ b < w.heap.size ∧ w.cell? ⟨b, o + i, none⟩ = some (.string x) := by
  obtain ⟨b, o, ha, hl, hb, hc⟩ := h.at TS.ok.len hx (by decide)
  have := hc 0 (.string x) rfl
  rw [show TS.k = 1 from rfl, Nat.mul_one, Nat.add_zero] at this
  exact ⟨b, o, ha, hl, hb, this⟩
theorem suffix_nl (l : List UInt8) : (l.getLast? = some 10 → Lib.hasSuffix l [10] = true ∧ Lib.trimSuffix l [10] = l.dropLast) ∧ (l.getLast? ≠ some 10 → Lib.hasSuffix l [10] = false ∧ Lib.trimSuffix l [10] = l) := by
  have h : Lib.hasSuffix l [10] = true ↔ l.getLast? = some 10 := by
    unfold Lib.hasSuffix
    rw [List.isSuffixOf_iff_suffix]
    constructor
    · rintro ⟨r, rfl⟩; simp
    · intro h
      obtain ⟨r, hr⟩ := List.getLast?_eq_some_iff.1 h
      exact ⟨r, hr.symm⟩
  refine ⟨fun e => ?_, fun e => ?_⟩
  · refine ⟨h.2 e, ?_⟩
    unfold Lib.trimSuffix
    rw [if_pos (h.2 e), List.dropLast_eq_take]; rfl
  · have hf : Lib.hasSuffix l [10] = false := by
      cases hb : Lib.hasSuffix l [10] with
      | false => rfl
      | true => exact absurd (h.1 hb) e
    refine ⟨hf, ?_⟩
    unfold Lib.trimSuffix
    rw [hf]; rfl
end Go.Proofs.YtcfeoapbbkfbnaaGreatDoor
