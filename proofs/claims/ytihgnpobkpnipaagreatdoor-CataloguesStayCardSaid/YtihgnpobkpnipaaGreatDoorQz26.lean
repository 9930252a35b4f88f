/- Texts of the proof of a law, put together, part 26 of 41. Conditions: none beyond those that each theorem names. -/
import Derived.Test.YtihgnpobkpnipaaGreatDoorQz1
import Derived.Test.YtihgnpobkpnipaaGreatDoorQz3
import Derived.Test.YtihgnpobkpnipaaGreatDoorQz9
import Derived.Test.YtihgnpobkpnipaaGreatDoorQz11
import Derived.Test.YtihgnpobkpnipaaGreatDoorQz17
import Derived.Test.YtihgnpobkpnipaaGreatDoorQz25
import Derived.BigQuiet
import Derived.Deep.QuietTactic
import Derived.Laws.Runes
namespace Go.Proofs.YtihgnpobkpnipaaGreatDoor
open Go.RowKit Go.Sort Go.Maps Go.Lib
theorem keyB_mem {b : ByteArray} (h : keyB b = true) : bsOf b ≠ [] ∧ ∀ c ∈ bsOf b, keyL.contains c = true := by
  unfold keyB at h
  simp only [Bool.and_eq_true, decide_eq_true_eq, List.all_eq_true] at h
  refine ⟨fun e => ?_, h.2⟩
  have : (bsOf b).length = b.size := Array.length_toList
  rw [e] at this
  have := h.1.1.1
  simp at *; omega
theorem keyL_no : keyL.contains 32 = false ∧ keyL.contains 10 = false := by decide
theorem keyB_free {b : ByteArray} (h : keyB b = true) (c : UInt8) (hc : keyL.contains c = false) : c ∉ bsOf b := fun hm => by
  have := (keyB_mem h).2 c hm
  rw [hc] at this; cases this
theorem itoa_ne (n : Int) : itoa n ≠ [] := by
  unfold itoa
  split
  · exact List.cons_ne_nil _ _
  · exact decDigits_ne _
theorem ba_empty {b : ByteArray} (h : b.size = 0) : b = ⟨#[]⟩ := ByteArray.ext (Array.eq_empty_of_size_eq_zero h)
theorem baOf_bsOf (b : ByteArray) : baOf (bsOf b) = b := by unfold baOf bsOf; simp
theorem nDigits_le : ∀ (k u : Nat), u < 10 ^ (k + 1) → nDigits u ≤ k + 1
  | 0, u, h => by rw [nDigits_small (by simpa using h)]; exact Nat.le_refl _
  | k + 1, u, h => by
    by_cases hu : u < 10
    · rw [nDigits_small hu]; omega
    · rw [nDigits_big hu]
      have := nDigits_le k (u / 10) (by rw [Nat.pow_succ] at h; omega)
      omega
theorem dig_few {n : Int} (h : 0 ≤ n ∧ n ≤ 345686399999) : (decDigits n.natAbs).length ≤ 15 := by
  rw [decDigits_length]
  exact nDigits_le 14 _ (by show n.natAbs < 1000000000000000; omega)
theorem joinL_free {c d : UInt8} (hcd : c ≠ d) : ∀ xs : List Bs, (∀ x ∈ xs, c ∉ x) → c ∉ joinL d xs
  | [], _ => by simp [joinL]
  | [x], h => by simp only [joinL]; exact h x (by simp)
  | x :: y :: r, h => by
    simp only [joinL]
    intro hm
    rcases List.mem_append.1 hm with hm | hm
    · exact h x (by simp) hm
    · rcases List.mem_cons.1 hm with e | hm
      · exact hcd e
      · exact joinL_free hcd (y :: r) (fun z hz => h z (List.mem_cons_of_mem _ hz)) hm
theorem itoa_mom {n : Int} (h : 0 ≤ n ∧ n ≤ 345686399999) : (itoa n).length ≤ 15 := by
  have h1 := dig_few h
  unfold itoa
  split
  · omega
  · have : n.toNat = n.natAbs := by omega
    rw [this]; exact h1
theorem bsOf_len (b : ByteArray) : (bsOf b).length = b.size := Array.length_toList
/-- the kit's join is ours. -/
theorem join_is : ∀ (xs : List Bs), join xs [32] = joinL 32 xs
  | [] => rfl
  | [x] => by simp [join, joinL]
  | x :: y :: r => by
    have := join_is (y :: r)
    rw [joinL, ← this]
    simp [join]
theorem keyB_size {b : ByteArray} (h : keyB b = true) : b.size ≤ 40 := by
  unfold keyB at h
  simp only [Bool.and_eq_true, decide_eq_true_eq] at h
  exact h.1.1.2
end Go.Proofs.YtihgnpobkpnipaaGreatDoor
namespace Go.Proofs.YtihgnpobkpnipaaGreatDoor
open Go.RowKit Go.Sort Go.Maps Go.Lib
/-! reading lines one after the other, over what has been read -/
section
variable {σ : Type} (rd : σ → Bs → Option σ)
def readSt : Nat → σ → List Bs → Except Nat σ
  | _, c, [] => .ok c
  | i, c, [x] => if x = [] then .ok c else .error i
  | i, c, x :: y :: r => match rd c x with
    | none => .error i
    | some d => readSt (i + 1) d (y :: r)
def readKt (ended : Bool) : Nat → σ → List Bs → Except Nat σ
  | _, c, [] => .ok c
  | i, c, x :: r => match rd c x with
    | none => .error i
    | some d => if ended = false ∧ r = [] then .error i else readKt ended (i + 1) d r
theorem readSt_ended : ∀ (i : Nat) (c : σ) (xs : List Bs), readSt rd i c (xs ++ [[]]) = readKt rd true i c xs
  | i, c, [] => by simp [readSt, readKt]
  | i, c, [x] => by
    simp only [List.cons_append, List.nil_append, readSt, readKt]
    cases rd c x with
    | none => rfl
    | some a => simp
  | i, c, x :: y :: r => by
    simp only [List.cons_append]
    rw [readSt, readKt]
    cases rd c x with
    | none => rfl
    | some d =>
      have ih := readSt_ended (i + 1) d (y :: r)
      rw [List.cons_append] at ih
      simp [ih]
theorem readKt_open : ∀ (i : Nat) (c : σ) (xs : List Bs) (l : Bs), l ≠ [] → readKt rd false i c (xs ++ [l]) = readSt rd i c (xs ++ [l])
  | i, c, [], l, hl => by
    simp only [List.nil_append, readSt, readKt]
    rw [if_neg hl]
    cases rd c l with
    | none => rfl
    | some a => simp
  | i, c, [x], l, hl => by
    simp only [List.cons_append, List.nil_append]
    rw [readKt, readSt]
    cases rd c x with
    | none => rfl
    | some d =>
      have ih := readKt_open (i + 1) d [] l hl
      simp only [List.nil_append] at ih
      simp [ih]
  | i, c, x :: y :: r, l, hl => by
    simp only [List.cons_append]
    rw [readKt, readSt]
    cases rd c x with
    | none => rfl
    | some d =>
      have ih := readKt_open (i + 1) d (y :: r) l hl
      rw [List.cons_append] at ih
      simp [ih]
theorem readKt_eq (c : σ) (t : Bs) : readKt rd (linesK t).2 0 c (linesK t).1 = readSt rd 0 c (splitL 10 t) := by
  unfold linesK
  by_cases h0 : t = []
  · rw [if_pos h0, h0]; simp [readKt, readSt, splitL]
  · rw [if_neg h0]
    by_cases h1 : t.getLast? = some 10
    · rw [if_pos h1]
      have ht : t = t.dropLast ++ [10] := by
        obtain ⟨l, e⟩ := List.getLast?_eq_some_iff.1 h1
        rw [e]; simp
      conv => rhs; rw [ht, splitL_end]
      exact (readSt_ended rd 0 c _).symm
    · rw [if_neg h1]
      obtain ⟨xs, l, e, hl⟩ := split_last 10 t h0 h1
      simp only
      rw [e]
      exact readKt_open rd 0 c xs l hl
end
/-! lines of catalogues -/
abbrev kwPart : Bs := [112, 97, 114, 116]
abbrev kwUse : Bs := [117, 115, 101]
abbrev kwBoth : Bs := [98, 111, 116, 104]
abbrev kwFor : Bs := [102, 111, 114]
def kwAlt (b : Bool) : Bs := if b = true then kwBoth else kwUse
def wrPt (x : Prt) : Bs := joinL 32 [kwPart, bsOf x.1, bsOf x.2.1, itoa x.2.2.1, itoa x.2.2.2]
def wrAl (x : Alt) : Bs := joinL 32 [kwAlt x.2.2, bsOf x.2.1, kwFor, bsOf x.1]
abbrev Cst := List Prt × List Alt
def catText (c : Cst) : Bs := textL wrPt c.1 ++ textL wrAl c.2
def rdPt (c : Cst) (w a b n m : Bs) : Option Cst := if w = kwPart ∧ c.2 = [] then (match numT 15 n, numT 15 m with
  | some i, some j => some (c.1 ++ [(baOf a, baOf b, i, j)], c.2)
  | _, _ => none) else none
def rdAl (c : Cst) (w a f b : Bs) : Option Cst := if (w = kwUse ∨ w = kwBoth) ∧ f = kwFor then some (c.1, c.2 ++ [(baOf b, baOf a, decide (w = kwBoth))]) else none
def rdCw (c : Cst) (ws : List Bs) : Option Cst := if [] ∈ ws then none else match ws with
  | [w, a, b, n, m] => rdPt c w a b n m
  | [w, a, f, b] => rdAl c w a f b
  | _ => none
def rdC (c : Cst) (x : Bs) : Option Cst := rdCw c (splitL 32 x)
/-- a part, an alternate that can be written. -/
structure PtT (x : Prt) : Prop where
  k : keyB x.1 = true
  p : keyB x.2.1 = true
  l : (decDigits x.2.2.1.natAbs).length ≤ 15
  b : (decDigits x.2.2.2.natAbs).length ≤ 15
structure AlT (x : Alt) : Prop where
  f : keyB x.1 = true
  b : keyB x.2.1 = true
theorem keyC_free {b : ByteArray} (h : keyB b = true) : (32 : UInt8) ∉ bsOf b ∧ (10 : UInt8) ∉ bsOf b ∧ bsOf b ≠ [] :=
  ⟨keyB_free h _ keyL_no.1, keyB_free h _ keyL_no.2, (keyB_mem h).1⟩
theorem itoaC_free (n : Int) : (32 : UInt8) ∉ itoa n ∧ (10 : UInt8) ∉ itoa n ∧ itoa n ≠ [] :=
  ⟨itoa_free _ (by decide) (by decide), itoa_free _ (by decide) (by decide), itoa_ne _⟩
theorem kwAlt_free (b : Bool) : (32 : UInt8) ∉ kwAlt b ∧ (10 : UInt8) ∉ kwAlt b ∧ kwAlt b ≠ [] := by cases b <;> decide
theorem wrPt_words {x : Prt} (h : PtT x) : ∀ y ∈ [kwPart, bsOf x.1, bsOf x.2.1, itoa x.2.2.1, itoa x.2.2.2], (32 : UInt8) ∉ y ∧ (10 : UInt8) ∉ y ∧ y ≠ [] := by
  intro y hy
  simp only [List.mem_cons, List.not_mem_nil, or_false] at hy
  rcases hy with rfl | rfl | rfl | rfl | rfl
  · decide
  · exact keyC_free h.k
  · exact keyC_free h.p
  · exact itoaC_free _
  · exact itoaC_free _
theorem wrAl_words {x : Alt} (h : AlT x) : ∀ y ∈ [kwAlt x.2.2, bsOf x.2.1, kwFor, bsOf x.1], (32 : UInt8) ∉ y ∧ (10 : UInt8) ∉ y ∧ y ≠ [] := by
  intro y hy
  simp only [List.mem_cons, List.not_mem_nil, or_false] at hy
  rcases hy with rfl | rfl | rfl | rfl
  · exact kwAlt_free _
  · exact keyC_free h.b
  · decide
  · exact keyC_free h.f
theorem wrPt_free {x : Prt} (h : PtT x) : (10 : UInt8) ∉ wrPt x := joinL_free (by decide) _ fun y hy => (wrPt_words h y hy).2.1
theorem wrAl_free {x : Alt} (h : AlT x) : (10 : UInt8) ∉ wrAl x := joinL_free (by decide) _ fun y hy => (wrAl_words h y hy).2.1
theorem rdC_wrPt {x : Prt} (h : PtT x) (ps : List Prt) : rdC (ps, []) (wrPt x) = some (ps ++ [x], []) := by
  unfold rdC wrPt
  rw [split_join 32 _ (by simp) fun y hy => (wrPt_words h y hy).1]
  unfold rdCw
  rw [if_neg fun hm => (wrPt_words h _ hm).2.2 rfl]
  show rdPt (ps, []) kwPart (bsOf x.1) (bsOf x.2.1) (itoa x.2.2.1) (itoa x.2.2.2) = _
  unfold rdPt
  rw [if_pos ⟨rfl, rfl⟩, numT_itoa h.l, numT_itoa h.b, baOf_bsOf, baOf_bsOf]
theorem rdC_wrAl {x : Alt} (h : AlT x) (ps : List Prt) (l : List Alt) : rdC (ps, l) (wrAl x) = some (ps, l ++ [x]) := by
  unfold rdC wrAl
  rw [split_join 32 _ (by simp) fun y hy => (wrAl_words h y hy).1]
  unfold rdCw
  rw [if_neg fun hm => (wrAl_words h _ hm).2.2 rfl]
  show rdAl (ps, l) (kwAlt x.2.2) (bsOf x.2.1) kwFor (bsOf x.1) = _
  obtain ⟨a, b, c⟩ := x
  unfold rdAl
  rw [if_pos ⟨by cases c <;> simp [kwAlt], rfl⟩, baOf_bsOf, baOf_bsOf]
  cases c <;> rfl
/-- what is written is read as it was. -/
theorem catRead_text {ps : List Prt} {l : List Alt} (hp : ∀ x ∈ ps, PtT x) (ha : ∀ x ∈ l, AlT x) : readSt rdC 0 ([], []) (splitL 10 (catText (ps, l))) = .ok (ps, l) := by
  have hsplit : ∀ r : List Bs, ∀ ps : List Prt, (∀ x ∈ ps, PtT x) → ∀ t : Bs, splitL 10 t = r → splitL 10 (textL wrPt ps ++ t) = ps.map wrPt ++ r := by
    intro r ps
    induction ps with
    | nil => intro _ t ht; exact ht
    | cons x q ih =>
      intro h t ht
      rw [textL_cons, List.append_assoc, List.cons_append, splitL_sep _ (wrPt_free (h x (List.mem_cons_self ..))), ih (fun y hy => h y (List.mem_cons_of_mem _ hy)) t ht]
      rfl
  unfold catText
  rw [hsplit _ ps hp _ (split_text wrAl l fun a h => wrAl_free (ha a h)), ← List.append_assoc, readSt_ended]
  have h2 : ∀ (l acc : List Alt) (ps : List Prt) (i : Nat), (∀ x ∈ l, AlT x) → readKt rdC true i (ps, acc) (l.map wrAl) = .ok (ps, acc ++ l) := by
    intro l
    induction l with
    | nil => intro acc ps i _; simp [readKt]
    | cons x q ih =>
      intro acc ps i h
      rw [List.map_cons, readKt, rdC_wrAl (h x (List.mem_cons_self ..))]
      simp only [Bool.true_eq_false, false_and, if_false]
      rw [ih (acc ++ [x]) ps (i + 1) fun y hy => h y (List.mem_cons_of_mem _ hy)]
      simp
  have h1 : ∀ (ps acc : List Prt) (i : Nat), (∀ x ∈ ps, PtT x) → readKt rdC true i (acc, []) (ps.map wrPt ++ l.map wrAl) = .ok (acc ++ ps, l) := by
    intro ps
    induction ps with
    | nil => intro acc i _; simpa using h2 l [] acc i ha
    | cons x q ih =>
      intro acc i h
      rw [List.map_cons, List.cons_append, readKt, rdC_wrPt (h x (List.mem_cons_self ..))]
      simp only [Bool.true_eq_false, false_and, if_false]
      rw [ih (acc ++ [x]) (i + 1) fun y hy => h y (List.mem_cons_of_mem _ hy)]
      simp
  simpa using h1 ps [] 0 hp
/-! a right catalogue can be written -/
theorem prtsF1_ok : ∀ {l : List Prt} {p : Option ByteArray}, prtsF1 p l = 0 → ∀ x ∈ l, (keyB x.1 = true ∧ keyB x.2.1 = true) ∧ (1 ≤ x.2.2.1 ∧ x.2.2.1 ≤ 6) ∧ 0 ≤ x.2.2.2 ∧ x.2.2.2 ≤ 720000000
  | [], _, _, _, hx => absurd hx List.not_mem_nil
  | y :: l, p, h, x, hx => by
    rw [prtsF1] at h
    by_cases h0 : prtF p y = 0
    · rw [if_pos h0] at h
      rcases List.mem_cons.1 hx with rfl | hx
      · unfold prtF at h0
        split at h0
        · exact absurd h0 (by decide)
        split at h0
        · exact absurd h0 (by decide)
        split at h0
        · exact absurd h0 (by decide)
        split at h0
        · exact absurd h0 (by decide)
        rename_i a b c d
        have c' : inB 1 x.2.2.1 6 = true := by simpa using c
        have d' : inB 0 x.2.2.2 720000000 = true := by simpa using d
        simp only [inB, Bool.and_eq_true, decide_eq_true_eq] at c' d'
        exact ⟨⟨by simpa using a, by simpa using b⟩, c', d'⟩
      · exact prtsF1_ok h x hx
    · rw [if_neg h0] at h; exact absurd h h0
theorem catsF_PtT {ps : List Prt} {l : List Alt} (h : catsF ps l = 0) : (∀ x ∈ ps, PtT x) ∧ ∀ x ∈ l, AlT x := by
  obtain ⟨_, h1, _, h2⟩ := catsF_ok h
  have hk := prtsF1_ok h1
  refine ⟨fun x hx => ?_, fun x hx => ?_⟩
  · obtain ⟨⟨a, b⟩, ⟨c, d⟩, e, f⟩ := hk x hx
    exact ⟨a, b, dig_few ⟨by omega, by omega⟩, dig_few ⟨by omega, by omega⟩⟩
  · obtain ⟨a, b, _⟩ := altsF1_has h2 x hx
    have key : ∀ k : ByteArray, hasP ps k = true → keyB k = true := fun k hh => by
      unfold hasP at hh
      obtain ⟨y, hy, he⟩ := List.any_eq_true.1 hh
      have e : y.1.toList = k.toList := by simpa using he
      rw [ByteArray.toList_eq, ByteArray.toList_eq] at e
      have e' : y.1 = k := ByteArray.ext (Array.toList_inj.1 e)
      exact e' ▸ (hk y hy).1.1
    exact ⟨key _ a, key _ b⟩
/-- how reading ends. -/
def rdEndC : Except Nat Cst → Cst × Int × Int
  | .error i => (([], []), i, 9)
  | .ok c => if catsF c.1 c.2 = 0 then (c, 0, 0) else (([], []), 0, catsF c.1 c.2)
def catRead (t : Bs) : Cst × Int × Int := if 200000 < t.length then (([], []), 0, 2) else rdEndC (readSt rdC 0 ([], []) (splitL 10 t))
theorem catRead_same {ps : List Prt} {l : List Alt} (h : catsF ps l = 0) (ht : (catText (ps, l)).length ≤ 200000) : catRead (catText (ps, l)) = ((ps, l), 0, 0) := by
  obtain ⟨h1, h2⟩ := catsF_PtT h
  unfold catRead
  rw [if_neg (by omega), catRead_text h1 h2]
  show (if catsF ps l = 0 then _ else _) = _
  rw [if_pos h]
/-! lengths -/
theorem itoaC_len {n : Int} (h : 0 ≤ n ∧ n ≤ 345686399999) : (itoa n).length ≤ 15 := itoa_mom h
theorem keyC_len {b : ByteArray} (h : keyB b = true) : (bsOf b).length ≤ 40 := by rw [bsOf_len]; exact keyB_size h
theorem wrPt_len {x : Prt} (h : PtT x) (h1 : 0 ≤ x.2.2.1 ∧ x.2.2.1 ≤ 345686399999) (h2 : 0 ≤ x.2.2.2 ∧ x.2.2.2 ≤ 345686399999) : (wrPt x).length ≤ 130 := by
  have a1 := keyC_len h.k
  have a2 := keyC_len h.p
  have a3 := itoaC_len h1
  have a4 := itoaC_len h2
  unfold wrPt
  simp only [joinL, List.length_append, List.length_cons, List.length_nil]
  omega
theorem wrAl_len {x : Alt} (h : AlT x) : (wrAl x).length ≤ 130 := by
  have a1 := keyC_len h.f
  have a2 := keyC_len h.b
  have a3 : (kwAlt x.2.2).length ≤ 4 := by cases x.2.2 <;> decide
  unfold wrAl
  simp only [joinL, List.length_append, List.length_cons, List.length_nil]
  omega
theorem textC_len {α : Type} (wr : α → Bs) : ∀ l : List α, (∀ x ∈ l, (wr x).length ≤ 130) → (textL wr l).length ≤ 131 * l.length
  | [], _ => by simp [textL]
  | x :: l, h => by
    have h1 := h x (List.mem_cons_self ..)
    have h2 := textC_len wr l fun y hy => h y (List.mem_cons_of_mem _ hy)
    rw [textL_cons, List.length_append, List.length_cons, List.length_cons]
    omega
theorem catText_len {ps : List Prt} {l : List Alt} (h : catsF ps l = 0) : (catText (ps, l)).length ≤ 131 * (ps.length + l.length) := by
  obtain ⟨h1, h2⟩ := catsF_PtT h
  obtain ⟨_, h3, _, _⟩ := catsF_ok h
  have hk := prtsF1_ok h3
  have a := textC_len wrPt ps fun x hx => wrPt_len (h1 x hx) ⟨by have := (hk x hx).2.1; omega, by have := (hk x hx).2.1; omega⟩ ⟨by have := (hk x hx).2.2; omega, by have := (hk x hx).2.2; omega⟩
  have b := textC_len wrAl l fun x hx => wrAl_len (h2 x hx)
  unfold catText
  rw [List.length_append]
  show (textL wrPt ps).length + (textL wrAl l).length ≤ _
  omega
theorem textC_take {α : Type} {wr : α → Bs} {l : List α} {k : Nat} {s : α} (h : l[k]? = some s) : textL wr (l.take (k + 1)) = textL wr (l.take k) ++ (wr s ++ [10]) := by
  unfold textL
  rw [List.take_add_one, h, List.flatMap_append]
  simp
/-! what is read is small -/
/-- so many lines; strings no longer than n. -/
def SmC (n : Nat) (c : Cst) (k : Nat) : Prop := c.1.length + c.2.length = k ∧ (∀ x ∈ c.1, x.1.size ≤ n ∧ x.2.1.size ≤ n ∧ (decDigits x.2.2.1.natAbs).length ≤ 15 ∧ (decDigits x.2.2.2.natAbs).length ≤ 15) ∧ ∀ x ∈ c.2, x.1.size ≤ n ∧ x.2.1.size ≤ n
theorem splitC_le (c : UInt8) : ∀ (l : Bs), ∀ z ∈ splitL c l, z.length ≤ l.length
  | [], z, h => by simp [splitL] at h; subst h; simp
  | b :: r, z, h => by
    have ih := splitC_le c r
    rw [splitL] at h
    split at h
    · rcases List.mem_cons.1 h with rfl | h
      · simp
      · have := ih z h; simp; omega
    · cases hs : splitL c r with
      | nil => exact absurd hs (splitL_ne c r)
      | cons y ys =>
        rw [hs] at h ih
        rcases List.mem_cons.1 h with rfl | h
        · have := ih y (List.mem_cons_self ..); simp; omega
        · have := ih z (List.mem_cons_of_mem _ h); simp; omega
theorem baOf_sizeT (b : Bs) : (baOf b).size = b.length := by unfold baOf; simp [ByteArray.size]
theorem rdC_sm {n k : Nat} {c d : Cst} {x : Bs} (hx : x.length ≤ n) (hc : SmC n c k) (h : rdC c x = some d) : SmC n d (k + 1) := by
  obtain ⟨h1, h2, h3⟩ := hc
  have hl : ∀ y ∈ splitL 32 x, y.length ≤ n := fun y hy => Nat.le_trans (splitC_le 32 x y hy) hx
  unfold rdC rdCw at h
  split at h
  · cases h
  split at h
  · rename_i w a b i j hw
    rw [hw] at hl
    unfold rdPt at h
    split at h
    · cases hn : numT 15 i with
      | none => rw [hn] at h; cases h
      | some p =>
        cases hm : numT 15 j with
        | none => rw [hn, hm] at h; cases h
        | some q =>
          rw [hn, hm] at h
          injection h with h
          subst h
          refine ⟨by simp; omega, fun y hy => ?_, h3⟩
          rcases List.mem_append.1 hy with hy | hy
          · exact h2 y hy
          · rw [List.mem_singleton.1 hy]
            exact ⟨by rw [baOf_sizeT]; exact hl a (by simp), by rw [baOf_sizeT]; exact hl b (by simp), (itoa_numT hn).2, (itoa_numT hm).2⟩
    · cases h
  · rename_i w a f b hw
    rw [hw] at hl
    unfold rdAl at h
    split at h
    · injection h with h
      subst h
      refine ⟨by simp; omega, h2, fun y hy => ?_⟩
      rcases List.mem_append.1 hy with hy | hy
      · exact h3 y hy
      · rw [List.mem_singleton.1 hy]
        exact ⟨by rw [baOf_sizeT]; exact hl b (by simp), by rw [baOf_sizeT]; exact hl a (by simp)⟩
    · cases h
  · cases h
end Go.Proofs.YtihgnpobkpnipaaGreatDoor
namespace Go.Proofs.YtihgnpobkpnipaaGreatDoor
open Go.RowKit Go.Sort
theorem sz3 {A E C : ByteArray} {n u : Nat} (h2 : E.size ≤ 4) (h3 : A.size + C.size ≤ n) : (A ++ E ++ C).size ≤ n + u + 4 := by
  rw [ByteArray.size_append, ByteArray.size_append]; omega
theorem sz2 {A C : ByteArray} {n u : Nat} (h3 : A.size + C.size ≤ n) : (A ++ C).size ≤ n + u + 4 := by
  rw [ByteArray.size_append]; omega
theorem lays166 : Go.Proofs.Lays.n166 Tryz.prog Tryz.lays156_ren := { Tryz.lays156 with }
theorem byteCells_str (s : ByteArray) : Lib.strCells s = Lib.byteCells s.data.toList := by
  simp [Lib.strCells, Lib.byteCells]
theorem byteCells_app (a b : List UInt8) : Lib.byteCells (a ++ b) = Lib.byteCells a ++ Lib.byteCells b := by
  simp [Lib.byteCells]
/-- the builder at b holds these bytes. -/
def Bd8 (B b : Nat) (l : List UInt8) (w : World) : Prop := Lib.IsBuilder 93 5 B b (Lib.byteCells l) w
theorem WriteString_any (B b : Nat) (l : List UInt8) (s : ByteArray) (w : World) (h : Bd8 B b l w) (hlen : l.length + s.size ≤ 140737488355328) (hBw : B ≤ w.heap.size) :
    Calls Tryz.prog 48 #[.pointer (some ⟨b, 0, none⟩), .string s] w fun e w' => e = .returned (.tuple #[.int .i64 s.size, .nilIface]) ∧ Bd8 B b (l ++ s.data.toList) w' ∧ Below B w w' := by
  refine (Any.Builder_WriteString lays166 Tryz.Builder_Extra_156 B b _ s w h (by simpa [Lib.byteCells] using hlen) hBw).mono ?_
  rintro e w' ⟨rfl, h1, h2⟩
  refine ⟨rfl, ?_, h2⟩
  unfold Bd8
  rw [byteCells_app, ← byteCells_str]
  exact .inr h1
theorem BString_any (B b : Nat) (l : List UInt8) (w : World) (h : Bd8 B b l w) (hBw : B ≤ w.heap.size) :
    Calls Tryz.prog 51 #[.pointer (some ⟨b, 0, none⟩)] w fun e w' => e = .returned (.string ⟨l.toArray⟩) ∧ Below B w w' := Tryz.Builder_String_any B b l w h hBw
theorem Bd8.below {B b : Nat} {l : List UInt8} {w w' : World} (h : Bd8 B b l w) (hb : Below w.heap.size w w') : Bd8 B b l w' := by
  rcases h with ⟨h0, v, h1, h2, h3⟩ | ⟨h0, v, h1, h2, h3⟩
  · exact .inl ⟨h0, v, blk_below h1 hb, own_belowA h2 hb, h3⟩
  · exact .inr ⟨h0, v, blk_below h1 hb, own_belowA h2 hb, h3⟩
theorem BLen_any (B b : Nat) (l : List UInt8) (w : World) (h : Bd8 B b l w) :
    Calls Tryz.prog 50 #[.pointer (some ⟨b, 0, none⟩)] w fun e w' => e = .returned (.int .i64 l.length) ∧ w' = w := by
  have := Tryz.Builder_Len B b _ w h
  rw [show (Lib.byteCells l).length = l.length by simp [Lib.byteCells]] at this
  exact this
end Go.Proofs.YtihgnpobkpnipaaGreatDoor
namespace Go.Proofs.YtihgnpobkpnipaaGreatDoor
open Go.RowKit Go.Sort Go.Maps
theorem JoinR_any (v : Value) (xs : List ByteArray) (w : World) (h : RecR TS w 0 v xs) (hne : xs ≠ []) (hN : xs.length ≤ 1000000) (hlen : (joinL 32 (xs.map bsOf)).length ≤ 1000000) :
    Calls Tryz.prog 49 #[v] w fun e w' => ∃ r : ByteArray, e = .returned (.string r) ∧ bsOf r = joinL 32 (xs.map bsOf) ++ [10] ∧ Below w.heap.size w w' := by
  obtain ⟨a, c, rfl, hc1, hc2⟩ := h.form
  obtain ⟨x, hx⟩ : ∃ x, xs[0]? = some x := ⟨_, List.getElem?_eq_getElem (List.length_pos_iff.2 hne)⟩
  obtain ⟨b, o, rfl, _, hb, _⟩ := str_at h hx
  have hj : Lib.join (xs.map (·.data.toList)) [32] = joinL 32 (xs.map bsOf) := join_is _
  refine (JoinK_any b o c xs w (fun j y hj => ?_) hb hN hc1 (by rw [hj]; exact hlen)).mono ?_
  · obtain ⟨b', o', e, _, _, hc⟩ := str_at h hj
    injection e with e
    injection e with e1 e2
    subst e1; subst e2
    exact hc
  · rintro e w' ⟨r, rfl, hr, hb'⟩
    exact ⟨r, rfl, by rw [← hj]; exact hr, hb'⟩
theorem TxW.low {w w' : World} {B : Nat} (h : TxW w) (hb : Below B w w') (h1 : 3 < B) (h2 : 0 < B) : TxW w' := by
  refine ⟨?_, ?_⟩
  · have hgn : Tryz.prog.globalNamed "internal/strconv.uint64pow10" = some 3 := by kernel_rfl
    have ht := h.tab
    unfold Lib.TabIs World.var? at ht ⊢
    rw [hgn] at ht ⊢
    simp only [Option.bind_some] at ht ⊢
    rw [hb.block _ h1]
    exact ht
  · obtain ⟨m, hm⟩ := h.max
    refine ⟨m, ?_⟩
    unfold World.cell? at hm ⊢
    rw [hb.block _ h2]
    exact hm
end Go.Proofs.YtihgnpobkpnipaaGreatDoor
