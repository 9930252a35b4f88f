/- Steps as they are written and read: the plain law. No conditions. · Steps as texts: reading and writing whole texts, the plain law. No conditions. -/
import Derived.Test.YtbkglhakhahfpaaGreatDoorLines
import Derived.Test.YtbkglhakhahfpaaGreatDoorHop
import Derived.Test.YtbkglhakhahfpaaGreatDoorKey
import Derived.Test.YtbkglhakhahfpaaGreatDoorTmp
namespace Go.Proofs.YtbkglhakhahfpaaGreatDoor
open Go.RowKit Go.Sort Go.Maps Go.Lib

/-- the words of kinds. -/
def kwL : List Bs := [[], [114, 101, 102, 108, 111, 119], [102, 97, 105, 108], [112, 97, 115, 115], [114, 101, 112, 97, 105, 114], [115, 99, 114, 97, 112], [115, 104, 105, 112]]
def kwOf (k : Int) : Bs := kwL.getD k.toNat []
/-- which kind a word is; none: it is none. -/
def kdOf (w : Bs) : Option Int := if w = kwOf 1 then some 1 else if w = kwOf 2 then some 2 else if w = kwOf 3 then some 3 else if w = kwOf 4 then some 4 else if w = kwOf 5 then some 5 else if w = kwOf 6 then some 6 else none
theorem kdOf_kw {k : Int} (h : 1 ≤ k ∧ k ≤ 6) : kdOf (kwOf k) = some k := by
  have : k = 1 ∨ k = 2 ∨ k = 3 ∨ k = 4 ∨ k = 5 ∨ k = 6 := by omega
  rcases this with rfl | rfl | rfl | rfl | rfl | rfl <;> decide
theorem kw_kdOf {w : Bs} {k : Int} (h : kdOf w = some k) : kwOf k = w ∧ 1 ≤ k ∧ k ≤ 6 := by
  unfold kdOf at h
  repeat' split at h
  all_goals first
    | (injection h with h; subst h; rename_i e; exact ⟨e.symm, by decide, by decide⟩)
    | cases h
/-- the words of a step without its moment. -/
def wordsS (s : Stp) : List Bs := [bsOf s.bd, kwOf s.kd] ++ if namB s.kd = true then [bsOf s.co] else []
def wrS (s : Stp) : Bs := joinL 32 (itoa s.at :: wordsS s)
def frW : List Bs → Option (ByteArray × Int × ByteArray)
  | [b, k] => match kdOf k with
    | some i => if namB i = false then some (baOf b, i, ⟨#[]⟩) else none
    | none => none
  | [b, k, c] => match kdOf k with
    | some i => if namB i = true then some (baOf b, i, baOf c) else none
    | none => none
  | _ => none
def rdW (ws : List Bs) : Option Stp :=
  if [] ∈ ws then none else match numT 15 (ws.headD []), frW ws.tail with
    | some a, some (b, k, c) => some (a, b, k, c)
    | _, _ => none
def rdS (x : Bs) : Option Stp := rdW (splitL 32 x)
/-- a step that can be written. -/
structure StW (s : Stp) : Prop where
  at' : 0 ≤ s.at ∧ s.at ≤ 345686399999
  bd : keyB s.bd = true
  kd : 1 ≤ s.kd ∧ s.kd ≤ 6
  co : namB s.kd = true → keyB s.co = true
  no : namB s.kd = false → s.co.size = 0
theorem keyB_mem {b : ByteArray} (h : keyB b = true) : bsOf b ≠ [] ∧ ∀ c ∈ bsOf b, keyL.contains c = true := by
  unfold keyB at h
  simp only [Bool.and_eq_true, decide_eq_true_eq, List.all_eq_true] at h
  refine ⟨fun e => ?_, h.2⟩
  have : (bsOf b).length = b.size := Array.length_toList
  rw [e] at this
  have := h.1.1.1
  simp at *; omega
theorem keyL_no : keyL.contains 32 = false ∧ keyL.contains 10 = false := by decide
theorem keyB_free {b : ByteArray} (h : keyB b = true) (c : UInt8) (hc : keyL.contains c = false) : c ∉ bsOf b := fun hm => by
  have := (keyB_mem h).2 c hm
  rw [hc] at this; cases this
theorem kw_free {k : Int} (h : 1 ≤ k ∧ k ≤ 6) : (32 : UInt8) ∉ kwOf k ∧ (10 : UInt8) ∉ kwOf k ∧ kwOf k ≠ [] := by
  have : k = 1 ∨ k = 2 ∨ k = 3 ∨ k = 4 ∨ k = 5 ∨ k = 6 := by omega
  rcases this with rfl | rfl | rfl | rfl | rfl | rfl <;> decide
theorem itoa_ne (n : Int) : itoa n ≠ [] := by
  unfold itoa
  split
  · exact List.cons_ne_nil _ _
  · exact decDigits_ne _
theorem ba_empty {b : ByteArray} (h : b.size = 0) : b = ⟨#[]⟩ := ByteArray.ext (Array.eq_empty_of_size_eq_zero h)
theorem wordsS_free {s : Stp} (h : StW s) : ∀ x ∈ wordsS s, (32 : UInt8) ∉ x ∧ (10 : UInt8) ∉ x ∧ x ≠ [] := by
  intro x hx
  unfold wordsS at hx
  rcases List.mem_append.1 hx with hx | hx
  · simp only [List.mem_cons, List.not_mem_nil, or_false] at hx
    rcases hx with rfl | rfl
    · exact ⟨keyB_free h.bd _ keyL_no.1, keyB_free h.bd _ keyL_no.2, (keyB_mem h.bd).1⟩
    · exact kw_free h.kd
  · split at hx
    · rename_i hn
      rw [List.mem_singleton] at hx; subst hx
      exact ⟨keyB_free (h.co hn) _ keyL_no.1, keyB_free (h.co hn) _ keyL_no.2, (keyB_mem (h.co hn)).1⟩
    · simp at hx
theorem baOf_bsOf (b : ByteArray) : baOf (bsOf b) = b := bsOf_inj (bsOf_baOf _)
theorem frW_words {s : Stp} (h : StW s) : frW (wordsS s) = some (s.bd, s.kd, s.co) := by
  unfold wordsS
  cases hn : namB s.kd with
  | true =>
    rw [if_pos rfl]
    show (match kdOf (kwOf s.kd) with | some i => if namB i = true then some (baOf (bsOf s.bd), i, baOf (bsOf s.co)) else none | none => none) = _
    rw [kdOf_kw h.kd]
    show (if namB s.kd = true then _ else _) = _
    rw [if_pos hn, baOf_bsOf, baOf_bsOf]
  | false =>
    rw [if_neg (by decide)]
    show (match kdOf (kwOf s.kd) with | some i => if namB i = false then some (baOf (bsOf s.bd), i, (⟨#[]⟩ : ByteArray)) else none | none => none) = _
    rw [kdOf_kw h.kd]
    show (if namB s.kd = false then _ else _) = _
    rw [if_pos hn, baOf_bsOf, ← ba_empty (h.no hn)]
theorem nDigits_le : ∀ (k u : Nat), u < 10 ^ (k + 1) → nDigits u ≤ k + 1
  | 0, u, h => by rw [nDigits_small (by simpa using h)]; exact Nat.le_refl _
  | k + 1, u, h => by
    by_cases hu : u < 10
    · rw [nDigits_small hu]; omega
    · rw [nDigits_big hu]
      have := nDigits_le k (u / 10) (by rw [Nat.pow_succ] at h; omega)
      omega
theorem dig_few {n : Int} (h : 0 ≤ n ∧ n ≤ 345686399999) : (decDigits n.natAbs).length ≤ 15 := by
  rw [decDigits_length]
  exact nDigits_le 14 _ (by show n.natAbs < 1000000000000000; omega)
theorem rdS_wrS {s : Stp} (h : StW s) : rdS (wrS s) = some s := by
  unfold rdS wrS
  have hf := wordsS_free h
  rw [split_join 32 _ (by simp) fun x hx => ?_]
  · unfold rdW
    rw [if_neg]
    · show (match numT 15 (itoa s.at), frW (wordsS s) with | some a, some (b, k, c) => some (a, b, k, c) | _, _ => none) = _
      rw [numT_itoa (dig_few h.at'), frW_words h]
    · intro hm
      rcases List.mem_cons.1 hm with e | hm
      · exact itoa_ne _ e.symm
      · exact (hf _ hm).2.2 rfl
  · rcases List.mem_cons.1 hx with rfl | hx
    · exact itoa_free _ (by decide) (by decide)
    · exact (hf x hx).1
theorem joinL_free {c d : UInt8} (hcd : c ≠ d) : ∀ xs : List Bs, (∀ x ∈ xs, c ∉ x) → c ∉ joinL d xs
  | [], _ => by simp [joinL]
  | [x], h => by simp only [joinL]; exact h x (by simp)
  | x :: y :: r, h => by
    simp only [joinL]
    intro hm
    rcases List.mem_append.1 hm with hm | hm
    · exact h x (by simp) hm
    · rcases List.mem_cons.1 hm with e | hm
      · exact hcd e
      · exact joinL_free hcd (y :: r) (fun z hz => h z (List.mem_cons_of_mem _ hz)) hm
theorem wrS_free {s : Stp} (h : StW s) : (10 : UInt8) ∉ wrS s := by
  refine joinL_free (by decide) _ fun x hx => ?_
  rcases List.mem_cons.1 hx with rfl | hx
  · exact itoa_free _ (by decide) (by decide)
  · exact (wordsS_free h x hx).2.1
theorem frW_back {ws : List Bs} {b c : ByteArray} {k : Int} (h : frW ws = some (b, k, c)) : wordsS (0, b, k, c) = ws := by
  unfold frW at h
  split at h
  · rename_i x y
    cases hk : kdOf y with
    | none => rw [hk] at h; cases h
    | some i =>
      rw [hk] at h
      simp only at h
      split at h
      · rename_i hn
        injection h with h
        injection h with h1 h2
        injection h2 with h2 h3
        subst h1; subst h2; subst h3
        unfold wordsS
        rw [if_neg (by show ¬ namB i = true; rw [hn]; decide)]
        show [bsOf (baOf x), kwOf i] ++ [] = _
        rw [bsOf_baOf, (kw_kdOf hk).1]; rfl
      · cases h
  · rename_i x y z
    cases hk : kdOf y with
    | none => rw [hk] at h; cases h
    | some i =>
      rw [hk] at h
      simp only at h
      split at h
      · rename_i hn
        injection h with h
        injection h with h1 h2
        injection h2 with h2 h3
        subst h1; subst h2; subst h3
        unfold wordsS
        rw [if_pos (show namB i = true from hn)]
        show [bsOf (baOf x), kwOf i] ++ [bsOf (baOf z)] = _
        rw [bsOf_baOf, bsOf_baOf, (kw_kdOf hk).1]; rfl
      · cases h
  · cases h
theorem wrS_rdS {x : Bs} {s : Stp} (h : rdS x = some s) : wrS s = x := by
  unfold rdS rdW at h
  split at h
  · cases h
  · cases hw : splitL 32 x with
    | nil => exact absurd hw (splitL_ne 32 x)
    | cons w ws =>
      rw [hw] at h
      simp only [List.headD_cons, List.tail_cons] at h
      cases hn : numT 15 w with
      | none => rw [hn] at h; simp at h
      | some a =>
        cases hf : frW ws with
        | none => rw [hn, hf] at h; simp at h
        | some q =>
          obtain ⟨b, k, c⟩ := q
          rw [hn, hf] at h
          simp only [Option.some.injEq] at h
          subst h
          unfold wrS
          show joinL 32 (itoa a :: wordsS (0, b, k, c)) = x
          rw [(itoa_numT hn).1, frW_back hf, ← hw, join_split]
end Go.Proofs.YtbkglhakhahfpaaGreatDoor
namespace Go.Proofs.YtbkglhakhahfpaaGreatDoor
open Go.RowKit Go.Sort Go.Maps Go.Lib

theorem stepF_W {p : Option Int} {s : Stp} (h : stepF p s = 0) : StW s := by
  unfold stepF at h
  split at h
  · exact absurd h (by decide)
  rename_i h1
  split at h
  · exact absurd h (by decide)
  rename_i h2
  split at h
  · exact absurd h (by decide)
  rename_i h3
  split at h
  · exact absurd h (by decide)
  rename_i h4
  split at h
  · exact absurd h (by decide)
  rename_i h5
  refine ⟨?_, by simpa using h2, ?_, fun hn => ?_, fun hn => ?_⟩
  · simp only [Bool.not_eq_false, momB, inB, Bool.and_eq_true, decide_eq_true_eq] at h1; exact h1
  · simp only [Bool.not_eq_false, inB, Bool.and_eq_true, decide_eq_true_eq] at h3; exact h3
  · cases hc : keyB s.co with
    | true => rfl
    | false => exact absurd ⟨hn, hc⟩ h5
  · rcases Nat.eq_zero_or_pos s.co.size with h0 | h0
    · exact h0
    · exact absurd ⟨hn, by omega⟩ h4
theorem stepsF1_W : ∀ (l : List Stp) (p : Option Int), stepsF1 p l = 0 → ∀ s ∈ l, StW s
  | [], _, _, s, hs => by cases hs
  | x :: l, p, h, s, hs => by
    rw [stepsF1] at h
    split at h
    · rename_i h0
      rcases List.mem_cons.1 hs with rfl | hs
      · exact stepF_W h0
      · exact stepsF1_W l _ h s hs
    · rename_i h0; exact absurd h h0
theorem stepsF_W {l : List Stp} (h : stepsF l = 0) : ∀ s ∈ l, StW s := by
  unfold stepsF at h
  split at h
  · exact absurd h (by decide)
  · exact stepsF1_W l none h
/-- how reading ends. -/
def rdEndS : Except Nat (List Stp) → List Stp × Int × Int
  | .error i => ([], i, 9)
  | .ok l => if stepsF l = 0 then (l, 0, 0) else ([], 0, stepsF l)
def stepsRead (t : Bs) : List Stp × Int × Int := if 200000 < t.length then ([], 0, 2) else rdEndS (readS rdS 0 (splitL 10 t))
/-- what is written is read as it was. -/
theorem stepsRead_text {l : List Stp} (hf : stepsF l = 0) (ht : (textL wrS l).length ≤ 200000) : stepsRead (textL wrS l) = (l, 0, 0) := by
  unfold stepsRead
  rw [if_neg (by omega), read_text rdS wrS l (fun s hs => wrS_free (stepsF_W hf s hs)) (fun s hs => rdS_wrS (stepsF_W hf s hs))]
  show (if stepsF l = 0 then _ else _) = _
  rw [if_pos hf]
/-- what is read is written so. -/
theorem text_stepsRead {t : Bs} (h : (stepsRead t).2.2 = 0) : stepsF (stepsRead t).1 = 0 ∧ textL wrS (stepsRead t).1 = t ∧ t.length ≤ 200000 := by
  unfold stepsRead at h ⊢
  split at h
  · cases h
  · rename_i hl
    rw [if_neg hl]
    cases hr : readS rdS 0 (splitL 10 t) with
    | error i => rw [hr] at h; cases h
    | ok l =>
      rw [hr] at h
      show stepsF (if stepsF l = 0 then (l, 0, 0) else ([], 0, stepsF l) : List Stp × Int × Int).1 = 0 ∧ textL wrS (if stepsF l = 0 then (l, 0, 0) else ([], 0, stepsF l) : List Stp × Int × Int).1 = t ∧ _
      by_cases hf : stepsF l = 0
      · rw [if_pos hf]
        exact ⟨hf, text_read rdS wrS (fun x a hx => wrS_rdS hx) hr, by omega⟩
      · exfalso
        have : (if stepsF l = 0 then (l, 0, 0) else ([], 0, stepsF l) : List Stp × Int × Int).2.2 = 0 := h
        rw [if_neg hf] at this
        exact hf this
/-- a line is short. -/
theorem kw_len {k : Int} (h : 1 ≤ k ∧ k ≤ 6) : (kwOf k).length ≤ 6 := by
  have : k = 1 ∨ k = 2 ∨ k = 3 ∨ k = 4 ∨ k = 5 ∨ k = 6 := by omega
  rcases this with rfl | rfl | rfl | rfl | rfl | rfl <;> decide
theorem itoa_mom {n : Int} (h : 0 ≤ n ∧ n ≤ 345686399999) : (itoa n).length ≤ 15 := by
  have h1 := dig_few h
  unfold itoa
  split
  · omega
  · have : n.toNat = n.natAbs := by omega
    rw [this]; exact h1
theorem bsOf_len (b : ByteArray) : (bsOf b).length = b.size := Array.length_toList
theorem wrS_len {s : Stp} (h : StW s) : (wrS s).length ≤ 110 := by
  have h1 := itoa_mom h.at'
  have h2 := kw_len h.kd
  have h3 := keyB_size h.bd
  unfold wrS wordsS
  by_cases hn : namB s.kd = true
  · have h4 := keyB_size (h.co hn)
    rw [if_pos hn]
    show (joinL 32 [itoa s.at, bsOf s.bd, kwOf s.kd, bsOf s.co]).length ≤ 110
    simp only [joinL, List.length_append, List.length_cons, bsOf_len]
    omega
  · rw [if_neg hn]
    show (joinL 32 [itoa s.at, bsOf s.bd, kwOf s.kd]).length ≤ 110
    simp only [joinL, List.length_append, List.length_cons, bsOf_len]
    omega
theorem textS_len : ∀ (l : List Stp), (∀ s ∈ l, StW s) → (textL wrS l).length ≤ l.length * 111
  | [], _ => by simp [textL]
  | s :: l, h => by
    have h1 := wrS_len (h s (by simp))
    have h2 := textS_len l fun q hq => h q (List.mem_cons_of_mem _ hq)
    rw [textL_cons]
    simp only [List.length_append, List.length_cons]
    omega
/-- the kit's join is ours. -/
theorem join_is : ∀ (xs : List Bs), join xs [32] = joinL 32 xs
  | [] => rfl
  | [x] => by simp [join, joinL]
  | x :: y :: r => by
    have := join_is (y :: r)
    rw [joinL, ← this]
    simp [join]
/-! reading lines, one after the other -/
def ontoS (ss : List Stp) : Except Nat (List Stp) → Except Nat (List Stp)
  | .error e => .error e
  | .ok l => .ok (ss ++ l)
theorem readKS_bad {b : Bool} {k : Nat} {x : Bs} {r : List Bs} (h : rdS x = none ∨ (b = false ∧ r = [])) : readK rdS b k (x :: r) = .error k := by
  rw [readK]
  rcases h with h | ⟨h1, h2⟩
  · rw [h]
  · cases rdS x with
    | none => rfl
    | some a => simp only; rw [if_pos ⟨h1, h2⟩]
theorem readKS_good {b : Bool} {k : Nat} {x : Bs} {r : List Bs} {s : Stp} (h : rdS x = some s) (h2 : ¬(b = false ∧ r = [])) (ss : List Stp) : ontoS ss (readK rdS b k (x :: r)) = ontoS (ss ++ [s]) (readK rdS b (k + 1) r) := by
  rw [readK, h]
  simp only
  rw [if_neg h2]
  cases readK rdS b (k + 1) r with
  | error e => rfl
  | ok l => simp [ontoS]
theorem ontoS_nil (r : Except Nat (List Stp)) : ontoS [] r = r := by cases r <;> simp [ontoS]
/-- sizes of what is read. -/
theorem rdS_small {x : Bs} {s : Stp} (h : rdS x = some s) : s.bd.size ≤ x.length ∧ s.co.size ≤ x.length := by
  have h1 := wrS_rdS h
  rw [← h1]
  unfold wrS wordsS
  rw [← bsOf_len, ← bsOf_len]
  unfold rdS rdW at h
  split at h
  · cases h
  · cases hn : numT 15 ((splitL 32 x).headD []) with
    | none => rw [hn] at h; simp at h
    | some a =>
      cases hf : frW (splitL 32 x).tail with
      | none => rw [hn, hf] at h; simp at h
      | some q =>
        obtain ⟨b, k, c⟩ := q
        rw [hn, hf] at h
        simp only [Option.some.injEq] at h
        subst h
        by_cases hk : namB k = true
        · rw [if_pos (show namB (Stp.kd (a, b, k, c)) = true from hk)]
          show (bsOf b).length ≤ (joinL 32 [itoa a, bsOf b, kwOf k, bsOf c]).length ∧ (bsOf c).length ≤ (joinL 32 [itoa a, bsOf b, kwOf k, bsOf c]).length
          simp only [joinL, List.length_append, List.length_cons]
          omega
        · rw [if_neg (show ¬ namB (Stp.kd (a, b, k, c)) = true from hk)]
          show (bsOf b).length ≤ (joinL 32 [itoa a, bsOf b, kwOf k]).length ∧ (bsOf c).length ≤ (joinL 32 [itoa a, bsOf b, kwOf k]).length
          have hc : c.size = 0 := by
            unfold frW at hf
            split at hf
            · cases hq : kdOf _ with
              | none => rw [hq] at hf; cases hf
              | some i =>
                rw [hq] at hf
                simp only at hf
                split at hf
                · injection hf with hf; injection hf with _ hf; injection hf with _ hf; subst hf; rfl
                · cases hf
            · cases hq : kdOf _ with
              | none => rw [hq] at hf; cases hf
              | some i =>
                rw [hq] at hf
                simp only at hf
                split at hf
                · rename_i hni
                  injection hf with hf; injection hf with _ hf; injection hf with e _; subst e
                  exact absurd hni hk
                · cases hf
            · cases hf
          have hc2 := bsOf_len c
          simp only [joinL, List.length_append, List.length_cons]
          omega
end Go.Proofs.YtbkglhakhahfpaaGreatDoor
