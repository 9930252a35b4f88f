/- Texts of the proof of a law, put together, part 15 of 46. Conditions: none beyond those that each theorem names. -/
import Derived.Test.YtilhonppgedoiaaGreatDoorFz7
import Derived.Test.YtilhonppgedoiaaGreatDoorFz12
import Derived.Test.YtilhonppgedoiaaGreatDoorFz14
namespace Go.Proofs.YtilhonppgedoiaaGreatDoor
open Go.RowKit Go.Sort Go.Maps Go.Lib
/-- the words of kinds. -/
def kwF : List Bs := [[], [108, 111, 97, 100], [115, 112, 108, 105, 99, 101], [117, 110, 108, 111, 97, 100], [117, 115, 101], [99, 111, 117, 110, 116]]
def kwFof (k : Int) : Bs := kwF.getD k.toNat []
/-- the words of an event without its moment. -/
def wordsF (e : Fed) : List Bs := kwFof e.kd :: ((if uF e.kd = true then [bsOf e.fd] else []) ++ (if uR e.kd = true then [bsOf e.rl] else []) ++ (if uM e.kd = true then [itoa e.mn] else []) ++ (if uB e.kd = true then [bsOf e.bd] else []))
def wrF (e : Fed) : Bs := joinL 32 (itoa e.at :: wordsF e)
abbrev FdP := Int × ByteArray × ByteArray × Int × ByteArray
def fr2 (w a : Bs) : Option FdP := if w = kwFof 3 ∧ keyB (baOf a) = true then some (3, baOf a, ByteArray.empty, 0, ByteArray.empty) else none
def fr3 (m : Nat) (w a b : Bs) : Option FdP :=
  if w = kwFof 1 ∧ keyB (baOf a) = true ∧ keyB (baOf b) = true then some (1, baOf a, baOf b, 0, ByteArray.empty)
  else if w = kwFof 2 ∧ keyB (baOf a) = true ∧ keyB (baOf b) = true then some (2, baOf a, baOf b, 0, ByteArray.empty)
  else if w = kwFof 5 ∧ keyB (baOf a) = true then (numT m b).map fun n => (5, ByteArray.empty, baOf a, n, ByteArray.empty)
  else none
def fr4 (m : Nat) (w a b c : Bs) : Option FdP := if w = kwFof 4 ∧ keyB (baOf a) = true ∧ keyB (baOf c) = true then (numT m b).map fun n => (4, baOf a, ByteArray.empty, n, baOf c) else none
/-- what is read of the words of an event, with numbers of at most so many digits. -/
def frFd (m : Nat) : List Bs → Option FdP
  | [w, a] => fr2 w a
  | [w, a, b] => fr3 m w a b
  | [w, a, b, c] => fr4 m w a b c
  | _ => none
abbrev frF : List Bs → Option FdP := frFd 15
def rdWF (ws : List Bs) : Option Fed :=
  if [] ∈ ws then none else match numT 15 (ws.headD []), frF ws.tail with
    | some a, some p => some (a, p)
    | _, _ => none
def rdF (x : Bs) : Option Fed := rdWF (splitL 32 x)
/-- an event that can be written. -/
structure FdT (e : Fed) : Prop where
  kd : 1 ≤ e.kd ∧ e.kd ≤ 5
  fd : uF e.kd = true → keyB e.fd = true
  fn : uF e.kd = false → e.fd = ByteArray.empty
  rl : uR e.kd = true → keyB e.rl = true
  rn : uR e.kd = false → e.rl = ByteArray.empty
  mn : uM e.kd = false → e.mn = 0
  bd : uB e.kd = true → keyB e.bd = true
  bn : uB e.kd = false → e.bd = ByteArray.empty
/-- an event whose numbers are short. -/
structure FdS (e : Fed) : Prop where
  t : FdT e
  at' : (decDigits e.at.natAbs).length ≤ 15
  mn' : (decDigits e.mn.natAbs).length ≤ 15
theorem five {k : Int} (h : 1 ≤ k ∧ k ≤ 5) : k = 1 ∨ k = 2 ∨ k = 3 ∨ k = 4 ∨ k = 5 := by omega
theorem kwF_free {k : Int} (h : 1 ≤ k ∧ k ≤ 5) : (32 : UInt8) ∉ kwFof k ∧ (10 : UInt8) ∉ kwFof k ∧ kwFof k ≠ [] := by
  rcases five h with rfl | rfl | rfl | rfl | rfl <;> decide
theorem key_free {b : ByteArray} (h : keyB b = true) : (32 : UInt8) ∉ bsOf b ∧ (10 : UInt8) ∉ bsOf b ∧ bsOf b ≠ [] :=
  ⟨keyB_free h _ keyL_no.1, keyB_free h _ keyL_no.2, (keyB_mem h).1⟩
theorem itoaF_free (n : Int) : (32 : UInt8) ∉ itoa n ∧ (10 : UInt8) ∉ itoa n ∧ itoa n ≠ [] :=
  ⟨itoa_free _ (by decide) (by decide), itoa_free _ (by decide) (by decide), itoa_ne _⟩
theorem wordsF_free {e : Fed} (h : FdT e) : ∀ x ∈ wordsF e, (32 : UInt8) ∉ x ∧ (10 : UInt8) ∉ x ∧ x ≠ [] := by
  intro x hx
  unfold wordsF at hx
  rcases List.mem_cons.1 hx with rfl | hx
  · exact kwF_free h.kd
  rcases List.mem_append.1 hx with hx | hx
  · rcases List.mem_append.1 hx with hx | hx
    · rcases List.mem_append.1 hx with hx | hx
      · split at hx
        · rename_i q; rw [List.mem_singleton.1 hx]; exact key_free (h.fd q)
        · cases hx
      · split at hx
        · rename_i q; rw [List.mem_singleton.1 hx]; exact key_free (h.rl q)
        · cases hx
    · split at hx
      · rw [List.mem_singleton.1 hx]; exact itoaF_free _
      · cases hx
  · split at hx
    · rename_i q; rw [List.mem_singleton.1 hx]; exact key_free (h.bd q)
    · cases hx
theorem frF_words {e : Fed} (h : FdS e) : frF (wordsF e) = some (e.kd, e.fd, e.rl, e.mn, e.bd) := by
  obtain ⟨t, kd, fd, rl, mn, bd⟩ := e
  have ht := h.t
  have hm : numT 15 (itoa mn) = some mn := numT_itoa h.mn'
  have hkd : 1 ≤ kd ∧ kd ≤ 5 := ht.kd
  rcases five hkd with rfl | rfl | rfl | rfl | rfl
  · have h1 : keyB fd = true := ht.fd rfl
    have h2 : keyB rl = true := ht.rl rfl
    have h3 : mn = 0 := ht.mn rfl
    have h4 : bd = ByteArray.empty := ht.bn rfl
    subst h3; subst h4
    show fr3 15 (kwFof 1) (bsOf fd) (bsOf rl) = _
    unfold fr3
    rw [baOf_bsOf, baOf_bsOf, if_pos ⟨rfl, h1, h2⟩] <;> rfl
  · have h1 : keyB fd = true := ht.fd rfl
    have h2 : keyB rl = true := ht.rl rfl
    have h3 : mn = 0 := ht.mn rfl
    have h4 : bd = ByteArray.empty := ht.bn rfl
    subst h3; subst h4
    show fr3 15 (kwFof 2) (bsOf fd) (bsOf rl) = _
    unfold fr3
    rw [baOf_bsOf, baOf_bsOf, if_neg (fun q => absurd q.1 (by decide)), if_pos ⟨rfl, h1, h2⟩] <;> rfl
  · have h1 : keyB fd = true := ht.fd rfl
    have h2 : rl = ByteArray.empty := ht.rn rfl
    have h3 : mn = 0 := ht.mn rfl
    have h4 : bd = ByteArray.empty := ht.bn rfl
    subst h2; subst h3; subst h4
    show fr2 (kwFof 3) (bsOf fd) = _
    unfold fr2
    rw [baOf_bsOf, if_pos ⟨rfl, h1⟩] <;> rfl
  · have h1 : keyB fd = true := ht.fd rfl
    have h2 : rl = ByteArray.empty := ht.rn rfl
    have h4 : keyB bd = true := ht.bd rfl
    subst h2
    show fr4 15 (kwFof 4) (bsOf fd) (itoa mn) (bsOf bd) = _
    unfold fr4
    rw [baOf_bsOf, baOf_bsOf, if_pos ⟨rfl, h1, h4⟩, hm] <;> rfl
  · have h1 : fd = ByteArray.empty := ht.fn rfl
    have h2 : keyB rl = true := ht.rl rfl
    have h4 : bd = ByteArray.empty := ht.bn rfl
    subst h1; subst h4
    show fr3 15 (kwFof 5) (bsOf rl) (itoa mn) = _
    unfold fr3
    rw [baOf_bsOf, if_neg (fun q => absurd q.1 (by decide)), if_neg (fun q => absurd q.1 (by decide)), if_pos ⟨rfl, h2⟩, hm] <;> rfl
theorem rdF_wrF {e : Fed} (h : FdS e) : rdF (wrF e) = some e := by
  unfold rdF wrF
  have hf := wordsF_free h.t
  rw [split_join 32 _ (by simp) fun x hx => ?_]
  · unfold rdWF
    rw [if_neg]
    · show (match numT 15 (itoa e.at), frF (wordsF e) with | some a, some p => some (a, p) | _, _ => none) = _
      rw [numT_itoa h.at', frF_words h] <;> rfl
    · intro hm
      rcases List.mem_cons.1 hm with e | hm
      · exact itoa_ne _ e.symm
      · exact (hf _ hm).2.2 rfl
  · rcases List.mem_cons.1 hx with rfl | hx
    · exact (itoaF_free _).1
    · exact (hf x hx).1
theorem wrF_free {e : Fed} (h : FdT e) : (10 : UInt8) ∉ wrF e := by
  refine joinL_free (by decide) _ fun x hx => ?_
  rcases List.mem_cons.1 hx with rfl | hx
  · exact (itoaF_free _).2.1
  · exact (wordsF_free h x hx).2.1
/-- what is read can be written, and is written so. -/
theorem frF_back {ws : List Bs} {p : FdP} (a : Int) (h : frF ws = some p) : wordsF (a, p) = ws ∧ FdT (a, p) ∧ (decDigits p.2.2.2.1.natAbs).length ≤ 15 := by
  have hz : (decDigits (0 : Int).natAbs).length ≤ 15 := by decide +kernel
  unfold frF frFd at h
  split at h
  · rename_i w x
    unfold fr2 at h
    split at h
    · rename_i q
      injection h with h; subst h
      obtain ⟨rfl, h1⟩ := q
      exact ⟨by show [kwFof 3, bsOf (baOf x)] = _; rw [bsOf_baOf], ⟨by simp [Fed.kd], fun _ => h1, fun q => by simp [uF, Fed.kd] at q, fun q => by simp [uR, Fed.kd] at q, fun _ => rfl, fun _ => rfl, fun q => by simp [uB, Fed.kd] at q, fun _ => rfl⟩, hz⟩
    · cases h
  · rename_i w x y
    unfold fr3 at h
    split at h
    · rename_i q
      injection h with h; subst h
      obtain ⟨rfl, h1, h2⟩ := q
      exact ⟨by show [kwFof 1, bsOf (baOf x), bsOf (baOf y)] = _; rw [bsOf_baOf, bsOf_baOf], ⟨by simp [Fed.kd], fun _ => h1, fun q => by simp [uF, Fed.kd] at q, fun _ => h2, fun q => by simp [uR, Fed.kd] at q, fun _ => rfl, fun q => by simp [uB, Fed.kd] at q, fun _ => rfl⟩, hz⟩
    split at h
    · rename_i q
      injection h with h; subst h
      obtain ⟨rfl, h1, h2⟩ := q
      exact ⟨by show [kwFof 2, bsOf (baOf x), bsOf (baOf y)] = _; rw [bsOf_baOf, bsOf_baOf], ⟨by simp [Fed.kd], fun _ => h1, fun q => by simp [uF, Fed.kd] at q, fun _ => h2, fun q => by simp [uR, Fed.kd] at q, fun _ => rfl, fun q => by simp [uB, Fed.kd] at q, fun _ => rfl⟩, hz⟩
    split at h
    · rename_i q
      obtain ⟨rfl, h1⟩ := q
      cases hn : numT 15 y with
      | none => rw [hn] at h; cases h
      | some n =>
        rw [hn] at h
        injection h with h; subst h
        obtain ⟨e1, e2⟩ := itoa_numT hn
        exact ⟨by show [kwFof 5, bsOf (baOf x), itoa n] = _; rw [bsOf_baOf, e1], ⟨by simp [Fed.kd], fun q => by simp [uF, Fed.kd] at q, fun _ => rfl, fun _ => h1, fun q => by simp [uR, Fed.kd] at q, fun q => by simp [uM, Fed.kd] at q, fun q => by simp [uB, Fed.kd] at q, fun _ => rfl⟩, e2⟩
    · cases h
  · rename_i w x y z
    unfold fr4 at h
    split at h
    · rename_i q
      obtain ⟨rfl, h1, h2⟩ := q
      cases hn : numT 15 y with
      | none => rw [hn] at h; cases h
      | some n =>
        rw [hn] at h
        injection h with h; subst h
        obtain ⟨e1, e2⟩ := itoa_numT hn
        exact ⟨by show [kwFof 4, bsOf (baOf x), itoa n, bsOf (baOf z)] = _; rw [bsOf_baOf, bsOf_baOf, e1], ⟨by simp [Fed.kd], fun _ => h1, fun q => by simp [uF, Fed.kd] at q, fun q => by simp [uR, Fed.kd] at q, fun _ => rfl, fun q => by simp [uM, Fed.kd] at q, fun _ => h2, fun q => by simp [uB, Fed.kd] at q⟩, e2⟩
    · cases h
  · cases h
theorem wrF_rdF {x : Bs} {e : Fed} (h : rdF x = some e) : wrF e = x ∧ FdS e := by
  unfold rdF rdWF at h
  split at h
  · cases h
  · cases hw : splitL 32 x with
    | nil => exact absurd hw (splitL_ne 32 x)
    | cons w ws =>
      rw [hw] at h
      simp only [List.headD_cons, List.tail_cons] at h
      cases hn : numT 15 w with
      | none => rw [hn] at h; simp at h
      | some a =>
        cases hf : frF ws with
        | none => rw [hn, hf] at h; simp at h
        | some q =>
          rw [hn, hf] at h
          simp only [Option.some.injEq] at h
          subst h
          obtain ⟨e1, e2, e3⟩ := frF_back a hf
          obtain ⟨n1, n2⟩ := itoa_numT hn
          refine ⟨?_, e2, n2, e3⟩
          unfold wrF
          show joinL 32 (itoa a :: wordsF (a, q)) = x
          rw [n1, e1, ← hw, join_split]
end Go.Proofs.YtilhonppgedoiaaGreatDoor
namespace Go.Proofs.YtilhonppgedoiaaGreatDoor
open Go.RowKit Go.Sort Go.Maps Go.Lib
/-- a name that an event uses is none. -/
def keysBad (x : Fed) : Bool := (uF x.2.1 && !keyB x.2.2.1) || (uR x.2.1 && !keyB x.2.2.2.1) || (uB x.2.1 && !keyB x.2.2.2.2.2)
/-- what is wrong with an event that is written. -/
def textF (x : Fed) : Int := if inB 1 x.2.1 5 = false then 4 else if formB x = false then 3 else if keysBad x = true then 5 else 0
def textsF1 : List Fed → Int
  | [] => 0
  | x :: l => if textF x = 0 then textsF1 l else textF x
def textsF (l : List Fed) : Int := if 5000 < l.length then 2 else textsF1 l
theorem textsF1_go {l : List Fed} {k : Nat} {x : Fed} (hx : l[k]? = some x) (h : textF x = 0) : textsF1 (l.drop k) = textsF1 (l.drop (k + 1)) := by
  obtain ⟨hk, e⟩ := List.getElem?_eq_some_iff.1 hx
  rw [List.drop_eq_getElem_cons hk, e, textsF1, if_pos h]
theorem textsF1_stop {l : List Fed} {k : Nat} {x : Fed} (hx : l[k]? = some x) (h : textF x ≠ 0) : textsF1 (l.drop k) = textF x := by
  obtain ⟨hk, e⟩ := List.getElem?_eq_some_iff.1 hx
  rw [List.drop_eq_getElem_cons hk, e, textsF1, if_neg h]
theorem emp_of {b : ByteArray} (h : b.toList.isEmpty = true) : b = ByteArray.empty := by
  have h1 : b.toList = [] := List.isEmpty_iff.1 h
  rw [ByteArray.toList_eq] at h1
  cases b
  rename_i d
  have : d = #[] := Array.ext' h1
  rw [this]; rfl
theorem emp_is {b : ByteArray} (h : b = ByteArray.empty) : b.toList.isEmpty = true := by
  rw [h, ByteArray.toList_eq]; rfl
/-- an event without a fault can be written. -/
theorem textF_ok {e : Fed} (h : textF e = 0) : FdT e := by
  unfold textF at h
  split at h
  · exact absurd h (by decide)
  rename_i h1
  split at h
  · exact absurd h (by decide)
  rename_i h2
  split at h
  · exact absurd h (by decide)
  rename_i h3
  have h2' : formB e = true := by simpa using h2
  have h3' : keysBad e = false := by simpa using h3
  have hk : 1 ≤ e.2.1 ∧ e.2.1 ≤ 5 := by
    unfold inB at h1
    simpa using h1
  unfold formB at h2'
  unfold keysBad at h3'
  simp only [Bool.and_eq_true, Bool.or_eq_true] at h2'
  simp only [Bool.or_eq_false_iff, Bool.and_eq_false_iff, Bool.not_eq_false'] at h3'
  obtain ⟨⟨⟨f1, f2⟩, f3⟩, f4⟩ := h2'
  obtain ⟨⟨k1, k2⟩, k3⟩ := h3'
  refine ⟨hk, fun q => ?_, fun q => ?_, fun q => ?_, fun q => ?_, fun q => ?_, fun q => ?_, fun q => ?_⟩
  · exact k1.resolve_left fun r => by rw [show uF e.2.1 = true from q] at r; cases r
  · exact emp_of (f1.resolve_left fun r => by rw [show uF e.2.1 = false from q] at r; cases r)
  · exact k2.resolve_left fun r => by rw [show uR e.2.1 = true from q] at r; cases r
  · exact emp_of (f2.resolve_left fun r => by rw [show uR e.2.1 = false from q] at r; cases r)
  · exact of_decide_eq_true (f3.resolve_left fun r => by rw [show uM e.2.1 = false from q] at r; cases r)
  · exact k3.resolve_left fun r => by rw [show uB e.2.1 = true from q] at r; cases r
  · exact emp_of (f4.resolve_left fun r => by rw [show uB e.2.1 = false from q] at r; cases r)
theorem textF_of {e : Fed} (h : FdT e) : textF e = 0 := by
  have hk : inB 1 e.2.1 5 = true := by unfold inB; have := h.kd; simp only [Bool.and_eq_true, decide_eq_true_eq]; exact this
  have hf : formB e = true := by
    unfold formB
    simp only [Bool.and_eq_true, Bool.or_eq_true]
    refine ⟨⟨⟨?_, ?_⟩, ?_⟩, ?_⟩
    · cases hq : uF e.2.1
      · exact .inr (emp_is (h.fn hq))
      · exact .inl rfl
    · cases hq : uR e.2.1
      · exact .inr (emp_is (h.rn hq))
      · exact .inl rfl
    · cases hq : uM e.2.1
      · exact .inr (decide_eq_true (h.mn hq))
      · exact .inl rfl
    · cases hq : uB e.2.1
      · exact .inr (emp_is (h.bn hq))
      · exact .inl rfl
  have hb : keysBad e = false := by
    unfold keysBad
    simp only [Bool.or_eq_false_iff, Bool.and_eq_false_iff, Bool.not_eq_false']
    refine ⟨⟨?_, ?_⟩, ?_⟩
    · cases hq : uF e.2.1
      · exact .inl rfl
      · exact .inr (h.fd hq)
    · cases hq : uR e.2.1
      · exact .inl rfl
      · exact .inr (h.rl hq)
    · cases hq : uB e.2.1
      · exact .inl rfl
      · exact .inr (h.bd hq)
  unfold textF
  rw [if_neg (by rw [hk]; decide), if_neg (by rw [hf]; decide), if_neg (by rw [hb]; decide)]
theorem textsF1_ok : ∀ {l : List Fed}, textsF1 l = 0 → ∀ e ∈ l, FdT e
  | [], _, _, he => by cases he
  | x :: l, h, e, he => by
    rw [textsF1] at h
    by_cases h0 : textF x = 0
    · rw [if_pos h0] at h
      rcases List.mem_cons.1 he with rfl | he
      · exact textF_ok h0
      · exact textsF1_ok h e he
    · rw [if_neg h0] at h; exact absurd h h0
theorem textsF_ok {l : List Fed} (h : textsF l = 0) : l.length ≤ 5000 ∧ ∀ e ∈ l, FdT e := by
  unfold textsF at h
  split at h
  · exact absurd h (by decide)
  · exact ⟨by omega, textsF1_ok h⟩
theorem textsF1_of : ∀ {l : List Fed}, (∀ e ∈ l, FdT e) → textsF1 l = 0
  | [], _ => rfl
  | x :: l, h => by rw [textsF1, if_pos (textF_of (h x (List.mem_cons_self ..)))]; exact textsF1_of fun e he => h e (List.mem_cons_of_mem _ he)
theorem textsF_of {l : List Fed} (hl : l.length ≤ 5000) (h : ∀ e ∈ l, FdT e) : textsF l = 0 := by
  unfold textsF
  rw [if_neg (by omega)]; exact textsF1_of h
/-- how reading ends. -/
def rdEndF : Except Nat (List Fed) → List Fed × Int × Int
  | .error i => ([], i, 9)
  | .ok l => if 5000 < l.length then ([], 0, 2) else (l, 0, 0)
def feedsRead (t : Bs) : List Fed × Int × Int := if 200000 < t.length then ([], 0, 2) else rdEndF (readS rdF 0 (splitL 10 t))
/-- what is written is read as it was. -/
theorem feedsRead_text {l : List Fed} (hl : l.length ≤ 5000) (hf : ∀ e ∈ l, FdS e) (ht : (textL wrF l).length ≤ 200000) : feedsRead (textL wrF l) = (l, 0, 0) := by
  unfold feedsRead
  rw [if_neg (by omega), read_text rdF wrF l (fun s hs => wrF_free (hf s hs).t) (fun s hs => rdF_wrF (hf s hs))]
  show (if 5000 < l.length then _ else _) = _
  rw [if_neg (by omega)]
theorem readK_all {α : Type} {rd : List UInt8 → Option α} {P : α → Prop} (hp : ∀ x a, rd x = some a → P a) {b : Bool} : ∀ (k : Nat) (xs : List (List UInt8)) (l : List α), readK rd b k xs = .ok l → ∀ a ∈ l, P a
  | _, [], l, h, a, ha => by rw [readK] at h; injection h with h; subst h; cases ha
  | k, x :: r, l, h, a, ha => by
    rw [readK] at h
    cases hx : rd x with
    | none => rw [hx] at h; cases h
    | some y =>
      rw [hx] at h
      simp only at h
      split at h
      · cases h
      · cases hr : readK rd b (k + 1) r with
        | error i => rw [hr] at h; cases h
        | ok l' =>
          rw [hr] at h
          injection h with h
          subst h
          rcases List.mem_cons.1 ha with rfl | ha
          · exact hp _ _ hx
          · exact readK_all hp (k + 1) r l' hr a ha
/-- what is read is written so. -/
theorem text_feedsRead {t : Bs} (h : (feedsRead t).2.2 = 0) : textsF (feedsRead t).1 = 0 ∧ textL wrF (feedsRead t).1 = t ∧ t.length ≤ 200000 := by
  unfold feedsRead at h ⊢
  split at h
  · cases h
  · rename_i hl
    rw [if_neg hl]
    cases hr : readS rdF 0 (splitL 10 t) with
    | error i => rw [hr] at h; cases h
    | ok l =>
      rw [hr] at h
      by_cases hf : 5000 < l.length
      · exfalso
        have h' : (if 5000 < l.length then ([], 0, 2) else (l, 0, 0) : List Fed × Int × Int).2.2 = 0 := h
        rw [if_pos hf] at h'
        cases h'
      · show textsF (if 5000 < l.length then ([], 0, 2) else (l, 0, 0) : List Fed × Int × Int).1 = 0 ∧ textL wrF (if 5000 < l.length then ([], 0, 2) else (l, 0, 0) : List Fed × Int × Int).1 = t ∧ _
        rw [if_neg hf]
        have hk := hr
        rw [← readK_eq] at hk
        exact ⟨textsF_of (by show l.length ≤ 5000; omega) (readK_all (P := FdT) (fun x a hx => (wrF_rdF hx).2.t) 0 _ l hk), text_read rdF wrF (fun x a hx => (wrF_rdF hx).1) hr, by omega⟩
/-- a line is short. -/
theorem kwF_len {k : Int} (h : 1 ≤ k ∧ k ≤ 5) : (kwFof k).length ≤ 6 := by
  rcases five h with rfl | rfl | rfl | rfl | rfl <;> decide
end Go.Proofs.YtilhonppgedoiaaGreatDoor
namespace Go.Proofs.YtilhonppgedoiaaGreatDoor
open Go.RowKit Go.Sort Go.Maps Go.Lib
theorem itoa20 {n : Int} (h : -9223372036854775808 ≤ n ∧ n ≤ 9223372036854775807) : (itoa n).length ≤ 20 := by
  have h1 : (decDigits n.natAbs).length ≤ 19 := by
    rw [decDigits_length]
    exact nDigits_le 18 _ (by show n.natAbs < 10000000000000000000; omega)
  unfold itoa
  split
  · rw [List.length_cons]; omega
  · have : n.toNat = n.natAbs := by omega
    rw [this]; omega
theorem wrF_len {e : Fed} (h : FdT e) (h1 : -9223372036854775808 ≤ e.at ∧ e.at ≤ 9223372036854775807) (h2 : -9223372036854775808 ≤ e.mn ∧ e.mn ≤ 9223372036854775807) : (wrF e).length ≤ 140 := by
  obtain ⟨t, kd, fd, rl, mn, bd⟩ := e
  have i1 : (itoa t).length ≤ 20 := itoa20 h1
  have i2 : (itoa mn).length ≤ 20 := itoa20 h2
  have hk := kwF_len h.kd
  have hkd : 1 ≤ kd ∧ kd ≤ 5 := h.kd
  rcases five hkd with rfl | rfl | rfl | rfl | rfl
  · have h3 : keyB fd = true := h.fd rfl
    have h4 : keyB rl = true := h.rl rfl
    have z3 := keyB_size h3
    have z4 := keyB_size h4
    have hk' : (kwFof 1).length ≤ 6 := hk
    show (joinL 32 [itoa t, kwFof 1, bsOf fd, bsOf rl]).length ≤ 140
    simp only [joinL, List.length_append, List.length_cons, bsOf_len]
    omega
  · have h3 : keyB fd = true := h.fd rfl
    have h4 : keyB rl = true := h.rl rfl
    have z3 := keyB_size h3
    have z4 := keyB_size h4
    have hk' : (kwFof 2).length ≤ 6 := hk
    show (joinL 32 [itoa t, kwFof 2, bsOf fd, bsOf rl]).length ≤ 140
    simp only [joinL, List.length_append, List.length_cons, bsOf_len]
    omega
  · have h3 : keyB fd = true := h.fd rfl
    have z3 := keyB_size h3
    have hk' : (kwFof 3).length ≤ 6 := hk
    show (joinL 32 [itoa t, kwFof 3, bsOf fd]).length ≤ 140
    simp only [joinL, List.length_append, List.length_cons, bsOf_len]
    omega
  · have h3 : keyB fd = true := h.fd rfl
    have h4 : keyB bd = true := h.bd rfl
    have z3 := keyB_size h3
    have z4 := keyB_size h4
    have hk' : (kwFof 4).length ≤ 6 := hk
    show (joinL 32 [itoa t, kwFof 4, bsOf fd, itoa mn, bsOf bd]).length ≤ 140
    simp only [joinL, List.length_append, List.length_cons, bsOf_len]
    omega
  · have h4 : keyB rl = true := h.rl rfl
    have z4 := keyB_size h4
    have hk' : (kwFof 5).length ≤ 6 := hk
    show (joinL 32 [itoa t, kwFof 5, bsOf rl, itoa mn]).length ≤ 140
    simp only [joinL, List.length_append, List.length_cons, bsOf_len]
    omega
/-- numbers of the machine. -/
def FdI (e : Fed) : Prop := (-9223372036854775808 ≤ e.at ∧ e.at ≤ 9223372036854775807) ∧ (-9223372036854775808 ≤ e.mn ∧ e.mn ≤ 9223372036854775807)
theorem textFd_len : ∀ (l : List Fed), (∀ e ∈ l, FdT e ∧ FdI e) → (textL wrF l).length ≤ l.length * 141
  | [], _ => by simp [textL]
  | s :: l, h => by
    have hs := h s (by simp)
    have h1 := wrF_len hs.1 hs.2.1 hs.2.2
    have h2 := textFd_len l fun q hq => h q (List.mem_cons_of_mem _ hq)
    rw [textL_cons]
    simp only [List.length_append, List.length_cons]
    omega
theorem textFd_take {l : List Fed} {k : Nat} {s : Fed} (h : l[k]? = some s) : textL wrF (l.take (k + 1)) = textL wrF (l.take k) ++ (wrF s ++ [10]) := by
  rw [List.take_add_one, h, Option.toList_some]
  simp [textL]
/-! reading lines, one after the other -/
def ontoF (ss : List Fed) : Except Nat (List Fed) → Except Nat (List Fed)
  | .error e => .error e
  | .ok l => .ok (ss ++ l)
theorem readKF_bad {b : Bool} {k : Nat} {x : Bs} {r : List Bs} (h : rdF x = none ∨ (b = false ∧ r = [])) : readK rdF b k (x :: r) = .error k := by
  rw [readK]
  rcases h with h | ⟨h1, h2⟩
  · rw [h]
  · cases rdF x with
    | none => rfl
    | some a => simp only; rw [if_pos ⟨h1, h2⟩]
theorem readKF_good {b : Bool} {k : Nat} {x : Bs} {r : List Bs} {s : Fed} (h : rdF x = some s) (h2 : ¬(b = false ∧ r = [])) (ss : List Fed) : ontoF ss (readK rdF b k (x :: r)) = ontoF (ss ++ [s]) (readK rdF b (k + 1) r) := by
  rw [readK, h]
  simp only
  rw [if_neg h2]
  cases readK rdF b (k + 1) r with
  | error i => rfl
  | ok l => show Except.ok (ss ++ s :: l) = Except.ok (ss ++ [s] ++ l); rw [List.append_assoc]; rfl
theorem ontoF_nil (x : Except Nat (List Fed)) : ontoF [] x = x := by cases x <;> rfl
/-- names that are read are keys or empty: short. -/
theorem rdF_small {x : Bs} {e : Fed} (h : rdF x = some e) : e.fd.size ≤ 40 ∧ e.rl.size ≤ 40 ∧ e.bd.size ≤ 40 := by
  have ht := (wrF_rdF h).2.t
  have z : ∀ (b : ByteArray), b = ByteArray.empty → b.size ≤ 40 := fun b hb => by rw [hb]; decide
  refine ⟨?_, ?_, ?_⟩
  · cases hq : uF e.kd
    · exact z _ (ht.fn hq)
    · exact (keyB_size (ht.fd hq))
  · cases hq : uR e.kd
    · exact z _ (ht.rn hq)
    · exact (keyB_size (ht.rl hq))
  · cases hq : uB e.kd
    · exact z _ (ht.bn hq)
    · exact (keyB_size (ht.bd hq))
end Go.Proofs.YtilhonppgedoiaaGreatDoor
