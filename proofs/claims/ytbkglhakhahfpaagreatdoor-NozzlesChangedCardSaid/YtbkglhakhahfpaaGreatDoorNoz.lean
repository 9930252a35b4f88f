/- Plain law of StrokesTakeAll: which nozzle takes the component of each slot, all ways tried in order; what is found is an order of all, with at least one stroke and no more than nozzles; slots moved together give the same. No program. -/
import Derived.Test.YtbkglhakhahfpaaGreatDoorNt
namespace Go.Proofs.YtbkglhakhahfpaaGreatDoor
open Go.RowKit Go.Sort

/-- how many different numbers a list has. -/
def dcount : List Int → Nat
  | [] => 0
  | x :: l => if x ∈ l then dcount l else dcount l + 1
theorem dcount_le : ∀ l : List Int, dcount l ≤ l.length
  | [] => Nat.le_refl _
  | x :: l => by
    have := dcount_le l
    simp only [dcount, List.length_cons]
    split <;> omega
theorem dcount_pos : ∀ l : List Int, l ≠ [] → 1 ≤ dcount l
  | [], h => absurd rfl h
  | x :: l, _ => by
    simp only [dcount]
    split
    · rename_i h
      exact dcount_pos l (fun e => by rw [e] at h; simp at h)
    · omega
theorem dcount_map (c : Int) : ∀ l : List Int, dcount (l.map (· + c)) = dcount l
  | [] => rfl
  | x :: l => by
    have e : (x + c ∈ l.map (· + c)) ↔ x ∈ l := by
      rw [List.mem_map]
      constructor
      · rintro ⟨y, hy, he⟩
        obtain rfl : y = x := by omega
        exact hy
      · intro h; exact ⟨x, h, rfl⟩
    simp only [List.map_cons, dcount]
    rw [dcount_map c l]
    by_cases h : x ∈ l
    · rw [if_pos h, if_pos (e.2 h)]
    · rw [if_neg h, if_neg (fun h' => h (e.1 h'))]
/-- the strokes of the first slots, the last one first. -/
def strk (S : List Int) : List Nat → List Int
  | [] => []
  | k :: o => (S.getD o.length 0 - k) :: strk S o
theorem strk_len (S : List Int) : ∀ o, (strk S o).length = o.length
  | [] => rfl
  | k :: o => by simp [strk, strk_len S o]
theorem strk_move (S T : List Int) (c : Int) (hT : ∀ i, i < S.length → T.getD i 0 = S.getD i 0 + c) : ∀ o : List Nat, o.length ≤ S.length → strk T o = (strk S o).map (· + c)
  | [], _ => rfl
  | k :: o, h => by
    simp only [List.length_cons] at h
    simp only [strk, List.map_cons]
    rw [strk_move S T c hT o (by omega), hT _ (by omega)]
    congr 1
    omega
/-- the number of strokes of an order (which is kept backwards here). -/
def few (S : List Int) (o : List Nat) : Nat := dcount (strk S o)
/-- all ways to go on, in order: the best order so far, backwards, and its strokes; none: empty. -/
def tryP (S : List Int) : Nat → List Nat → List Nat × Nat → List Nat × Nat
  | 0, o, acc => if acc.1 ≠ [] ∧ acc.2 ≤ few S o then acc else (o, few S o)
  | f + 1, o, acc => if acc.1 ≠ [] ∧ acc.2 ≤ few S o then acc else (List.range S.length).foldl (fun a k => if k ∈ o then a else tryP S f (k :: o) a) acc
/-- what has been found is an order. -/
def GoodA (S : List Int) (a : List Nat × Nat) : Prop := a.1 = [] ∨ a.1.Nodup ∧ (∀ k ∈ a.1, k < S.length) ∧ a.1.length = S.length ∧ a.2 = few S a.1
theorem fold_inv {α : Type} {Q : α → Prop} {g : α → Nat → α} : ∀ (l : List Nat) (a : α), Q a → (∀ k ∈ l, ∀ a, Q a → Q (g a k)) → Q (l.foldl g a)
  | [], _, h, _ => h
  | k :: l, a, h, hs => fold_inv l (g a k) (hs k (by simp) a h) fun j hj => hs j (List.mem_cons_of_mem _ hj)
theorem tryP_good (S : List Int) : ∀ (f : Nat) (o : List Nat) (a : List Nat × Nat), o.length + f = S.length → o.Nodup → (∀ k ∈ o, k < S.length) → GoodA S a → GoodA S (tryP S f o a)
  | 0, o, a, hl, hnd, hlt, ha => by
    simp only [tryP]
    split
    · exact ha
    · exact .inr ⟨hnd, hlt, by simpa using hl, rfl⟩
  | f + 1, o, a, hl, hnd, hlt, ha => by
    simp only [tryP]
    split
    · exact ha
    · refine fold_inv _ _ ha fun k hk a ha => ?_
      show GoodA S (if k ∈ o then a else tryP S f (k :: o) a)
      split
      · exact ha
      · rename_i hko
        exact tryP_good S f (k :: o) a (by simp only [List.length_cons]; omega) (List.nodup_cons.2 ⟨hko, hnd⟩) (fun j hj => by
          rcases List.mem_cons.1 hj with rfl | hj
          · exact List.mem_range.1 hk
          · exact hlt j hj) ha
theorem tryP_keep (S : List Int) : ∀ (f : Nat) (o : List Nat) (a : List Nat × Nat), o.length + f = S.length → 1 ≤ S.length → a.1 ≠ [] → (tryP S f o a).1 ≠ []
  | 0, o, a, hl, h1, ha => by
    simp only [tryP]
    split
    · exact ha
    · intro e; simp only at e; rw [e] at hl; simp at hl; omega
  | f + 1, o, a, hl, h1, ha => by
    simp only [tryP]
    split
    · exact ha
    · refine fold_inv (Q := fun a : List Nat × Nat => a.1 ≠ []) _ _ ha fun k hk a ha => ?_
      show (if k ∈ o then a else tryP S f (k :: o) a).1 ≠ []
      split
      · exact ha
      · exact tryP_keep S f (k :: o) a (by simp only [List.length_cons]; omega) h1 ha
theorem fold_some {g : List Nat × Nat → Nat → List Nat × Nat} : ∀ (l : List Nat) (a : List Nat × Nat) (k : Nat), k ∈ l → (∀ a, (g a k).1 ≠ []) → (∀ j ∈ l, ∀ a, a.1 ≠ [] → (g a j).1 ≠ []) → (l.foldl g a).1 ≠ []
  | j :: l, a, k, hk, h1, h2 => by
    rcases List.mem_cons.1 hk with rfl | hk
    · exact fold_inv (Q := fun a : List Nat × Nat => a.1 ≠ []) l _ (h1 a) fun i hi => h2 i (List.mem_cons_of_mem _ hi)
    · exact fold_some l _ k hk h1 fun i hi => h2 i (List.mem_cons_of_mem _ hi)
theorem tryP_some (S : List Int) (hS : 1 ≤ S.length) : ∀ (f : Nat) (o : List Nat) (a : List Nat × Nat), o.length + f = S.length → o.Nodup → (∀ k ∈ o, k < S.length) → (tryP S f o a).1 ≠ []
  | 0, o, a, hl, hnd, hlt => by
    simp only [tryP]
    split
    · rename_i h; exact h.1
    · intro e; simp only at e; rw [e] at hl; simp at hl; omega
  | f + 1, o, a, hl, hnd, hlt => by
    simp only [tryP]
    split
    · rename_i h; exact h.1
    · obtain ⟨k, hk, hko⟩ : ∃ k, k < S.length ∧ k ∉ o := by
        apply Classical.byContradiction
        intro hno
        have : (List.range S.length).length ≤ o.length := nodup_sub _ _ List.nodup_range fun i hi => by
          apply Classical.byContradiction
          intro h
          exact hno ⟨i, List.mem_range.1 hi, h⟩
        rw [List.length_range] at this
        omega
      refine fold_some _ a k (List.mem_range.2 hk) (fun a => ?_) (fun j hj a ha => ?_)
      · show (if k ∈ o then a else tryP S f (k :: o) a).1 ≠ []
        rw [if_neg hko]
        exact tryP_some S hS f (k :: o) a (by simp only [List.length_cons]; omega) (List.nodup_cons.2 ⟨hko, hnd⟩) (fun j hj => by
          rcases List.mem_cons.1 hj with rfl | hj
          · exact hk
          · exact hlt j hj)
      · show (if j ∈ o then a else tryP S f (j :: o) a).1 ≠ []
        split
        · exact ha
        · exact tryP_keep S f (j :: o) a (by simp only [List.length_cons]; omega) hS ha
theorem foldl_same {α : Type} {g h : α → Nat → α} : ∀ (l : List Nat) (a : α), (∀ k ∈ l, ∀ a, g a k = h a k) → l.foldl g a = l.foldl h a
  | [], _, _ => rfl
  | k :: l, a, hh => by rw [List.foldl_cons, List.foldl_cons, hh k (by simp) a]; exact foldl_same l _ fun j hj => hh j (List.mem_cons_of_mem _ hj)
theorem tryP_move (S T : List Int) (c : Int) (hl : T.length = S.length) (hT : ∀ i, i < S.length → T.getD i 0 = S.getD i 0 + c) : ∀ (f : Nat) (o : List Nat) (a : List Nat × Nat), o.length + f = S.length → tryP T f o a = tryP S f o a
  | 0, o, a, h => by
    have e : few T o = few S o := by unfold few; rw [strk_move S T c hT o (by omega), dcount_map]
    simp only [tryP, e]
  | f + 1, o, a, h => by
    have e : few T o = few S o := by unfold few; rw [strk_move S T c hT o (by omega), dcount_map]
    simp only [tryP, e, hl]
    rw [foldl_same (List.range S.length) a fun k _ a => by rw [tryP_move S T c hl hT f (k :: o) a (by simp only [List.length_cons]; omega)]]
/-- what Strokes finds: the order, and its strokes. -/
def bestP (S : List Int) : List Nat × Nat := tryP S S.length [] ([], 0)
theorem bestP_ok {S : List Int} (hS : 1 ≤ S.length) : (bestP S).1.reverse.Perm (List.range S.length) ∧ (bestP S).2 = few S (bestP S).1 ∧ 1 ≤ (bestP S).2 ∧ (bestP S).2 ≤ S.length := by
  have h1 := tryP_good S S.length [] ([], 0) (by simp) List.nodup_nil (by simp) (.inl rfl)
  have h2 := tryP_some S hS S.length [] ([], 0) (by simp) List.nodup_nil (by simp)
  unfold bestP
  rcases h1 with h1 | ⟨a, b, c, d⟩
  · exact absurd h1 h2
  · refine ⟨(List.reverse_perm _).trans ((List.perm_ext_iff_of_nodup a List.nodup_range).2 fun i => ?_), d, ?_, ?_⟩
    · rw [List.mem_range]
      exact ⟨b i, fun hi => pigeon_nodup _ S.length a b (by omega) i hi⟩
    · rw [d]; exact dcount_pos _ (fun e => by have := strk_len S (tryP S S.length [] ([], 0)).1; rw [e] at this; simp at this; omega)
    · rw [d]; have := dcount_le (strk S (tryP S S.length [] ([], 0)).1); rw [strk_len] at this; unfold few; omega
end Go.Proofs.YtbkglhakhahfpaaGreatDoor
