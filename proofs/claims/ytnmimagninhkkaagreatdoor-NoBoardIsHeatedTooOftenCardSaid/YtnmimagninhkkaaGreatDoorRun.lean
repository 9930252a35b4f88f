/- A shop after all steps up to a moment: the plain law. No conditions. -/
import Derived.Test.YtnmimagninhkkaaGreatDoorTmp
namespace Go.Proofs.YtnmimagninhkkaaGreatDoor
open Go.RowKit Go.Sort Go.Maps

/-! keys of sorted maps -/
theorem bb_le : ∀ a b : Bs, bytesBefore a b = true → a ≤ b
  | [], [], h => by simp [bytesBefore] at h
  | [], _ :: _, _ => List.nil_le _
  | _ :: _, [], h => by simp [bytesBefore] at h
  | a :: r, b :: s, h => by
    simp only [bytesBefore, Bool.or_eq_true, decide_eq_true_eq, Bool.and_eq_true, beq_iff_eq] at h
    rw [List.cons_le_cons_iff]
    rcases h with h | ⟨h, h2⟩
    · exact .inl h
    · exact .inr ⟨h, bb_le r s h2⟩
theorem Sm.keys_sorted {α : Type} {m : Sm α} (h : Sm.Ok m) : m.keys.Pairwise fun a b => leB a b = true := by
  unfold Sm.keys
  rw [List.pairwise_map]
  exact h.imp fun {a b} hab => decide_eq_true (bb_le _ _ hab)
theorem Sm.keys_nodup {α : Type} {m : Sm α} (h : Sm.Ok m) : m.keys.Nodup := by
  unfold Sm.keys List.Nodup
  rw [List.pairwise_map]
  exact h.imp fun {a b} hab => Sm.bb_ne hab
theorem Sm.sort_keys {α : Type} {m : Sm α} (h : Sm.Ok m) {ss : List Bs} (hp : ss.Perm m.keys) : ss.mergeSort leB = m.keys := by
  rw [mergeSort_of_perm hp]
  exact List.mergeSort_of_pairwise (Sm.keys_sorted h)
theorem Sm.keys_put {α : Type} (m : Sm α) (k : Bs) (v : α) (j : Bs) : j ∈ (m.put k v).keys ↔ j = k ∨ j ∈ m.keys := by
  unfold Sm.keys
  simp only [List.mem_map]
  constructor
  · rintro ⟨p, hp, rfl⟩
    rcases Sm.put_mem.1 hp with rfl | ⟨hp, _⟩
    · exact .inl rfl
    · exact .inr ⟨p, hp, rfl⟩
  · rintro (rfl | ⟨p, hp, rfl⟩)
    · exact ⟨_, Sm.put_mem.2 (.inl rfl), rfl⟩
    · by_cases h : p.1 = k
      · exact ⟨(k, v), Sm.put_mem.2 (.inl rfl), h.symm⟩
      · exact ⟨p, Sm.put_mem.2 (.inr ⟨hp, h⟩), rfl⟩

/-! the shop after all steps up to a moment -/
def runS (rh rr at' : Int) : Sm Bd0 → List Stp → Sm Bd0
  | m, [] => m
  | m, s :: l => if at' < s.at then m else runS rh rr at' (doS rh rr m s).1 l
theorem runS_go {rh rr at' : Int} {m : Sm Bd0} {l : List Stp} {k : Nat} {s : Stp} (hs : l[k]? = some s) (h : ¬ at' < s.at) : runS rh rr at' m (l.drop k) = runS rh rr at' (doS rh rr m s).1 (l.drop (k + 1)) := by
  obtain ⟨hk, he⟩ := List.getElem?_eq_some_iff.1 hs
  rw [List.drop_eq_getElem_cons hk, he, runS, if_neg h]
theorem runS_stop {rh rr at' : Int} {m : Sm Bd0} {l : List Stp} {k : Nat} {s : Stp} (hs : l[k]? = some s) (h : at' < s.at) : runS rh rr at' m (l.drop k) = m := by
  obtain ⟨hk, he⟩ := List.getElem?_eq_some_iff.1 hs
  rw [List.drop_eq_getElem_cons hk, he, runS, if_pos h]
theorem runS_end {rh rr at' : Int} {m : Sm Bd0} {l : List Stp} : runS rh rr at' m (l.drop l.length) = m := by rw [List.drop_length]; rfl
theorem runS_ind {rh rr at' : Int} {P : Sm Bd0 → Prop} (hs : ∀ m s, P m → P (doS rh rr m s).1) : ∀ (l : List Stp) (m : Sm Bd0), P m → P (runS rh rr at' m l)
  | [], m, h => h
  | s :: l, m, h => by
    rw [runS]; split
    · exact h
    · exact runS_ind hs l _ (hs m s h)
theorem runS_ok {rh rr at' : Int} (l : List Stp) {m : Sm Bd0} (h : Sm.Ok m) : Sm.Ok (runS rh rr at' m l) := runS_ind (P := Sm.Ok) (fun _ s h => doS_ok h s) l m h
theorem runS_st {rh rr at' : Int} (l : List Stp) {m : Sm Bd0} (h : ∀ p ∈ m, 1 ≤ p.2.st ∧ p.2.st ≤ 6) : ∀ p ∈ runS rh rr at' m l, 1 ≤ p.2.st ∧ p.2.st ≤ 6 := runS_ind (P := fun m => ∀ p ∈ m, 1 ≤ p.2.st ∧ p.2.st ≤ 6) (fun _ s h => doS_st s h) l m h
theorem runS_small {rh rr at' : Int} : ∀ (l : List Stp) {m : Sm Bd0} {n : Nat}, AllSm m n → AllSm (runS rh rr at' m l) (n + l.length)
  | [], m, n, h => h
  | s :: l, m, n, h => by
    rw [runS]; split
    · exact ⟨by have := h.1; simp only [List.length_cons]; omega, fun p hp => (h.2 p hp).mono (by omega)⟩
    · have := runS_small (rh := rh) (rr := rr) (at' := at') l (doS_small (rh := rh) (rr := rr) h s)
      rw [List.length_cons, show n + (l.length + 1) = n + 1 + l.length by omega]
      exact this
/-- a map over which each step puts one board. -/
theorem doS_put (rh rr : Int) (m : Sm Bd0) (s : Stp) : ∃ b', (doS rh rr m s).1 = m.put s.bd.data.toList b' ∧ (b' = (m.get s.bd.data.toList).getD newB ∨ (refB rh rr ((m.get s.bd.data.toList).getD newB) s = 0 ∧ b' = doB ((m.get s.bd.data.toList).getD newB) s)) := by
  unfold doS
  split
  · rename_i h; exact ⟨_, rfl, .inr ⟨h, rfl⟩⟩
  · exact ⟨_, rfl, .inl rfl⟩
/-- something that is so of each board. -/
theorem runS_all {rh rr at' : Int} {P : Bd0 → Prop} (hn : P newB) (hd : ∀ b s, P b → refB rh rr b s = 0 → P (doB b s)) (l : List Stp) {m : Sm Bd0} (h : ∀ p ∈ m, P p.2) : ∀ p ∈ runS rh rr at' m l, P p.2 := by
  refine runS_ind (P := fun m => ∀ p ∈ m, P p.2) (fun m s h => ?_) l m h
  have hg : P ((m.get s.bd.data.toList).getD newB) := by
    cases hm : m.get s.bd.data.toList with
    | none => exact hn
    | some b => exact h _ (Sm.get_mem hm)
  obtain ⟨b', hb', hc⟩ := doS_put rh rr m s
  rw [hb']
  intro p hp
  rcases Sm.put_mem.1 hp with rfl | ⟨hp, _⟩
  · rcases hc with rfl | ⟨hr, rfl⟩
    · exact hg
    · exact hd _ s hg hr
  · exact h p hp

/-! what is so of each board by the rules -/
structure BdI (rh : Int) (b : Bd0) : Prop where
  st : 1 ≤ b.st ∧ b.st ≤ 6
  he : b.he ≤ rh
  fail : b.st = 3 → 0 < b.op.length
  none : b.st ≠ 3 → b.st ≠ 5 → b.op.length = 0
theorem BdI.new {rh : Int} (h : 0 ≤ rh) : BdI rh newB := ⟨by decide, h, fun h => absurd h (by decide), fun _ _ => rfl⟩
theorem put_pos {α : Type} (m : Sm α) (k : Bs) (v : α) : 0 < (m.put k v).length := List.length_pos_of_mem (Sm.put_mem.2 (.inl rfl))
theorem BdI.step {rh rr : Int} {b : Bd0} (s : Stp) (h : BdI rh b) (hr : refB rh rr b s = 0) : BdI rh (doB b s) := by
  obtain ⟨h1, h2, h3, h4⟩ := h
  unfold refB at hr
  unfold doB
  by_cases k1 : s.kd = 1
  · rw [if_pos k1] at hr ⊢
    split at hr
    · cases hr
    rename_i hst
    split at hr
    · cases hr
    rename_i hhe
    exact ⟨⟨show (1 : Int) ≤ 2 by decide, show (2 : Int) ≤ 6 by decide⟩, by show b.he + 1 ≤ rh; omega, fun h => absurd h (by simp [Bd0.become]), fun _ _ => h4 (by omega) (by omega)⟩
  rw [if_neg k1] at hr ⊢
  by_cases k2 : s.kd = 2
  · rw [if_pos k2] at hr ⊢
    exact ⟨⟨show (1 : Int) ≤ 3 by decide, show (3 : Int) ≤ 6 by decide⟩, h2, fun _ => put_pos _ _ _, fun h => absurd rfl h⟩
  rw [if_neg k2] at hr ⊢
  by_cases k3 : s.kd = 3
  · rw [if_pos k3] at hr ⊢
    split at hr
    · cases hr
    exact ⟨⟨show (1 : Int) ≤ 4 by decide, show (4 : Int) ≤ 6 by decide⟩, h2, fun h => absurd h (by simp [Bd0.become]), fun _ _ => h4 (by omega) (by omega)⟩
  rw [if_neg k3] at hr ⊢
  by_cases k4 : s.kd = 4
  · rw [if_pos k4] at hr ⊢
    split at hr
    · cases hr
    rename_i hst
    split at hr
    · cases hr
    split at hr
    · cases hr
    rename_i hhe
    split
    · rename_i h0
      exact ⟨⟨show (1 : Int) ≤ 2 by decide, show (2 : Int) ≤ 6 by decide⟩, by show b.he + 1 ≤ rh; omega, fun h => absurd h (by simp [Bd0.become]), fun _ _ => h0⟩
    · rename_i h0
      exact ⟨h1, by show b.he + 1 ≤ rh; omega, fun _ => by show 0 < (b.op.del _).length; omega, fun h => absurd (show b.st = 3 by omega) h⟩
  rw [if_neg k4] at hr ⊢
  by_cases k5 : s.kd = 5
  · rw [if_pos k5] at hr ⊢
    exact ⟨⟨show (1 : Int) ≤ 5 by decide, show (5 : Int) ≤ 6 by decide⟩, h2, fun h => absurd h (by simp [Bd0.become]), fun _ h => absurd rfl h⟩
  rw [if_neg k5] at hr ⊢
  by_cases k6 : s.kd = 6
  · rw [if_pos k6] at hr ⊢
    split at hr
    · cases hr
    exact ⟨⟨show (1 : Int) ≤ 6 by decide, show (6 : Int) ≤ 6 by decide⟩, h2, fun h => absurd h (by simp [Bd0.become]), fun _ _ => h4 (by omega) (by omega)⟩
  rw [if_neg k6] at hr ⊢
  exact ⟨h1, h2, h3, h4⟩

/-! the boards that are known -/
def knownS (at' : Int) : List ByteArray → List Stp → List ByteArray
  | acc, [] => acc
  | acc, s :: l => knownS at' (if s.at ≤ at' ∧ Lib.containsS acc s.bd = false then acc ++ [s.bd] else acc) l
theorem knownS_go {at' : Int} {acc : List ByteArray} {l : List Stp} {k : Nat} {s : Stp} (hs : l[k]? = some s) : knownS at' acc (l.drop k) = knownS at' (if s.at ≤ at' ∧ Lib.containsS acc s.bd = false then acc ++ [s.bd] else acc) (l.drop (k + 1)) := by
  obtain ⟨hk, he⟩ := List.getElem?_eq_some_iff.1 hs
  rw [List.drop_eq_getElem_cons hk, he, knownS]
def bsOf (b : ByteArray) : Bs := b.data.toList
theorem bsOf_inj {a b : ByteArray} (h : bsOf a = bsOf b) : a = b := ByteArray.ext (Array.toList_inj.1 h)
theorem knownS_late {at' : Int} : ∀ (l : List Stp) (acc : List ByteArray), (∀ s ∈ l, at' < s.at) → knownS at' acc l = acc
  | [], acc, _ => rfl
  | s :: l, acc, h => by
    have := h s (List.mem_cons_self ..)
    rw [knownS, if_neg (by omega), knownS_late l acc fun x hx => h x (List.mem_cons_of_mem _ hx)]
/-- the boards that are known are those of the shop. -/
structure KnI (acc : List ByteArray) (m : Sm Bd0) : Prop where
  nd : acc.Nodup
  mem : ∀ b, b ∈ acc ↔ bsOf b ∈ m.keys
  key : ∀ k ∈ m.keys, ∃ b ∈ acc, bsOf b = k
theorem KnI.nil : KnI [] [] := ⟨List.nodup_nil, fun b => by simp [Sm.keys], fun k hk => by simp [Sm.keys] at hk⟩
theorem KnI.step {acc : List ByteArray} {m : Sm Bd0} (h : KnI acc m) (rh rr : Int) (s : Stp) : KnI (if Lib.containsS acc s.bd = false then acc ++ [s.bd] else acc) (doS rh rr m s).1 := by
  obtain ⟨b', hb', _⟩ := doS_put rh rr m s
  rw [hb']
  by_cases hs : s.bd ∈ acc
  · rw [if_neg (by rw [(Lib.containsS_iff _ _).2 hs]; decide)]
    have hk := (h.mem _).1 hs
    refine ⟨h.nd, fun b => ?_, fun k hk2 => ?_⟩
    · rw [Sm.keys_put, h.mem]
      constructor
      · exact .inr
      · rintro (e | e)
        · rw [bsOf_inj (show bsOf b = bsOf s.bd from e)]; exact hk
        · exact e
    · rcases (Sm.keys_put ..).1 hk2 with rfl | e
      · exact ⟨s.bd, hs, rfl⟩
      · exact h.key k e
  · rw [if_pos (by rw [← Bool.not_eq_true, Lib.containsS_iff]; exact hs)]
    refine ⟨?_, fun b => ?_, fun k hk2 => ?_⟩
    · rw [List.nodup_append]
      refine ⟨h.nd, by simp, fun x hx y hy e => ?_⟩
      simp at hy
      subst hy; subst e
      exact hs hx
    · rw [Sm.keys_put, List.mem_append, h.mem, List.mem_singleton]
      constructor
      · rintro (e | e)
        · exact .inr e
        · exact .inl (by rw [e]; rfl)
      · rintro (e | e)
        · exact .inr (bsOf_inj e)
        · exact .inl e
    · rcases (Sm.keys_put ..).1 hk2 with rfl | e
      · exact ⟨s.bd, by simp, rfl⟩
      · obtain ⟨b, hb, e2⟩ := h.key k e
        exact ⟨b, by simp [hb], e2⟩
theorem KnI.len {acc : List ByteArray} {m : Sm Bd0} (h : KnI acc m) (hm : Sm.Ok m) : acc.length = m.length := by
  have hp : (acc.map bsOf).Perm m.keys := by
    refine (List.perm_ext_iff_of_nodup ?_ (Sm.keys_nodup hm)).2 fun k => ?_
    · unfold List.Nodup
      rw [List.pairwise_map]
      exact h.nd.imp fun {a b} hab e => hab (bsOf_inj e)
    · rw [List.mem_map]
      constructor
      · rintro ⟨b, hb, rfl⟩; exact (h.mem b).1 hb
      · exact fun hk => h.key k hk
  have := hp.length_eq
  simpa [Sm.keys] using this
theorem known_run {rh rr at' : Int} : ∀ (l : List Stp) (acc : List ByteArray) (m : Sm Bd0), (l.Pairwise fun a b => a.at ≤ b.at) → KnI acc m → KnI (knownS at' acc l) (runS rh rr at' m l)
  | [], acc, m, _, h => h
  | s :: l, acc, m, hp, h => by
    obtain ⟨hp1, hp2⟩ := List.pairwise_cons.1 hp
    by_cases hat : at' < s.at
    · rw [knownS_late _ _ fun x hx => ?_, runS, if_pos hat]
      · exact h
      · rcases List.mem_cons.1 hx with rfl | hx
        · exact hat
        · have := hp1 x hx; omega
    · rw [knownS, runS, if_neg hat]
      refine known_run l _ _ hp2 ?_
      have := h.step rh rr s
      by_cases hs : Lib.containsS acc s.bd = false
      · rw [if_pos ⟨by omega, hs⟩]; rw [if_pos hs] at this; exact this
      · rw [if_neg fun h => hs h.2]; rw [if_neg hs] at this; exact this

/-! boards that have a state -/
def inS (m : Sm Bd0) (st : Int) : List Bs := (m.filter fun p => decide (p.2.st = st)).map (·.1)
def inN (m : Sm Bd0) (st : Int) : Nat := (inS m st).length
theorem inS_mem {m : Sm Bd0} (hm : Sm.Ok m) {st : Int} {k : Bs} (h : k ∈ inS m st) : ∃ b, m.get k = some b ∧ b.st = st := by
  unfold inS at h
  obtain ⟨p, hp, rfl⟩ := List.mem_map.1 h
  obtain ⟨hp, hst⟩ := List.mem_filter.1 hp
  exact ⟨p.2, Sm.get_of_mem hm hp, by simpa using hst⟩
theorem inS_of {m : Sm Bd0} {k : Bs} {b : Bd0} (h : m.get k = some b) : k ∈ inS m b.st := List.mem_map.2 ⟨(k, b), List.mem_filter.2 ⟨Sm.get_mem h, by simp⟩, rfl⟩
theorem inS_key {m : Sm Bd0} {st : Int} {k : Bs} (h : k ∈ inS m st) : k ∈ m.keys := by
  unfold inS at h
  obtain ⟨p, hp, rfl⟩ := List.mem_map.1 h
  exact List.mem_map.2 ⟨p, (List.mem_filter.1 hp).1, rfl⟩
theorem inN_cons (p : Bs × Bd0) (m : Sm Bd0) (st : Int) : inN (p :: m) st = inN m st + if p.2.st = st then 1 else 0 := by
  unfold inN inS
  rw [List.filter_cons]
  by_cases h : p.2.st = st
  · simp [h]
  · simp [h]
theorem in_all : ∀ (m : Sm Bd0), (∀ p ∈ m, 1 ≤ p.2.st ∧ p.2.st ≤ 6) → inN m 1 + inN m 2 + inN m 3 + inN m 4 + inN m 5 + inN m 6 = m.length
  | [], _ => rfl
  | p :: m, h => by
    have ih := in_all m fun q hq => h q (List.mem_cons_of_mem _ hq)
    obtain ⟨h1, h2⟩ := h p (List.mem_cons_self ..)
    simp only [inN_cons, List.length_cons]
    have : p.2.st = 1 ∨ p.2.st = 2 ∨ p.2.st = 3 ∨ p.2.st = 4 ∨ p.2.st = 5 ∨ p.2.st = 6 := by omega
    rcases this with e | e | e | e | e | e <;> rw [e] <;> simp <;> omega
end Go.Proofs.YtnmimagninhkkaaGreatDoor
