/- A shop after all steps up to a moment: the plain law. No conditions. · Hopeless boards: the plain law of HopelessOnesWait. No conditions. -/
import Derived.Test.YtbkglhakhahfpaaGreatDoorTmp
namespace Go.Proofs.YtbkglhakhahfpaaGreatDoor
open Go.RowKit Go.Sort Go.Maps

/-! keys of sorted maps -/
theorem bb_le : ∀ a b : Bs, bytesBefore a b = true → a ≤ b
  | [], [], h => by simp [bytesBefore] at h
  | [], _ :: _, _ => List.nil_le _
  | _ :: _, [], h => by simp [bytesBefore] at h
  | a :: r, b :: s, h => by
    simp only [bytesBefore, Bool.or_eq_true, decide_eq_true_eq, Bool.and_eq_true, beq_iff_eq] at h
    rw [List.cons_le_cons_iff]
    rcases h with h | ⟨h, h2⟩
    · exact .inl h
    · exact .inr ⟨h, bb_le r s h2⟩
theorem Sm.keys_sorted {α : Type} {m : Sm α} (h : Sm.Ok m) : m.keys.Pairwise fun a b => leB a b = true := by
  unfold Sm.keys
  rw [List.pairwise_map]
  exact h.imp fun {a b} hab => decide_eq_true (bb_le _ _ hab)
theorem Sm.keys_nodup {α : Type} {m : Sm α} (h : Sm.Ok m) : m.keys.Nodup := by
  unfold Sm.keys List.Nodup
  rw [List.pairwise_map]
  exact h.imp fun {a b} hab => Sm.bb_ne hab
theorem Sm.sort_keys {α : Type} {m : Sm α} (h : Sm.Ok m) {ss : List Bs} (hp : ss.Perm m.keys) : ss.mergeSort leB = m.keys := by
  rw [mergeSort_of_perm hp]
  exact List.mergeSort_of_pairwise (Sm.keys_sorted h)
theorem Sm.keys_put {α : Type} (m : Sm α) (k : Bs) (v : α) (j : Bs) : j ∈ (m.put k v).keys ↔ j = k ∨ j ∈ m.keys := by
  unfold Sm.keys
  simp only [List.mem_map]
  constructor
  · rintro ⟨p, hp, rfl⟩
    rcases Sm.put_mem.1 hp with rfl | ⟨hp, _⟩
    · exact .inl rfl
    · exact .inr ⟨p, hp, rfl⟩
  · rintro (rfl | ⟨p, hp, rfl⟩)
    · exact ⟨_, Sm.put_mem.2 (.inl rfl), rfl⟩
    · by_cases h : p.1 = k
      · exact ⟨(k, v), Sm.put_mem.2 (.inl rfl), h.symm⟩
      · exact ⟨p, Sm.put_mem.2 (.inr ⟨hp, h⟩), rfl⟩

/-! the shop after all steps up to a moment -/
def runS (rh rr at' : Int) : Sm Bd0 → List Stp → Sm Bd0
  | m, [] => m
  | m, s :: l => if at' < s.at then m else runS rh rr at' (doS rh rr m s).1 l
theorem runS_go {rh rr at' : Int} {m : Sm Bd0} {l : List Stp} {k : Nat} {s : Stp} (hs : l[k]? = some s) (h : ¬ at' < s.at) : runS rh rr at' m (l.drop k) = runS rh rr at' (doS rh rr m s).1 (l.drop (k + 1)) := by
  obtain ⟨hk, he⟩ := List.getElem?_eq_some_iff.1 hs
  rw [List.drop_eq_getElem_cons hk, he, runS, if_neg h]
theorem runS_stop {rh rr at' : Int} {m : Sm Bd0} {l : List Stp} {k : Nat} {s : Stp} (hs : l[k]? = some s) (h : at' < s.at) : runS rh rr at' m (l.drop k) = m := by
  obtain ⟨hk, he⟩ := List.getElem?_eq_some_iff.1 hs
  rw [List.drop_eq_getElem_cons hk, he, runS, if_pos h]
theorem runS_end {rh rr at' : Int} {m : Sm Bd0} {l : List Stp} : runS rh rr at' m (l.drop l.length) = m := by rw [List.drop_length]; rfl
theorem runS_ind {rh rr at' : Int} {P : Sm Bd0 → Prop} (hs : ∀ m s, P m → P (doS rh rr m s).1) : ∀ (l : List Stp) (m : Sm Bd0), P m → P (runS rh rr at' m l)
  | [], m, h => h
  | s :: l, m, h => by
    rw [runS]; split
    · exact h
    · exact runS_ind hs l _ (hs m s h)
theorem runS_ok {rh rr at' : Int} (l : List Stp) {m : Sm Bd0} (h : Sm.Ok m) : Sm.Ok (runS rh rr at' m l) := runS_ind (P := Sm.Ok) (fun _ s h => doS_ok h s) l m h
theorem runS_st {rh rr at' : Int} (l : List Stp) {m : Sm Bd0} (h : ∀ p ∈ m, 1 ≤ p.2.st ∧ p.2.st ≤ 6) : ∀ p ∈ runS rh rr at' m l, 1 ≤ p.2.st ∧ p.2.st ≤ 6 := runS_ind (P := fun m => ∀ p ∈ m, 1 ≤ p.2.st ∧ p.2.st ≤ 6) (fun _ s h => doS_st s h) l m h
theorem runS_small {rh rr at' : Int} : ∀ (l : List Stp) {m : Sm Bd0} {n : Nat}, AllSm m n → AllSm (runS rh rr at' m l) (n + l.length)
  | [], m, n, h => h
  | s :: l, m, n, h => by
    rw [runS]; split
    · exact ⟨by have := h.1; simp only [List.length_cons]; omega, fun p hp => (h.2 p hp).mono (by omega)⟩
    · have := runS_small (rh := rh) (rr := rr) (at' := at') l (doS_small (rh := rh) (rr := rr) h s)
      rw [List.length_cons, show n + (l.length + 1) = n + 1 + l.length by omega]
      exact this
/-- a map over which each step puts one board. -/
theorem doS_put (rh rr : Int) (m : Sm Bd0) (s : Stp) : ∃ b', (doS rh rr m s).1 = m.put s.bd.data.toList b' ∧ (b' = (m.get s.bd.data.toList).getD newB ∨ (refB rh rr ((m.get s.bd.data.toList).getD newB) s = 0 ∧ b' = doB ((m.get s.bd.data.toList).getD newB) s)) := by
  unfold doS
  split
  · rename_i h; exact ⟨_, rfl, .inr ⟨h, rfl⟩⟩
  · exact ⟨_, rfl, .inl rfl⟩
/-- something that is so of each board. -/
theorem runS_all {rh rr at' : Int} {P : Bd0 → Prop} (hn : P newB) (hd : ∀ b s, P b → refB rh rr b s = 0 → P (doB b s)) (l : List Stp) {m : Sm Bd0} (h : ∀ p ∈ m, P p.2) : ∀ p ∈ runS rh rr at' m l, P p.2 := by
  refine runS_ind (P := fun m => ∀ p ∈ m, P p.2) (fun m s h => ?_) l m h
  have hg : P ((m.get s.bd.data.toList).getD newB) := by
    cases hm : m.get s.bd.data.toList with
    | none => exact hn
    | some b => exact h _ (Sm.get_mem hm)
  obtain ⟨b', hb', hc⟩ := doS_put rh rr m s
  rw [hb']
  intro p hp
  rcases Sm.put_mem.1 hp with rfl | ⟨hp, _⟩
  · rcases hc with rfl | ⟨hr, rfl⟩
    · exact hg
    · exact hd _ s hg hr
  · exact h p hp

/-! what is so of each board by the rules -/
structure BdI (rh : Int) (b : Bd0) : Prop where
  st : 1 ≤ b.st ∧ b.st ≤ 6
  he : b.he ≤ rh
  fail : b.st = 3 → 0 < b.op.length
  none : b.st ≠ 3 → b.st ≠ 5 → b.op.length = 0
theorem BdI.new {rh : Int} (h : 0 ≤ rh) : BdI rh newB := ⟨by decide, h, fun h => absurd h (by decide), fun _ _ => rfl⟩
theorem put_pos {α : Type} (m : Sm α) (k : Bs) (v : α) : 0 < (m.put k v).length := List.length_pos_of_mem (Sm.put_mem.2 (.inl rfl))
theorem BdI.step {rh rr : Int} {b : Bd0} (s : Stp) (h : BdI rh b) (hr : refB rh rr b s = 0) : BdI rh (doB b s) := by
  obtain ⟨h1, h2, h3, h4⟩ := h
  unfold refB at hr
  unfold doB
  by_cases k1 : s.kd = 1
  · rw [if_pos k1] at hr ⊢
    split at hr
    · cases hr
    rename_i hst
    split at hr
    · cases hr
    rename_i hhe
    exact ⟨⟨show (1 : Int) ≤ 2 by decide, show (2 : Int) ≤ 6 by decide⟩, by show b.he + 1 ≤ rh; omega, fun h => absurd h (by simp [Bd0.become]), fun _ _ => h4 (by omega) (by omega)⟩
  rw [if_neg k1] at hr ⊢
  by_cases k2 : s.kd = 2
  · rw [if_pos k2] at hr ⊢
    exact ⟨⟨show (1 : Int) ≤ 3 by decide, show (3 : Int) ≤ 6 by decide⟩, h2, fun _ => put_pos _ _ _, fun h => absurd rfl h⟩
  rw [if_neg k2] at hr ⊢
  by_cases k3 : s.kd = 3
  · rw [if_pos k3] at hr ⊢
    split at hr
    · cases hr
    exact ⟨⟨show (1 : Int) ≤ 4 by decide, show (4 : Int) ≤ 6 by decide⟩, h2, fun h => absurd h (by simp [Bd0.become]), fun _ _ => h4 (by omega) (by omega)⟩
  rw [if_neg k3] at hr ⊢
  by_cases k4 : s.kd = 4
  · rw [if_pos k4] at hr ⊢
    split at hr
    · cases hr
    rename_i hst
    split at hr
    · cases hr
    split at hr
    · cases hr
    rename_i hhe
    split
    · rename_i h0
      exact ⟨⟨show (1 : Int) ≤ 2 by decide, show (2 : Int) ≤ 6 by decide⟩, by show b.he + 1 ≤ rh; omega, fun h => absurd h (by simp [Bd0.become]), fun _ _ => h0⟩
    · rename_i h0
      exact ⟨h1, by show b.he + 1 ≤ rh; omega, fun _ => by show 0 < (b.op.del _).length; omega, fun h => absurd (show b.st = 3 by omega) h⟩
  rw [if_neg k4] at hr ⊢
  by_cases k5 : s.kd = 5
  · rw [if_pos k5] at hr ⊢
    exact ⟨⟨show (1 : Int) ≤ 5 by decide, show (5 : Int) ≤ 6 by decide⟩, h2, fun h => absurd h (by simp [Bd0.become]), fun _ h => absurd rfl h⟩
  rw [if_neg k5] at hr ⊢
  by_cases k6 : s.kd = 6
  · rw [if_pos k6] at hr ⊢
    split at hr
    · cases hr
    exact ⟨⟨show (1 : Int) ≤ 6 by decide, show (6 : Int) ≤ 6 by decide⟩, h2, fun h => absurd h (by simp [Bd0.become]), fun _ _ => h4 (by omega) (by omega)⟩
  rw [if_neg k6] at hr ⊢
  exact ⟨h1, h2, h3, h4⟩

/-! the boards that are known -/
def knownS (at' : Int) : List ByteArray → List Stp → List ByteArray
  | acc, [] => acc
  | acc, s :: l => knownS at' (if s.at ≤ at' ∧ Lib.containsS acc s.bd = false then acc ++ [s.bd] else acc) l
theorem knownS_go {at' : Int} {acc : List ByteArray} {l : List Stp} {k : Nat} {s : Stp} (hs : l[k]? = some s) : knownS at' acc (l.drop k) = knownS at' (if s.at ≤ at' ∧ Lib.containsS acc s.bd = false then acc ++ [s.bd] else acc) (l.drop (k + 1)) := by
  obtain ⟨hk, he⟩ := List.getElem?_eq_some_iff.1 hs
  rw [List.drop_eq_getElem_cons hk, he, knownS]
def bsOf (b : ByteArray) : Bs := b.data.toList
theorem bsOf_inj {a b : ByteArray} (h : bsOf a = bsOf b) : a = b := ByteArray.ext (Array.toList_inj.1 h)
theorem knownS_late {at' : Int} : ∀ (l : List Stp) (acc : List ByteArray), (∀ s ∈ l, at' < s.at) → knownS at' acc l = acc
  | [], acc, _ => rfl
  | s :: l, acc, h => by
    have := h s (List.mem_cons_self ..)
    rw [knownS, if_neg (by omega), knownS_late l acc fun x hx => h x (List.mem_cons_of_mem _ hx)]
/-- the boards that are known are those of the shop. -/
structure KnI (acc : List ByteArray) (m : Sm Bd0) : Prop where
  nd : acc.Nodup
  mem : ∀ b, b ∈ acc ↔ bsOf b ∈ m.keys
  key : ∀ k ∈ m.keys, ∃ b ∈ acc, bsOf b = k
theorem KnI.nil : KnI [] [] := ⟨List.nodup_nil, fun b => by simp [Sm.keys], fun k hk => by simp [Sm.keys] at hk⟩
theorem KnI.step {acc : List ByteArray} {m : Sm Bd0} (h : KnI acc m) (rh rr : Int) (s : Stp) : KnI (if Lib.containsS acc s.bd = false then acc ++ [s.bd] else acc) (doS rh rr m s).1 := by
  obtain ⟨b', hb', _⟩ := doS_put rh rr m s
  rw [hb']
  by_cases hs : s.bd ∈ acc
  · rw [if_neg (by rw [(Lib.containsS_iff _ _).2 hs]; decide)]
    have hk := (h.mem _).1 hs
    refine ⟨h.nd, fun b => ?_, fun k hk2 => ?_⟩
    · rw [Sm.keys_put, h.mem]
      constructor
      · exact .inr
      · rintro (e | e)
        · rw [bsOf_inj (show bsOf b = bsOf s.bd from e)]; exact hk
        · exact e
    · rcases (Sm.keys_put ..).1 hk2 with rfl | e
      · exact ⟨s.bd, hs, rfl⟩
      · exact h.key k e
  · rw [if_pos (by rw [← Bool.not_eq_true, Lib.containsS_iff]; exact hs)]
    refine ⟨?_, fun b => ?_, fun k hk2 => ?_⟩
    · rw [List.nodup_append]
      refine ⟨h.nd, by simp, fun x hx y hy e => ?_⟩
      simp at hy
      subst hy; subst e
      exact hs hx
    · rw [Sm.keys_put, List.mem_append, h.mem, List.mem_singleton]
      constructor
      · rintro (e | e)
        · exact .inr e
        · exact .inl (by rw [e]; rfl)
      · rintro (e | e)
        · exact .inr (bsOf_inj e)
        · exact .inl e
    · rcases (Sm.keys_put ..).1 hk2 with rfl | e
      · exact ⟨s.bd, by simp, rfl⟩
      · obtain ⟨b, hb, e2⟩ := h.key k e
        exact ⟨b, by simp [hb], e2⟩
theorem KnI.len {acc : List ByteArray} {m : Sm Bd0} (h : KnI acc m) (hm : Sm.Ok m) : acc.length = m.length := by
  have hp : (acc.map bsOf).Perm m.keys := by
    refine (List.perm_ext_iff_of_nodup ?_ (Sm.keys_nodup hm)).2 fun k => ?_
    · unfold List.Nodup
      rw [List.pairwise_map]
      exact h.nd.imp fun {a b} hab e => hab (bsOf_inj e)
    · rw [List.mem_map]
      constructor
      · rintro ⟨b, hb, rfl⟩; exact (h.mem b).1 hb
      · exact fun hk => h.key k hk
  have := hp.length_eq
  simpa [Sm.keys] using this
theorem known_run {rh rr at' : Int} : ∀ (l : List Stp) (acc : List ByteArray) (m : Sm Bd0), (l.Pairwise fun a b => a.at ≤ b.at) → KnI acc m → KnI (knownS at' acc l) (runS rh rr at' m l)
  | [], acc, m, _, h => h
  | s :: l, acc, m, hp, h => by
    obtain ⟨hp1, hp2⟩ := List.pairwise_cons.1 hp
    by_cases hat : at' < s.at
    · rw [knownS_late _ _ fun x hx => ?_, runS, if_pos hat]
      · exact h
      · rcases List.mem_cons.1 hx with rfl | hx
        · exact hat
        · have := hp1 x hx; omega
    · rw [knownS, runS, if_neg hat]
      refine known_run l _ _ hp2 ?_
      have := h.step rh rr s
      by_cases hs : Lib.containsS acc s.bd = false
      · rw [if_pos ⟨by omega, hs⟩]; rw [if_pos hs] at this; exact this
      · rw [if_neg fun h => hs h.2]; rw [if_neg hs] at this; exact this

/-! boards that have a state -/
def inS (m : Sm Bd0) (st : Int) : List Bs := (m.filter fun p => decide (p.2.st = st)).map (·.1)
def inN (m : Sm Bd0) (st : Int) : Nat := (inS m st).length
theorem inS_mem {m : Sm Bd0} (hm : Sm.Ok m) {st : Int} {k : Bs} (h : k ∈ inS m st) : ∃ b, m.get k = some b ∧ b.st = st := by
  unfold inS at h
  obtain ⟨p, hp, rfl⟩ := List.mem_map.1 h
  obtain ⟨hp, hst⟩ := List.mem_filter.1 hp
  exact ⟨p.2, Sm.get_of_mem hm hp, by simpa using hst⟩
theorem inS_of {m : Sm Bd0} {k : Bs} {b : Bd0} (h : m.get k = some b) : k ∈ inS m b.st := List.mem_map.2 ⟨(k, b), List.mem_filter.2 ⟨Sm.get_mem h, by simp⟩, rfl⟩
theorem inS_key {m : Sm Bd0} {st : Int} {k : Bs} (h : k ∈ inS m st) : k ∈ m.keys := by
  unfold inS at h
  obtain ⟨p, hp, rfl⟩ := List.mem_map.1 h
  exact List.mem_map.2 ⟨p, (List.mem_filter.1 hp).1, rfl⟩
theorem inN_cons (p : Bs × Bd0) (m : Sm Bd0) (st : Int) : inN (p :: m) st = inN m st + if p.2.st = st then 1 else 0 := by
  unfold inN inS
  rw [List.filter_cons]
  by_cases h : p.2.st = st
  · simp [h]
  · simp [h]
theorem in_all : ∀ (m : Sm Bd0), (∀ p ∈ m, 1 ≤ p.2.st ∧ p.2.st ≤ 6) → inN m 1 + inN m 2 + inN m 3 + inN m 4 + inN m 5 + inN m 6 = m.length
  | [], _ => rfl
  | p :: m, h => by
    have ih := in_all m fun q hq => h q (List.mem_cons_of_mem _ hq)
    obtain ⟨h1, h2⟩ := h p (List.mem_cons_self ..)
    simp only [inN_cons, List.length_cons]
    have : p.2.st = 1 ∨ p.2.st = 2 ∨ p.2.st = 3 ∨ p.2.st = 4 ∨ p.2.st = 5 ∨ p.2.st = 6 := by omega
    rcases this with e | e | e | e | e | e <;> rw [e] <;> simp <;> omega
end Go.Proofs.YtbkglhakhahfpaaGreatDoor
namespace Go.Proofs.YtbkglhakhahfpaaGreatDoor
open Go.RowKit Go.Sort Go.Maps

def isHopB (rh rr : Int) (b : Bd0) : Bool := decide (rh - b.he < b.op.length) || b.op.any fun p => decide (rr ≤ (b.rp.get p.1).getD 0)
/-- a step of one board. -/
def stB1 (rh rr : Int) (b : Bd0) (s : Stp) : Bd0 := if refB rh rr b s = 0 then doB b s else b
theorem doS_get {rh rr : Int} {m : Sm Bd0} {s : Stp} {b : Bd0} (h : m.get s.bd.data.toList = some b) : (doS rh rr m s).1.get s.bd.data.toList = some (stB1 rh rr b s) := by
  unfold doS stB1
  rw [h]
  show (if refB rh rr b s = 0 then _ else _ : Sm Bd0 × Int).1.get _ = _
  split <;> exact Sm.get_put_same _ _ _
theorem runS_append {rh rr at' : Int} : ∀ (l l' : List Stp) (m : Sm Bd0), (∀ s ∈ l, s.at ≤ at') → runS rh rr at' m (l ++ l') = runS rh rr at' (runS rh rr at' m l) l'
  | [], l', m, _ => rfl
  | s :: l, l', m, h => by
    have h1 := h s (List.mem_cons_self ..)
    rw [List.cons_append, runS, if_neg (by omega), runS, if_neg (by omega)]
    exact runS_append l l' _ fun x hx => h x (List.mem_cons_of_mem _ hx)
theorem runS_board {rh rr at' : Int} {bd : ByteArray} : ∀ (l : List Stp) (m : Sm Bd0) (b : Bd0), (∀ s ∈ l, s.at ≤ at' ∧ s.bd = bd) → m.get bd.data.toList = some b → (runS rh rr at' m l).get bd.data.toList = some (l.foldl (stB1 rh rr) b)
  | [], m, b, _, h => h
  | s :: l, m, b, h, hm => by
    obtain ⟨h1, h2⟩ := h s (List.mem_cons_self ..)
    rw [runS, if_neg (by omega), List.foldl_cons]
    refine runS_board l _ _ (fun x hx => h x (List.mem_cons_of_mem _ hx)) ?_
    rw [← h2] at hm ⊢
    exact doS_get hm
def repS (at' : Int) (bd : ByteArray) (k : ByteArray) : Stp := (at', bd, 4, k)
theorem rep_kd (at' : Int) (bd k : ByteArray) : (repS at' bd k).kd = 4 := rfl
theorem refB_rep {rh rr at' : Int} {bd : ByteArray} {b : Bd0} (h3 : b.st = 3) (k : ByteArray) : refB rh rr b (repS at' bd k) = if b.isOp k = false then 8 else if rr ≤ b.reps k ∨ rh ≤ b.he then 16 else 0 := by
  unfold refB
  rw [rep_kd, if_neg (show ¬ (4 : Int) = 1 by decide), if_neg (show ¬ (4 : Int) = 2 by decide), if_neg (show ¬ (4 : Int) = 3 by decide), if_pos (show (4 : Int) = 4 from rfl), if_neg (by rw [h3]; decide)]
  rfl
theorem doB_rep {at' : Int} {bd : ByteArray} (b : Bd0) (k : ByteArray) : doB b (repS at' bd k) = if (b.op.del (bsOf k)).length = 0 then Bd0.become { b with op := b.op.del (bsOf k), rp := b.rp.put (bsOf k) (b.reps k + 1), he := b.he + 1, lp := b.lp + 1 } 2 at' else { b with op := b.op.del (bsOf k), rp := b.rp.put (bsOf k) (b.reps k + 1), he := b.he + 1 } := by
  unfold doB
  rw [rep_kd, if_neg (show ¬ (4 : Int) = 1 by decide), if_neg (show ¬ (4 : Int) = 2 by decide), if_neg (show ¬ (4 : Int) = 3 by decide), if_pos (show (4 : Int) = 4 from rfl)]
  rfl
/-- what is open has the word true. -/
structure OpI (b : Bd0) : Prop where
  op : Sm.Ok b.op
  tr : ∀ p ∈ b.op, p.2 = true
theorem OpI.isOp {b : Bd0} (h : OpI b) (k : ByteArray) : b.isOp k = true ↔ bsOf k ∈ b.op.keys := by
  unfold Bd0.isOp
  rw [← Sm.has_iff, Sm.has, Option.isSome_iff_exists]
  constructor
  · intro hh
    cases hg : b.op.get k.data.toList with
    | none => rw [hg] at hh; cases hh
    | some v => exact ⟨v, hg⟩
  · rintro ⟨v, hg⟩
    have := h.tr _ (Sm.get_mem hg)
    rw [show b.op.get k.data.toList = some v from hg]
    exact this
theorem del_keys {α : Type} (m : Sm α) (k j : Bs) : j ∈ (m.del k).keys ↔ j ∈ m.keys ∧ j ≠ k := by
  unfold Sm.keys Sm.del
  simp only [List.mem_map, List.mem_filter, decide_eq_true_eq]
  constructor
  · rintro ⟨p, ⟨hp, hne⟩, rfl⟩; exact ⟨⟨p, hp, rfl⟩, hne⟩
  · rintro ⟨⟨p, hp, rfl⟩, hne⟩; exact ⟨p, ⟨hp, hne⟩, rfl⟩
theorem del_len {α : Type} : ∀ {m : Sm α}, Sm.Ok m → ∀ k : Bs, m.length ≤ (m.del k).length + 1
  | [], _, _ => Nat.zero_le _
  | p :: m, h, k => by
    obtain ⟨h1, h2⟩ := List.pairwise_cons.1 h
    unfold Sm.del
    rw [List.filter_cons]
    by_cases hp : p.1 = k
    · have : m.filter (fun q => decide (q.1 ≠ k)) = m := List.filter_eq_self.2 fun q hq => by
        have := Sm.bb_ne (h1 q hq)
        rw [hp] at this
        simpa using this.symm
      rw [if_neg (by simp [hp]), this]; simp
    · rw [if_pos (by simp [hp])]
      have := del_len h2 k
      unfold Sm.del at this
      simp only [List.length_cons]; omega
theorem keys_len {α : Type} (m : Sm α) : m.keys.length = m.length := List.length_map _
theorem OpI.del {b b' : Bd0} (h : OpI b) {k : Bs} (hb : b'.op = b.op.del k) : OpI b' := ⟨by rw [hb]; exact h.op.del k, fun p hp => by rw [hb] at hp; exact h.tr p (List.mem_filter.1 hp).1⟩
theorem reps_put {b : Bd0} {k j : ByteArray} (h : j ≠ k) (n : Int) : ((b.rp.put (bsOf k) n).get j.data.toList).getD 0 = b.reps j := by
  rw [Sm.get_put_other (j := j.data.toList) (fun e => h (bsOf_inj (show bsOf k = bsOf j from e)).symm)]; rfl
/-- not hopeless: all repairs are done. -/
theorem rep_all {rh rr at' : Int} {bd : ByteArray} : ∀ (ks : List ByteArray) (b : Bd0), ks.Nodup → ks ≠ [] → b.st = 3 → OpI b → (∀ j, j ∈ b.op.keys ↔ ∃ k ∈ ks, bsOf k = j) → (ks.length : Int) ≤ rh - b.he → (∀ k ∈ ks, b.reps k < rr) → ((ks.map (repS at' bd)).foldl (stB1 rh rr) b).st = 2
  | [], b, _, hne, _, _, _, _, _ => absurd rfl hne
  | k :: ks, b, hnd, _, h3, hO, hk, hl, hr => by
    obtain ⟨hk1, hk2⟩ := List.nodup_cons.1 hnd
    have hop : b.isOp k = true := (hO.isOp k).2 ((hk _).2 ⟨k, List.mem_cons_self .., rfl⟩)
    have hrk := hr k (List.mem_cons_self ..)
    simp only [List.length_cons] at hl
    have hz : refB rh rr b (repS at' bd k) = 0 := by rw [refB_rep h3, if_neg (by rw [hop]; decide), if_neg (by omega)]
    rw [List.map_cons, List.foldl_cons, show stB1 rh rr b (repS at' bd k) = doB b (repS at' bd k) from if_pos hz, doB_rep]
    have hdk : ∀ j, j ∈ (b.op.del (bsOf k)).keys ↔ ∃ x ∈ ks, bsOf x = j := fun j => by
      rw [del_keys, hk]
      constructor
      · rintro ⟨⟨x, hx, rfl⟩, hne⟩
        rcases List.mem_cons.1 hx with rfl | hx
        · exact absurd rfl hne
        · exact ⟨x, hx, rfl⟩
      · rintro ⟨x, hx, rfl⟩
        exact ⟨⟨x, List.mem_cons_of_mem _ hx, rfl⟩, fun e => hk1 (by rw [← bsOf_inj e]; exact hx)⟩
    have hdl : (b.op.del (bsOf k)).length = ks.length := by
      have hp : ((ks.map bsOf)).Perm (b.op.del (bsOf k)).keys := (List.perm_ext_iff_of_nodup (by
        unfold List.Nodup
        rw [List.pairwise_map]
        exact hk2.imp fun {a c} hac e => hac (bsOf_inj e)) (Sm.keys_nodup (hO.op.del _))).2 fun j => by rw [hdk, List.mem_map]
      have := hp.length_eq
      rw [List.length_map, keys_len] at this
      exact this.symm
    cases ks with
    | nil =>
      rw [if_pos (by rw [hdl]; rfl)]
      rfl
    | cons k2 ks =>
      rw [if_neg (by rw [hdl]; simp)]
      refine rep_all (k2 :: ks) _ hk2 (by simp) h3 (hO.del (k := bsOf k) rfl) hdk (by show _ ≤ rh - (b.he + 1); simp only [List.length_cons] at hl ⊢; omega) fun x hx => ?_
      have hne : x ≠ k := fun e => hk1 (by rw [← e]; exact hx)
      have := hr x (List.mem_cons_of_mem _ hx)
      show ((b.rp.put (bsOf k) (b.reps k + 1)).get x.data.toList).getD 0 < rr
      rw [reps_put hne]; exact this
/-- too few heats: it stays as it is. -/
theorem rep_few {rh rr at' : Int} {bd : ByteArray} : ∀ (ks : List ByteArray) (b : Bd0), b.st = 3 → OpI b → b.he ≤ rh → rh - b.he < b.op.length → ((ks.map (repS at' bd)).foldl (stB1 rh rr) b).st = 3
  | [], b, h3, _, _, _ => h3
  | k :: ks, b, h3, hO, hh, hl => by
    rw [List.map_cons, List.foldl_cons]
    unfold stB1
    by_cases hz : refB rh rr b (repS at' bd k) = 0
    · rw [if_pos hz, doB_rep]
      have hlt : b.he < rh := by
        rw [refB_rep h3] at hz
        split at hz
        · cases hz
        split at hz
        · cases hz
        · omega
      have hd := del_len hO.op (bsOf k)
      rw [if_neg (by omega)]
      exact rep_few ks _ h3 (hO.del (k := bsOf k) rfl) (by show b.he + 1 ≤ rh; omega) (by show rh - (b.he + 1) < ((b.op.del (bsOf k)).length : Int); omega)
    · rw [if_neg hz]
      exact rep_few ks b h3 hO hh hl
/-- a component that was repaired too often: it stays as it is. -/
theorem rep_worn {rh rr at' : Int} {bd c : ByteArray} : ∀ (ks : List ByteArray) (b : Bd0), b.st = 3 → OpI b → bsOf c ∈ b.op.keys → rr ≤ b.reps c → ((ks.map (repS at' bd)).foldl (stB1 rh rr) b).st = 3
  | [], b, h3, _, _, _ => h3
  | k :: ks, b, h3, hO, hc, hr => by
    rw [List.map_cons, List.foldl_cons]
    unfold stB1
    by_cases hz : refB rh rr b (repS at' bd k) = 0
    · rw [if_pos hz, doB_rep]
      have hne : c ≠ k := by
        rintro rfl
        rw [refB_rep h3, if_neg (by rw [(hO.isOp c).2 hc]; decide), if_pos (.inl hr)] at hz
        cases hz
      have hcm : bsOf c ∈ (b.op.del (bsOf k)).keys := (del_keys ..).2 ⟨hc, fun e => hne (bsOf_inj e)⟩
      have hpos : 0 < (b.op.del (bsOf k)).length := by rw [← keys_len]; exact List.length_pos_of_mem hcm
      rw [if_neg (by omega)]
      refine rep_worn ks _ h3 (hO.del (k := bsOf k) rfl) hcm ?_
      show rr ≤ ((b.rp.put (bsOf k) (b.reps k + 1)).get c.data.toList).getD 0
      rw [reps_put hne]; exact hr
    · rw [if_neg hz]
      exact rep_worn ks b h3 hO hc hr
def baOf (k : Bs) : ByteArray := ⟨k.toArray⟩
theorem bsOf_baOf (k : Bs) : bsOf (baOf k) = k := by simp [bsOf, baOf]
theorem baOf_inj {a b : Bs} (h : baOf a = baOf b) : a = b := by rw [← bsOf_baOf a, h, bsOf_baOf]
/-- a board that failed can be repaired just if it is not hopeless. -/
theorem hopeless_law {rh rr at' : Int} {bd : ByteArray} {b : Bd0} (h3 : b.st = 3) (hO : OpI b) (hh : b.he ≤ rh) (hp : 0 < b.op.length) : (((b.op.keys.map baOf).map (repS at' bd)).foldl (stB1 rh rr) b).st = 2 ↔ isHopB rh rr b = false := by
  by_cases h1 : rh - b.he < b.op.length
  · have : isHopB rh rr b = true := by unfold isHopB; rw [decide_eq_true h1]; rfl
    rw [rep_few _ b h3 hO hh h1, this]
    decide
  · by_cases h2 : (b.op.any fun p => decide (rr ≤ (b.rp.get p.1).getD 0)) = true
    · have : isHopB rh rr b = true := by unfold isHopB; rw [h2]; simp
      obtain ⟨p, hp, hr⟩ := List.any_eq_true.1 h2
      rw [rep_worn (c := baOf p.1) _ b h3 hO (by rw [bsOf_baOf]; exact List.mem_map.2 ⟨p, hp, rfl⟩) (by have := of_decide_eq_true hr; unfold Bd0.reps; rw [show (baOf p.1).data.toList = p.1 from bsOf_baOf _]; exact this), this]
      decide
    · have hn : isHopB rh rr b = false := by unfold isHopB; rw [decide_eq_false h1, Bool.eq_false_iff.2 h2]; rfl
      rw [rep_all _ b ?_ ?_ h3 hO ?_ ?_ ?_, hn]
      · simp
      · unfold List.Nodup
        rw [List.pairwise_map]
        exact (Sm.keys_nodup hO.op).imp fun {a c} hac e => hac (baOf_inj e)
      · intro e
        have := congrArg List.length e
        simp [keys_len] at this
        rw [this] at hp; simp at hp
      · intro j
        constructor
        · exact fun hj => ⟨baOf j, List.mem_map.2 ⟨j, hj, rfl⟩, bsOf_baOf j⟩
        · rintro ⟨k, hk, rfl⟩
          obtain ⟨x, hx, rfl⟩ := List.mem_map.1 hk
          rw [bsOf_baOf]; exact hx
      · rw [List.length_map, keys_len]; omega
      · intro k hk
        obtain ⟨x, hx, rfl⟩ := List.mem_map.1 hk
        obtain ⟨p, hp, rfl⟩ := List.mem_map.1 hx
        have : ¬ rr ≤ (b.rp.get p.1).getD 0 := fun h => h2 (List.any_eq_true.2 ⟨p, hp, decide_eq_true h⟩)
        unfold Bd0.reps
        rw [show (baOf p.1).data.toList = p.1 from bsOf_baOf _]
        omega

/-! what is so of the boards of right steps -/
structure BdJ (b : Bd0) : Prop extends OpI b where
  ck : ∀ p ∈ b.op, keyB (baOf p.1) = true
theorem BdJ.new : BdJ newB := ⟨⟨Sm.Ok.nil, fun p hp => by simp [newB] at hp⟩, fun p hp => by simp [newB] at hp⟩
theorem BdJ.step {b : Bd0} (h : BdJ b) (s : Stp) (hs : s.kd = 2 → keyB s.co = true) : BdJ (doB b s) := by
  unfold doB
  split
  · exact ⟨⟨h.op, h.tr⟩, h.ck⟩
  split
  · rename_i h2
    refine ⟨⟨h.op.put _ _, fun p hp => ?_⟩, fun p hp => ?_⟩
    · rcases Sm.put_mem.1 hp with rfl | ⟨hp, _⟩
      · rfl
      · exact h.tr p hp
    · rcases Sm.put_mem.1 hp with rfl | ⟨hp, _⟩
      · have := hs h2
        rw [show baOf s.co.data.toList = s.co from bsOf_inj (bsOf_baOf _)]
        exact this
      · exact h.ck p hp
  split
  · exact ⟨⟨h.op, h.tr⟩, h.ck⟩
  split
  · split
    · exact ⟨⟨h.op.del _, fun p hp => h.tr p (List.mem_filter.1 hp).1⟩, fun p hp => h.ck p (List.mem_filter.1 hp).1⟩
    · exact ⟨⟨h.op.del _, fun p hp => h.tr p (List.mem_filter.1 hp).1⟩, fun p hp => h.ck p (List.mem_filter.1 hp).1⟩
  split
  · exact ⟨⟨h.op, h.tr⟩, h.ck⟩
  split
  · exact ⟨⟨h.op, h.tr⟩, h.ck⟩
  · exact h
theorem runS_in {rh rr at' : Int} {P : Sm Bd0 → Prop} : ∀ (l : List Stp) (m : Sm Bd0), (∀ m s, s ∈ l → P m → P (doS rh rr m s).1) → P m → P (runS rh rr at' m l)
  | [], m, _, h => h
  | s :: l, m, hs, h => by
    rw [runS]; split
    · exact h
    · exact runS_in l _ (fun m x hx => hs m x (List.mem_cons_of_mem _ hx)) (hs m s (List.mem_cons_self ..) h)
/-- right steps have right names. -/
theorem stepF_names {p : Option Int} {s : Stp} (h : stepF p s = 0) : keyB s.bd = true ∧ (s.kd = 2 → keyB s.co = true) := by
  unfold stepF at h
  split at h
  · exact absurd h (by decide)
  split at h
  · exact absurd h (by decide)
  rename_i h2
  split at h
  · exact absurd h (by decide)
  split at h
  · exact absurd h (by decide)
  split at h
  · exact absurd h (by decide)
  rename_i h5
  refine ⟨by simpa using h2, fun hk => ?_⟩
  cases hc : keyB s.co with
  | true => rfl
  | false => exact absurd ⟨by unfold namB; rw [hk]; rfl, hc⟩ h5
theorem stepsF1_names : ∀ (l : List Stp) (p : Option Int), stepsF1 p l = 0 → ∀ s ∈ l, keyB s.bd = true ∧ (s.kd = 2 → keyB s.co = true)
  | [], p, _ => fun s hs => by simp at hs
  | s :: l, p, h => by
    rw [stepsF1] at h
    split at h
    · rename_i h0
      intro x hx
      rcases List.mem_cons.1 hx with rfl | hx
      · exact stepF_names h0
      · exact stepsF1_names l _ h x hx
    · rename_i h0; exact absurd h h0
theorem stepsF_names {l : List Stp} (h : stepsF l = 0) : ∀ s ∈ l, keyB s.bd = true ∧ (s.kd = 2 → keyB s.co = true) := by
  unfold stepsF at h
  split at h
  · exact absurd h (by decide)
  · exact stepsF1_names l none h
theorem runS_J {rh rr at' : Int} {l : List Stp} (hl : stepsF l = 0) : ∀ p ∈ runS rh rr at' [] l, BdJ p.2 ∧ keyB (baOf p.1) = true := by
  refine runS_in (P := fun m => ∀ p ∈ m, BdJ p.2 ∧ keyB (baOf p.1) = true) l [] (fun m s hs h => ?_) fun p hp => by simp at hp
  obtain ⟨n1, n2⟩ := stepsF_names hl s hs
  have hg : BdJ ((m.get s.bd.data.toList).getD newB) := by
    cases hm : m.get s.bd.data.toList with
    | none => exact BdJ.new
    | some b => exact (h _ (Sm.get_mem hm)).1
  obtain ⟨b', hb', hc⟩ := doS_put rh rr m s
  rw [hb']
  intro p hp
  rcases Sm.put_mem.1 hp with rfl | ⟨hp, _⟩
  · refine ⟨?_, by rw [show baOf s.bd.data.toList = s.bd from bsOf_inj (bsOf_baOf _)]; exact n1⟩
    rcases hc with rfl | ⟨hr, rfl⟩
    · exact hg
    · exact hg.step s n2
  · exact h p hp
/-! few boards fail: each of them took two steps -/
def wgt (b : Bd0) : Nat := if b.st = 3 then 2 else if b.st = 2 then 1 else 0
def wsum (m : Sm Bd0) : Nat := (m.map fun p => wgt p.2).sum
theorem wsum_ins (k : Bs) (b : Bd0) : ∀ m : Sm Bd0, wsum (Sm.ins k b m) = wsum m + wgt b
  | [] => by simp [wsum, Sm.ins]
  | p :: m => by
    rw [Sm.ins]
    split
    · simp [wsum]; omega
    · have := wsum_ins k b m
      simp only [wsum, List.map_cons, List.sum_cons] at this ⊢
      omega
theorem wsum_del : ∀ {m : Sm Bd0}, Sm.Ok m → ∀ k : Bs, wsum (m.del k) + wgt ((m.get k).getD newB) = wsum m
  | [], _, _ => rfl
  | p :: m, h, k => by
    obtain ⟨h1, h2⟩ := List.pairwise_cons.1 h
    rw [Sm.get]
    by_cases hp : p.1 = k
    · have hn : Sm.get m k = none := Sm.get_none_of fun q hq e => Sm.bb_ne (h1 q hq) (hp.trans e.symm)
      have : Sm.del (p :: m) k = m := by
        have := Sm.del_id hn
        unfold Sm.del at this ⊢
        rw [List.filter_cons, if_neg (by simp [hp]), this]
      rw [this, if_pos hp]
      simp [wsum]; omega
    · have ih := wsum_del h2 k
      have : Sm.del (p :: m) k = p :: Sm.del m k := by unfold Sm.del; rw [List.filter_cons, if_pos (by simp [hp])]
      rw [this, if_neg hp]
      simp only [wsum, List.map_cons, List.sum_cons] at ih ⊢
      omega
theorem wsum_put {m : Sm Bd0} (h : Sm.Ok m) (k : Bs) (b : Bd0) : wsum (m.put k b) + wgt ((m.get k).getD newB) = wsum m + wgt b := by
  unfold Sm.put
  rw [wsum_ins]
  have := wsum_del h k
  omega
theorem wgt_step {rh rr : Int} {b : Bd0} {s : Stp} (h : refB rh rr b s = 0) : wgt (doB b s) ≤ wgt b + 1 := by
  unfold refB at h
  have w1 : ∀ x : Bd0, x.st = 1 → wgt x = 0 := fun x e => by unfold wgt; rw [if_neg (by omega), if_neg (by omega)]
  have w2 : ∀ x : Bd0, x.st = 2 → wgt x = 1 := fun x e => by unfold wgt; rw [if_neg (by omega), if_pos e]
  have w3 : ∀ x : Bd0, x.st = 3 → wgt x = 2 := fun x e => by unfold wgt; rw [if_pos e]
  have w4 : ∀ x : Bd0, 3 < x.st → wgt x = 0 := fun x e => by unfold wgt; rw [if_neg (by omega), if_neg (by omega)]
  unfold doB
  by_cases k1 : s.kd = 1
  · rw [if_pos k1, w2 _ rfl]; omega
  rw [if_neg k1] at h ⊢
  by_cases k2 : s.kd = 2
  · rw [if_pos k2] at h ⊢
    rw [w3 _ rfl]
    by_cases e : b.st = 2
    · rw [w2 b e]; omega
    · by_cases e3 : b.st = 3
      · rw [w3 b e3]; omega
      · rw [if_pos ⟨e, e3⟩] at h; cases h
  rw [if_neg k2] at h ⊢
  by_cases k3 : s.kd = 3
  · rw [if_pos k3, w4 _ (show (3 : Int) < 4 by decide)]; omega
  rw [if_neg k3] at h ⊢
  by_cases k4 : s.kd = 4
  · rw [if_pos k4] at h ⊢
    have e : b.st = 3 := by
      apply Classical.byContradiction
      intro e; rw [if_pos e] at h; cases h
    have hb := w3 b e
    split
    · rw [w2 _ rfl]; omega
    · rw [w3 { b with op := b.op.del s.co.data.toList, rp := b.rp.put s.co.data.toList (b.reps s.co + 1), he := b.he + 1 } e]; omega
  rw [if_neg k4] at h ⊢
  by_cases k5 : s.kd = 5
  · rw [if_pos k5, w4 _ (show (3 : Int) < 5 by decide)]; omega
  rw [if_neg k5] at h ⊢
  by_cases k6 : s.kd = 6
  · rw [if_pos k6, w4 _ (show (3 : Int) < 6 by decide)]; omega
  rw [if_neg k6]; omega
theorem wsum_run {rh rr at' : Int} : ∀ (l : List Stp) (m : Sm Bd0), Sm.Ok m → wsum (runS rh rr at' m l) ≤ wsum m + l.length
  | [], m, _ => Nat.le_refl _
  | s :: l, m, h => by
    rw [runS]; split
    · simp only [List.length_cons]; omega
    · have ih := wsum_run (rh := rh) (rr := rr) (at' := at') l _ (doS_ok (rh := rh) (rr := rr) h s)
      obtain ⟨b', hb', hc⟩ := doS_put rh rr m s
      have hp := wsum_put h s.bd.data.toList b'
      rw [← hb'] at hp
      have : wgt b' ≤ wgt ((m.get s.bd.data.toList).getD newB) + 1 := by
        rcases hc with rfl | ⟨hr, rfl⟩
        · omega
        · exact wgt_step hr
      simp only [List.length_cons]; omega
theorem wsum_fail : ∀ m : Sm Bd0, 2 * inN m 3 ≤ wsum m
  | [] => Nat.le_refl _
  | p :: m => by
    have ih := wsum_fail m
    rw [inN_cons]
    simp only [wsum, List.map_cons, List.sum_cons] at ih ⊢
    by_cases h : p.2.st = 3
    · rw [if_pos h, show wgt p.2 = 2 from if_pos h]; omega
    · rw [if_neg h]; omega
theorem fail_few {rh rr at' : Int} {l : List Stp} (h : l.length ≤ 24) : (inS (runS rh rr at' [] l) 3).length ≤ 12 := by
  have h1 := wsum_run (rh := rh) (rr := rr) (at' := at') l [] Sm.Ok.nil
  have h2 := wsum_fail (runS rh rr at' [] l)
  have h3 : wsum [] = 0 := rfl
  show inN _ 3 ≤ 12
  omega
end Go.Proofs.YtbkglhakhahfpaaGreatDoor
