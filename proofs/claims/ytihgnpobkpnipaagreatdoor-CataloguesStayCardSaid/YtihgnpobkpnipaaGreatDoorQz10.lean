/- Texts of the proof of a law, put together, part 10 of 41. Conditions: none beyond those that each theorem names. -/
import Derived.Test.YtihgnpobkpnipaaGreatDoorQz9
namespace Go.Proofs.YtihgnpobkpnipaaGreatDoor
open Go.RowKit Go.Sort Go.Maps
/-- what is reached. -/
inductive Rch (g : Bs → List Bs) (a : Bs) : Bs → Prop
  | self : Rch g a a
  | step {b c : Bs} : Rch g a b → c ∈ g b → Rch g a c
structure Bfs where
  st : Sm Int
  ln : List Bs
def visit1 (n : Int) (x : Bfs) (s : Bs) : Bfs := if x.st.has s = true then x else ⟨x.st.put s n, x.ln ++ [s]⟩
def visitL (n : Int) : Bfs → List Bs → Bfs
  | x, [] => x
  | x, s :: r => visitL n (visit1 n x s) r
def valB (x : Bfs) (p : Bs) : Int := (x.st.get p).getD 0
def bfsF (g : Bs → List Bs) : Nat → Nat → Bfs → Bfs
  | 0, _, x => x
  | f + 1, i, x => match x.ln[i]? with
    | none => x
    | some p => bfsF g f (i + 1) (visitL (valB x p + 1) x (g p))
def bfs0 (a : Bs) : Bfs := ⟨Sm.put [] a 0, [a]⟩
structure BfI (g : Bs → List Bs) (a : Bs) (x : Bfs) (i : Nat) : Prop where
  ok : Sm.Ok x.st
  nd : x.ln.Nodup
  mem : ∀ s, x.st.has s = true ↔ s ∈ x.ln
  bk : ∀ s v, x.st.get s = some v → (s = a ∧ v = 0) ∨ ∃ p u, x.st.get p = some u ∧ s ∈ g p ∧ v = u + 1
  st : x.st.get a = some 0
  cl : ∀ (k : Nat) (p : Bs), k < i → x.ln[k]? = some p → ∀ s ∈ g p, x.st.has s = true
  nn : ∀ s v, x.st.get s = some v → 0 ≤ v
theorem has_get {x : Sm Int} {s : Bs} : x.has s = true ↔ ∃ v, x.get s = some v := by
  unfold Sm.has
  exact Option.isSome_iff_exists
/-- one state grows to another one. -/
structure Grw (x y : Bfs) : Prop where
  ln : ∃ r, y.ln = x.ln ++ r
  gt : ∀ s v, x.st.get s = some v → y.st.get s = some v
theorem Grw.refl (x : Bfs) : Grw x x := ⟨⟨[], by simp⟩, fun _ _ h => h⟩
theorem Grw.trans {x y z : Bfs} (h : Grw x y) (k : Grw y z) : Grw x z := by
  obtain ⟨r, hr⟩ := h.ln
  obtain ⟨q, hq⟩ := k.ln
  exact ⟨⟨r ++ q, by rw [hq, hr, List.append_assoc]⟩, fun s v e => k.gt s v (h.gt s v e)⟩
theorem Grw.has {x y : Bfs} (h : Grw x y) {s : Bs} (e : x.st.has s = true) : y.st.has s = true := by
  obtain ⟨v, hv⟩ := has_get.1 e
  exact has_get.2 ⟨v, h.gt s v hv⟩
theorem visit1_ok {g : Bs → List Bs} {a : Bs} {x : Bfs} {i : Nat} (h : BfI g a x i) (hi : i ≤ x.ln.length) {p s : Bs} {u : Int} (hp : x.st.get p = some u) (hs : s ∈ g p) : BfI g a (visit1 (u + 1) x s) i ∧ (visit1 (u + 1) x s).st.has s = true ∧ Grw x (visit1 (u + 1) x s) := by
  unfold visit1
  by_cases e : x.st.has s = true
  · rw [if_pos e]; exact ⟨h, e, Grw.refl x⟩
  rw [if_neg e]
  have hnone : x.st.get s = none := by
    cases hg : x.st.get s with
    | none => rfl
    | some v => exact absurd (has_get.2 ⟨v, hg⟩) e
  have hsl : s ∉ x.ln := fun hm => e ((h.mem s).2 hm)
  have gsame : (x.st.put s (u + 1)).get s = some (u + 1) := Sm.get_put_same _ _ _
  have goth : ∀ t, t ≠ s → (x.st.put s (u + 1)).get t = x.st.get t := fun t ht => Sm.get_put_other (Ne.symm ht) _
  have gold : ∀ t v, x.st.get t = some v → (x.st.put s (u + 1)).get t = some v := fun t v hv => by
    rw [goth t (fun q => by rw [q, hnone] at hv; cases hv)]; exact hv
  refine ⟨⟨h.ok.put _ _, ?_, fun t => ?_, fun t v hv => ?_, gold _ _ h.st, fun k q hk hq t ht => ?_, fun t v hv => ?_⟩, has_get.2 ⟨_, gsame⟩, ⟨⟨[s], rfl⟩, gold⟩⟩
  · show (x.ln ++ [s]).Nodup
    rw [List.nodup_append]
    exact ⟨h.nd, by simp, fun b hb c hc => by rw [List.mem_singleton.1 hc]; exact fun q => hsl (q ▸ hb)⟩
  · show (x.st.put s (u + 1)).has t = true ↔ t ∈ x.ln ++ [s]
    rw [List.mem_append, List.mem_singleton]
    by_cases hts : t = s
    · subst hts
      exact ⟨fun _ => .inr rfl, fun _ => has_get.2 ⟨_, gsame⟩⟩
    · rw [has_get, goth t hts, ← has_get, h.mem]
      exact ⟨.inl, fun q => q.resolve_right hts⟩
  · have hv' : (x.st.put s (u + 1)).get t = some v := hv
    by_cases hts : t = s
    · subst hts
      rw [gsame] at hv'
      injection hv' with hv'
      exact .inr ⟨p, u, gold _ _ hp, hs, hv'.symm⟩
    · rw [goth t hts] at hv'
      rcases h.bk t v hv' with q | ⟨p', u', e1, e2, e3⟩
      · exact .inl q
      · exact .inr ⟨p', u', gold _ _ e1, e2, e3⟩
  · have hq' : (x.ln ++ [s])[k]? = some q := hq
    rw [List.getElem?_append_left (by omega)] at hq'
    obtain ⟨v, hv⟩ := has_get.1 (h.cl k q hk hq' t ht)
    exact has_get.2 ⟨v, gold _ _ hv⟩
  · have hv' : (x.st.put s (u + 1)).get t = some v := hv
    by_cases hts : t = s
    · subst hts
      rw [gsame] at hv'
      injection hv' with hv'
      have := h.nn p u hp
      omega
    · rw [goth t hts] at hv'
      exact h.nn t v hv'
theorem visitL_ok {g : Bs → List Bs} {a : Bs} {p : Bs} {u : Int} : ∀ (l : List Bs) {x : Bfs} {i : Nat}, BfI g a x i → i ≤ x.ln.length → x.st.get p = some u → (∀ s ∈ l, s ∈ g p) → BfI g a (visitL (u + 1) x l) i ∧ (∀ s ∈ l, (visitL (u + 1) x l).st.has s = true) ∧ Grw x (visitL (u + 1) x l)
  | [], x, i, h, _, _, _ => ⟨h, fun _ q => (by cases q), Grw.refl x⟩
  | s :: r, x, i, h, hi, hp, hl => by
    obtain ⟨h1, h2, h3⟩ := visit1_ok h hi hp (hl s (List.mem_cons_self ..))
    obtain ⟨q, hq⟩ := h3.ln
    obtain ⟨k1, k2, k3⟩ := visitL_ok r h1 (by rw [hq, List.length_append]; omega) (h3.gt _ _ hp) fun t ht => hl t (List.mem_cons_of_mem _ ht)
    refine ⟨k1, fun t ht => ?_, h3.trans k3⟩
    rcases List.mem_cons.1 ht with rfl | ht
    · exact k3.has h2
    · exact k2 t ht
theorem bfs_step {g : Bs → List Bs} {a : Bs} {x : Bfs} {i : Nat} {p : Bs} (h : BfI g a x i) (hp : x.ln[i]? = some p) : BfI g a (visitL (valB x p + 1) x (g p)) (i + 1) ∧ Grw x (visitL (valB x p + 1) x (g p)) := by
  obtain ⟨hil, _⟩ := List.getElem?_eq_some_iff.1 hp
  obtain ⟨u, hu⟩ := has_get.1 ((h.mem p).2 (List.mem_of_getElem? hp))
  have hv : valB x p = u := by unfold valB; rw [hu]; rfl
  rw [hv]
  obtain ⟨k1, k2, k3⟩ := visitL_ok (g p) h (Nat.le_of_lt hil) hu fun _ q => q
  refine ⟨⟨k1.ok, k1.nd, k1.mem, k1.bk, k1.st, fun k q hk hq s hs => ?_, k1.nn⟩, k3⟩
  by_cases hki : k = i
  · subst hki
    obtain ⟨r, hr⟩ := k3.ln
    rw [hr, List.getElem?_append_left hil, hp] at hq
    injection hq with hq
    exact k2 s (hq ▸ hs)
  · exact k1.cl k q (by omega) hq s hs
theorem bfs0_ok (g : Bs → List Bs) (a : Bs) : BfI g a (bfs0 a) 0 := by
  have hg : ∀ s v, (bfs0 a).st.get s = some v → s = a ∧ v = 0 := fun s v h => by
    have h' : Sm.get (Sm.put [] a (0 : Int)) s = some v := h
    by_cases e : s = a
    · subst e
      rw [Sm.get_put_same] at h'
      injection h' with h'
      exact ⟨rfl, h'.symm⟩
    · rw [Sm.get_put_other (Ne.symm e)] at h'; cases h'
  have hs : (bfs0 a).st.get a = some 0 := Sm.get_put_same _ _ _
  refine ⟨Sm.Ok.nil.put _ _, by simp [bfs0], fun s => ?_, fun s v h => .inl (hg s v h), hs, fun k p hk => absurd hk (by omega), fun s v h => by rw [(hg s v h).2]; exact Int.le_refl _⟩
  constructor
  · intro h
    obtain ⟨v, hv⟩ := has_get.1 h
    rw [(hg s v hv).1]; exact List.mem_singleton.2 rfl
  · intro h
    rw [List.mem_singleton.1 (show s ∈ [a] from h)]
    exact has_get.2 ⟨0, hs⟩
theorem bfs_end {g : Bs → List Bs} {a : Bs} {U : List Bs} (hU : ∀ p s, s ∈ g p → s ∈ U) : ∀ (f : Nat) (i : Nat) (x : Bfs), BfI g a x i → (∀ s ∈ x.ln, s ∈ U) → U.length + 1 ≤ i + f → ∃ j, BfI g a (bfsF g f i x) j ∧ (bfsF g f i x).ln.length ≤ j ∧ (∀ s ∈ (bfsF g f i x).ln, s ∈ U)
  | 0, i, x, h, hx, hf => ⟨i, h, by
      have := List.Nodup.length_le_of_subset h.nd hx
      show x.ln.length ≤ i
      omega, hx⟩
  | f + 1, i, x, h, hx, hf => by
    rw [bfsF]
    cases hp : x.ln[i]? with
    | none => exact ⟨i, h, List.getElem?_eq_none_iff.1 hp, hx⟩
    | some p =>
      obtain ⟨h1, h2⟩ := bfs_step h hp
      refine bfs_end hU f (i + 1) _ h1 (fun s hs => ?_) (by omega)
      obtain ⟨v, hv⟩ := has_get.1 ((h1.mem s).2 hs)
      rcases h1.bk s v hv with ⟨rfl, _⟩ | ⟨q, _, _, e2, _⟩
      · exact hx _ ((h.mem _).1 (has_get.2 ⟨0, h.st⟩))
      · exact hU q s e2
/-- what lies in the end is what is reached. -/
theorem reach_of {g : Bs → List Bs} {a : Bs} {x : Bfs} {j : Nat} (h : BfI g a x j) : ∀ (n : Nat) (s : Bs) (v : Int), x.st.get s = some v → v ≤ n → Rch g a s
  | n, s, v, hv, hn => by
    rcases h.bk s v hv with ⟨rfl, _⟩ | ⟨p, u, e1, e2, e3⟩
    · exact .self
    · have hu := h.nn p u e1
      cases n with
      | zero => exfalso; omega
      | succ n => exact .step (reach_of h n p u e1 (by omega)) e2
theorem reach_iff {g : Bs → List Bs} {a : Bs} {x : Bfs} {j : Nat} (h : BfI g a x j) (hj : x.ln.length ≤ j) (s : Bs) : x.st.has s = true ↔ Rch g a s := by
  constructor
  · intro hs
    obtain ⟨v, hv⟩ := has_get.1 hs
    exact reach_of h v.toNat s v hv (by omega)
  · intro hr
    induction hr with
    | self => exact has_get.2 ⟨0, h.st⟩
    | step _ hc ih =>
      obtain ⟨k, hk⟩ := List.getElem?_of_mem ((h.mem _).1 ih)
      obtain ⟨hkl, _⟩ := List.getElem?_eq_some_iff.1 hk
      exact h.cl k _ (by omega) hk _ hc
/-- all that is reached, with how many steps it takes. -/
def bfsR (g : Bs → List Bs) (a : Bs) (U : List Bs) : Bfs := bfsF g (U.length + 1) 0 (bfs0 a)
theorem bfsR_law (g : Bs → List Bs) (a : Bs) (U : List Bs) (ha : a ∈ U) (hU : ∀ p s, s ∈ g p → s ∈ U) : ∃ j, BfI g a (bfsR g a U) j ∧ (bfsR g a U).ln.length ≤ j ∧ (∀ s ∈ (bfsR g a U).ln, s ∈ U) ∧ ∀ s, (bfsR g a U).st.has s = true ↔ Rch g a s := by
  obtain ⟨j, h1, h2, h3⟩ := bfs_end hU (U.length + 1) 0 (bfs0 a) (bfs0_ok g a) (fun s hs => by rw [List.mem_singleton.1 (show s ∈ [a] from hs)]; exact ha) (by omega)
  exact ⟨j, h1, h2, h3, reach_iff h1 h2⟩
end Go.Proofs.YtihgnpobkpnipaaGreatDoor
namespace Go.Proofs.YtihgnpobkpnipaaGreatDoor
open Go.RowKit Go.Sort Go.Maps
/-- one step nearer. -/
def pickB (nx : Bs → List Bs) (y : Bfs) (x : Bs) : Bs := ((nx x).find? fun s => decide (y.st.get s = some (valB y x - 1))).getD x
def chainB (nx : Bs → List Bs) (y : Bfs) (b : Bs) : Nat → Bs → List Bs
  | 0, x => [x]
  | n + 1, x => if x = b then [x] else x :: chainB nx y b n (pickB nx y x)
theorem val_zero {g : Bs → List Bs} {b : Bs} {y : Bfs} {j : Nat} (h : BfI g b y j) {x : Bs} (hx : y.st.get x = some 0) : x = b := by
  rcases h.bk x 0 hx with ⟨e, _⟩ | ⟨p, u, e1, _, e3⟩
  · exact e
  · have := h.nn p u e1; omega
theorem pick_ok {g nx : Bs → List Bs} {b : Bs} {y : Bfs} {j : Nat} (h : BfI g b y j) (hg : ∀ p s, s ∈ g p → p ∈ nx s) {x : Bs} {v : Int} (hx : y.st.get x = some v) (hb : x ≠ b) : pickB nx y x ∈ nx x ∧ y.st.get (pickB nx y x) = some (v - 1) := by
  have hv : valB y x = v := by unfold valB; rw [hx]; rfl
  rcases h.bk x v hx with ⟨e, _⟩ | ⟨p, u, e1, e2, e3⟩
  · exact absurd e hb
  · unfold pickB
    rw [hv]
    cases hf : (nx x).find? fun s => decide (y.st.get s = some (v - 1)) with
    | none =>
      have := List.find?_eq_none.1 hf p (hg p x e2)
      rw [e1, e3] at this
      exact absurd (by simp) this
    | some s =>
      have h1 := List.mem_of_find?_eq_some hf
      have h2 := List.find?_some hf
      exact ⟨h1, of_decide_eq_true h2⟩
/-! groups -/
structure Gps where
  seen : List Bs
  out : List (List Bs)
def grp1 (mem : Bs → List Bs) (x : Gps) (k : Bs) : Gps := if k ∈ x.seen then x else ⟨x.seen ++ mem k, if 1 < (mem k).length then x.out ++ [mem k] else x.out⟩
def grpL (mem : Bs → List Bs) : Gps → List Bs → Gps
  | x, [] => x
  | x, k :: r => grpL mem (grp1 mem x k) r
/-- both ways. -/
def Mut (g : Bs → List Bs) (a b : Bs) : Prop := Rch g a b ∧ Rch g b a
theorem Rch.trans {g : Bs → List Bs} {a b c : Bs} (h : Rch g a b) (k : Rch g b c) : Rch g a c := by
  induction k with
  | self => exact h
  | step _ hc ih => exact .step ih hc
theorem Rch.out {g : Bs → List Bs} {a b : Bs} (h : Rch g a b) (hne : a ≠ b) : g a ≠ [] := by
  induction h with
  | self => exact absurd rfl hne
  | @step c d hc hd ih =>
    by_cases e : a = c
    · subst e; exact fun q => by rw [q] at hd; cases hd
    · exact ih e
theorem Mut.refl (g : Bs → List Bs) (a : Bs) : Mut g a a := ⟨.self, .self⟩
theorem Mut.symm {g : Bs → List Bs} {a b : Bs} (h : Mut g a b) : Mut g b a := ⟨h.2, h.1⟩
theorem Mut.trans {g : Bs → List Bs} {a b c : Bs} (h : Mut g a b) (k : Mut g b c) : Mut g a c := ⟨h.1.trans k.1, k.2.trans h.2⟩
theorem Rch.head {g : Bs → List Bs} {a c b : Bs} (hc : c ∈ g a) (h : Rch g c b) : Rch g a b := (Rch.step .self hc).trans h
end Go.Proofs.YtihgnpobkpnipaaGreatDoor
