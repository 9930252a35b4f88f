/- Texts of the proof of a law, put together, part 26 of 31. Conditions: none beyond those that each theorem names. -/
import Derived.Test.YtjegfebolhjghaaGreatDoorPg25
namespace Go.Proofs.YtjegfebolhjghaaGreatDoor
open Go.RowKit Go.Sort Go.Maps
/-- rows the other way round: k is in the row of s just if the edge from k to s has been met. -/
structure BackI (ps : List Prt) (l : List Alt) (Fb : Fds) (E : Bs → Bs → Prop) : Prop where
  mem : ∀ s k, k ∈ (rowB Fb s).map bsOf ↔ E k s
  nd : ∀ s, ((rowB Fb s).map bsOf).Nodup
  sub : ∀ k s, E k s → s ∈ nextL l k
  ne : ∀ p ∈ Fb, p.2.2 ≠ []
  ok : Sm.Ok Fb
theorem BackI.nil (ps : List Prt) (l : List Alt) : BackI ps l [] (fun _ _ => False) :=
  ⟨fun s k => by show k ∈ [] ↔ _; simp, fun s => List.nodup_nil, fun _ _ h => h.elim, fun _ h => (List.not_mem_nil h).elim, Sm.Ok.nil⟩
theorem BackI.congr {ps : List Prt} {l : List Alt} {Fb : Fds} {E E' : Bs → Bs → Prop} (h : BackI ps l Fb E) (he : ∀ k s, E' k s ↔ E k s) : BackI ps l Fb E' :=
  ⟨fun s k => (h.mem s k).trans (he k s).symm, h.nd, fun k s q => h.sub k s ((he k s).1 q), h.ne, h.ok⟩
theorem BackI.put {ps : List Prt} {l : List Alt} {Fb : Fds} {E : Bs → Bs → Prop} (h : BackI ps l Fb E) {k s : Bs} (hd : Hdr) (hn : ¬ E k s) (hs : s ∈ nextL l k) : BackI ps l (Fb.put s (hd, rowB Fb s ++ [baOf k])) (fun k' s' => E k' s' ∨ (k' = k ∧ s' = s)) := by
  have hrow : ∀ j, (rowB (Fb.put s (hd, rowB Fb s ++ [baOf k])) j).map bsOf = if j = s then (rowB Fb s).map bsOf ++ [k] else (rowB Fb j).map bsOf := fun j => by
    rw [rowB_put]
    by_cases e : j = s
    · rw [if_pos e, if_pos e, List.map_append, List.map_singleton, bsOf_baOf]
    · rw [if_neg e, if_neg e]
  refine ⟨fun s' k' => ?_, fun s' => ?_, fun k' s' q => ?_, fun p hp => ?_, h.ok.put _ _⟩
  · rw [hrow]
    by_cases e : s' = s
    · subst e
      rw [if_pos rfl, List.mem_append, List.mem_singleton, h.mem]
      exact ⟨fun q => q.imp id fun q => ⟨q, rfl⟩, fun q => q.imp id fun q => q.1⟩
    · rw [if_neg e, h.mem]
      exact ⟨.inl, fun q => q.resolve_right fun q => e q.2⟩
  · rw [hrow]
    by_cases e : s' = s
    · rw [if_pos e, List.nodup_append]
      exact ⟨h.nd s, by simp, fun a ha b hb => by rw [List.mem_singleton.1 hb]; exact fun q => hn ((h.mem s k).1 (q ▸ ha))⟩
    · rw [if_neg e]; exact h.nd s'
  · rcases q with q | ⟨rfl, rfl⟩
    · exact h.sub _ _ q
    · exact hs
  · rcases (Sm.ins_mem p).1 hp with rfl | hp
    · simp
    · exact h.ne p (List.mem_filter.1 hp).1
theorem BackI.rowLen {ps : List Prt} {l : List Alt} {Fb : Fds} {E : Bs → Bs → Prop} (hc : catsF ps l = 0) (h : BackI ps l Fb E) (s : Bs) : (rowB Fb s).length ≤ ps.length := by
  have h1 := List.Nodup.length_le_of_subset (h.nd s) (l₂ := keysP ps) fun k hk => (next_in hc (h.sub _ _ ((h.mem s k).1 hk))).1
  unfold keysP at h1
  rw [List.length_map, List.length_map] at h1
  exact h1
theorem BackI.len {ps : List Prt} {l : List Alt} {Fb : Fds} {E : Bs → Bs → Prop} (hc : catsF ps l = 0) (h : BackI ps l Fb E) : Fb.length ≤ ps.length := by
  have h1 := List.Nodup.length_le_of_subset (Sm.keys_nodup h.ok) (l₂ := keysP ps) fun s hs => by
    obtain ⟨p, hp, rfl⟩ := List.mem_map.1 hs
    have hg := Sm.get_of_mem h.ok (show (p.1, p.2) ∈ Fb from hp)
    obtain ⟨x, hx⟩ := List.exists_mem_of_ne_nil _ (h.ne p hp)
    have hr : rowB Fb p.1 = p.2.2 := by unfold rowB; rw [hg]; rfl
    exact (next_in hc (h.sub _ _ ((h.mem p.1 (bsOf x)).1 (by rw [hr]; exact List.mem_map.2 ⟨x, hx, rfl⟩)))).2.1
  unfold keysP at h1
  rw [keys_len, List.length_map] at h1
  exact h1
/-- the edges met before a round, in it, and behind it. -/
def EdgL (l : List Alt) (left : Lit → Bool) (k s : Bs) : Prop := left (.string k) = false ∧ s ∈ nextL l k
def EdgP (l : List Alt) (left : Lit → Bool) (x : Bs) (j : Nat) (k s : Bs) : Prop := EdgL l left k s ∨ (k = x ∧ s ∈ (nextL l x).take j)
theorem EdgP.zero (l : List Alt) (left : Lit → Bool) (x k s : Bs) : EdgP l left x 0 k s ↔ EdgL l left k s := by unfold EdgP; simp
theorem EdgP.next {l : List Alt} {left : Lit → Bool} {x y : Bs} {j : Nat} (hy : (nextL l x)[j]? = some y) (k s : Bs) : EdgP l left x (j + 1) k s ↔ (EdgP l left x j k s ∨ (k = x ∧ s = y)) := by
  unfold EdgP
  rw [List.take_add_one, hy]
  simp only [Option.toList_some, List.mem_append, List.mem_singleton]
  constructor
  · rintro (h | ⟨h1, h2 | h2⟩)
    · exact .inl (.inl h)
    · exact .inl (.inr ⟨h1, h2⟩)
    · exact .inr ⟨h1, h2⟩
  · rintro ((h | ⟨h1, h2⟩) | ⟨h1, h2⟩)
    · exact .inl h
    · exact .inr ⟨h1, .inl h2⟩
    · exact .inr ⟨h1, .inr h2⟩
theorem EdgP.stop {l : List Alt} {left : Lit → Bool} {x : Bs} {j : Nat} (hj : (nextL l x).length ≤ j) (k s : Bs) : EdgL l (fun z => left z && !z.sameKey (.string x)) k s ↔ EdgP l left x j k s := by
  unfold EdgP EdgL
  rw [List.take_of_length_le hj]
  have e : (left (.string k) && !(Lit.string k).sameKey (.string x)) = false ↔ left (.string k) = false ∨ k = x := by
    rw [sm_same]
    by_cases h : k = x <;> simp [h]
  rw [e]
  constructor
  · rintro ⟨h1 | h1, h2⟩
    · exact .inl ⟨h1, h2⟩
    · exact .inr ⟨h1, h1 ▸ h2⟩
  · rintro (⟨h1, h2⟩ | ⟨h1, h2⟩)
    · exact ⟨.inl h1, h2⟩
    · exact ⟨.inr h1, h1 ▸ h2⟩
theorem EdgP.no {ps : List Prt} {l : List Alt} (hc : catsF ps l = 0) {left : Lit → Bool} {x y : Bs} {j : Nat} (hl : left (.string x) = true) (hy : (nextL l x)[j]? = some y) : ¬ EdgP l left x j x y := by
  rintro (h | ⟨_, h⟩)
  · have h1 := h.1
    rw [hl] at h1; cases h1
  · have hnd := (nextL_srt hc x).nodup
    obtain ⟨hj, he⟩ := List.getElem?_eq_some_iff.1 hy
    obtain ⟨i, hi⟩ := List.getElem?_of_mem h
    obtain ⟨hi1, hi2⟩ := List.getElem?_eq_some_iff.1 hi
    rw [List.length_take] at hi1
    rw [List.getElem_take] at hi2
    have := (List.getElem_inj hnd).1 (hi2.trans he.symm)
    omega
/-- what Chain tells. -/
def ChainP (ps : List Prt) (l : List Alt) (a b : Bs) (is : Bool) (out : List Bs) : Prop :=
  ∃ g : Bs → List Bs, (∀ p s, s ∈ g p ↔ p ∈ nextL l s) ∧ is = (bfsR g b (keysP ps)).st.has a ∧ (is = true → ∃ d : Nat, (bfsR g b (keysP ps)).st.get a = some (d : Int) ∧ out = chainB (nextL l) (bfsR g b (keysP ps)) b d a) ∧ (is = false → out = [])
def ChainR (ps : List Prt) (l : List Alt) (a b : ByteArray) (K : Int) (e : Ending) (w' : World) : Prop := ∃ v is out, e = .returned (.tuple #[v, .bool is, .int .i64 K]) ∧ RecR TS w' 0 v (out.map baOf) ∧ (K = 0 → ChainP ps l (bsOf a) (bsOf b) is out) ∧ (K ≠ 0 → is = false ∧ out = [])
theorem ChainR.mk {ps : List Prt} {l : List Alt} {a b : ByteArray} {K : Int} {w' : World} {v : Value} (is : Bool) (out : List Bs) (h1 : RecR TS w' 0 v (out.map baOf)) (h2 : K = 0 → ChainP ps l (bsOf a) (bsOf b) is out) (h3 : K ≠ 0 → is = false ∧ out = []) : ChainR ps l a b K (.returned (.tuple #[v, .bool is, .int .i64 K])) w' := ⟨v, is, out, rfl, h1, h2, h3⟩
end Go.Proofs.YtjegfebolhjghaaGreatDoor
