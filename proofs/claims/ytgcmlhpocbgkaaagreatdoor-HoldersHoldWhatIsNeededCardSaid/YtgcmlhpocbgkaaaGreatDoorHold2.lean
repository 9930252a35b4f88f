/- Plain law of NozzlesChanged, on changes: to take away what is needed latest again needs the fewest changes of all ways. No program. -/
import Derived.Test.YtgcmlhpocbgkaaaGreatDoorHold
namespace Go.Proofs.YtgcmlhpocbgkaaaGreatDoor

/-- two full sets that differ in one member. -/
structure Swap {α : Type} (h : Nat) (u v : α) (a b : List α) : Prop where
  na : a.Nodup
  nb : b.Nodup
  la : a.length = h
  lb : b.length = h
  ua : u ∈ a
  vb : v ∈ b
  ub : u ∉ b
  va : v ∉ a
  eq : ∀ x, x ≠ u → x ≠ v → (x ∈ a ↔ x ∈ b)
theorem Swap.symm {α : Type} {h : Nat} {u v : α} {a b : List α} (s : Swap h u v a b) : Swap h v u b a := ⟨s.nb, s.na, s.lb, s.la, s.vb, s.ua, s.va, s.ub, fun x h1 h2 => (s.eq x h2 h1).symm⟩
theorem idx_ne {α : Type} [DecidableEq α] {k u : α} (r : List α) (h : k ≠ u) : (k :: r).idxOf u = r.idxOf u + 1 := by
  rw [List.idxOf_cons, beq_false_of_ne h]; rfl
section
variable {α : Type} [DecidableEq α] (lt : α → α → Bool)
/-- a step that takes one away. -/
theorem step_full (hN : Names lt) {h : Nat} (h1 : 1 ≤ h) {c : List α} (hnd : c.Nodup) (hl : c.length = h) {k : α} (hk : k ∉ c) (later : List α) :
    ∃ v ∈ c, (∀ x ∈ c, Later lt later v x) ∧ (stepH lt h c k later).Nodup ∧ (stepH lt h c k later).length = h ∧ ∀ x, x ∈ stepH lt h c k later ↔ x = k ∨ x ∈ c ∧ x ≠ v := by
  obtain ⟨v, hv, hvl⟩ := vic_ok lt hN later (held := c) (by intro e; rw [e] at hl; simp at hl; omega)
  have hi := (List.getElem?_eq_some_iff.1 hv).1
  refine ⟨v, List.mem_of_getElem? hv, hvl, ?_, ?_, fun x => ?_⟩
  all_goals (unfold stepH; rw [if_neg hk, if_neg (by omega)])
  · exact set_nodup hnd hk hi
  · rw [List.length_set]; exact hl
  · exact set_mem hnd hv x
theorem step_hit {h : Nat} {c : List α} {k : α} (hk : k ∈ c) (later : List α) : stepH lt h c k later = c := by unfold stepH; rw [if_pos hk]
/-- two sets of the same members. -/
structure Same (a b : List α) : Prop where
  na : a.Nodup
  nb : b.Nodup
  eq : ∀ x, x ∈ a ↔ x ∈ b
theorem Same.len {a b : List α} (s : Same a b) : a.length = b.length :=
  Nat.le_antisymm (sub_len s.na fun x hx => (s.eq x).1 hx) (sub_len s.nb fun x hx => (s.eq x).2 hx)
theorem same_chg (hN : Names lt) {h : Nat} (h1 : 1 ≤ h) (ks : List α) : ∀ {a b : List α}, Same a b → a.length ≤ h → chgH lt h a ks = chgH lt h b ks := by
  induction ks with
  | nil => intros; rfl
  | cons k r ih =>
    intro a b s hl
    have hlen := s.len
    by_cases hk : k ∈ a
    · have hk' := (s.eq k).1 hk
      simp only [chgH]
      rw [step_hit lt hk, step_hit lt hk', ih s hl]
      unfold missH
      rw [if_pos hk, if_pos hk']
    · have hk' : k ∉ b := fun hb => hk ((s.eq k).2 hb)
      simp only [chgH]
      have hm : missH a k = missH b k := by unfold missH; rw [if_neg hk, if_neg hk']
      rw [hm]
      by_cases hf : a.length < h
      · have e1 : stepH lt h a k r = a ++ [k] := by unfold stepH; rw [if_neg hk, if_pos hf]
        have e2 : stepH lt h b k r = b ++ [k] := by unfold stepH; rw [if_neg hk', if_pos (by omega)]
        rw [e1, e2, ih ⟨?_, ?_, fun x => ?_⟩ (by simp; omega)]
        · rw [List.nodup_append]; exact ⟨s.na, by simp, fun x hx y hy => by simp at hy; subst hy; rintro rfl; exact hk hx⟩
        · rw [List.nodup_append]; exact ⟨s.nb, by simp, fun x hx y hy => by simp at hy; subst hy; rintro rfl; exact hk' hx⟩
        · rw [List.mem_append, List.mem_append, s.eq x]
      · obtain ⟨v, hv, hvl, n1, l1, m1⟩ := step_full lt hN h1 s.na (by omega) hk r
        obtain ⟨u, hu, hul, n2, l2, m2⟩ := step_full lt hN h1 s.nb (by omega) hk' r
        obtain rfl : v = u := later_one lt hN (hvl u ((s.eq u).2 hu)) (hul v ((s.eq v).1 hv))
        rw [ih ⟨n1, n2, fun x => by rw [m1 x, m2 x, s.eq x]⟩ (by omega)]
theorem later_tail {k : α} {r : List α} {u v : α} (hu : k ≠ u) (hv : k ≠ v) (h : Later lt (k :: r) v u) : Later lt r v u := by
  unfold Later at *
  rw [idx_ne _ hu, idx_ne _ hv] at h
  rcases h with h | ⟨h, h2⟩
  · exact .inl (by omega)
  · exact .inr ⟨by omega, h2⟩
theorem later_total (hN : Names lt) (r : List α) (u v : α) : Later lt r v u ∨ Later lt r u v := by
  unfold Later
  by_cases h1 : r.idxOf u < r.idxOf v
  · exact .inl (.inl h1)
  · by_cases h2 : r.idxOf v < r.idxOf u
    · exact .inr (.inl h2)
    · cases h3 : lt u v
      · exact .inl (.inr ⟨by omega, rfl⟩)
      · exact .inr (.inr ⟨by omega, hN.asym _ _ h3⟩)
/-- when both miss: what they take away, and how they differ then. -/
theorem swap_miss (hN : Names lt) {h : Nat} (h1 : 1 ≤ h) {u v k : α} {a b : List α} (s : Swap h u v a b) (hk : k ∉ a) (hk' : k ∉ b) (r : List α) :
    Same (stepH lt h a k r) (stepH lt h b k r) ∨ (Swap h u v (stepH lt h a k r) (stepH lt h b k r)) ∨ (∃ w, Later lt r w u ∧ Swap h u w (stepH lt h a k r) (stepH lt h b k r) ∧ Later lt r v w) ∨ (∃ w, Later lt r w v ∧ Swap h w v (stepH lt h a k r) (stepH lt h b k r) ∧ Later lt r u w) := by
  obtain ⟨x, hx, hxl, n1, l1, m1⟩ := step_full lt hN h1 s.na s.la hk r
  obtain ⟨y, hy, hyl, n2, l2, m2⟩ := step_full lt hN h1 s.nb s.lb hk' r
  have huk : u ≠ k := fun e => hk (e ▸ s.ua)
  have hvk : v ≠ k := fun e => hk' (e ▸ s.vb)
  have huv : u ≠ v := fun e => s.va (e ▸ s.ua)
  have hA : ∀ z, z ∈ a ↔ z = u ∨ z ≠ v ∧ z ∈ b := fun z => by
    by_cases e1 : z = u
    · subst e1; exact ⟨fun _ => .inl rfl, fun _ => s.ua⟩
    · by_cases e2 : z = v
      · subst e2; exact ⟨fun h => absurd h s.va, fun h => by rcases h with h | h; exact absurd h e1; exact absurd rfl h.1⟩
      · rw [s.eq z e1 e2]; exact ⟨fun h => .inr ⟨e2, h⟩, fun h => by rcases h with h | h; exact absurd h e1; exact h.2⟩
  by_cases ex : x = u
  · subst ex
    by_cases ey : y = v
    · subst ey
      refine .inl ⟨n1, n2, fun z => ?_⟩
      rw [m1 z, m2 z]
      by_cases e1 : z = x
      · subst e1; simp [s.ub, huk]
      · by_cases e2 : z = y
        · subst e2; simp [s.va, hvk]
        · rw [s.eq z e1 e2]; simp [e1, e2]
    · -- a takes u away, b takes y
      have hyu : y ≠ x := fun e => s.ub (e ▸ hy)
      have hya : y ∈ a := (s.eq y hyu ey).2 hy
      have hky : y ≠ k := fun e => hk (e ▸ hya)
      refine .inr (.inr (.inr ⟨y, hyl v s.vb, ⟨n1, n2, l1, l2, ?_, ?_, ?_, ?_, fun z e1 e2 => ?_⟩, hxl y hya⟩))
      · exact (m1 y).2 (.inr ⟨hya, hyu⟩)
      · exact (m2 v).2 (.inr ⟨s.vb, fun e => ey e.symm⟩)
      · intro hz; rcases (m2 y).1 hz with e | ⟨_, e⟩; exact hky e; exact e rfl
      · intro hz; rcases (m1 v).1 hz with e | ⟨e, _⟩; exact hvk e; exact s.va e
      · rw [m1 z, m2 z]
        by_cases e3 : z = x
        · subst e3; simp [s.ub, huk]
        · rw [s.eq z e3 e2]; simp [e1, e3]
  · have hxv : x ≠ v := fun e => s.va (e ▸ hx)
    have hxb : x ∈ b := (s.eq x ex hxv).1 hx
    have hxk : x ≠ k := fun e => hk (e ▸ hx)
    by_cases ey : y = v
    · subst ey
      refine .inr (.inr (.inl ⟨x, hxl u s.ua, ⟨n1, n2, l1, l2, ?_, ?_, ?_, ?_, fun z e1 e2 => ?_⟩, hyl x hxb⟩))
      · exact (m1 u).2 (.inr ⟨s.ua, fun e => ex e.symm⟩)
      · exact (m2 x).2 (.inr ⟨hxb, hxv⟩)
      · intro hz; rcases (m2 u).1 hz with e | ⟨e, _⟩; exact huk e; exact s.ub e
      · intro hz; rcases (m1 x).1 hz with e | ⟨_, e⟩; exact hxk e; exact e rfl
      · rw [m1 z, m2 z]
        by_cases e3 : z = y
        · subst e3; simp [s.va, hvk]
        · rw [s.eq z e1 e3]; simp [e2, e3]
    · have hyu : y ≠ u := fun e => s.ub (e ▸ hy)
      have hya : y ∈ a := (s.eq y hyu ey).2 hy
      obtain rfl : x = y := later_one lt hN (hxl y hya) (hyl x hxb)
      refine .inr (.inl ⟨n1, n2, l1, l2, ?_, ?_, ?_, ?_, fun z e1 e2 => ?_⟩)
      · exact (m1 u).2 (.inr ⟨s.ua, fun e => ex e.symm⟩)
      · exact (m2 v).2 (.inr ⟨s.vb, fun e => ey e.symm⟩)
      · intro hz; rcases (m2 u).1 hz with e | ⟨e, _⟩; exact huk e; exact s.ub e
      · intro hz; rcases (m1 v).1 hz with e | ⟨e, _⟩; exact hvk e; exact s.va e
      · rw [m1 z, m2 z, s.eq z e1 e2]
/-- one set has u, which the other one must fetch. -/
theorem swap_fetch (hN : Names lt) {h : Nat} (h1 : 1 ≤ h) {u v : α} {a b : List α} (s : Swap h u v a b) (r : List α) :
    Same a (stepH lt h b u r) ∨ ∃ w, Later lt r w v ∧ Swap h w v a (stepH lt h b u r) := by
  obtain ⟨y, hy, hyl, n2, l2, m2⟩ := step_full lt hN h1 s.nb s.lb s.ub r
  have huv : u ≠ v := fun e => s.va (e ▸ s.ua)
  by_cases ey : y = v
  · subst ey
    refine .inl ⟨s.na, n2, fun z => ?_⟩
    rw [m2 z]
    by_cases e1 : z = u
    · subst e1; simp [s.ua]
    · by_cases e2 : z = y
      · subst e2; simp [s.va, e1]
      · rw [s.eq z e1 e2]; simp [e1, e2]
  · have hyu : y ≠ u := fun e => s.ub (e ▸ hy)
    have hya : y ∈ a := (s.eq y hyu ey).2 hy
    refine .inr ⟨y, hyl v s.vb, ⟨s.na, n2, s.la, l2, hya, ?_, ?_, s.va, fun z e1 e2 => ?_⟩⟩
    · exact (m2 v).2 (.inr ⟨s.vb, fun e => ey e.symm⟩)
    · intro hz; rcases (m2 y).1 hz with e | ⟨_, e⟩; exact hyu e; exact e rfl
    · rw [m2 z]
      by_cases e3 : z = u
      · subst e3; simp [s.ua]
      · rw [s.eq z e3 e2]; simp [e1, e3]
theorem miss_yes {c : List α} {k : α} (h : k ∈ c) : missH c k = 0 := by unfold missH; rw [if_pos h]
theorem miss_no {c : List α} {k : α} (h : k ∉ c) : missH c k = 1 := by unfold missH; rw [if_neg h]
/-- what is needed later is better taken away; and one member more or less is at most one change. -/
theorem swap_chg (hN : Names lt) {h : Nat} (h1 : 1 ≤ h) (ks : List α) : ∀ {u v : α} {a b : List α}, Swap h u v a b → (Later lt ks v u → chgH lt h a ks ≤ chgH lt h b ks) ∧ chgH lt h a ks ≤ chgH lt h b ks + 1 := by
  induction ks with
  | nil => intros; exact ⟨fun _ => Nat.le_refl _, Nat.le_succ _⟩
  | cons k r ih =>
    intro u v a b s
    have huv : u ≠ v := fun e => s.va (e ▸ s.ua)
    simp only [chgH]
    by_cases ku : k = u
    · subst ku
      rw [step_hit lt s.ua, miss_yes s.ua, miss_no s.ub]
      rcases swap_fetch lt hN h1 s r with hs | ⟨w, _, hs⟩
      · have := same_chg lt hN h1 r hs (by rw [s.la]; exact Nat.le_refl _)
        exact ⟨fun _ => by omega, by omega⟩
      · have := (ih hs).2
        exact ⟨fun _ => by omega, by omega⟩
    · by_cases kv : k = v
      · subst kv
        rw [step_hit lt s.vb, miss_no s.va, miss_yes s.vb]
        refine ⟨fun hl => ?_, ?_⟩
        · exfalso
          unfold Later at hl
          rw [List.idxOf_cons_self, idx_ne _ ku] at hl
          omega
        · rcases swap_fetch lt hN h1 s.symm r with hs | ⟨w, hw, hs⟩
          · have := same_chg lt hN h1 r hs (by rw [s.lb]; exact Nat.le_refl _)
            omega
          · have := (ih hs.symm).1 hw
            omega
      · by_cases ka : k ∈ a
        · have kb := (s.eq k ku kv).1 ka
          rw [step_hit lt ka, step_hit lt kb, miss_yes ka, miss_yes kb]
          obtain ⟨i1, i2⟩ := ih s
          exact ⟨fun hl => by have := i1 (later_tail lt ku kv hl); omega, by omega⟩
        · have kb : k ∉ b := fun hb => ka ((s.eq k ku kv).2 hb)
          rw [miss_no ka, miss_no kb]
          rcases swap_miss lt hN h1 s ka kb r with hs | hs | ⟨w, hw, hs, _⟩ | ⟨w, hw, hs, hw2⟩
          · have hl1 := (step_full lt hN h1 s.na s.la ka r)
            obtain ⟨_, _, _, _, l1, _⟩ := hl1
            have := same_chg lt hN h1 r hs (by omega)
            exact ⟨fun _ => by omega, by omega⟩
          · obtain ⟨i1, i2⟩ := ih hs
            exact ⟨fun hl => by have := i1 (later_tail lt ku kv hl); omega, by omega⟩
          · obtain ⟨i1, i2⟩ := ih hs
            exact ⟨fun _ => by have := i1 hw; omega, by omega⟩
          · obtain ⟨i1, i2⟩ := ih hs
            refine ⟨fun hl => ?_, by omega⟩
            exfalso
            -- u was taken away, w stays with a: w is later than v, u later than w: against v later than u
            have hl2 := later_tail lt ku kv hl
            have hwv : w ≠ v := fun e => hs.ub (e ▸ hs.vb)
            unfold Later at hw hw2 hl2
            rcases hw with a1 | ⟨a1, a2⟩ <;> rcases hw2 with b1 | ⟨b1, b2⟩ <;> rcases hl2 with c1 | ⟨c1, c2⟩
            all_goals first
              | omega
              | (exfalso
                 -- the same moment: the names decide
                 have huw : u = w ∨ u ≠ w := Classical.em _
                 rcases huw with rfl | huw
                 · exact hwv (hN.tot _ _ c2 a2)
                 · cases h5 : lt u w
                   · exact huw (hN.tot _ _ h5 b2)
                   · cases h6 : lt w v
                     · exact hwv (hN.tot _ _ h6 a2)
                     · have := hN.trans _ _ _ h5 h6
                       rw [this] at c2; cases c2)
/-- all ways to change: the fewest changes. -/
def optH (h : Nat) : List α → List α → Nat
  | _, [] => 0
  | held, k :: r => if k ∈ held then optH h held r else if held.length < h then 1 + optH h (held ++ [k]) r
    else 1 + (((List.range held.length).map fun i => optH h (held.set i k) r).min?.getD 0)
theorem opt_chg (hN : Names lt) {h : Nat} (h1 : 1 ≤ h) (ks : List α) : ∀ {c : List α}, Hld h c → optH h c ks = chgH lt h c ks := by
  induction ks with
  | nil => intros; rfl
  | cons k r ih =>
    intro c hc
    simp only [optH, chgH]
    by_cases hk : k ∈ c
    · rw [if_pos hk, miss_yes hk, step_hit lt hk, ih hc]; omega
    · rw [if_neg hk, miss_no hk]
      have hst := (stepH_ok lt hN h1 hc k r).1
      by_cases hf : c.length < h
      · rw [if_pos hf]
        have e1 : stepH lt h c k r = c ++ [k] := by unfold stepH; rw [if_neg hk, if_pos hf]
        rw [e1] at hst ⊢
        rw [ih hst]
      · rw [if_neg hf]
        have hle := hc.le
        have hlen : c.length = h := by omega
        have e1 : stepH lt h c k r = c.set (vic lt r c) k := by unfold stepH; rw [if_neg hk, if_neg hf]
        obtain ⟨v, hv, hvl⟩ := vic_ok lt hN r (held := c) (by intro e; rw [e] at hlen; simp at hlen; omega)
        have hvi := (List.getElem?_eq_some_iff.1 hv).1
        have hall : ∀ i, i < c.length → Hld h (c.set i k) := fun i hi => ⟨set_nodup hc.nd hk hi, by rw [List.length_set]; exact hle⟩
        have hmin : ((List.range c.length).map fun i => optH h (c.set i k) r).min? = some (chgH lt h (c.set (vic lt r c) k) r) := by
          rw [List.min?_eq_some_iff]
          refine ⟨List.mem_map.2 ⟨vic lt r c, List.mem_range.2 hvi, ih (hall _ hvi)⟩, fun n hn => ?_⟩
          obtain ⟨i, hi, rfl⟩ := List.mem_map.1 hn
          have hi := List.mem_range.1 hi
          rw [ih (hall i hi)]
          obtain ⟨u, hu⟩ : ∃ u, c[i]? = some u := ⟨_, List.getElem?_eq_getElem hi⟩
          have huc := List.mem_of_getElem? hu
          by_cases huv : u = v
          · subst huv
            refine Nat.le_of_eq (same_chg lt hN h1 r ⟨(hall _ hvi).nd, (hall i hi).nd, fun x => ?_⟩ (hall _ hvi).le)
            rw [set_mem hc.nd hv x, set_mem hc.nd hu x]
          · have hvc := List.mem_of_getElem? hv
            have hku : u ≠ k := fun e => hk (e ▸ huc)
            have hkv : v ≠ k := fun e => hk (e ▸ hvc)
            refine (swap_chg lt hN h1 r (u := u) (v := v) ⟨(hall _ hvi).nd, (hall i hi).nd, by rw [List.length_set]; exact hlen, by rw [List.length_set]; exact hlen, ?_, ?_, ?_, ?_, fun x e1 e2 => ?_⟩).1 (hvl u huc)
            · exact (set_mem hc.nd hv u).2 (.inr ⟨huc, huv⟩)
            · exact (set_mem hc.nd hu v).2 (.inr ⟨hvc, fun e => huv e.symm⟩)
            · intro hx; rcases (set_mem hc.nd hu u).1 hx with e | ⟨_, e⟩; exact hku e; exact e rfl
            · intro hx; rcases (set_mem hc.nd hv v).1 hx with e | ⟨_, e⟩; exact hkv e; exact e rfl
            · rw [set_mem hc.nd hv x, set_mem hc.nd hu x]
              simp [e1, e2]
        rw [hmin, e1]
        rfl
end
end Go.Proofs.YtgcmlhpocbgkaaaGreatDoor
