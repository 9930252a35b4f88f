/- Plain law of HoldersHoldWhatIsNeeded: what holders have after each component, when that which is needed latest again is taken away: the nozzle is there, no more than there are holders, one new one a change; one holder more never needs more changes. No program. · Plain law of NozzlesChanged, on changes: to take away what is needed latest again needs the fewest changes of all ways. No program. · The order of names by their bytes; names sorted. No program. -/
import Derived.Test.YtcfeoapbbkfbnaaGreatDoorBase
import Derived.Lib.SlicesS
import GoSem.Op.String
namespace Go.Proofs.YtcfeoapbbkfbnaaGreatDoor

theorem set_mem {α : Type} {l : List α} {i : Nat} {v k : α} (hnd : l.Nodup) (hv : l[i]? = some v) (x : α) : x ∈ l.set i k ↔ x = k ∨ x ∈ l ∧ x ≠ v := by
  obtain ⟨hi, he⟩ := List.getElem?_eq_some_iff.1 hv
  constructor
  · intro hx
    obtain ⟨j, hj, e⟩ := List.getElem_of_mem hx
    rw [List.length_set] at hj
    by_cases hij : i = j
    · subst hij
      rw [List.getElem_set_self] at e
      exact .inl e.symm
    · rw [List.getElem_set_ne hij] at e
      refine .inr ⟨by rw [← e]; exact List.getElem_mem _, fun hxv => hij ?_⟩
      rw [← e, ← he] at hxv
      exact ((List.getElem_inj hnd).1 hxv).symm
  · rintro (rfl | ⟨hx, hne⟩)
    · exact List.mem_set hi _
    · obtain ⟨j, hj, e⟩ := List.getElem_of_mem hx
      have hij : i ≠ j := by intro h; subst h; rw [he] at e; exact hne e.symm
      rw [← e, ← List.getElem_set_ne (h := hij) (a := k) (hj := by rw [List.length_set]; exact hj)]
      exact List.getElem_mem _
theorem set_nodup {α : Type} {l : List α} {i : Nat} {k : α} (hnd : l.Nodup) (hk : k ∉ l) (_ : i < l.length) : (l.set i k).Nodup := by
  rw [List.nodup_iff_pairwise_ne, List.pairwise_iff_getElem] at *
  intro a b ha hb hab
  rw [List.length_set] at ha hb
  by_cases h1 : i = a
  · subst h1
    rw [List.getElem_set_self, List.getElem_set_ne (by omega)]
    intro e; exact hk (e ▸ List.getElem_mem _)
  · rw [List.getElem_set_ne h1]
    by_cases h2 : i = b
    · subst h2
      rw [List.getElem_set_self]
      intro e; exact hk (e ▸ List.getElem_mem _)
    · rw [List.getElem_set_ne h2]
      exact hnd a b (by omega) (by omega) hab
section
variable {α : Type} [DecidableEq α] (lt : α → α → Bool)
/-- an order of names. -/
structure Names : Prop where
  irr : ∀ x, lt x x = false
  tot : ∀ x y, lt x y = false → lt y x = false → x = y
  asym : ∀ x y, lt x y = true → lt y x = false
  trans : ∀ x y z, lt x y = true → lt y z = true → lt x z = true
/-- one step of the search for what is taken away: the best place so far and when it is needed again; none: -1. -/
def vicS (later : List α) (held : List α) (a : Int × Int) (i : Nat) (x : α) : Int × Int :=
  if a.2 < (later.idxOf x : Int) then (i, later.idxOf x) else if (later.idxOf x : Int) = a.2 ∧ ((held[a.1.toNat]?).any fun y => lt x y) = true then (i, later.idxOf x) else a
def vicF (later held : List α) : Nat → Int × Int → List α → Int × Int
  | _, a, [] => a
  | i, a, x :: r => vicF later held (i + 1) (vicS lt later held a i x) r
def vic (later held : List α) : Nat := (vicF lt later held 0 (-1, -1) held).1.toNat
/-- needed later than another one, or with it and with a name that is not behind. -/
def Later (later : List α) (v x : α) : Prop := later.idxOf x < later.idxOf v ∨ later.idxOf x = later.idxOf v ∧ lt x v = false
theorem vicF_ok (hN : Names lt) (later held : List α) : ∀ (r : List α) (i : Nat) (a : Int × Int), held.drop i = r →
    ((a = (-1, -1) ∧ i = 0) ∨ ∃ (j : Nat) (v : α), j < i ∧ a.1 = j ∧ held[j]? = some v ∧ a.2 = later.idxOf v ∧ ∀ x ∈ held.take i, Later lt later v x) →
    ((vicF lt later held i a r = (-1, -1) ∧ held = []) ∨ ∃ (j : Nat) (v : α), (vicF lt later held i a r).1 = j ∧ held[j]? = some v ∧ (vicF lt later held i a r).2 = later.idxOf v ∧ ∀ x ∈ held, Later lt later v x)
  | [], i, a, hd, ha => by
    have hl : held.length ≤ i := by
      have := congrArg List.length hd
      rw [List.length_drop, List.length_nil] at this
      omega
    simp only [vicF]
    rcases ha with ⟨rfl, rfl⟩ | ⟨j, v, hj, h1, h2, h3, h4⟩
    · exact .inl ⟨rfl, List.eq_nil_of_length_eq_zero (by omega)⟩
    · rw [List.take_of_length_le hl] at h4
      exact .inr ⟨j, v, h1, h2, h3, h4⟩
  | x :: r, i, a, hd, ha => by
    have hx : held[i]? = some x := by
      have := congrArg (·[0]?) hd
      simpa using this
    have hil : i < held.length := (List.getElem?_eq_some_iff.1 hx).1
    have hd' : held.drop (i + 1) = r := by
      rw [← List.drop_drop, hd]; rfl
    have htk : held.take (i + 1) = held.take i ++ [x] := by rw [List.take_add_one, hx]; rfl
    simp only [vicF]
    refine vicF_ok hN later held r (i + 1) _ hd' (.inr ?_)
    unfold vicS
    rcases ha with ⟨rfl, rfl⟩ | ⟨j, v, hj, h1, h2, h3, h4⟩
    · rw [if_pos (by show (-1 : Int) < _; omega)]
      refine ⟨0, x, by omega, rfl, hx, rfl, fun y hy => ?_⟩
      rw [htk] at hy
      simp at hy
      subst hy
      exact .inr ⟨rfl, hN.irr _⟩
    · by_cases c1 : a.2 < (later.idxOf x : Int)
      · rw [if_pos c1]
        refine ⟨i, x, by omega, rfl, hx, rfl, fun y hy => ?_⟩
        rw [htk, List.mem_append, List.mem_singleton] at hy
        rcases hy with hy | rfl
        · have := h4 y hy
          unfold Later at this
          exact .inl (by omega)
        · exact .inr ⟨rfl, hN.irr _⟩
      · rw [if_neg c1]
        have hat : held[a.1.toNat]? = some v := by rw [h1, Int.toNat_natCast]; exact h2
        rw [hat]
        by_cases c2 : (later.idxOf x : Int) = a.2 ∧ ((some v).any fun y => lt x y) = true
        · rw [if_pos c2]
          have hlt : lt x v = true := by simpa using c2.2
          refine ⟨i, x, by omega, rfl, hx, rfl, fun y hy => ?_⟩
          rw [htk, List.mem_append, List.mem_singleton] at hy
          rcases hy with hy | rfl
          · rcases h4 y hy with h5 | ⟨h5, h6⟩
            · exact .inl (by omega)
            · refine .inr ⟨by omega, ?_⟩
              cases hyx : lt y x
              · rfl
              · rw [hN.trans _ _ _ hyx hlt] at h6; cases h6
          · exact .inr ⟨rfl, hN.irr _⟩
        · rw [if_neg c2]
          refine ⟨j, v, by omega, h1, h2, h3, fun y hy => ?_⟩
          rw [htk, List.mem_append, List.mem_singleton] at hy
          rcases hy with hy | rfl
          · exact h4 y hy
          · by_cases c3 : later.idxOf y < later.idxOf v
            · exact .inl c3
            · refine .inr ⟨by omega, ?_⟩
              cases hyv : lt y v
              · rfl
              · exact absurd ⟨by omega, by simpa using hyv⟩ c2
theorem vic_ok (hN : Names lt) (later : List α) {held : List α} (h0 : held ≠ []) : ∃ v, held[vic lt later held]? = some v ∧ ∀ x ∈ held, Later lt later v x := by
  rcases vicF_ok lt hN later held held 0 (-1, -1) rfl (.inl ⟨rfl, rfl⟩) with ⟨_, h⟩ | ⟨j, v, h1, h2, _, h4⟩
  · exact absurd h h0
  · refine ⟨v, ?_, h4⟩
    unfold vic
    rw [h1, Int.toNat_natCast]; exact h2
/-- one step: what is held then. -/
def stepH (h : Nat) (held : List α) (k : α) (later : List α) : List α :=
  if k ∈ held then held else if held.length < h then held ++ [k] else held.set (vic lt later held) k
def missH (held : List α) (k : α) : Nat := if k ∈ held then 0 else 1
/-- what is held after each step. -/
def runH (h : Nat) : List α → List α → List (List α)
  | _, [] => []
  | held, k :: r => stepH lt h held k r :: runH h (stepH lt h held k r) r
def chgH (h : Nat) : List α → List α → Nat
  | _, [] => 0
  | held, k :: r => missH held k + chgH h (stepH lt h held k r) r
/-- what is held by h holders. -/
structure Hld (h : Nat) (held : List α) : Prop where
  nd : held.Nodup
  le : held.length ≤ h
theorem stepH_ok (hN : Names lt) {h : Nat} (h1 : 1 ≤ h) {held : List α} (H : Hld h held) (k : α) (later : List α) :
    Hld h (stepH lt h held k later) ∧ k ∈ stepH lt h held k later ∧ (∀ x ∈ stepH lt h held k later, x ∈ held ∨ x = k) := by
  unfold stepH
  by_cases c1 : k ∈ held
  · rw [if_pos c1]; exact ⟨H, c1, fun x hx => .inl hx⟩
  · rw [if_neg c1]
    by_cases c2 : held.length < h
    · rw [if_pos c2]
      refine ⟨⟨?_, by simp; omega⟩, by simp, fun x hx => by simpa [or_comm] using hx⟩
      rw [List.nodup_append]
      exact ⟨H.nd, by simp, fun a ha b hb => by simp at hb; subst hb; rintro rfl; exact c1 ha⟩
    · rw [if_neg c2]
      obtain ⟨v, hv, _⟩ := vic_ok lt hN later (held := held) (by intro e; rw [e] at c2; simp at c2; omega)
      have hi := (List.getElem?_eq_some_iff.1 hv).1
      refine ⟨⟨set_nodup H.nd c1 hi, by rw [List.length_set]; exact H.le⟩, List.mem_set hi _, fun x hx => ?_⟩
      rcases (set_mem H.nd hv x).1 hx with rfl | ⟨hx, _⟩
      · exact .inr rfl
      · exact .inl hx
theorem later_one (hN : Names lt) {later : List α} {v u : α} (h1 : Later lt later v u) (h2 : Later lt later u v) : v = u := by
  rcases h1 with h1 | ⟨h1, a⟩ <;> rcases h2 with h2 | ⟨h2, b⟩
  · omega
  · omega
  · omega
  · exact (hN.tot _ _ a b).symm
theorem sub_len {l m : List α} (hnd : l.Nodup) (hs : ∀ x ∈ l, x ∈ m) : l.length ≤ m.length := by
  induction l generalizing m with
  | nil => simp
  | cons x l ih =>
    obtain ⟨h1, h2⟩ := List.nodup_cons.1 hnd
    have hx := hs x (by simp)
    have := ih (m := m.erase x) h2 fun i hi => (List.mem_erase_of_ne fun e => h1 (by rw [← e]; exact hi)).2 (hs i (List.mem_cons_of_mem _ hi))
    rw [List.length_erase_of_mem hx] at this
    have := List.length_pos_of_mem hx
    simp only [List.length_cons]; omega
theorem sub_eq {l m : List α} (hnd : l.Nodup) (_ : m.Nodup) (hs : ∀ x ∈ l, x ∈ m) (hl : m.length ≤ l.length) : ∀ x ∈ m, x ∈ l := by
  intro x hx
  apply Classical.byContradiction
  intro h
  have := sub_len (l := x :: l) (m := m) (List.nodup_cons.2 ⟨h, hnd⟩) fun y hy => by
    rcases List.mem_cons.1 hy with rfl | hy
    · exact hx
    · exact hs y hy
  simp only [List.length_cons] at this
  omega
/-- one more holder holds all that fewer hold. -/
theorem step_incl (hN : Names lt) {h : Nat} (h1 : 1 ≤ h) {c d : List α} (hc : Hld h c) (hd : Hld (h + 1) d) (hs : ∀ x ∈ c, x ∈ d) (hl : d.length ≤ c.length + 1) (hf : c.length < h → d.length = c.length) (k : α) (later : List α) :
    (∀ x ∈ stepH lt h c k later, x ∈ stepH lt (h + 1) d k later) ∧ (stepH lt (h + 1) d k later).length ≤ (stepH lt h c k later).length + 1 ∧ ((stepH lt h c k later).length < h → (stepH lt (h + 1) d k later).length = (stepH lt h c k later).length) ∧ missH d k ≤ missH c k := by
  unfold stepH missH
  by_cases c1 : k ∈ c
  · rw [if_pos c1, if_pos (hs k c1), if_pos c1, if_pos (hs k c1)]
    exact ⟨hs, hl, hf, Nat.le_refl _⟩
  · rw [if_neg c1, if_neg c1]
    have hcd := sub_len hc.nd hs
    by_cases c2 : c.length < h
    · rw [if_pos c2]
      have he := hf c2
      have hse := sub_eq hc.nd hd.nd hs (by omega)
      have c1' : k ∉ d := fun hk => c1 (hse k hk)
      rw [if_neg c1', if_pos (by omega), if_neg c1']
      refine ⟨fun x hx => ?_, by simp; omega, fun _ => by simp; omega, Nat.le_refl _⟩
      rw [List.mem_append] at hx ⊢
      rcases hx with hx | hx
      · exact .inl (hs x hx)
      · exact .inr hx
    · rw [if_neg c2]
      have hle := hc.le
      obtain ⟨v, hv, hvl⟩ := vic_ok lt hN later (held := c) (by intro e; rw [e] at c2; simp at c2; omega)
      have hi := (List.getElem?_eq_some_iff.1 hv).1
      by_cases c3 : k ∈ d
      · rw [if_pos c3, if_pos c3]
        refine ⟨fun x hx => ?_, by rw [List.length_set]; omega, fun hx => by rw [List.length_set] at hx; omega, by omega⟩
        rcases (set_mem hc.nd hv x).1 hx with rfl | ⟨hx, _⟩
        · exact c3
        · exact hs x hx
      · rw [if_neg c3, if_neg c3]
        by_cases c4 : d.length < h + 1
        · rw [if_pos c4]
          refine ⟨fun x hx => ?_, by rw [List.length_set]; simp; omega, fun hx => by rw [List.length_set] at hx; omega, Nat.le_refl _⟩
          rw [List.mem_append, List.mem_singleton]
          rcases (set_mem hc.nd hv x).1 hx with rfl | ⟨hx, _⟩
          · exact .inr rfl
          · exact .inl (hs x hx)
        · rw [if_neg c4]
          obtain ⟨u, hu, hul⟩ := vic_ok lt hN later (held := d) (by intro e; rw [e] at c4; simp at c4)
          refine ⟨fun x hx => ?_, by rw [List.length_set, List.length_set]; exact hl, fun hx => by rw [List.length_set] at hx; omega, Nat.le_refl _⟩
          rcases (set_mem hc.nd hv x).1 hx with rfl | ⟨hx, hne⟩
          · exact (set_mem hd.nd hu x).2 (.inl rfl)
          · refine (set_mem hd.nd hu x).2 (.inr ⟨hs x hx, fun e => ?_⟩)
            subst e
            have hvd := hs v (List.mem_of_getElem? hv)
            exact hne (later_one lt hN (hul v hvd) (hvl x hx))
theorem chg_mono (hN : Names lt) {h : Nat} (h1 : 1 ≤ h) (ks : List α) : ∀ {c d : List α}, Hld h c → Hld (h + 1) d → (∀ x ∈ c, x ∈ d) → d.length ≤ c.length + 1 → (c.length < h → d.length = c.length) → chgH lt (h + 1) d ks ≤ chgH lt h c ks := by
  induction ks with
  | nil => intros; exact Nat.le_refl _
  | cons k r ih =>
    intro c d hc hd hs hl hf
    obtain ⟨a1, a2, a3, a4⟩ := step_incl lt hN h1 hc hd hs hl hf k r
    have := ih (stepH_ok lt hN h1 hc k r).1 (stepH_ok lt hN (by omega) hd k r).1 a1 a2 a3
    simp only [chgH]
    omega
/-- the new ones of a step. -/
theorem fresh_len (hN : Names lt) {h : Nat} (h1 : 1 ≤ h) {held : List α} (H : Hld h held) (k : α) (later : List α) : ((stepH lt h held k later).filter fun x => !decide (x ∈ held)).length = missH held k := by
  obtain ⟨a, b, c⟩ := stepH_ok lt hN h1 H k later
  unfold missH
  by_cases c1 : k ∈ held
  · rw [if_pos c1]
    have : stepH lt h held k later = held := by unfold stepH; rw [if_pos c1]
    rw [this]
    have : held.filter (fun x => !decide (x ∈ held)) = [] := List.filter_eq_nil_iff.2 fun x hx => by simp [hx]
    rw [this]; rfl
  · rw [if_neg c1]
    have hp : ((stepH lt h held k later).filter fun x => !decide (x ∈ held)).Perm [k] := by
      refine (List.perm_ext_iff_of_nodup (a.nd.filter _) (by simp)).2 fun x => ?_
      rw [List.mem_filter, List.mem_singleton]
      constructor
      · rintro ⟨hx, hn⟩
        rcases c x hx with h | h
        · simp [h] at hn
        · exact h
      · rintro rfl; exact ⟨b, by simpa using c1⟩
    exact hp.length_eq
end
end Go.Proofs.YtcfeoapbbkfbnaaGreatDoor
namespace Go.Proofs.YtcfeoapbbkfbnaaGreatDoor

/-- two full sets that differ in one member. -/
structure Swap {α : Type} (h : Nat) (u v : α) (a b : List α) : Prop where
  na : a.Nodup
  nb : b.Nodup
  la : a.length = h
  lb : b.length = h
  ua : u ∈ a
  vb : v ∈ b
  ub : u ∉ b
  va : v ∉ a
  eq : ∀ x, x ≠ u → x ≠ v → (x ∈ a ↔ x ∈ b)
theorem Swap.symm {α : Type} {h : Nat} {u v : α} {a b : List α} (s : Swap h u v a b) : Swap h v u b a := ⟨s.nb, s.na, s.lb, s.la, s.vb, s.ua, s.va, s.ub, fun x h1 h2 => (s.eq x h2 h1).symm⟩
theorem idx_ne {α : Type} [DecidableEq α] {k u : α} (r : List α) (h : k ≠ u) : (k :: r).idxOf u = r.idxOf u + 1 := by
  rw [List.idxOf_cons, beq_false_of_ne h]; rfl
section
variable {α : Type} [DecidableEq α] (lt : α → α → Bool)
/-- a step that takes one away. -/
theorem step_full (hN : Names lt) {h : Nat} (h1 : 1 ≤ h) {c : List α} (hnd : c.Nodup) (hl : c.length = h) {k : α} (hk : k ∉ c) (later : List α) :
    ∃ v ∈ c, (∀ x ∈ c, Later lt later v x) ∧ (stepH lt h c k later).Nodup ∧ (stepH lt h c k later).length = h ∧ ∀ x, x ∈ stepH lt h c k later ↔ x = k ∨ x ∈ c ∧ x ≠ v := by
  obtain ⟨v, hv, hvl⟩ := vic_ok lt hN later (held := c) (by intro e; rw [e] at hl; simp at hl; omega)
  have hi := (List.getElem?_eq_some_iff.1 hv).1
  refine ⟨v, List.mem_of_getElem? hv, hvl, ?_, ?_, fun x => ?_⟩
  all_goals (unfold stepH; rw [if_neg hk, if_neg (by omega)])
  · exact set_nodup hnd hk hi
  · rw [List.length_set]; exact hl
  · exact set_mem hnd hv x
theorem step_hit {h : Nat} {c : List α} {k : α} (hk : k ∈ c) (later : List α) : stepH lt h c k later = c := by unfold stepH; rw [if_pos hk]
/-- two sets of the same members. -/
structure Same (a b : List α) : Prop where
  na : a.Nodup
  nb : b.Nodup
  eq : ∀ x, x ∈ a ↔ x ∈ b
theorem Same.len {a b : List α} (s : Same a b) : a.length = b.length :=
  Nat.le_antisymm (sub_len s.na fun x hx => (s.eq x).1 hx) (sub_len s.nb fun x hx => (s.eq x).2 hx)
theorem same_chg (hN : Names lt) {h : Nat} (h1 : 1 ≤ h) (ks : List α) : ∀ {a b : List α}, Same a b → a.length ≤ h → chgH lt h a ks = chgH lt h b ks := by
  induction ks with
  | nil => intros; rfl
  | cons k r ih =>
    intro a b s hl
    have hlen := s.len
    by_cases hk : k ∈ a
    · have hk' := (s.eq k).1 hk
      simp only [chgH]
      rw [step_hit lt hk, step_hit lt hk', ih s hl]
      unfold missH
      rw [if_pos hk, if_pos hk']
    · have hk' : k ∉ b := fun hb => hk ((s.eq k).2 hb)
      simp only [chgH]
      have hm : missH a k = missH b k := by unfold missH; rw [if_neg hk, if_neg hk']
      rw [hm]
      by_cases hf : a.length < h
      · have e1 : stepH lt h a k r = a ++ [k] := by unfold stepH; rw [if_neg hk, if_pos hf]
        have e2 : stepH lt h b k r = b ++ [k] := by unfold stepH; rw [if_neg hk', if_pos (by omega)]
        rw [e1, e2, ih ⟨?_, ?_, fun x => ?_⟩ (by simp; omega)]
        · rw [List.nodup_append]; exact ⟨s.na, by simp, fun x hx y hy => by simp at hy; subst hy; rintro rfl; exact hk hx⟩
        · rw [List.nodup_append]; exact ⟨s.nb, by simp, fun x hx y hy => by simp at hy; subst hy; rintro rfl; exact hk' hx⟩
        · rw [List.mem_append, List.mem_append, s.eq x]
      · obtain ⟨v, hv, hvl, n1, l1, m1⟩ := step_full lt hN h1 s.na (by omega) hk r
        obtain ⟨u, hu, hul, n2, l2, m2⟩ := step_full lt hN h1 s.nb (by omega) hk' r
        obtain rfl : v = u := later_one lt hN (hvl u ((s.eq u).2 hu)) (hul v ((s.eq v).1 hv))
        rw [ih ⟨n1, n2, fun x => by rw [m1 x, m2 x, s.eq x]⟩ (by omega)]
theorem later_tail {k : α} {r : List α} {u v : α} (hu : k ≠ u) (hv : k ≠ v) (h : Later lt (k :: r) v u) : Later lt r v u := by
  unfold Later at *
  rw [idx_ne _ hu, idx_ne _ hv] at h
  rcases h with h | ⟨h, h2⟩
  · exact .inl (by omega)
  · exact .inr ⟨by omega, h2⟩
theorem later_total (hN : Names lt) (r : List α) (u v : α) : Later lt r v u ∨ Later lt r u v := by
  unfold Later
  by_cases h1 : r.idxOf u < r.idxOf v
  · exact .inl (.inl h1)
  · by_cases h2 : r.idxOf v < r.idxOf u
    · exact .inr (.inl h2)
    · cases h3 : lt u v
      · exact .inl (.inr ⟨by omega, rfl⟩)
      · exact .inr (.inr ⟨by omega, hN.asym _ _ h3⟩)
/-- when both miss: what they take away, and how they differ then. -/
theorem swap_miss (hN : Names lt) {h : Nat} (h1 : 1 ≤ h) {u v k : α} {a b : List α} (s : Swap h u v a b) (hk : k ∉ a) (hk' : k ∉ b) (r : List α) :
    Same (stepH lt h a k r) (stepH lt h b k r) ∨ (Swap h u v (stepH lt h a k r) (stepH lt h b k r)) ∨ (∃ w, Later lt r w u ∧ Swap h u w (stepH lt h a k r) (stepH lt h b k r) ∧ Later lt r v w) ∨ (∃ w, Later lt r w v ∧ Swap h w v (stepH lt h a k r) (stepH lt h b k r) ∧ Later lt r u w) := by
  obtain ⟨x, hx, hxl, n1, l1, m1⟩ := step_full lt hN h1 s.na s.la hk r
  obtain ⟨y, hy, hyl, n2, l2, m2⟩ := step_full lt hN h1 s.nb s.lb hk' r
  have huk : u ≠ k := fun e => hk (e ▸ s.ua)
  have hvk : v ≠ k := fun e => hk' (e ▸ s.vb)
  have huv : u ≠ v := fun e => s.va (e ▸ s.ua)
  have hA : ∀ z, z ∈ a ↔ z = u ∨ z ≠ v ∧ z ∈ b := fun z => by
    by_cases e1 : z = u
    · subst e1; exact ⟨fun _ => .inl rfl, fun _ => s.ua⟩
    · by_cases e2 : z = v
      · subst e2; exact ⟨fun h => absurd h s.va, fun h => by rcases h with h | h; exact absurd h e1; exact absurd rfl h.1⟩
      · rw [s.eq z e1 e2]; exact ⟨fun h => .inr ⟨e2, h⟩, fun h => by rcases h with h | h; exact absurd h e1; exact h.2⟩
  by_cases ex : x = u
  · subst ex
    by_cases ey : y = v
    · subst ey
      refine .inl ⟨n1, n2, fun z => ?_⟩
      rw [m1 z, m2 z]
      by_cases e1 : z = x
      · subst e1; simp [s.ub, huk]
      · by_cases e2 : z = y
        · subst e2; simp [s.va, hvk]
        · rw [s.eq z e1 e2]; simp [e1, e2]
    · -- a takes u away, b takes y
      have hyu : y ≠ x := fun e => s.ub (e ▸ hy)
      have hya : y ∈ a := (s.eq y hyu ey).2 hy
      have hky : y ≠ k := fun e => hk (e ▸ hya)
      refine .inr (.inr (.inr ⟨y, hyl v s.vb, ⟨n1, n2, l1, l2, ?_, ?_, ?_, ?_, fun z e1 e2 => ?_⟩, hxl y hya⟩))
      · exact (m1 y).2 (.inr ⟨hya, hyu⟩)
      · exact (m2 v).2 (.inr ⟨s.vb, fun e => ey e.symm⟩)
      · intro hz; rcases (m2 y).1 hz with e | ⟨_, e⟩; exact hky e; exact e rfl
      · intro hz; rcases (m1 v).1 hz with e | ⟨e, _⟩; exact hvk e; exact s.va e
      · rw [m1 z, m2 z]
        by_cases e3 : z = x
        · subst e3; simp [s.ub, huk]
        · rw [s.eq z e3 e2]; simp [e1, e3]
  · have hxv : x ≠ v := fun e => s.va (e ▸ hx)
    have hxb : x ∈ b := (s.eq x ex hxv).1 hx
    have hxk : x ≠ k := fun e => hk (e ▸ hx)
    by_cases ey : y = v
    · subst ey
      refine .inr (.inr (.inl ⟨x, hxl u s.ua, ⟨n1, n2, l1, l2, ?_, ?_, ?_, ?_, fun z e1 e2 => ?_⟩, hyl x hxb⟩))
      · exact (m1 u).2 (.inr ⟨s.ua, fun e => ex e.symm⟩)
      · exact (m2 x).2 (.inr ⟨hxb, hxv⟩)
      · intro hz; rcases (m2 u).1 hz with e | ⟨e, _⟩; exact huk e; exact s.ub e
      · intro hz; rcases (m1 x).1 hz with e | ⟨_, e⟩; exact hxk e; exact e rfl
      · rw [m1 z, m2 z]
        by_cases e3 : z = y
        · subst e3; simp [s.va, hvk]
        · rw [s.eq z e1 e3]; simp [e2, e3]
    · have hyu : y ≠ u := fun e => s.ub (e ▸ hy)
      have hya : y ∈ a := (s.eq y hyu ey).2 hy
      obtain rfl : x = y := later_one lt hN (hxl y hya) (hyl x hxb)
      refine .inr (.inl ⟨n1, n2, l1, l2, ?_, ?_, ?_, ?_, fun z e1 e2 => ?_⟩)
      · exact (m1 u).2 (.inr ⟨s.ua, fun e => ex e.symm⟩)
      · exact (m2 v).2 (.inr ⟨s.vb, fun e => ey e.symm⟩)
      · intro hz; rcases (m2 u).1 hz with e | ⟨e, _⟩; exact huk e; exact s.ub e
      · intro hz; rcases (m1 v).1 hz with e | ⟨e, _⟩; exact hvk e; exact s.va e
      · rw [m1 z, m2 z, s.eq z e1 e2]
/-- one set has u, which the other one must fetch. -/
theorem swap_fetch (hN : Names lt) {h : Nat} (h1 : 1 ≤ h) {u v : α} {a b : List α} (s : Swap h u v a b) (r : List α) :
    Same a (stepH lt h b u r) ∨ ∃ w, Later lt r w v ∧ Swap h w v a (stepH lt h b u r) := by
  obtain ⟨y, hy, hyl, n2, l2, m2⟩ := step_full lt hN h1 s.nb s.lb s.ub r
  have huv : u ≠ v := fun e => s.va (e ▸ s.ua)
  by_cases ey : y = v
  · subst ey
    refine .inl ⟨s.na, n2, fun z => ?_⟩
    rw [m2 z]
    by_cases e1 : z = u
    · subst e1; simp [s.ua]
    · by_cases e2 : z = y
      · subst e2; simp [s.va, e1]
      · rw [s.eq z e1 e2]; simp [e1, e2]
  · have hyu : y ≠ u := fun e => s.ub (e ▸ hy)
    have hya : y ∈ a := (s.eq y hyu ey).2 hy
    refine .inr ⟨y, hyl v s.vb, ⟨s.na, n2, s.la, l2, hya, ?_, ?_, s.va, fun z e1 e2 => ?_⟩⟩
    · exact (m2 v).2 (.inr ⟨s.vb, fun e => ey e.symm⟩)
    · intro hz; rcases (m2 y).1 hz with e | ⟨_, e⟩; exact hyu e; exact e rfl
    · rw [m2 z]
      by_cases e3 : z = u
      · subst e3; simp [s.ua]
      · rw [s.eq z e3 e2]; simp [e1, e3]
theorem miss_yes {c : List α} {k : α} (h : k ∈ c) : missH c k = 0 := by unfold missH; rw [if_pos h]
theorem miss_no {c : List α} {k : α} (h : k ∉ c) : missH c k = 1 := by unfold missH; rw [if_neg h]
/-- what is needed later is better taken away; and one member more or less is at most one change. -/
theorem swap_chg (hN : Names lt) {h : Nat} (h1 : 1 ≤ h) (ks : List α) : ∀ {u v : α} {a b : List α}, Swap h u v a b → (Later lt ks v u → chgH lt h a ks ≤ chgH lt h b ks) ∧ chgH lt h a ks ≤ chgH lt h b ks + 1 := by
  induction ks with
  | nil => intros; exact ⟨fun _ => Nat.le_refl _, Nat.le_succ _⟩
  | cons k r ih =>
    intro u v a b s
    have huv : u ≠ v := fun e => s.va (e ▸ s.ua)
    simp only [chgH]
    by_cases ku : k = u
    · subst ku
      rw [step_hit lt s.ua, miss_yes s.ua, miss_no s.ub]
      rcases swap_fetch lt hN h1 s r with hs | ⟨w, _, hs⟩
      · have := same_chg lt hN h1 r hs (by rw [s.la]; exact Nat.le_refl _)
        exact ⟨fun _ => by omega, by omega⟩
      · have := (ih hs).2
        exact ⟨fun _ => by omega, by omega⟩
    · by_cases kv : k = v
      · subst kv
        rw [step_hit lt s.vb, miss_no s.va, miss_yes s.vb]
        refine ⟨fun hl => ?_, ?_⟩
        · exfalso
          unfold Later at hl
          rw [List.idxOf_cons_self, idx_ne _ ku] at hl
          omega
        · rcases swap_fetch lt hN h1 s.symm r with hs | ⟨w, hw, hs⟩
          · have := same_chg lt hN h1 r hs (by rw [s.lb]; exact Nat.le_refl _)
            omega
          · have := (ih hs.symm).1 hw
            omega
      · by_cases ka : k ∈ a
        · have kb := (s.eq k ku kv).1 ka
          rw [step_hit lt ka, step_hit lt kb, miss_yes ka, miss_yes kb]
          obtain ⟨i1, i2⟩ := ih s
          exact ⟨fun hl => by have := i1 (later_tail lt ku kv hl); omega, by omega⟩
        · have kb : k ∉ b := fun hb => ka ((s.eq k ku kv).2 hb)
          rw [miss_no ka, miss_no kb]
          rcases swap_miss lt hN h1 s ka kb r with hs | hs | ⟨w, hw, hs, _⟩ | ⟨w, hw, hs, hw2⟩
          · have hl1 := (step_full lt hN h1 s.na s.la ka r)
            obtain ⟨_, _, _, _, l1, _⟩ := hl1
            have := same_chg lt hN h1 r hs (by omega)
            exact ⟨fun _ => by omega, by omega⟩
          · obtain ⟨i1, i2⟩ := ih hs
            exact ⟨fun hl => by have := i1 (later_tail lt ku kv hl); omega, by omega⟩
          · obtain ⟨i1, i2⟩ := ih hs
            exact ⟨fun _ => by have := i1 hw; omega, by omega⟩
          · obtain ⟨i1, i2⟩ := ih hs
            refine ⟨fun hl => ?_, by omega⟩
            exfalso
            -- u was taken away, w stays with a: w is later than v, u later than w: against v later than u
            have hl2 := later_tail lt ku kv hl
            have hwv : w ≠ v := fun e => hs.ub (e ▸ hs.vb)
            unfold Later at hw hw2 hl2
            rcases hw with a1 | ⟨a1, a2⟩ <;> rcases hw2 with b1 | ⟨b1, b2⟩ <;> rcases hl2 with c1 | ⟨c1, c2⟩
            all_goals first
              | omega
              | (exfalso
                 -- the same moment: the names decide
                 have huw : u = w ∨ u ≠ w := Classical.em _
                 rcases huw with rfl | huw
                 · exact hwv (hN.tot _ _ c2 a2)
                 · cases h5 : lt u w
                   · exact huw (hN.tot _ _ h5 b2)
                   · cases h6 : lt w v
                     · exact hwv (hN.tot _ _ h6 a2)
                     · have := hN.trans _ _ _ h5 h6
                       rw [this] at c2; cases c2)
/-- all ways to change: the fewest changes. -/
def optH (h : Nat) : List α → List α → Nat
  | _, [] => 0
  | held, k :: r => if k ∈ held then optH h held r else if held.length < h then 1 + optH h (held ++ [k]) r
    else 1 + (((List.range held.length).map fun i => optH h (held.set i k) r).min?.getD 0)
theorem opt_chg (hN : Names lt) {h : Nat} (h1 : 1 ≤ h) (ks : List α) : ∀ {c : List α}, Hld h c → optH h c ks = chgH lt h c ks := by
  induction ks with
  | nil => intros; rfl
  | cons k r ih =>
    intro c hc
    simp only [optH, chgH]
    by_cases hk : k ∈ c
    · rw [if_pos hk, miss_yes hk, step_hit lt hk, ih hc]; omega
    · rw [if_neg hk, miss_no hk]
      have hst := (stepH_ok lt hN h1 hc k r).1
      by_cases hf : c.length < h
      · rw [if_pos hf]
        have e1 : stepH lt h c k r = c ++ [k] := by unfold stepH; rw [if_neg hk, if_pos hf]
        rw [e1] at hst ⊢
        rw [ih hst]
      · rw [if_neg hf]
        have hle := hc.le
        have hlen : c.length = h := by omega
        have e1 : stepH lt h c k r = c.set (vic lt r c) k := by unfold stepH; rw [if_neg hk, if_neg hf]
        obtain ⟨v, hv, hvl⟩ := vic_ok lt hN r (held := c) (by intro e; rw [e] at hlen; simp at hlen; omega)
        have hvi := (List.getElem?_eq_some_iff.1 hv).1
        have hall : ∀ i, i < c.length → Hld h (c.set i k) := fun i hi => ⟨set_nodup hc.nd hk hi, by rw [List.length_set]; exact hle⟩
        have hmin : ((List.range c.length).map fun i => optH h (c.set i k) r).min? = some (chgH lt h (c.set (vic lt r c) k) r) := by
          rw [List.min?_eq_some_iff]
          refine ⟨List.mem_map.2 ⟨vic lt r c, List.mem_range.2 hvi, ih (hall _ hvi)⟩, fun n hn => ?_⟩
          obtain ⟨i, hi, rfl⟩ := List.mem_map.1 hn
          have hi := List.mem_range.1 hi
          rw [ih (hall i hi)]
          obtain ⟨u, hu⟩ : ∃ u, c[i]? = some u := ⟨_, List.getElem?_eq_getElem hi⟩
          have huc := List.mem_of_getElem? hu
          by_cases huv : u = v
          · subst huv
            refine Nat.le_of_eq (same_chg lt hN h1 r ⟨(hall _ hvi).nd, (hall i hi).nd, fun x => ?_⟩ (hall _ hvi).le)
            rw [set_mem hc.nd hv x, set_mem hc.nd hu x]
          · have hvc := List.mem_of_getElem? hv
            have hku : u ≠ k := fun e => hk (e ▸ huc)
            have hkv : v ≠ k := fun e => hk (e ▸ hvc)
            refine (swap_chg lt hN h1 r (u := u) (v := v) ⟨(hall _ hvi).nd, (hall i hi).nd, by rw [List.length_set]; exact hlen, by rw [List.length_set]; exact hlen, ?_, ?_, ?_, ?_, fun x e1 e2 => ?_⟩).1 (hvl u huc)
            · exact (set_mem hc.nd hv u).2 (.inr ⟨huc, huv⟩)
            · exact (set_mem hc.nd hu v).2 (.inr ⟨hvc, fun e => huv e.symm⟩)
            · intro hx; rcases (set_mem hc.nd hu u).1 hx with e | ⟨_, e⟩; exact hku e; exact e rfl
            · intro hx; rcases (set_mem hc.nd hv v).1 hx with e | ⟨_, e⟩; exact hkv e; exact e rfl
            · rw [set_mem hc.nd hv x, set_mem hc.nd hu x]
              simp [e1, e2]
        rw [hmin, e1]
        rfl
end
end Go.Proofs.YtcfeoapbbkfbnaaGreatDoor
namespace Go.Proofs.YtcfeoapbbkfbnaaGreatDoor
open Go

theorem u8_lt (a b : UInt8) : a < b ↔ a.toNat < b.toNat := UInt8.lt_iff_toNat_lt
theorem u8_eq {a b : UInt8} (h : a.toNat = b.toNat) : a = b := UInt8.toNat_inj.1 h
theorem bl_cons (a b : UInt8) (x y : List UInt8) : Op.bytesLess (a :: x) (b :: y) = (decide (a < b) || (a == b && Op.bytesLess x y)) := rfl
theorem bl_irr : ∀ x : List UInt8, Op.bytesLess x x = false
  | [] => rfl
  | a :: x => by rw [bl_cons, bl_irr x]; simp [UInt8.lt_irrefl]
theorem bl_tot : ∀ x y : List UInt8, Op.bytesLess x y = false → Op.bytesLess y x = false → x = y
  | [], [], _, _ => rfl
  | [], _ :: _, h, _ => by simp [Op.bytesLess] at h
  | _ :: _, [], _, h => by simp [Op.bytesLess] at h
  | a :: x, b :: y, h1, h2 => by
    rw [bl_cons] at h1 h2
    simp only [Bool.or_eq_false_iff, decide_eq_false_iff_not, Bool.and_eq_false_iff, beq_eq_false_iff_ne] at h1 h2
    have hab : a = b := u8_eq (by have := mt (u8_lt a b).2 h1.1; have := mt (u8_lt b a).2 h2.1; omega)
    subst hab
    rw [bl_tot x y (h1.2.resolve_left fun h => h rfl) (h2.2.resolve_left fun h => h rfl)]
theorem bl_trans : ∀ x y z : List UInt8, Op.bytesLess x y = true → Op.bytesLess y z = true → Op.bytesLess x z = true
  | _, [], _, h, _ => by cases ‹List UInt8› <;> simp [Op.bytesLess] at h
  | _, _ :: _, [], _, h => by simp [Op.bytesLess] at h
  | [], _ :: _, _ :: _, _, _ => rfl
  | a :: x, b :: y, c :: z, h1, h2 => by
    rw [bl_cons] at h1 h2 ⊢
    simp only [Bool.or_eq_true, decide_eq_true_eq, Bool.and_eq_true, beq_iff_eq] at h1 h2 ⊢
    rcases h1 with h1 | ⟨rfl, h1⟩
    · rcases h2 with h2 | ⟨rfl, h2⟩
      · exact .inl ((u8_lt _ _).2 (by have := (u8_lt _ _).1 h1; have := (u8_lt _ _).1 h2; omega))
      · exact .inl h1
    · rcases h2 with h2 | ⟨rfl, h2⟩
      · exact .inl h2
      · exact .inr ⟨rfl, bl_trans x y z h1 h2⟩
theorem bl_asym (x y : List UInt8) (h : Op.bytesLess x y = true) : Op.bytesLess y x = false := by
  cases h2 : Op.bytesLess y x
  · rfl
  · have := bl_trans x y x h h2
    rw [bl_irr] at this; cases this
/-- one name is ahead of another one. -/
def nlt (a b : ByteArray) : Bool := Op.bytesLess a.toList b.toList
theorem bytes_eq {a b : ByteArray} (h : a.toList = b.toList) : a = b := (Lib.bytes_beq_iff a b).1 (by rw [h]; simp)
theorem nlt_names : Names nlt :=
  ⟨fun _ => bl_irr _, fun _ _ h1 h2 => bytes_eq (bl_tot _ _ h1 h2), fun _ _ h => bl_asym _ _ h, fun _ _ _ h1 h2 => bl_trans _ _ _ h1 h2⟩
section
variable {α : Type} [DecidableEq α]
/-- the place of the first one; as many as there are, if there is none. -/
def idxD (x : α) (l : List α) : Nat := l.idxOf x
theorem filt_eq (p : α → Bool) (c l : List α) (hp : ∀ x, p x = true ↔ x ∈ c) : (l.filter fun x => !p x) = l.filter fun x => !decide (x ∈ c) := by
  refine List.filter_congr fun x _ => ?_
  congr 1
  rw [Bool.eq_iff_iff, hp, decide_eq_true_eq]
theorem idxD_hit (x : α) (l : List α) : idxD x (x :: l) = 0 := by simp [idxD]
theorem idxD_next {x z : α} (h : z ≠ x) (l : List α) : idxD x (z :: l) = idxD x l + 1 := idx_ne l h
theorem idxD_none {x : α} {l : List α} (h : x ∉ l) : idxD x l = l.length := List.idxOf_eq_length h
theorem idxD_le (x : α) (l : List α) : idxD x l ≤ l.length := List.idxOf_le_length
theorem vicS_eq (lt : α → α → Bool) (later held : List α) (a : Int × Int) (i : Nat) (x : α) : vicS lt later held a i x = if a.2 < (idxD x later : Int) then ((i : Int), (idxD x later : Int)) else if (idxD x later : Int) = a.2 ∧ ((held[a.1.toNat]?).any fun y => lt x y) = true then ((i : Int), (idxD x later : Int)) else a := rfl
end
theorem idxFromS_eq (x : ByteArray) : ∀ (l : List ByteArray) (i : Nat), (x ∈ l → Lib.idxFromS l x i = ((i + idxD x l : Nat) : Int)) ∧ (x ∉ l → Lib.idxFromS l x i = -1)
  | [], _ => by simp [Lib.idxFromS]
  | z :: l, i => by
    rw [Lib.idxFromS]
    by_cases hz : z = x
    · subst hz; rw [if_pos rfl, idxD_hit]; simp
    · rw [if_neg hz, idxD_next hz]
      have hz' : x ≠ z := fun e => hz e.symm
      obtain ⟨h1, h2⟩ := idxFromS_eq x l (i + 1)
      refine ⟨fun hm => ?_, fun hm => h2 fun h => hm (List.mem_cons_of_mem _ h)⟩
      rw [h1 ((List.mem_cons.1 hm).resolve_left hz')]
      congr 1; omega
theorem idxOfS_in {x : ByteArray} {l : List ByteArray} (h : x ∈ l) : Lib.idxOfS l x = ((idxD x l : Nat) : Int) := by
  have := (idxFromS_eq x l 0).1 h
  rwa [Nat.zero_add] at this
theorem idxOfS_out {x : ByteArray} {l : List ByteArray} (h : x ∉ l) : Lib.idxOfS l x = -1 := (idxFromS_eq x l 0).2 h
/-- sorted by bytes. -/
def sortN (l : List ByteArray) : List ByteArray := (((l.map fun s => s.data.toList).mergeSort fun x y => decide (x ≤ y))).map fun x => ⟨x.toArray⟩
theorem map_back (l : List ByteArray) : ((l.map fun s => s.data.toList).map fun x => (⟨x.toArray⟩ : ByteArray)) = l := by
  rw [List.map_map]
  conv => rhs; rw [← List.map_id l]
  exact List.map_congr_left fun s _ => rfl
theorem sortN_perm (l : List ByteArray) : (sortN l).Perm l := by
  have h := (List.mergeSort_perm (l.map fun s => s.data.toList) fun x y => decide (x ≤ y)).map fun x => (⟨x.toArray⟩ : ByteArray)
  rw [map_back] at h
  exact h
theorem sortN_len (l : List ByteArray) : (sortN l).length = l.length := (sortN_perm l).length_eq
theorem sortN_mem (l : List ByteArray) (x : ByteArray) : x ∈ sortN l ↔ x ∈ l := (sortN_perm l).mem_iff
theorem le_bl (x y : List UInt8) : decide (x ≤ y) = !Op.bytesLess y x := by
  have : ∀ x y : List UInt8, Op.bytesLess x y = decide (x < y) := by
    intro x
    induction x with
    | nil => intro y; cases y <;> simp [Op.bytesLess]
    | cons a x ih =>
      intro y
      cases y with
      | nil => simp [Op.bytesLess]
      | cons b y =>
        rw [Op.bytesLess, ih y]
        simp only [List.cons_lt_cons_iff]
        by_cases h1 : a < b <;> by_cases h2 : a = b <;> by_cases h3 : x < y <;> simp [h1, h2, h3]
  rw [this]
  by_cases h : y < x
  · simp [h]
  · simp [h, List.not_lt.1 h]
theorem sortN_sorted (l : List ByteArray) : (sortN l).Pairwise fun a b => nlt b a = false := by
  unfold sortN
  rw [List.pairwise_map]
  have h := List.pairwise_mergeSort (le := fun x y : List UInt8 => decide (x ≤ y)) (by
    intro a b c h1 h2
    rw [le_bl] at h1 h2 ⊢
    simp only [Bool.not_eq_eq_eq_not, Bool.not_true] at h1 h2 ⊢
    cases h3 : Op.bytesLess c a
    · rfl
    · exfalso
      by_cases h4 : Op.bytesLess b a = true
      · rw [h4] at h1; cases h1
      · simp only [Bool.not_eq_true] at h4
        cases h5 : Op.bytesLess a b
        · have := bl_tot a b h5 h4
          subst this
          rw [h3] at h2; cases h2
        · have := bl_trans c a b h3 h5
          rw [this] at h2; cases h2) (by
    intro a b
    rw [le_bl, le_bl]
    cases h1 : Op.bytesLess b a
    · rfl
    · rw [bl_asym _ _ h1]; rfl) (l.map fun s => s.data.toList)
  refine h.imp fun {x y} hxy => ?_
  rw [le_bl] at hxy
  unfold nlt
  rw [ByteArray.toList_eq, ByteArray.toList_eq]
  simpa using hxy
end Go.Proofs.YtcfeoapbbkfbnaaGreatDoor
