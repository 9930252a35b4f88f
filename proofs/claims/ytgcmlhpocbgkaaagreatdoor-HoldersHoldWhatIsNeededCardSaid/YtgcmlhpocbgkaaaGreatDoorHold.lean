/- Plain law of HoldersHoldWhatIsNeeded: what holders have after each component, when that which is needed latest again is taken away: the nozzle is there, no more than there are holders, one new one a change; one holder more never needs more changes. No program. -/
import Derived.Test.YtgcmlhpocbgkaaaGreatDoorBase
namespace Go.Proofs.YtgcmlhpocbgkaaaGreatDoor

theorem set_mem {α : Type} {l : List α} {i : Nat} {v k : α} (hnd : l.Nodup) (hv : l[i]? = some v) (x : α) : x ∈ l.set i k ↔ x = k ∨ x ∈ l ∧ x ≠ v := by
  obtain ⟨hi, he⟩ := List.getElem?_eq_some_iff.1 hv
  constructor
  · intro hx
    obtain ⟨j, hj, e⟩ := List.getElem_of_mem hx
    rw [List.length_set] at hj
    by_cases hij : i = j
    · subst hij
      rw [List.getElem_set_self] at e
      exact .inl e.symm
    · rw [List.getElem_set_ne hij] at e
      refine .inr ⟨by rw [← e]; exact List.getElem_mem _, fun hxv => hij ?_⟩
      rw [← e, ← he] at hxv
      exact ((List.getElem_inj hnd).1 hxv).symm
  · rintro (rfl | ⟨hx, hne⟩)
    · exact List.mem_set hi _
    · obtain ⟨j, hj, e⟩ := List.getElem_of_mem hx
      have hij : i ≠ j := by intro h; subst h; rw [he] at e; exact hne e.symm
      rw [← e, ← List.getElem_set_ne (h := hij) (a := k) (hj := by rw [List.length_set]; exact hj)]
      exact List.getElem_mem _
theorem set_nodup {α : Type} {l : List α} {i : Nat} {k : α} (hnd : l.Nodup) (hk : k ∉ l) (_ : i < l.length) : (l.set i k).Nodup := by
  rw [List.nodup_iff_pairwise_ne, List.pairwise_iff_getElem] at *
  intro a b ha hb hab
  rw [List.length_set] at ha hb
  by_cases h1 : i = a
  · subst h1
    rw [List.getElem_set_self, List.getElem_set_ne (by omega)]
    intro e; exact hk (e ▸ List.getElem_mem _)
  · rw [List.getElem_set_ne h1]
    by_cases h2 : i = b
    · subst h2
      rw [List.getElem_set_self]
      intro e; exact hk (e ▸ List.getElem_mem _)
    · rw [List.getElem_set_ne h2]
      exact hnd a b (by omega) (by omega) hab
section
variable {α : Type} [DecidableEq α] (lt : α → α → Bool)
/-- an order of names. -/
structure Names : Prop where
  irr : ∀ x, lt x x = false
  tot : ∀ x y, lt x y = false → lt y x = false → x = y
  asym : ∀ x y, lt x y = true → lt y x = false
  trans : ∀ x y z, lt x y = true → lt y z = true → lt x z = true
/-- one step of the search for what is taken away: the best place so far and when it is needed again; none: -1. -/
def vicS (later : List α) (held : List α) (a : Int × Int) (i : Nat) (x : α) : Int × Int :=
  if a.2 < (later.idxOf x : Int) then (i, later.idxOf x) else if (later.idxOf x : Int) = a.2 ∧ ((held[a.1.toNat]?).any fun y => lt x y) = true then (i, later.idxOf x) else a
def vicF (later held : List α) : Nat → Int × Int → List α → Int × Int
  | _, a, [] => a
  | i, a, x :: r => vicF later held (i + 1) (vicS lt later held a i x) r
def vic (later held : List α) : Nat := (vicF lt later held 0 (-1, -1) held).1.toNat
/-- needed later than another one, or with it and with a name that is not behind. -/
def Later (later : List α) (v x : α) : Prop := later.idxOf x < later.idxOf v ∨ later.idxOf x = later.idxOf v ∧ lt x v = false
theorem vicF_ok (hN : Names lt) (later held : List α) : ∀ (r : List α) (i : Nat) (a : Int × Int), held.drop i = r →
    ((a = (-1, -1) ∧ i = 0) ∨ ∃ (j : Nat) (v : α), j < i ∧ a.1 = j ∧ held[j]? = some v ∧ a.2 = later.idxOf v ∧ ∀ x ∈ held.take i, Later lt later v x) →
    ((vicF lt later held i a r = (-1, -1) ∧ held = []) ∨ ∃ (j : Nat) (v : α), (vicF lt later held i a r).1 = j ∧ held[j]? = some v ∧ (vicF lt later held i a r).2 = later.idxOf v ∧ ∀ x ∈ held, Later lt later v x)
  | [], i, a, hd, ha => by
    have hl : held.length ≤ i := by
      have := congrArg List.length hd
      rw [List.length_drop, List.length_nil] at this
      omega
    simp only [vicF]
    rcases ha with ⟨rfl, rfl⟩ | ⟨j, v, hj, h1, h2, h3, h4⟩
    · exact .inl ⟨rfl, List.eq_nil_of_length_eq_zero (by omega)⟩
    · rw [List.take_of_length_le hl] at h4
      exact .inr ⟨j, v, h1, h2, h3, h4⟩
  | x :: r, i, a, hd, ha => by
    have hx : held[i]? = some x := by
      have := congrArg (·[0]?) hd
      simpa using this
    have hil : i < held.length := (List.getElem?_eq_some_iff.1 hx).1
    have hd' : held.drop (i + 1) = r := by
      rw [← List.drop_drop, hd]; rfl
    have htk : held.take (i + 1) = held.take i ++ [x] := by rw [List.take_add_one, hx]; rfl
    simp only [vicF]
    refine vicF_ok hN later held r (i + 1) _ hd' (.inr ?_)
    unfold vicS
    rcases ha with ⟨rfl, rfl⟩ | ⟨j, v, hj, h1, h2, h3, h4⟩
    · rw [if_pos (by show (-1 : Int) < _; omega)]
      refine ⟨0, x, by omega, rfl, hx, rfl, fun y hy => ?_⟩
      rw [htk] at hy
      simp at hy
      subst hy
      exact .inr ⟨rfl, hN.irr _⟩
    · by_cases c1 : a.2 < (later.idxOf x : Int)
      · rw [if_pos c1]
        refine ⟨i, x, by omega, rfl, hx, rfl, fun y hy => ?_⟩
        rw [htk, List.mem_append, List.mem_singleton] at hy
        rcases hy with hy | rfl
        · have := h4 y hy
          unfold Later at this
          exact .inl (by omega)
        · exact .inr ⟨rfl, hN.irr _⟩
      · rw [if_neg c1]
        have hat : held[a.1.toNat]? = some v := by rw [h1, Int.toNat_natCast]; exact h2
        rw [hat]
        by_cases c2 : (later.idxOf x : Int) = a.2 ∧ ((some v).any fun y => lt x y) = true
        · rw [if_pos c2]
          have hlt : lt x v = true := by simpa using c2.2
          refine ⟨i, x, by omega, rfl, hx, rfl, fun y hy => ?_⟩
          rw [htk, List.mem_append, List.mem_singleton] at hy
          rcases hy with hy | rfl
          · rcases h4 y hy with h5 | ⟨h5, h6⟩
            · exact .inl (by omega)
            · refine .inr ⟨by omega, ?_⟩
              cases hyx : lt y x
              · rfl
              · rw [hN.trans _ _ _ hyx hlt] at h6; cases h6
          · exact .inr ⟨rfl, hN.irr _⟩
        · rw [if_neg c2]
          refine ⟨j, v, by omega, h1, h2, h3, fun y hy => ?_⟩
          rw [htk, List.mem_append, List.mem_singleton] at hy
          rcases hy with hy | rfl
          · exact h4 y hy
          · by_cases c3 : later.idxOf y < later.idxOf v
            · exact .inl c3
            · refine .inr ⟨by omega, ?_⟩
              cases hyv : lt y v
              · rfl
              · exact absurd ⟨by omega, by simpa using hyv⟩ c2
theorem vic_ok (hN : Names lt) (later : List α) {held : List α} (h0 : held ≠ []) : ∃ v, held[vic lt later held]? = some v ∧ ∀ x ∈ held, Later lt later v x := by
  rcases vicF_ok lt hN later held held 0 (-1, -1) rfl (.inl ⟨rfl, rfl⟩) with ⟨_, h⟩ | ⟨j, v, h1, h2, _, h4⟩
  · exact absurd h h0
  · refine ⟨v, ?_, h4⟩
    unfold vic
    rw [h1, Int.toNat_natCast]; exact h2
/-- one step: what is held then. -/
def stepH (h : Nat) (held : List α) (k : α) (later : List α) : List α :=
  if k ∈ held then held else if held.length < h then held ++ [k] else held.set (vic lt later held) k
def missH (held : List α) (k : α) : Nat := if k ∈ held then 0 else 1
/-- what is held after each step. -/
def runH (h : Nat) : List α → List α → List (List α)
  | _, [] => []
  | held, k :: r => stepH lt h held k r :: runH h (stepH lt h held k r) r
def chgH (h : Nat) : List α → List α → Nat
  | _, [] => 0
  | held, k :: r => missH held k + chgH h (stepH lt h held k r) r
/-- what is held by h holders. -/
structure Hld (h : Nat) (held : List α) : Prop where
  nd : held.Nodup
  le : held.length ≤ h
theorem stepH_ok (hN : Names lt) {h : Nat} (h1 : 1 ≤ h) {held : List α} (H : Hld h held) (k : α) (later : List α) :
    Hld h (stepH lt h held k later) ∧ k ∈ stepH lt h held k later ∧ (∀ x ∈ stepH lt h held k later, x ∈ held ∨ x = k) := by
  unfold stepH
  by_cases c1 : k ∈ held
  · rw [if_pos c1]; exact ⟨H, c1, fun x hx => .inl hx⟩
  · rw [if_neg c1]
    by_cases c2 : held.length < h
    · rw [if_pos c2]
      refine ⟨⟨?_, by simp; omega⟩, by simp, fun x hx => by simpa [or_comm] using hx⟩
      rw [List.nodup_append]
      exact ⟨H.nd, by simp, fun a ha b hb => by simp at hb; subst hb; rintro rfl; exact c1 ha⟩
    · rw [if_neg c2]
      obtain ⟨v, hv, _⟩ := vic_ok lt hN later (held := held) (by intro e; rw [e] at c2; simp at c2; omega)
      have hi := (List.getElem?_eq_some_iff.1 hv).1
      refine ⟨⟨set_nodup H.nd c1 hi, by rw [List.length_set]; exact H.le⟩, List.mem_set hi _, fun x hx => ?_⟩
      rcases (set_mem H.nd hv x).1 hx with rfl | ⟨hx, _⟩
      · exact .inr rfl
      · exact .inl hx
theorem later_one (hN : Names lt) {later : List α} {v u : α} (h1 : Later lt later v u) (h2 : Later lt later u v) : v = u := by
  rcases h1 with h1 | ⟨h1, a⟩ <;> rcases h2 with h2 | ⟨h2, b⟩
  · omega
  · omega
  · omega
  · exact (hN.tot _ _ a b).symm
theorem sub_len {l m : List α} (hnd : l.Nodup) (hs : ∀ x ∈ l, x ∈ m) : l.length ≤ m.length := by
  induction l generalizing m with
  | nil => simp
  | cons x l ih =>
    obtain ⟨h1, h2⟩ := List.nodup_cons.1 hnd
    have hx := hs x (by simp)
    have := ih (m := m.erase x) h2 fun i hi => (List.mem_erase_of_ne fun e => h1 (by rw [← e]; exact hi)).2 (hs i (List.mem_cons_of_mem _ hi))
    rw [List.length_erase_of_mem hx] at this
    have := List.length_pos_of_mem hx
    simp only [List.length_cons]; omega
theorem sub_eq {l m : List α} (hnd : l.Nodup) (_ : m.Nodup) (hs : ∀ x ∈ l, x ∈ m) (hl : m.length ≤ l.length) : ∀ x ∈ m, x ∈ l := by
  intro x hx
  apply Classical.byContradiction
  intro h
  have := sub_len (l := x :: l) (m := m) (List.nodup_cons.2 ⟨h, hnd⟩) fun y hy => by
    rcases List.mem_cons.1 hy with rfl | hy
    · exact hx
    · exact hs y hy
  simp only [List.length_cons] at this
  omega
/-- one more holder holds all that fewer hold. -/
theorem step_incl (hN : Names lt) {h : Nat} (h1 : 1 ≤ h) {c d : List α} (hc : Hld h c) (hd : Hld (h + 1) d) (hs : ∀ x ∈ c, x ∈ d) (hl : d.length ≤ c.length + 1) (hf : c.length < h → d.length = c.length) (k : α) (later : List α) :
    (∀ x ∈ stepH lt h c k later, x ∈ stepH lt (h + 1) d k later) ∧ (stepH lt (h + 1) d k later).length ≤ (stepH lt h c k later).length + 1 ∧ ((stepH lt h c k later).length < h → (stepH lt (h + 1) d k later).length = (stepH lt h c k later).length) ∧ missH d k ≤ missH c k := by
  unfold stepH missH
  by_cases c1 : k ∈ c
  · rw [if_pos c1, if_pos (hs k c1), if_pos c1, if_pos (hs k c1)]
    exact ⟨hs, hl, hf, Nat.le_refl _⟩
  · rw [if_neg c1, if_neg c1]
    have hcd := sub_len hc.nd hs
    by_cases c2 : c.length < h
    · rw [if_pos c2]
      have he := hf c2
      have hse := sub_eq hc.nd hd.nd hs (by omega)
      have c1' : k ∉ d := fun hk => c1 (hse k hk)
      rw [if_neg c1', if_pos (by omega), if_neg c1']
      refine ⟨fun x hx => ?_, by simp; omega, fun _ => by simp; omega, Nat.le_refl _⟩
      rw [List.mem_append] at hx ⊢
      rcases hx with hx | hx
      · exact .inl (hs x hx)
      · exact .inr hx
    · rw [if_neg c2]
      have hle := hc.le
      obtain ⟨v, hv, hvl⟩ := vic_ok lt hN later (held := c) (by intro e; rw [e] at c2; simp at c2; omega)
      have hi := (List.getElem?_eq_some_iff.1 hv).1
      by_cases c3 : k ∈ d
      · rw [if_pos c3, if_pos c3]
        refine ⟨fun x hx => ?_, by rw [List.length_set]; omega, fun hx => by rw [List.length_set] at hx; omega, by omega⟩
        rcases (set_mem hc.nd hv x).1 hx with rfl | ⟨hx, _⟩
        · exact c3
        · exact hs x hx
      · rw [if_neg c3, if_neg c3]
        by_cases c4 : d.length < h + 1
        · rw [if_pos c4]
          refine ⟨fun x hx => ?_, by rw [List.length_set]; simp; omega, fun hx => by rw [List.length_set] at hx; omega, Nat.le_refl _⟩
          rw [List.mem_append, List.mem_singleton]
          rcases (set_mem hc.nd hv x).1 hx with rfl | ⟨hx, _⟩
          · exact .inr rfl
          · exact .inl (hs x hx)
        · rw [if_neg c4]
          obtain ⟨u, hu, hul⟩ := vic_ok lt hN later (held := d) (by intro e; rw [e] at c4; simp at c4)
          refine ⟨fun x hx => ?_, by rw [List.length_set, List.length_set]; exact hl, fun hx => by rw [List.length_set] at hx; omega, Nat.le_refl _⟩
          rcases (set_mem hc.nd hv x).1 hx with rfl | ⟨hx, hne⟩
          · exact (set_mem hd.nd hu x).2 (.inl rfl)
          · refine (set_mem hd.nd hu x).2 (.inr ⟨hs x hx, fun e => ?_⟩)
            subst e
            have hvd := hs v (List.mem_of_getElem? hv)
            exact hne (later_one lt hN (hul v hvd) (hvl x hx))
theorem chg_mono (hN : Names lt) {h : Nat} (h1 : 1 ≤ h) (ks : List α) : ∀ {c d : List α}, Hld h c → Hld (h + 1) d → (∀ x ∈ c, x ∈ d) → d.length ≤ c.length + 1 → (c.length < h → d.length = c.length) → chgH lt (h + 1) d ks ≤ chgH lt h c ks := by
  induction ks with
  | nil => intros; exact Nat.le_refl _
  | cons k r ih =>
    intro c d hc hd hs hl hf
    obtain ⟨a1, a2, a3, a4⟩ := step_incl lt hN h1 hc hd hs hl hf k r
    have := ih (stepH_ok lt hN h1 hc k r).1 (stepH_ok lt hN (by omega) hd k r).1 a1 a2 a3
    simp only [chgH]
    omega
/-- the new ones of a step. -/
theorem fresh_len (hN : Names lt) {h : Nat} (h1 : 1 ≤ h) {held : List α} (H : Hld h held) (k : α) (later : List α) : ((stepH lt h held k later).filter fun x => !decide (x ∈ held)).length = missH held k := by
  obtain ⟨a, b, c⟩ := stepH_ok lt hN h1 H k later
  unfold missH
  by_cases c1 : k ∈ held
  · rw [if_pos c1]
    have : stepH lt h held k later = held := by unfold stepH; rw [if_pos c1]
    rw [this]
    have : held.filter (fun x => !decide (x ∈ held)) = [] := List.filter_eq_nil_iff.2 fun x hx => by simp [hx]
    rw [this]; rfl
  · rw [if_neg c1]
    have hp : ((stepH lt h held k later).filter fun x => !decide (x ∈ held)).Perm [k] := by
      refine (List.perm_ext_iff_of_nodup (a.nd.filter _) (by simp)).2 fun x => ?_
      rw [List.mem_filter, List.mem_singleton]
      constructor
      · rintro ⟨hx, hn⟩
        rcases c x hx with h | h
        · simp [h] at hn
        · exact h
      · rintro rfl; exact ⟨b, by simpa using c1⟩
    exact hp.length_eq
end
end Go.Proofs.YtgcmlhpocbgkaaaGreatDoor
