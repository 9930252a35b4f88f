/- Plain law of Cycles: the shortest order of some points by two numberings; comparisons of lists; divisions of sets, and the least one. No program. -/
import Derived.Test.YtbkglhakhahfpaaGreatDoorShortOf
import Derived.Test.YtbkglhakhahfpaaGreatDoorCml
namespace Go.Proofs.YtbkglhakhahfpaaGreatDoor
open Go.RowKit Go.Sort

/-! the least way by two numberings -/
theorem scan_best (P : List Pt) (T : Nat → Nat → Int) (a : Pt) (set : Nat) : ∀ k j, j < k → set.testBit j = true → 0 ≤ (scanTo P T a set k).1 ∧ (scanTo P T a set k).2 ≤ dist a (pt P j) + T j (clr set j) ∧
    (j < (scanTo P T a set k).1.toNat → (scanTo P T a set k).2 < dist a (pt P j) + T j (clr set j))
  | 0, j, h, _ => by omega
  | k + 1, j, h, hj => by
    obtain ⟨g1, g2, g3⟩ := scan_ok P T a set k
    have ih := scan_best P T a set k j
    simp only [scanTo]
    by_cases hb : set.testBit k = true
    · rw [if_pos hb]
      by_cases hc : (scanTo P T a set k).1 < 0 ∨ dist a (pt P k) + T k (clr set k) < (scanTo P T a set k).2
      · rw [if_pos hc]
        by_cases hjk : j < k
        · obtain ⟨i1, i2, i3⟩ := ih hjk hj
          exact ⟨by simp only; omega, by simp only; omega, fun _ => by simp only; omega⟩
        · obtain rfl : j = k := by omega
          exact ⟨by simp only; omega, Int.le_refl _, fun h => by simp only [Int.toNat_natCast] at h; omega⟩
      · rw [if_neg hc]
        by_cases hjk : j < k
        · exact ih hjk hj
        · obtain rfl : j = k := by omega
          exact ⟨by omega, by omega, fun h => by omega⟩
    · rw [if_neg hb]
      refine ih ?_ hj
      by_cases hjk : j = k
      · subst hjk; exact absurd hj hb
      · omega
theorem next_ok {st : Pt} {P : List Pt} (a : Pt) {s : Nat} (h0 : s ≠ 0) (hs : Sub P.length s) : ∃ k : Nat, (nextW st P a s).1 = k ∧ s.testBit k = true ∧ (nextW st P a s).2 = dist a (pt P k) + W st P k (clr s k) := by
  obtain ⟨i, hi⟩ := Nat.exists_testBit_of_ne_zero h0
  have h1 := (scan_best P (W st P) a s P.length i (hs i hi) hi).1
  obtain ⟨_, g2, _⟩ := scan_ok P (W st P) a s P.length
  obtain ⟨e1, e2⟩ := g2 h1
  exact ⟨_, (Int.toNat_of_nonneg h1).symm, e1, e2⟩

/-- the set s of the numbers g has the members that s' has of places in g. -/
def Emb (g : List Nat) (s' s : Nat) : Prop := (∀ j, s'.testBit j = true → j < g.length) ∧ ∀ i, s.testBit i = true ↔ ∃ j, s'.testBit j = true ∧ g[j]? = some i
theorem asc_at {g : List Nat} (hg : g.Pairwise (· < ·)) {i j a b : Nat} (ha : g[i]? = some a) (hb : g[j]? = some b) (h : i < j) : a < b := by
  obtain ⟨h1, e1⟩ := List.getElem?_eq_some_iff.1 ha
  obtain ⟨h2, e2⟩ := List.getElem?_eq_some_iff.1 hb
  rw [← e1, ← e2]
  exact List.pairwise_iff_getElem.1 hg i j h1 h2 h
theorem asc_inj {g : List Nat} (hg : g.Pairwise (· < ·)) {i j a : Nat} (ha : g[i]? = some a) (hb : g[j]? = some a) : i = j := by
  rcases Nat.lt_trichotomy i j with h | h | h
  · exact absurd (asc_at hg ha hb h) (Nat.lt_irrefl _)
  · exact h
  · exact absurd (asc_at hg hb ha h) (Nat.lt_irrefl _)
theorem asc_len {g : List Nat} (hg : g.Pairwise (· < ·)) {n : Nat} (hlt : ∀ i ∈ g, i < n) : g.length ≤ n :=
  nodup_le n g (hg.imp (fun h => Nat.ne_of_lt h)) hlt
theorem Emb.sub {g : List Nat} {s' s n : Nat} (h : Emb g s' s) (hlt : ∀ i ∈ g, i < n) : Sub n s := fun i hi => by
  obtain ⟨j, _, hj⟩ := (h.2 i).1 hi
  exact hlt i (List.mem_of_getElem? hj)
theorem Emb.zero {g : List Nat} {s' s : Nat} (h : Emb g s' s) : s' = 0 ↔ s = 0 := by
  constructor
  · intro h0
    apply Classical.byContradiction
    intro hs
    obtain ⟨i, hi⟩ := Nat.exists_testBit_of_ne_zero hs
    obtain ⟨j, hj, _⟩ := (h.2 i).1 hi
    rw [h0] at hj; simp at hj
  · intro h0
    apply Classical.byContradiction
    intro hs
    obtain ⟨j, hj⟩ := Nat.exists_testBit_of_ne_zero hs
    obtain ⟨i, hi⟩ : ∃ i, g[j]? = some i := ⟨_, List.getElem?_eq_getElem (h.1 j hj)⟩
    have := (h.2 i).2 ⟨j, hj, hi⟩
    rw [h0] at this; simp at this
theorem Emb.clr {g : List Nat} (hg : g.Pairwise (· < ·)) {s' s j i : Nat} (h : Emb g s' s) (hs' : s' < 2 ^ 64) (hs : s < 2 ^ 64) (hj : j < 64) (hi : i < 64) (hji : g[j]? = some i) : Emb g (clr s' j) (clr s i) := by
  refine ⟨fun k hk => h.1 k ?_, fun k => ?_⟩
  · rw [clr_bit hs' hj] at hk; simp at hk; exact hk.1
  · rw [clr_bit hs hi]
    simp only [Bool.and_eq_true, Bool.not_eq_true', decide_eq_false_iff_not]
    rw [h.2 k]
    constructor
    · rintro ⟨⟨m, hm, e⟩, hne⟩
      refine ⟨m, ?_, e⟩
      rw [clr_bit hs' hj]
      simp only [Bool.and_eq_true, Bool.not_eq_true', decide_eq_false_iff_not]
      refine ⟨hm, fun hmj => hne ?_⟩
      subst hmj; rw [hji] at e; exact (Option.some.inj e).symm
    · rintro ⟨m, hm, e⟩
      rw [clr_bit hs' hj] at hm
      simp only [Bool.and_eq_true, Bool.not_eq_true', decide_eq_false_iff_not] at hm
      refine ⟨⟨m, hm.1, e⟩, fun hki => hm.2 ?_⟩
      subst hki; exact asc_inj hg e hji
theorem pt_map {P : List Pt} {g : List Nat} {j i : Nat} (h : g[j]? = some i) : pt (g.map (pt P)) j = pt P i := by
  unfold pt
  rw [List.getD_eq_getElem?_getD, List.getElem?_map, h]; rfl

section
variable (st : Pt) (P : List Pt) (g : List Nat) (hn : P.length ≤ 16) (hg : g.Pairwise (· < ·)) (hlt : ∀ i ∈ g, i < P.length)
include hn hg hlt
theorem emb_V : ∀ (N s' s : Nat), s' < N → Emb g s' s → ∀ a, V st (g.map (pt P)) a s' = V st P a s ∧ (s' ≠ 0 → ∃ j i : Nat, (nextW st (g.map (pt P)) a s').1 = j ∧ (nextW st P a s).1 = i ∧ g[j]? = some i ∧ s'.testBit j = true ∧ s.testBit i = true)
  | 0, _, _, h, _, _ => by omega
  | N + 1, s', s, h, he, a => by
    have hgl := asc_len hg hlt
    have hsub := he.sub hlt
    have hsub' : Sub g.length s' := he.1
    have hs : s < 2 ^ 64 := sub_lt hsub hn
    have hs' : s' < 2 ^ 64 := sub_lt hsub' (by omega)
    by_cases h0 : s' = 0
    · have h1 := he.zero.1 h0
      refine ⟨by unfold V; rw [if_pos h0, if_pos h1], fun h => absurd h0 h⟩
    · have h1 : s ≠ 0 := fun h => h0 (he.zero.2 h)
      have hsubQ : Sub (g.map (pt P)).length s' := by simpa using hsub'
      obtain ⟨j, ej, bj, vj⟩ := next_ok (st := st) (P := g.map (pt P)) a h0 hsubQ
      obtain ⟨i, ei, bi, vi⟩ := next_ok (st := st) (P := P) a h1 hsub
      obtain ⟨j1, bj1, e1⟩ := (he.2 i).1 bi
      have hjl := he.1 j bj
      obtain ⟨i1, e2⟩ : ∃ i1, g[j]? = some i1 := ⟨_, List.getElem?_eq_getElem hjl⟩
      have bi1 := (he.2 i1).2 ⟨j, bj, e2⟩
      have cost : ∀ m k, s'.testBit m = true → g[m]? = some k → dist a (pt (g.map (pt P)) m) + W st (g.map (pt P)) m (clr s' m) = dist a (pt P k) + W st P k (clr s k) := by
        intro m k hm hk
        have hml := he.1 m hm
        have hkl := hlt k (List.mem_of_getElem? hk)
        rw [pt_map hk, W_eq st (g.map (pt P)) m (clr s' m) (Nat.lt_of_lt_of_le (clr_lt hs' (by omega) hm) (by omega)) (by simp; omega), W_eq st P k (clr s k) (sub_lt hsub.clr hn) (by omega), pt_map hk]
        have := (emb_V N (clr s' m) (clr s k) (by have := clr_lt hs' (by omega : m < 64) hm; omega) (he.clr hg hs' hs (by omega) (by omega) hk) (pt P k)).1
        rw [this]
      have c1 := cost j i1 bj e2
      have c2 := cost j1 i bj1 e1
      have hj1l := he.1 j1 bj1
      have q := scan_best (g.map (pt P)) (W st (g.map (pt P))) a s' (g.map (pt P)).length j1 (by simpa using hj1l) bj1
      have p := scan_best P (W st P) a s P.length i1 (hsub i1 bi1) bi1
      rw [show scanTo (g.map (pt P)) (W st (g.map (pt P))) a s' (g.map (pt P)).length = nextW st (g.map (pt P)) a s' from rfl, ej, Int.toNat_natCast] at q
      rw [show scanTo P (W st P) a s P.length = nextW st P a s from rfl, ei, Int.toNat_natCast] at p
      have hj : j1 = j := by
        rcases Nat.lt_trichotomy j1 j with h | h | h
        · have := q.2.2 h; have := p.2.1; omega
        · exact h
        · have := p.2.2 (asc_at hg e2 e1 h); have := q.2.1; omega
      subst hj
      rw [e1] at e2
      obtain rfl := Option.some.inj e2
      refine ⟨?_, fun _ => ⟨j1, i, ej, ei, e1, bj, bi⟩⟩
      unfold V
      rw [if_neg h0, if_neg h1, vj, vi, c1]
theorem emb_tlist : ∀ (f s' s : Nat) (a : Pt), Emb g s' s → tlist st P f a s = (tlist st (g.map (pt P)) f a s').map (fun j => g.getD j 0)
  | 0, _, _, _, _ => rfl
  | f + 1, s', s, a, he => by
    have hgl := asc_len hg hlt
    have hsub := he.sub hlt
    have hs : s < 2 ^ 64 := sub_lt hsub hn
    have hs' : s' < 2 ^ 64 := sub_lt (n := g.length) he.1 (by omega)
    simp only [tlist]
    by_cases h0 : s' = 0
    · rw [if_pos h0, if_pos (he.zero.1 h0)]; rfl
    · rw [if_neg h0, if_neg (fun h => h0 (he.zero.2 h))]
      obtain ⟨j, i, ej, ei, hji, bj, bi⟩ := (emb_V st P g hn hg hlt (s' + 1) s' s (by omega) he a).2 h0
      have hjl := he.1 j bj
      have hil := hsub i bi
      rw [ej, ei, Int.toNat_natCast, Int.toNat_natCast, List.map_cons, pt_map hji, emb_tlist f (clr s' j) (clr s i) (pt P i) (he.clr hg hs' hs (by omega) (by omega) hji)]
      congr 1
      rw [List.getD_eq_getElem?_getD, hji]; rfl
end

theorem tlist_more {st : Pt} {P : List Pt} (hn : P.length ≤ 16) (d : Nat) : ∀ (f s : Nat) (a : Pt), Few f s → Sub P.length s → tlist st P (f + d) a s = tlist st P f a s
  | 0, s, a, hf, _ => by
    have h0 := hf.zero
    cases d with
    | zero => rfl
    | succ d => rw [Nat.zero_add]; simp only [tlist]; rw [if_pos h0]
  | f + 1, s, a, hf, hs => by
    rw [show f + 1 + d = (f + d) + 1 by omega]
    simp only [tlist]
    by_cases h0 : s = 0
    · rw [if_pos h0, if_pos h0]
    · obtain ⟨k, hk, hb, _⟩ := next_ok (st := st) a h0 hs
      rw [if_neg h0, if_neg h0, hk, Int.toNat_natCast, tlist_more hn d f (clr s k) (pt P k) (hf.step (sub_lt hs hn) (by have := hs k hb; omega) hb) hs.clr]
theorem tlist_mem {st : Pt} {P : List Pt} (hn : P.length ≤ 16) (i : Nat) : ∀ (f s : Nat) (a : Pt), Few f s → Sub P.length s → (i ∈ tlist st P f a s ↔ s.testBit i = true)
  | 0, s, a, hf, _ => by rw [hf.zero]; simp [tlist]
  | f + 1, s, a, hf, hs => by
    simp only [tlist]
    by_cases h0 : s = 0
    · rw [if_pos h0, h0]; simp
    · obtain ⟨k, hk, hb, _⟩ := next_ok (st := st) a h0 hs
      rw [if_neg h0, hk, Int.toNat_natCast, List.mem_cons, tlist_mem hn i f (clr s k) (pt P k) (hf.step (sub_lt hs hn) (by have := hs k hb; omega) hb) hs.clr, clr_bit (sub_lt hs hn) (by have := hs k hb; omega)]
      by_cases hik : i = k
      · subst hik; simp [hb]
      · simp [hik]
def mask : List Nat → Nat
  | [] => 0
  | k :: l => 2 ^ k ||| mask l
theorem mask_mem (l : List Nat) (i : Nat) : (mask l).testBit i = decide (i ∈ l) := by
  induction l with
  | nil => simp [mask]
  | cons k l ih =>
    rw [mask, Nat.testBit_or, Nat.testBit_two_pow, ih]
    by_cases h : k = i
    · subst h; simp
    · simp [h, Ne.symm h]
theorem Emb.mask (g : List Nat) : Emb g (pw g.length - 1) (mask g) := by
  refine ⟨fun j hj => by rw [full_bit] at hj; simpa using hj, fun i => ?_⟩
  rw [mask_mem]
  simp only [decide_eq_true_eq]
  constructor
  · intro hi
    obtain ⟨j, hj, e⟩ := List.getElem_of_mem hi
    exact ⟨j, by rw [full_bit]; simpa using hj, by rw [List.getElem?_eq_getElem hj, e]⟩
  · rintro ⟨j, _, e⟩; exact List.mem_of_getElem? e
theorem nodup_sub : ∀ (l g : List Nat), l.Nodup → (∀ i ∈ l, i ∈ g) → l.length ≤ g.length
  | [], _, _, _ => Nat.zero_le _
  | x :: l, g, hnd, h => by
    obtain ⟨h1, h2⟩ := List.nodup_cons.1 hnd
    have hx := h x (by simp)
    have := nodup_sub l (g.erase x) h2 (fun i hi => (List.mem_erase_of_ne (fun e => h1 (by rw [← e]; exact hi))).2 (h i (List.mem_cons_of_mem _ hi)))
    rw [List.length_erase_of_mem hx] at this
    have := List.length_pos_of_mem hx
    simp only [List.length_cons]; omega
theorem cycle_eq (st : Pt) (P : List Pt) (g : List Nat) (hn : P.length ≤ 16) (hg : g.Pairwise (· < ·)) (hlt : ∀ i ∈ g, i < P.length) :
    V st (g.map (pt P)) st (pw (g.map (pt P)).length - 1) = V st P st (mask g) ∧ tlist st P P.length st (mask g) = (tlist st (g.map (pt P)) (g.map (pt P)).length st (pw (g.map (pt P)).length - 1)).map (fun j => g.getD j 0) := by
  have he := Emb.mask g
  have hl : (g.map (pt P)).length = g.length := by simp
  rw [hl]
  have hgl := asc_len hg hlt
  refine ⟨(emb_V st P g hn hg hlt _ _ _ (Nat.lt_succ_self _) he st).1, ?_⟩
  rw [← emb_tlist st P g hn hg hlt g.length _ _ st he]
  obtain ⟨d, hd⟩ : ∃ d, P.length = g.length + d := ⟨P.length - g.length, by omega⟩
  rw [hd]
  refine tlist_more hn d g.length _ st ?_ (he.sub hlt)
  intro l hnd hl
  have h2 : ∀ i ∈ l, i ∈ g := fun i hi => by have := hl i hi; rw [mask_mem] at this; simpa using this
  exact nodup_sub l g hnd h2

/-- a sum with its cycles is at most, less than another one. -/
def le3 (a b : Int × List (List Int)) : Prop := a.1 < b.1 ∨ a.1 = b.1 ∧ (a.2.length < b.2.length ∨ a.2.length = b.2.length ∧ cmpLL a.2 b.2 ≤ 0)
def lt3 (a b : Int × List (List Int)) : Prop := a.1 < b.1 ∨ a.1 = b.1 ∧ (a.2.length < b.2.length ∨ a.2.length = b.2.length ∧ cmpLL a.2 b.2 < 0)
theorem le3.refl (a : Int × List (List Int)) : le3 a a := .inr ⟨rfl, .inr ⟨rfl, by rw [ordLL.refl]; omega⟩⟩
theorem le3.trans {a b c : Int × List (List Int)} (h : le3 a b) (k : le3 b c) : le3 a c := by
  unfold le3 at *
  have ht := ordLL.trans a.2 b.2 c.2
  rcases h with h | ⟨h1, h | ⟨h2, h3⟩⟩ <;> rcases k with k | ⟨k1, k | ⟨k2, k3⟩⟩
  all_goals first
    | exact .inl (by omega)
    | exact .inr ⟨by omega, .inl (by omega)⟩
    | exact .inr ⟨by omega, .inr ⟨by omega, ht h3 k3⟩⟩
theorem lt3.le {a b : Int × List (List Int)} (h : lt3 a b) : le3 a b := by
  unfold lt3 at h; unfold le3
  rcases h with h | ⟨h1, h | ⟨h2, h3⟩⟩
  · exact .inl h
  · exact .inr ⟨h1, .inl h⟩
  · exact .inr ⟨h1, .inr ⟨h2, by omega⟩⟩
theorem le3_of_not {a b : Int × List (List Int)} (h : ¬lt3 a b) : le3 b a := by
  unfold lt3 at h; unfold le3
  have ha := ordLL.anti a.2 b.2
  by_cases h1 : b.1 < a.1
  · exact .inl h1
  · by_cases h2 : a.1 < b.1
    · exact absurd (.inl h2) h
    · refine .inr ⟨by omega, ?_⟩
      by_cases h3 : b.2.length < a.2.length
      · exact .inl h3
      · by_cases h4 : a.2.length < b.2.length
        · exact absurd (.inr ⟨by omega, .inl h4⟩) h
        · refine .inr ⟨by omega, ?_⟩
          by_cases h5 : cmpLL a.2 b.2 < 0
          · exact absurd (.inr ⟨by omega, .inr ⟨by omega, h5⟩⟩) h
          · omega
theorem le3_anti {a b : Int × List (List Int)} (h : le3 a b) (k : le3 b a) : a = b := by
  unfold le3 at *
  have ha := ordLL.anti a.2 b.2
  have e1 : a.1 = b.1 := by rcases h with h | ⟨h, _⟩ <;> rcases k with k | ⟨k, _⟩ <;> omega
  have e2 : cmpLL a.2 b.2 = 0 := by
    rcases h with h | ⟨_, h | ⟨_, h⟩⟩ <;> rcases k with k | ⟨_, k | ⟨_, k⟩⟩ <;> omega
  exact Prod.ext e1 (ordLL.eq _ _ e2)

/-! the least of a list of divisions -/
section
variable {α : Type} (val : α → Int × List (List Int))
open Classical in
noncomputable def stepB (acc : Int × List (List Int)) (d : α) : Int × List (List Int) := if acc.1 < 0 ∨ lt3 (val d) acc then val d else acc
theorem foldB (hv : ∀ d, 0 ≤ (val d).1) : ∀ (l : List α) (acc : Int × List (List Int)), (l.foldl (stepB val) acc = acc ∨ ∃ d ∈ l, l.foldl (stepB val) acc = val d) ∧ (0 ≤ acc.1 → le3 (l.foldl (stepB val) acc) acc) ∧ (∀ d ∈ l, le3 (l.foldl (stepB val) acc) (val d))
  | [], acc => ⟨.inl rfl, fun _ => le3.refl _, fun d h => by simp at h⟩
  | d :: l, acc => by
    obtain ⟨h1, h2, h3⟩ := foldB hv l (stepB val acc d)
    have hle : le3 (stepB val acc d) (val d) ∧ (0 ≤ acc.1 → le3 (stepB val acc d) acc) ∧ 0 ≤ (stepB val acc d).1 ∧ (stepB val acc d = acc ∨ stepB val acc d = val d) := by
      have hd := hv d
      unfold stepB
      by_cases hc : acc.1 < 0 ∨ lt3 (val d) acc
      · rw [if_pos hc]
        refine ⟨le3.refl _, fun h => ?_, hd, .inr rfl⟩
        rcases hc with hc | hc
        · omega
        · exact hc.le
      · rw [if_neg hc]
        exact ⟨le3_of_not (fun h => hc (.inr h)), fun _ => le3.refl _, by omega, .inl rfl⟩
    obtain ⟨k1, k2, k3, k4⟩ := hle
    rw [List.foldl_cons]
    refine ⟨?_, fun h => (h2 k3).trans (k2 h), fun x hx => ?_⟩
    · rcases h1 with h1 | ⟨x, hx, h1⟩
      · rcases k4 with k4 | k4
        · exact .inl (h1.trans k4)
        · exact .inr ⟨d, by simp, h1.trans k4⟩
      · exact .inr ⟨x, List.mem_cons_of_mem _ hx, h1⟩
    · rcases List.mem_cons.1 hx with rfl | hx
      · exact (h2 k3).trans k1
      · exact h3 x hx
end

/-! divisions of a set -/
def lowI : Nat → Nat → Nat
  | 0, _ => 0
  | n + 1, s => if s.testBit 0 then 0 else lowI n (s / 2) + 1
def popc (s : Nat) : Nat := ((List.range 8).filter fun i => s.testBit i).length
def valid (z set t : Nat) : Bool := (t &&& set) == t && t.testBit (lowI 8 set) && decide (popc t ≤ z)
def divs (z : Nat) : Nat → Nat → List (List Nat)
  | 0, s => if s = 0 then [[]] else []
  | f + 1, s => if s = 0 then [[]] else ((List.range (s + 1)).filter (valid z s)).flatMap fun t => (divs z f (s - t)).map (t :: ·)
def walkF (F : Nat → Nat) : Nat → Nat → List Nat
  | 0, _ => []
  | f + 1, s => if s = 0 then [] else F s :: walkF F f (s - F s)
theorem valid_le {z set t : Nat} (h : valid z set t = true) : t ≤ set ∧ 1 ≤ t ∧ ∀ i, t.testBit i = true → set.testBit i = true := by
  simp only [valid, Bool.and_eq_true, beq_iff_eq, decide_eq_true_eq] at h
  obtain ⟨⟨h1, h2⟩, _⟩ := h
  refine ⟨by rw [← h1]; exact Nat.and_le_right, ?_, fun i hi => ?_⟩
  · cases t with
    | zero => simp at h2
    | succ t => omega
  · rw [← h1, Nat.testBit_and] at hi; simp at hi; exact hi.2
section
variable (tl : Nat → List Int) (lg : Nat → Int)
def valD (d : List Nat) : Int × List (List Int) := ((d.map lg).sum, d.map tl)
def cstD (L : Nat → Int × Int) (set t : Nat) : Int × Int := ((L (set - t)).1 + lg t, (L (set - t)).2 + 1)
def le2 (c : Int × Int) (l : List Int) (d : Int × Int) (m : List Int) : Prop := c.1 < d.1 ∨ c.1 = d.1 ∧ (c.2 < d.2 ∨ c.2 = d.2 ∧ cmpL l m ≤ 0)
/-- f is the best one of the parts of a set that are above m, c what it costs; 0: there is none. -/
def Best (z : Nat) (L : Nat → Int × Int) (set m : Nat) (c : Int × Int) (f : Nat) : Prop :=
  (f = 0 ∧ ∀ t, valid z set t = true → t ≤ m) ∨ (valid z set f = true ∧ m < f ∧ c = cstD lg L set f ∧ ∀ t, valid z set t = true → m < t → le2 (cstD lg L set f) (tl f) (cstD lg L set t) (tl t))
theorem dp_min {z n : Nat} {L : Nat → Int × Int} {F : Nat → Nat} (hinj : ∀ s t, s < 2 ^ n → t < 2 ^ n → tl s = tl t → s = t) (hex : ∀ set, 0 < set → set < 2 ^ n → ∃ t, valid z set t = true)
    (h0 : L 0 = (0, 0)) (hF : ∀ set, 0 < set → set < 2 ^ n → Best tl lg z L set 0 (L set) (F set)) : ∀ (f set : Nat), set ≤ f → set < 2 ^ n →
    walkF F f set ∈ divs z f set ∧ L set = ((valD tl lg (walkF F f set)).1, ((walkF F f set).length : Int)) ∧ ∀ d ∈ divs z f set, le3 (valD tl lg (walkF F f set)) (valD tl lg d)
  | 0, set, h, _ => by
    obtain rfl : set = 0 := by omega
    refine ⟨by simp [walkF, divs], by rw [h0]; rfl, fun d hd => ?_⟩
    simp only [divs, if_pos, List.mem_singleton] at hd
    subst hd; exact le3.refl _
  | f + 1, set, h, hlt => by
    by_cases hs : set = 0
    · subst hs
      refine ⟨by simp [walkF, divs], by rw [h0]; simp [walkF, valD], fun d hd => ?_⟩
      simp only [divs, if_pos, List.mem_singleton] at hd
      subst hd; simp only [walkF, if_pos]; exact le3.refl _
    · have hb := hF set (by omega) hlt
      rcases hb with ⟨_, hb⟩ | ⟨hv, _, hc, hm⟩
      · obtain ⟨t, ht⟩ := hex set (by omega) hlt
        have := hb t ht; have := (valid_le ht).2.1; omega
      · obtain ⟨l1, l2, _⟩ := valid_le hv
        obtain ⟨w1, w2, w3⟩ := dp_min hinj hex h0 hF f (set - F set) (by omega) (by omega)
        simp only [walkF, divs]
        rw [if_neg hs, if_neg hs]
        refine ⟨?_, ?_, fun d hd => ?_⟩
        · rw [List.mem_flatMap]
          exact ⟨F set, List.mem_filter.2 ⟨List.mem_range.2 (by omega), hv⟩, List.mem_map.2 ⟨_, w1, rfl⟩⟩
        · rw [hc]
          unfold cstD
          rw [w2]
          simp only [valD, List.map_cons, List.sum_cons, List.length_cons]
          refine Prod.ext ?_ ?_
          · simp only; omega
          · simp only; omega
        · obtain ⟨t, ht, hd⟩ := List.mem_flatMap.1 hd
          obtain ⟨d', hd', rfl⟩ := List.mem_map.1 hd
          have hvt := (List.mem_filter.1 ht).2
          obtain ⟨m1, m2, _⟩ := valid_le hvt
          obtain ⟨x1, x2, x3⟩ := dp_min hinj hex h0 hF f (set - t) (by omega) (by omega)
          have hmt := hm t hvt (by omega)
          have hx := x3 d' hd'
          have e1 : cstD lg L set (F set) = ((valD tl lg (F set :: walkF F f (set - F set))).1, ((walkF F f (set - F set)).length : Int) + 1) := by
            unfold cstD; rw [w2]; simp only [valD, List.map_cons, List.sum_cons]; exact Prod.ext (by simp only; omega) rfl
          have e2 : cstD lg L set t = ((valD tl lg (walkF F f (set - t))).1 + lg t, ((walkF F f (set - t)).length : Int) + 1) := by
            unfold cstD; rw [x2]
          rw [e1, e2] at hmt
          have v1 : (valD tl lg (t :: d')).1 = (valD tl lg d').1 + lg t := by simp only [valD, List.map_cons, List.sum_cons]; omega
          have v2 : ∀ x (l : List Nat), (valD tl lg (x :: l)).2 = tl x :: (valD tl lg l).2 := fun x l => rfl
          have v3 : ∀ l : List Nat, (valD tl lg l).2.length = l.length := fun l => by simp [valD]
          have v4 : ∀ x (l : List Nat), (valD tl lg (x :: l)).2.length = l.length + 1 := fun x l => by simp [valD]
          unfold le2 at hmt
          unfold le3 at hx ⊢
          simp only at hmt
          rw [v1]
          rw [v4, v4]
          rw [v3, v3] at hx
          by_cases hsame : (valD tl lg (F set :: walkF F f (set - F set))).1 = (valD tl lg d').1 + lg t ∧ (walkF F f (set - F set)).length = d'.length
          · obtain ⟨s1, s2⟩ := hsame
            refine .inr ⟨s1, .inr ⟨by omega, ?_⟩⟩
            rw [v2, v2]
            simp only [cmpG]
            have hle : cmpL (tl (F set)) (tl t) ≤ 0 ∧ (valD tl lg (walkF F f (set - t))).1 = (valD tl lg d').1 ∧ (walkF F f (set - t)).length = d'.length := by
              rcases hmt with hmt | ⟨hmt, hmt2 | ⟨hmt2, hmt3⟩⟩ <;> rcases hx with hx | ⟨hx, hx2 | ⟨hx2, hx3⟩⟩
              all_goals first | omega | exact ⟨by omega, by omega, by omega⟩
            by_cases h0' : cmpL (tl (F set)) (tl t) = 0
            · rw [if_pos h0']
              have hft : F set = t := hinj _ _ (by omega) (by omega) (ordL.eq _ _ h0')
              rcases hx with hx | ⟨hx, hx2 | ⟨hx2, hx3⟩⟩
              · omega
              · omega
              · rw [hft]; exact hx3
            · rw [if_neg h0']; exact hle.1
          · rcases hmt with hmt | ⟨hmt, hmt2 | ⟨hmt2, hmt3⟩⟩ <;> rcases hx with hx | ⟨hx, hx2 | ⟨hx2, hx3⟩⟩
            all_goals first
              | exact .inl (by omega)
              | exact .inr ⟨by omega, .inl (by omega)⟩
              | exact absurd ⟨by omega, by omega⟩ hsame
end

/-! the divisions that the reference tries -/
def leaves (z : Nat) : Nat → Nat → List (List Nat) → List (List (List Nat))
  | 0, _, g => [g]
  | f + 1, k, g => ((List.range g.length).flatMap fun i => if (g.getD i []).length < z then leaves z f (k + 1) (g.set i (g.getD i [] ++ [k])) else []) ++ leaves z f (k + 1) (g ++ [[k]])
def allSame (z n : Nat) : Bool := ((leaves z n 0 []).all fun g => (divs z 31 (2 ^ n - 1)).contains (g.map mask)) && ((divs z 31 (2 ^ n - 1)).all fun d => (leaves z n 0 []).any fun g => g.map mask == d)
theorem all_same : ((List.range 6).all fun n => (List.range 8).all fun z => allSame (z + 1) n) = true := by kernel_rfl
theorem has_valid : ((List.range 32).all fun s => (List.range 8).all fun z => s == 0 || (List.range 32).any fun t => valid (z + 1) s t) = true := by kernel_rfl
theorem cycles_law (tl : Nat → List Int) (lg : Nat → Int) {z n : Nat} {L : Nat → Int × Int} {F : Nat → Nat} (hz : 1 ≤ z) (hz8 : z ≤ 8) (hn : n ≤ 5) (hlg : ∀ s, 0 ≤ lg s) (hinj : ∀ s t, s < 2 ^ n → t < 2 ^ n → tl s = tl t → s = t)
    (h0 : L 0 = (0, 0)) (hF : ∀ set, 0 < set → set < 2 ^ n → Best tl lg z L set 0 (L set) (F set)) :
    (leaves z n 0 []).foldl (stepB (fun g => valD tl lg (g.map mask))) (-1, []) = valD tl lg (walkF F 31 (2 ^ n - 1)) := by
  have hall := all_same
  rw [List.all_eq_true] at hall
  have h1 := hall n (List.mem_range.2 (by omega))
  rw [List.all_eq_true] at h1
  have h2 := h1 (z - 1) (List.mem_range.2 (by omega))
  rw [show z - 1 + 1 = z by omega] at h2
  simp only [allSame, Bool.and_eq_true, List.all_eq_true, List.any_eq_true, List.contains_eq_mem, decide_eq_true_eq, beq_iff_eq] at h2
  obtain ⟨a1, a2⟩ := h2
  have hp : 2 ^ n ≤ 32 := by
    have : n = 0 ∨ n = 1 ∨ n = 2 ∨ n = 3 ∨ n = 4 ∨ n = 5 := by omega
    rcases this with rfl | rfl | rfl | rfl | rfl | rfl <;> decide
  have hp0 : 0 < 2 ^ n := Nat.two_pow_pos n
  have hv := has_valid
  rw [List.all_eq_true] at hv
  have hex : ∀ set, 0 < set → set < 2 ^ n → ∃ t, valid z set t = true := by
    intro set hs0 hs
    have hv1 := hv set (List.mem_range.2 (by omega))
    rw [List.all_eq_true] at hv1
    have hv2 := hv1 (z - 1) (List.mem_range.2 (by omega))
    rw [show z - 1 + 1 = z by omega] at hv2
    simp only [Bool.or_eq_true, beq_iff_eq, List.any_eq_true] at hv2
    rcases hv2 with hv2 | ⟨t, _, ht⟩
    · omega
    · exact ⟨t, ht⟩
  obtain ⟨w1, w2, w3⟩ := dp_min tl lg hinj hex h0 hF 31 (2 ^ n - 1) (by omega) (by omega)
  obtain ⟨g0, hg0, e0⟩ := a2 _ w1
  have hvn : ∀ g : List (List Nat), 0 ≤ (valD tl lg (g.map mask)).1 := by
    intro g
    unfold valD
    induction g with
    | nil => simp
    | cons x g ih => simp only [List.map_cons, List.sum_cons] at ih ⊢; have := hlg (mask x); omega
  obtain ⟨f1, _, f3⟩ := foldB (fun g : List (List Nat) => valD tl lg (g.map mask)) hvn (leaves z n 0 []) (-1, [])
  have hle := f3 g0 hg0
  rw [e0] at hle
  rcases f1 with f1 | ⟨g, hg, f1⟩
  · exfalso
    have hpos : 0 ≤ (valD tl lg (walkF F 31 (2 ^ n - 1))).1 := by rw [← e0]; exact hvn g0
    have hne := f3 g0 hg0
    rw [f1] at hne
    -- the first leaf is taken, since nothing is best before
    generalize hl : leaves z n 0 [] = l at *
    cases l with
    | nil => simp at hg0
    | cons d l =>
      rw [List.foldl_cons] at f1
      have hsd : stepB (fun g : List (List Nat) => valD tl lg (g.map mask)) (-1, []) d = valD tl lg (d.map mask) := by unfold stepB; rw [if_pos (.inl (by decide))]
      rw [hsd] at f1
      obtain ⟨q1, _, _⟩ := foldB (fun g : List (List Nat) => valD tl lg (g.map mask)) hvn l (valD tl lg (d.map mask))
      rw [f1] at q1
      rcases q1 with q1 | ⟨x, _, q1⟩
      · have := hvn d; rw [← q1] at this; simp at this
      · have := hvn x; rw [← q1] at this; simp at this
  · refine le3_anti hle ?_
    rw [f1]
    exact w3 _ (a1 g hg)
end Go.Proofs.YtbkglhakhahfpaaGreatDoor
