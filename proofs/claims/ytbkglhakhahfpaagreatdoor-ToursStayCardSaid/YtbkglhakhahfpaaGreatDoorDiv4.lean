/- The contract of CyclesOf's inner search. Conditions: at most 5 points, coordinates within 2^41. · The contract of CyclesOf's inner search, and of CyclesOf. Conditions: at most 5 points, coordinates within 2^41. · The contract of CyclesOf's inner search: one step; and of CyclesOf. Conditions: at most 5 points, coordinates within 2^41. · The contract of CyclesOf. Conditions: at most 5 points, coordinates within 2^41. -/
import Derived.Test.YtbkglhakhahfpaaGreatDoorLst
import Derived.Deep.RegionHeld2
import Derived.Deep.RegionHeld3
import Derived.StillTailTactics
import Derived.Laws.EntriesVeiled
namespace Go.Proofs.YtbkglhakhahfpaaGreatDoor
open Go.RowKit Go.Sort

theorem Own.ne_row {w : World} {B B' : Nat} {x v : Value} {l : List Int} {vs : List Value} (h : Own w B x l) (hv : OwnV w B' v vs) : x.ownBlock = none ∨ x.ownBlock ≠ v.ownBlock := by
  rcases h.2 with ⟨rfl, _⟩ | ⟨g, cap, cur, rfl, _, hg, _⟩
  · exact .inl rfl
  · right
    rcases hv.2 with ⟨rfl, _⟩ | ⟨g', cap', cur', rfl, _, hg', _⟩
    · simp [Value.ownBlock]
    · intro e
      simp only [Value.ownBlock, Option.some.injEq] at e
      subst e
      rw [hg] at hg'
      injection hg' with hb
      injection hb with _ hb _
      exact absurd hb (by decide)
/-- a row of slices of ints, and the slices, that a call owns. -/
def OwnL (w : World) (B : Nat) (v : Value) (ls : List (List Int)) : Prop := ∃ vs, OwnV w B v vs ∧ vs.length = ls.length ∧ ∀ (j : Nat) (x : Value) (l : List Int), vs[j]? = some x → ls[j]? = some l → Own w B x l
theorem OwnL.nil (w : World) (B : Nat) : OwnL w B (.slice none 0 0) [] := ⟨[], OwnV.nil _ _, rfl, fun j x l h => by simp at h⟩
theorem OwnL.lists {w : World} {B : Nat} {v : Value} {ls : List (List Int)} (h : OwnL w B v ls) : Lists w B v ls := by
  obtain ⟨vs, h1, h2, h3⟩ := h
  exact h1.lists h2 (Nat.le_refl _) fun j x l hx hl => (h3 j x l hx hl).ints
theorem OwnL.below {w w' : World} {B : Nat} {v : Value} {ls : List (List Int)} (h : OwnL w B v ls) (hb : Below w.heap.size w w') : OwnL w' B v ls := by
  obtain ⟨vs, h1, h2, h3⟩ := h
  exact ⟨vs, h1.below hb, h2, fun j x l hx hl => (h3 j x l hx hl).below hb⟩
/-- append of one owned slice. -/
theorem OwnL.app {w w' : World} {B : Nat} {v v' x : Value} {vs : List Value} {ls : List (List Int)} {l : List Int} (h1 : OwnV w B v vs) (h2 : vs.length = ls.length) (h3 : ∀ (j : Nat) (x : Value) (l : List Int), vs[j]? = some x → ls[j]? = some l → Own w B x l)
    (hx : Own w B x l) (hv : OwnV w' B v' (vs ++ [x])) (hg : w.grownBy w' v.ownBlock) : OwnL w' B v' (ls ++ [l]) := by
  refine ⟨vs ++ [x], hv, by simp [h2], fun j y m hy hm => ?_⟩
  by_cases hj : j < vs.length
  · rw [List.getElem?_append_left hj] at hy
    rw [List.getElem?_append_left (by omega)] at hm
    have := h3 j y m hy hm
    exact this.kept hg (this.ne_row h1)
  · rw [List.getElem?_append_right (by omega)] at hy
    rw [List.getElem?_append_right (by omega)] at hm
    have h0 : j - vs.length = 0 := by
      have := (List.getElem?_eq_some_iff.1 hy).1
      simp at this; omega
    rw [h0] at hy
    rw [show j - ls.length = 0 by omega] at hm
    simp at hy hm
    subst hy hm
    exact hx.kept hg (hx.ne_row h1)

def cyF (n : Nat) : Value := .func (.func n) #[] #[]
theorem Tw.lists {gB gL lo : Nat} {w w' : World} {v : Value} {l : List (List Int)} (k : Tw gB gL w w') (h : Lists w lo v l) (h1 : gB < lo) (h2 : gL < lo) : Lists w' lo v l :=
  h.keep (fun i hi hs => k.block i hs (by omega) (by omega)) k.size
theorem Tw.ints {gB gL lo : Nat} {w w' : World} {v : Value} {l : List Int} (k : Tw gB gL w w') (h : Ints w lo v l) (h1 : gB < lo) (h2 : gL < lo) : Ints w' lo v l :=
  Rd.keep h (fun i hi hs => k.block i hs (by omega) (by omega)) k.size

/-- groups of numbers below k. -/
def Gd (n k : Nat) (gs : List (List Nat)) : Prop := gs.length ≤ n ∧ ∀ g ∈ gs, g.Pairwise (· < ·) ∧ ∀ i ∈ g, i < k
theorem Gd.new {n k : Nat} {gs : List (List Nat)} (h : Gd n k gs) (hk : gs.length < n) : Gd n (k + 1) (gs ++ [[k]]) := by
  refine ⟨by simp; omega, fun g hg => ?_⟩
  rcases List.mem_append.1 hg with hg | hg
  · obtain ⟨h1, h2⟩ := h.2 g hg
    exact ⟨h1, fun i hi => Nat.lt_succ_of_lt (h2 i hi)⟩
  · rw [List.mem_singleton.1 hg]
    exact ⟨by simp, by simp⟩
theorem Gd.set {n k i : Nat} {gs : List (List Nat)} {g : List Nat} (h : Gd n k gs) (hi : gs[i]? = some g) : Gd n (k + 1) (gs.set i (g ++ [k])) := by
  refine ⟨by rw [List.length_set]; exact h.1, fun x hx => ?_⟩
  rcases List.mem_or_eq_of_mem_set hx with hx | rfl
  · obtain ⟨h1, h2⟩ := h.2 x hx
    exact ⟨h1, fun i hi => Nat.lt_succ_of_lt (h2 i hi)⟩
  · obtain ⟨h1, h2⟩ := h.2 g (List.mem_of_getElem? hi)
    refine ⟨List.pairwise_append.2 ⟨h1, by simp, fun a ha b hb => by rw [List.mem_singleton.1 hb]; exact h2 a ha⟩, fun j hj => ?_⟩
    rcases List.mem_append.1 hj with hj | hj
    · exact Nat.lt_succ_of_lt (h2 j hj)
    · rw [List.mem_singleton.1 hj]; exact Nat.lt_succ_self _
theorem V_hi (st : Pt) (P : List Pt) (hst : Bd st) (hP : ∀ p ∈ P, Bd p) (hn : P.length ≤ 9) {set : Nat} (hsub : Sub P.length set) {a : Pt} (ha : Bd a) : 0 ≤ V st P a set ∧ V st P a set ≤ 9007199254740992 := by
  have hs := sub_pw hsub
  have hp := pw_10 (n := P.length) (by omega)
  obtain ⟨v1, _, v3⟩ := V_bd st P hst hP (by omega) hsub ha
  refine ⟨v1, ?_⟩
  by_cases h0 : set = 0
  · unfold V; rw [if_pos h0]; have := dist_bd ha hst; omega
  · obtain ⟨k, _, hk, e⟩ := v3 h0
    have hc : clr set k < set := clr_lt (by omega) (by have := hsub k hk; omega) hk
    obtain ⟨_, b2, _⟩ := W_bd st P hst hP (by omega) 1024 (clr set k) (by omega) (by omega) hsub.clr k (hsub k hk)
    have := dist_bd ha (hP _ (getD_mem (hsub k hk)))
    rw [e]
    have h3 : dist a (pt P k) ≤ 8796093022208 := this.2
    omega
def tlv (st : Pt) (P : List Pt) (s : Nat) : List Int := nats (tlist st P P.length st s)
def lgv (st : Pt) (P : List Pt) (s : Nat) : Int := V st P st s
noncomputable def stepC (st : Pt) (P : List Pt) : Int × List (List Int) → List (List Nat) → Int × List (List Int) := stepB fun g => valD (tlv st P) (lgv st P) (g.map mask)
/-- what one group more gives. -/
noncomputable def kidsTo (st : Pt) (P : List Pt) (z f k : Nat) (gs : List (List Nat)) (acc : Int × List (List Int)) : Nat → Int × List (List Int)
  | 0 => acc
  | i + 1 => if (gs.getD i []).length < z then (leaves z f (k + 1) (gs.set i (gs.getD i [] ++ [k]))).foldl (stepC st P) (kidsTo st P z f k gs acc i) else kidsTo st P z f k gs acc i
theorem kids_eq (st : Pt) (P : List Pt) (z f k : Nat) (gs : List (List Nat)) (acc : Int × List (List Int)) : ∀ m, ((List.range m).flatMap fun i => if (gs.getD i []).length < z then leaves z f (k + 1) (gs.set i (gs.getD i [] ++ [k])) else []).foldl (stepC st P) acc = kidsTo st P z f k gs acc m
  | 0 => rfl
  | m + 1 => by
    rw [List.range_succ, List.flatMap_append, List.foldl_append, kids_eq st P z f k gs acc m]
    simp only [List.flatMap_cons, List.flatMap_nil, List.append_nil, kidsTo]
    split <;> rfl
/-- the sum, the cycles of the first groups. -/
def sumTo (st : Pt) (P : List Pt) (gs : List (List Nat)) (m : Nat) : Int := (((gs.take m).map mask).map (lgv st P)).sum
theorem sumTo_snoc {st : Pt} {P : List Pt} {gs : List (List Nat)} {m : Nat} {g : List Nat} (h : gs[m]? = some g) : sumTo st P gs (m + 1) = sumTo st P gs m + V st P st (mask g) := by
  unfold sumTo
  rw [take_snoc h]
  simp [lgv, List.sum_append]
theorem sumTo_bd {st : Pt} {P : List Pt} {gs : List (List Nat)} (hst : Bd st) (hP : ∀ p ∈ P, Bd p) (hn : P.length ≤ 9) (hg : ∀ g ∈ gs, ∀ i ∈ g, i < P.length) : ∀ m, m ≤ gs.length → 0 ≤ sumTo st P gs m ∧ sumTo st P gs m ≤ m * 9007199254740992
  | 0, _ => by simp [sumTo]
  | m + 1, h => by
    obtain ⟨h1, h2⟩ := sumTo_bd hst hP hn hg m (by omega)
    obtain ⟨g, hgm⟩ : ∃ g, gs[m]? = some g := ⟨_, List.getElem?_eq_getElem (by omega)⟩
    rw [sumTo_snoc hgm]
    have hs : Sub P.length (mask g) := fun i hi => hg g (List.mem_of_getElem? hgm) i (by rw [mask_mem] at hi; simpa using hi)
    have := V_hi st P hst hP hn hs hst
    constructor <;> (push_cast; omega)

/-- what a result keeps: bounds. -/
def Kb (a : Int × List (List Int)) : Prop := -1 ≤ a.1 ∧ a.1 ≤ 900719925474099200 ∧ a.2.length ≤ 1000 ∧ ∀ l ∈ a.2, l.length ≤ 1000
theorem stepC_kb {st : Pt} {P : List Pt} (hst : Bd st) (hP : ∀ p ∈ P, Bd p) (hn : P.length ≤ 9) {gs : List (List Nat)} (hg : Gd P.length P.length gs) {acc : Int × List (List Int)} (h : Kb acc) : Kb (stepC st P acc gs) := by
  unfold stepC stepB
  split
  · have hs := sumTo_bd (gs := gs) hst hP hn (fun g hg' => (hg.2 g hg').2) gs.length (Nat.le_refl _)
    have e : (valD (tlv st P) (lgv st P) (gs.map mask)).1 = sumTo st P gs gs.length := by unfold valD sumTo; rw [List.take_length]
    have hl := hg.1
    refine ⟨by rw [e]; omega, by rw [e]; omega, by simp [valD]; omega, fun l hl' => ?_⟩
    simp only [valD, List.mem_map] at hl'
    obtain ⟨s, _, rfl⟩ := hl'
    unfold tlv
    rw [nats_len]
    have := tlist_le st P P.length st s
    omega
  · exact h
theorem leaves_gd {z n : Nat} : ∀ (f k : Nat) (gs : List (List Nat)), k + f = n → gs.length ≤ k → Gd n k gs → ∀ d ∈ leaves z f k gs, Gd n n d
  | 0, k, gs, hk, _, h, d, hd => by
    simp only [leaves, List.mem_singleton] at hd
    subst hd
    have : k = n := by omega
    subst this; exact h
  | f + 1, k, gs, hk, hl, h, d, hd => by
    simp only [leaves, List.mem_append, List.mem_flatMap, List.mem_range] at hd
    rcases hd with ⟨i, hi, hd⟩ | hd
    · split at hd
      · obtain ⟨g, hg⟩ : ∃ g, gs[i]? = some g := ⟨_, List.getElem?_eq_getElem hi⟩
        have e : gs.getD i [] = g := by rw [List.getD_eq_getElem?_getD, hg]; rfl
        rw [e] at hd
        exact leaves_gd f (k + 1) _ (by omega) (by rw [List.length_set]; omega) (h.set hg) d hd
      · simp at hd
    · exact leaves_gd f (k + 1) _ (by omega) (by simp; omega) (h.new (by omega)) d hd
theorem fold_kb {st : Pt} {P : List Pt} (hst : Bd st) (hP : ∀ p ∈ P, Bd p) (hn : P.length ≤ 9) : ∀ (l : List (List (List Nat))) (acc : Int × List (List Int)), (∀ d ∈ l, Gd P.length P.length d) → Kb acc → Kb (l.foldl (stepC st P) acc)
  | [], _, _, h => h
  | d :: l, acc, hd, h => fold_kb hst hP hn l _ (fun x hx => hd x (List.mem_cons_of_mem _ hx)) (stepC_kb hst hP hn (hd d (by simp)) h)
theorem kids_kb {st : Pt} {P : List Pt} (hst : Bd st) (hP : ∀ p ∈ P, Bd p) (hn : P.length ≤ 9) {z f k : Nat} {gs : List (List Nat)} (hk : k + (f + 1) = P.length) (hl : gs.length ≤ k) (hg : Gd P.length k gs) {acc : Int × List (List Int)} (h : Kb acc) : ∀ m, m ≤ gs.length → Kb (kidsTo st P z f k gs acc m)
  | 0, _ => h
  | m + 1, hm => by
    have ih := kids_kb hst hP hn (z := z) hk hl hg h m (by omega)
    simp only [kidsTo]
    split
    · obtain ⟨g, hgm⟩ : ∃ g, gs[m]? = some g := ⟨_, List.getElem?_eq_getElem (by omega)⟩
      have e : gs.getD m [] = g := by rw [List.getD_eq_getElem?_getD, hgm]; rfl
      rw [e]
      exact fold_kb hst hP hn _ _ (leaves_gd f (k + 1) _ (by omega) (by rw [List.length_set]; omega) (hg.set hgm)) ih
    · exact ih
end Go.Proofs.YtbkglhakhahfpaaGreatDoor
namespace Go.Proofs.YtbkglhakhahfpaaGreatDoor
open Go.RowKit Go.Sort

theorem Own.one {W : World} {g lo : Nat} {k : Int} (hg : W.heap[g]? = some (.cells #[.int .i64 k] 3 (0, 0))) (hlo : lo ≤ g) : Own W lo (.slice (some ⟨g, 0, none⟩) 1 1) [k] :=
  ⟨rfl, .inr ⟨g, 1, _, rfl, hlo, hg, Nat.le_refl _, by decide, rfl, rfl⟩⟩
theorem rows_set {w : World} {lo B g n cap i : Nat} {vs : List Value} {ls : List (List Int)} {x : Value} {l : List Int} (h1 : OwnV w B (.slice (some ⟨g, 0, none⟩) n cap) (vs.set i x)) (h2 : vs.length = ls.length) (hlo : lo ≤ B)
    (h3 : ∀ (j : Nat) (x : Value) (l : List Int), vs[j]? = some x → ls[j]? = some l → Ints w lo x l) (hx : Ints w lo x l) : Lists w lo (.slice (some ⟨g, 0, none⟩) n cap) (ls.set i l) := by
  refine h1.lists (by simp [h2]) hlo fun j y m hy hm => ?_
  rw [List.getElem?_set] at hy hm
  by_cases hij : i = j
  · rw [if_pos hij] at hy hm
    split at hy
    · split at hm
      · rw [← Option.some.inj hy, ← Option.some.inj hm]; exact hx
      · cases hm
    · cases hy
  · rw [if_neg hij] at hy hm
    exact h3 j y m hy hm
theorem rows_new {w : World} {lo B : Nat} {v x : Value} {vs : List Value} {ls : List (List Int)} {l : List Int} (h1 : OwnV w B v (vs ++ [x])) (h2 : vs.length = ls.length) (hlo : lo ≤ B)
    (h3 : ∀ (j : Nat) (x : Value) (l : List Int), vs[j]? = some x → ls[j]? = some l → Ints w lo x l) (hx : Ints w lo x l) : Lists w lo v (ls ++ [l]) := by
  refine h1.lists (by simp [h2]) hlo fun j y m hy hm => ?_
  by_cases hj : j < vs.length
  · rw [List.getElem?_append_left hj] at hy
    rw [List.getElem?_append_left (by omega)] at hm
    exact h3 j y m hy hm
  · rw [List.getElem?_append_right (by omega)] at hy
    rw [List.getElem?_append_right (by omega)] at hm
    have h0 : j - vs.length = 0 := by
      have := (List.getElem?_eq_some_iff.1 hy).1
      simp at this; omega
    rw [h0] at hy
    rw [show j - ls.length = 0 by omega] at hm
    simp at hy hm
    subst hy hm
    exact hx
theorem or_lt3 {a b : Int × List (List Int)} : orF [cmpI a.1 b.1, cmpI (a.2.length : Int) (b.2.length : Int), cmpLL a.2 b.2] < 0 ↔ lt3 a b := by
  unfold lt3 orF orF orF orF cmpI
  constructor
  · intro h
    by_cases h1 : a.1 < b.1
    · exact .inl h1
    · rw [if_neg h1] at h
      by_cases h2 : b.1 < a.1
      · rw [if_pos h2] at h; simp at h
      · rw [if_neg h2, if_pos rfl] at h
        refine .inr ⟨by omega, ?_⟩
        by_cases h3 : (a.2.length : Int) < b.2.length
        · exact .inl (by omega)
        · rw [if_neg h3] at h
          by_cases h4 : (b.2.length : Int) < a.2.length
          · rw [if_pos h4] at h; simp at h
          · rw [if_neg h4, if_pos rfl] at h
            refine .inr ⟨by omega, ?_⟩
            split at h <;> omega
  · rintro (h | ⟨h1, h | ⟨h2, h3⟩⟩)
    · rw [if_pos h, if_neg (show ¬((-1 : Int) = 0) by decide)]; decide
    · rw [if_neg (show ¬ a.1 < b.1 by omega), if_neg (show ¬ b.1 < a.1 by omega), if_pos rfl, if_pos (show (a.2.length : Int) < b.2.length by omega), if_neg (show ¬((-1 : Int) = 0) by decide)]; decide
    · rw [if_neg (show ¬ a.1 < b.1 by omega), if_neg (show ¬ b.1 < a.1 by omega), if_pos rfl, if_neg (show ¬ (a.2.length : Int) < b.2.length by omega), if_neg (show ¬ (b.2.length : Int) < a.2.length by omega), if_pos rfl, if_neg (by omega)]
      exact h3

theorem stepC_pos {st : Pt} {P : List Pt} {acc : Int × List (List Int)} {gs : List (List Nat)} (h : acc.1 < 0 ∨ lt3 (valD (tlv st P) (lgv st P) (gs.map mask)) acc) : stepC st P acc gs = valD (tlv st P) (lgv st P) (gs.map mask) := by
  unfold stepC stepB; rw [if_pos h]
theorem stepC_neg {st : Pt} {P : List Pt} {acc : Int × List (List Int)} {gs : List (List Nat)} (h : ¬(acc.1 < 0 ∨ lt3 (valD (tlv st P) (lgv st P) (gs.map mask)) acc)) : stepC st P acc gs = acc := by
  unfold stepC stepB; rw [if_neg h]
theorem OrInt_q (l : List Int) (v : Value) (w : World) (h : l.length ≤ 1000) (rl : Ints w 0 v l) :
    Calls Tryz.prog 102 #[v] w fun e w' => e = .returned (.int .i64 (orF l)) ∧ w = w' := (OrInt_any l v w h rl).mono fun _ _ ⟨h1, h2⟩ => ⟨h1, h2.symm⟩
end Go.Proofs.YtbkglhakhahfpaaGreatDoor
namespace Go.Proofs.YtbkglhakhahfpaaGreatDoor
open Go.RowKit Go.Sort

theorem OwnV.keepB {w w' : World} {B g n cap : Nat} {vs : List Value} (h : OwnV w B (.slice (some ⟨g, 0, none⟩) n cap) vs) (e : w'.heap[g]? = w.heap[g]?) : OwnV w' B (.slice (some ⟨g, 0, none⟩) n cap) vs := by
  refine ⟨h.1, ?_⟩
  rcases h.2 with ⟨h1, _⟩ | ⟨g', cap', cur, hv, hb, hg, rest⟩
  · cases h1
  · right
    have e2 := hv
    injection hv with hv1 _ _
    injection hv1 with hv1
    injection hv1 with hv1 _ _
    subst hv1
    exact ⟨g, cap', cur, e2, hb, e.trans hg, rest⟩
theorem OwnV.cell {w : World} {B g n cap : Nat} {vs : List Value} (h : OwnV w B (.slice (some ⟨g, 0, none⟩) n cap) vs) {j : Nat} {x : Value} (hx : vs[j]? = some x) : w.cell? ⟨g, j, none⟩ = some x := by
  obtain ⟨a, c, hv, _, _, h3⟩ := h.rd
  obtain ⟨b, o, ha, _, _, hc⟩ := h3 j x hx
  injection hv with h1 _ _
  rw [← h1] at ha
  injection ha with ha
  injection ha with ha1 ha2 _
  subst ha1 ha2
  rwa [Nat.zero_add] at hc
theorem Own.farV {w : World} {B B' g n cap i : Nat} {x u : Value} {l : List Int} {vs : List Value} (h : Own w B x l) (hv : OwnV w B' (.slice (some ⟨g, 0, none⟩) n cap) vs) : Own (w.setCell ⟨g, i, none⟩ u) B x l :=
  h.kept (Gr.set (Gr.refl w (some g)) g i (.inl rfl) u) (by
    have := h.ne_row hv
    simpa [Value.ownBlock] using this)
theorem rows_fin {wr wX wA : World} {lo : Nat} {vC vA y : Value} {vs : List Value} {ls : List (List Int)} {k : Int} (hvl : vs.length = ls.length) (hlo : lo ≤ wr.heap.size) (hvs : ∀ (j : Nat) (x : Value) (l : List Int), vs[j]? = some x → ls[j]? = some l → Ints wr lo x l)
    (hX : Below wr.heap.size wr wX) (hO : OwnV wX wr.heap.size vC vs) (hk : Own wX wr.heap.size y [k]) (hOA : OwnV wA wr.heap.size vA (vs ++ [y])) (hgA : wX.grownBy wA vC.ownBlock) (hbA : Below wr.heap.size wX wA) :
    Lists wA lo vA (ls ++ [[k]]) ∧ Below wr.heap.size wr wA := by
  have hk' : Own wA wr.heap.size y [k] := hk.kept hgA (hk.ne_row hO)
  have hb := Below.trans hX hbA
  exact ⟨rows_new hOA hvl hlo (fun j x l h1 h2 => (hvs j x l h1 h2).below hb) (hk'.ints.mono hlo), hb⟩
end Go.Proofs.YtbkglhakhahfpaaGreatDoor
namespace Go.Proofs.YtbkglhakhahfpaaGreatDoor
open Go.RowKit Go.Sort

end Go.Proofs.YtbkglhakhahfpaaGreatDoor
