/- Plain facts for the walk of CyclesHaveAllPoints: bounds, sums, errors of fewer points. No program. -/
import Derived.Test.YtgcmlhpocbgkaaaGreatDoorCall
import Derived.Test.YtgcmlhpocbgkaaaGreatDoorCat
namespace Go.Proofs.YtgcmlhpocbgkaaaGreatDoor
open Go.RowKit Go.Sort

theorem wlen_bd {st : Pt} {P : List Pt} (hst : Bd st) (hP : ∀ p ∈ P, Bd p) : ∀ (o : List Nat) (a : Pt), Bd a → (∀ k ∈ o, k < P.length) → 0 ≤ wlen st P a o ∧ wlen st P a o ≤ ((o.length : Int) + 1) * 8796093022208
  | [], a, ha, _ => by
    have := dist_bd ha hst
    simp only [wlen, List.length_nil]
    omega
  | k :: o, a, ha, h => by
    have hk := h k (by simp)
    have hkb : Bd (pt P k) := hP _ (getD_mem hk)
    have h1 := dist_bd ha hkb
    have h2 := wlen_bd hst hP o (pt P k) hkb fun j hj => h j (List.mem_cons_of_mem _ hj)
    simp only [wlen, List.length_cons]
    have e : (((o.length + 1 : Nat) : Int) + 1) * 8796093022208 = ((o.length : Int) + 1) * 8796093022208 + 8796093022208 := by
      have : ((o.length + 1 : Nat) : Int) = (o.length : Int) + 1 := by omega
      rw [this]; omega
    rw [e]
    omega
theorem lgv_bd {st : Pt} {P : List Pt} (hst : Bd st) (hP : ∀ p ∈ P, Bd p) (hn : P.length ≤ 5) {t : Nat} (ht : t < pw P.length) : 0 ≤ lgv st P t ∧ lgv st P t ≤ 52776558133248 := by
  obtain ⟨_, hm⟩ := mem_tlist (st := st) hn ht
  have hw := tlist_wlen (st := st) (P := P) (by omega) P.length t st (Few.start (sub_of_lt ht)) (sub_of_lt ht)
  have h1 := wlen_bd hst hP (tlist st P P.length st t) st hst fun k hk => sub_of_lt ht k ((hm k).1 hk)
  have h2 := tlist_le st P P.length st t
  rw [hw] at h1
  unfold lgv
  have : ((tlist st P P.length st t).length : Int) ≤ 5 := by omega
  omega
theorem sumG_bd {f : Nat → Int} {M : Int} (hM : 0 ≤ M) : ∀ {d : List Nat}, (∀ t ∈ d, 0 ≤ f t ∧ f t ≤ M) → 0 ≤ (d.map f).sum ∧ (d.map f).sum ≤ d.length * M
  | [], _ => by simp
  | t :: d, h => by
    have h1 := h t (by simp)
    have h2 := sumG_bd hM fun x hx => h x (List.mem_cons_of_mem _ hx)
    simp only [List.map_cons, List.sum_cons, List.length_cons]
    have e : ((d.length + 1 : Nat) : Int) * M = d.length * M + M := by rw [Int.natCast_add, Int.add_mul]; simp
    rw [e]; omega
theorem sum_take {f : Nat → Int} {d : List Nat} {k t : Nat} (h : d[k]? = some t) : ((d.take (k + 1)).map f).sum = ((d.take k).map f).sum + f t := by
  rw [List.take_add_one, h]; simp
/-- how long the first cycles are together. -/
def partS (st : Pt) (P : List Pt) (D : List Nat) (k : Nat) : Int := ((D.take k).map (lgv st P)).sum
theorem partS_next {st : Pt} {P : List Pt} {D : List Nat} {k t : Nat} (h : D[k]? = some t) : partS st P D (k + 1) = partS st P D k + lgv st P t := sum_take h
theorem partS_all (st : Pt) (P : List Pt) (D : List Nat) : partS st P D D.length = (D.map (lgv st P)).sum := by unfold partS; rw [List.take_length]
def backS (st : Pt) (P : List Pt) (k : Nat) : Int := ((P.take k).map fun p => 2 * dist st p).sum
theorem sumP_take {f : Pt → Int} {d : List Pt} {k : Nat} {t : Pt} (h : d[k]? = some t) : ((d.take (k + 1)).map f).sum = ((d.take k).map f).sum + f t := by
  rw [List.take_add_one, h]; simp
theorem tour_less {st : Pt} {P : List Pt} {a : Int} (h : tourF st P a = 0) {m : Int} (hm : (P.length : Int) ≤ m) : tourF st P m = 0 := by
  unfold tourF ptsF at *
  by_cases hf : farB st = true
  · rw [hf] at h; simp at h
  · simp only [Bool.not_eq_true] at hf
    rw [hf] at h ⊢
    simp only [Bool.false_eq_true, if_false] at h ⊢
    rw [if_pos hm]
    split at h
    · exact h
    · cases h
theorem tour_sub {st : Pt} {P Q : List Pt} {a : Int} (h : tourF st P a = 0) (hs : ∀ p ∈ Q, p ∈ P) {m : Int} (hm : (Q.length : Int) ≤ m) : tourF st Q m = 0 := by
  unfold tourF ptsF at *
  by_cases hf : farB st = true
  · rw [hf] at h; simp at h
  · simp only [Bool.not_eq_true] at hf
    rw [hf] at h ⊢
    simp only [Bool.false_eq_true, if_false] at h ⊢
    rw [if_pos hm]
    split at h
    · unfold ptF at h ⊢
      have hP : P.any farB = false := by
        cases hb : P.any farB
        · rfl
        · rw [hb] at h; simp at h
      have hQ : Q.any farB = false := by
        rw [List.any_eq_false] at hP ⊢
        exact fun x hx => hP x (hs x hx)
      rw [hQ]; rfl
    · cases h
theorem CycAll.size {st : Pt} {P : List Pt} {z : Nat} {D : List Nat} {n : Int} (h : CycAll st P z D n) (hn : P.length ≤ 5) : D.length ≤ 5 := by
  obtain ⟨a, b⟩ := h.facts hn
  have hl := b.length_eq
  rw [List.length_range] at hl
  have : D.length ≤ (D.flatMap fun t => tlist st P P.length st t).length := by
    have a' : ∀ t ∈ D, tlist st P P.length st t ≠ [] := fun t ht => (a t ht).2.2.2
    clear a b hl h
    induction D with
    | nil => simp
    | cons t D ih =>
      have h1 := List.length_pos_iff.2 (a' t (by simp))
      have h2 := ih fun x hx => a' x (List.mem_cons_of_mem _ hx)
      rw [List.flatMap_cons, List.length_append, List.length_cons]
      omega
  omega
theorem flat_tlv (st : Pt) (P : List Pt) : ∀ D : List Nat, (D.map (tlv st P)).flatten = nats (D.flatMap fun t => tlist st P P.length st t)
  | [] => rfl
  | t :: D => by
    rw [List.map_cons, List.flatten_cons, flat_tlv st P D, List.flatMap_cons]
    unfold tlv nats
    rw [List.map_append]
theorem backS_next {st : Pt} {P : List Pt} {k : Nat} {p : Pt} (h : P[k]? = some p) : backS st P (k + 1) = backS st P k + 2 * dist st p := sumP_take h
theorem backS_all (st : Pt) (P : List Pt) : backS st P P.length = (P.map fun p => 2 * dist st p).sum := by unfold backS; rw [List.take_length]
theorem backS_bd {st : Pt} {P : List Pt} (hst : Bd st) (hP : ∀ p ∈ P, Bd p) : ∀ k, 0 ≤ backS st P k ∧ backS st P k ≤ P.length * 17592186044416 := by
  intro k
  unfold backS
  have hk : (P.take k).length ≤ P.length := by rw [List.length_take]; omega
  have : ∀ Q : List Pt, (∀ p ∈ Q, p ∈ P) → 0 ≤ (Q.map fun p => 2 * dist st p).sum ∧ (Q.map fun p => 2 * dist st p).sum ≤ Q.length * 17592186044416 := by
    intro Q
    induction Q with
    | nil => intro _; simp
    | cons q Q ih =>
      intro h
      have h1 := dist_bd hst (hP q (h q (by simp)))
      have h2 := ih fun x hx => h x (List.mem_cons_of_mem _ hx)
      simp only [List.map_cons, List.sum_cons, List.length_cons]
      omega
  have h1 := this (P.take k) fun p hp => List.mem_of_mem_take hp
  omega
end Go.Proofs.YtgcmlhpocbgkaaaGreatDoor
