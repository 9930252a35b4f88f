/- Plain law of CyclesHaveAllPoints: the cycles of the least division have each point once, none has too many; each is a shortest order of its points; more nozzles never make them longer; one nozzle goes to each point alone. No program. -/
import Derived.Test.YtgcmlhpocbgkaaaGreatDoorCycL
import Derived.Test.YtgcmlhpocbgkaaaGreatDoorNt
namespace Go.Proofs.YtgcmlhpocbgkaaaGreatDoor
open Go.RowKit Go.Sort

theorem sub_bits_all : ((List.range 32).all fun s => (List.range 32).all fun t => (t &&& s != t) || (List.range 5).all fun i => (s - t).testBit i == (s.testBit i && !t.testBit i)) = true := by kernel_rfl
theorem bit_small {s i : Nat} (hs : s < 32) (h : s.testBit i = true) : i < 5 := by
  apply Classical.byContradiction
  intro hi
  have := Nat.testBit_lt_two_pow (x := s) (i := i) (Nat.lt_of_lt_of_le hs (Nat.pow_le_pow_right (n := 2) (by omega) (show 5 ≤ i by omega)))
  rw [h] at this; cases this
theorem sub_bits {s t : Nat} (hs : s < 32) (ht : t ≤ s) (h : t &&& s = t) (i : Nat) : (s - t).testBit i = true ↔ s.testBit i = true ∧ t.testBit i = false := by
  have ha := sub_bits_all
  rw [List.all_eq_true] at ha
  have h1 := ha s (List.mem_range.2 hs)
  rw [List.all_eq_true] at h1
  have h2 := h1 t (List.mem_range.2 (by omega))
  simp only [Bool.or_eq_true, bne_iff_ne, ne_eq, h, not_true_eq_false, false_or, List.all_eq_true, beq_iff_eq] at h2
  by_cases hi : i < 5
  · have := h2 i (List.mem_range.2 hi)
    rw [this]; simp
  · constructor
    · intro hb; exact absurd (bit_small (s := s - t) (by omega) hb) hi
    · intro ⟨hb, _⟩; exact absurd (bit_small hs hb) hi
theorem popc_list {t : Nat} (ht : t < 32) : ∀ i, i ∈ (List.range 8).filter (fun i => t.testBit i) ↔ t.testBit i = true := fun i => by
  rw [List.mem_filter, List.mem_range]
  constructor
  · intro h; exact h.2
  · intro h; have := bit_small ht h; exact ⟨by omega, h⟩
/-- a list of numbers for each set: its members, each once. -/
structure Mem (f : Nat → List Nat) : Prop where
  nd : ∀ t, t < 32 → (f t).Nodup
  mem : ∀ t, t < 32 → ∀ i, i ∈ f t ↔ t.testBit i = true
theorem Mem.len {f : Nat → List Nat} (h : Mem f) {t : Nat} (ht : t < 32) : (f t).length = popc t := by
  have hp : (f t).Perm ((List.range 8).filter fun i => t.testBit i) := (List.perm_ext_iff_of_nodup (h.nd t ht) (List.nodup_range.filter _)).2 fun i => by rw [h.mem t ht i, popc_list ht i]
  exact hp.length_eq
theorem Mem.some {f : Nat → List Nat} (h : Mem f) {t : Nat} (ht : t < 32) (h0 : t ≠ 0) : f t ≠ [] := by
  obtain ⟨i, hi⟩ := Nat.exists_testBit_of_ne_zero h0
  have := (h.mem t ht i).2 hi
  intro e; rw [e] at this; simp at this
theorem divs_mem {z : Nat} {f : Nat → List Nat} (hf : Mem f) : ∀ (n s : Nat) (d : List Nat), s < 32 → d ∈ divs z n s →
    (∀ t ∈ d, 1 ≤ t ∧ t < 32 ∧ popc t ≤ z ∧ ∀ i, t.testBit i = true → s.testBit i = true) ∧ (d.flatMap f).Nodup ∧ (∀ i, i ∈ d.flatMap f ↔ s.testBit i = true)
  | 0, s, d, hs, hd => by
    simp only [divs] at hd
    by_cases h0 : s = 0
    · rw [if_pos h0] at hd
      obtain rfl : d = [] := by simpa using hd
      subst h0
      exact ⟨by simp, by simp, by simp⟩
    · rw [if_neg h0] at hd; simp at hd
  | n + 1, s, d, hs, hd => by
    simp only [divs] at hd
    by_cases h0 : s = 0
    · rw [if_pos h0] at hd
      obtain rfl : d = [] := by simpa using hd
      subst h0
      exact ⟨by simp, by simp, by simp⟩
    · rw [if_neg h0] at hd
      obtain ⟨t, ht, hd⟩ := List.mem_flatMap.1 hd
      obtain ⟨d', hd', rfl⟩ := List.mem_map.1 hd
      have hv := (List.mem_filter.1 ht).2
      obtain ⟨l1, l2, l3⟩ := valid_le hv
      simp only [valid, Bool.and_eq_true, beq_iff_eq, decide_eq_true_eq] at hv
      have hsb := sub_bits hs l1 hv.1.1
      obtain ⟨i1, i2, i3⟩ := divs_mem hf n (s - t) d' (by omega) hd'
      refine ⟨fun x hx => ?_, ?_, fun i => ?_⟩
      · rcases List.mem_cons.1 hx with rfl | hx
        · exact ⟨l2, by omega, hv.2, l3⟩
        · obtain ⟨a, b, c, e⟩ := i1 x hx
          exact ⟨a, b, c, fun i hi => ((hsb i).1 (e i hi)).1⟩
      · rw [List.flatMap_cons, List.nodup_append]
        refine ⟨hf.nd t (by omega), i2, fun a ha b hb hab => ?_⟩
        subst hab
        have h1 := (hf.mem t (by omega) a).1 ha
        have h2 := ((hsb a).1 ((i3 a).1 hb)).2
        rw [h1] at h2; cases h2
      · rw [List.flatMap_cons, List.mem_append, hf.mem t (by omega) i, i3 i, hsb i]
        constructor
        · rintro (h | h)
          · exact l3 i h
          · exact h.1
        · intro h
          by_cases hb : t.testBit i = true
          · exact .inl hb
          · exact .inr ⟨h, by simpa using hb⟩
theorem mem_tlist {st : Pt} {P : List Pt} (hn : P.length ≤ 5) {t : Nat} (ht : t < pw P.length) : (tlist st P P.length st t).Nodup ∧ ∀ i, i ∈ tlist st P P.length st t ↔ t.testBit i = true :=
  ⟨tlist_nodup (by omega) _ _ _ (Few.start (sub_of_lt ht)) (sub_of_lt ht), fun i => tlist_mem (by omega) i _ _ _ (Few.start (sub_of_lt ht)) (sub_of_lt ht)⟩
/-- a list of each set's members; of the sets of few points: the shortest order. -/
def memF (st : Pt) (P : List Pt) (t : Nat) : List Nat := if t < pw P.length then tlist st P P.length st t else (List.range 8).filter fun i => t.testBit i
theorem memF_ok (st : Pt) {P : List Pt} (hn : P.length ≤ 5) : Mem (memF st P) := by
  refine ⟨fun t ht => ?_, fun t ht i => ?_⟩
  · unfold memF
    by_cases h : t < pw P.length
    · rw [if_pos h]; exact (mem_tlist hn h).1
    · rw [if_neg h]; exact List.nodup_range.filter _
  · unfold memF
    by_cases h : t < pw P.length
    · rw [if_pos h]; exact (mem_tlist hn h).2 i
    · rw [if_neg h]; exact popc_list ht i
theorem sum_perm {a b : List Int} (h : a.Perm b) : a.sum = b.sum := by
  induction h with
  | nil => rfl
  | cons x _ ih => rw [List.sum_cons, List.sum_cons, ih]
  | swap x y l => simp only [List.sum_cons]; omega
  | trans _ _ h1 h2 => exact h1.trans h2

/-! a shortest order, by other numbers -/
theorem wlen_map (st : Pt) (P : List Pt) (g : List Nat) : ∀ (o : List Nat) (a : Pt), (∀ j ∈ o, j < g.length) → wlen st (g.map (pt P)) a o = wlen st P a (o.map fun j => g.getD j 0)
  | [], _, _ => rfl
  | j :: o, a, h => by
    have hj := h j (by simp)
    have e : pt (g.map (pt P)) j = pt P (g.getD j 0) := by
      rw [pt_map (List.getElem?_eq_getElem hj), List.getD_eq_getElem?_getD, List.getElem?_eq_getElem hj]; rfl
    rw [List.map_cons]
    simp only [wlen]
    rw [e, wlen_map st P g o _ (fun j hj => h j (List.mem_cons_of_mem _ hj))]
theorem map_range_getD (g : List Nat) : (List.range g.length).map (fun j => g.getD j 0) = g := by
  apply List.ext_getElem?
  intro i
  rw [List.getElem?_map]
  by_cases hi : i < g.length
  · rw [List.getElem?_range hi, List.getElem?_eq_getElem hi]; simp [List.getD_eq_getElem?_getD, List.getElem?_eq_getElem hi]
  · rw [List.getElem?_eq_none (by simp; omega), List.getElem?_eq_none (by omega)]; rfl
theorem part_V (st : Pt) (P : List Pt) (hn : P.length ≤ 5) {t : Nat} (ht : t < pw P.length) :
    V st ((tlist st P P.length st t).map (pt P)) st (pw ((tlist st P P.length st t).map (pt P)).length - 1) = V st P st t := by
  obtain ⟨hnd, hmem⟩ := mem_tlist (st := st) hn ht
  have hw := tlist_wlen (st := st) (P := P) (by omega) P.length t st (Few.start (sub_of_lt ht)) (sub_of_lt ht)
  generalize tlist st P P.length st t = g at *
  have hgl : g.length ≤ 5 := by
    have := nodup_le P.length g hnd (fun k hk => sub_of_lt ht k ((hmem k).1 hk))
    omega
  have hQ : (g.map (pt P)).length = g.length := List.length_map _
  have h1 : V st (g.map (pt P)) st (pw (g.map (pt P)).length - 1) ≤ V st P st t := by
    have := least_perm (st := st) (P := g.map (pt P)) (by omega) (o := List.range g.length) (by rw [hQ])
    rw [lenOf_wlen, wlen_map st P g _ _ (fun j hj => List.mem_range.1 hj), map_range_getD, hw] at this
    exact this
  have h2 : V st P st t ≤ V st (g.map (pt P)) st (pw (g.map (pt P)).length - 1) := by
    have hs := shortest_len (st := st) (P := g.map (pt P)) (by omega)
    have hp := (tlist_perm (st := st) (P := g.map (pt P)) (by omega)).2
    obtain ⟨q1, q2, q3⟩ := range_facts hp
    rw [lenOf_wlen, wlen_map st P g _ _ (fun j hj => by have := (q2 j).1 hj; omega)] at hs
    rw [← hs]
    have hpg : ((tlist st (g.map (pt P)) (g.map (pt P)).length st (pw (g.map (pt P)).length - 1)).map fun j => g.getD j 0).Perm g := by
      have := hp.map (fun j => g.getD j 0)
      rw [hQ, map_range_getD] at this
      rw [hQ]
      exact this
    exact V_min (by omega) _ t st (sub_of_lt ht) (hpg.symm.nodup_iff.1 hnd |> fun x => x) (fun i => by rw [hpg.mem_iff, hmem i])
  omega
theorem one_V (st : Pt) (P : List Pt) (hn : P.length ≤ 5) {t : Nat} (ht : t < pw P.length) (h1 : popc t ≤ 1) (h0 : 1 ≤ t) : V st P st t = ((tlist st P P.length st t).map fun k => 2 * dist st (pt P k)).sum := by
  have ht32 : t < 32 := Nat.lt_of_lt_of_le ht (pw_5 hn)
  have hw := tlist_wlen (st := st) (P := P) (by omega) P.length t st (Few.start (sub_of_lt ht)) (sub_of_lt ht)
  have hl := (memF_ok st hn).len ht32
  have hs := (memF_ok st hn).some ht32 (by omega)
  unfold memF at hl hs
  rw [if_pos ht] at hl hs
  rw [← hw]
  generalize tlist st P P.length st t = g at *
  match g, hl, hs with
  | [], _, hs => exact absurd rfl hs
  | [k], _, _ =>
    simp only [wlen, List.map_cons, List.map_nil, List.sum_cons, List.sum_nil]
    have : dist (pt P k) st = dist st (pt P k) := dist_comm _ _
    omega
  | _ :: _ :: _, hl, _ => simp only [List.length_cons] at hl; omega
theorem sum_flat (f : Nat → List Nat) (v : Nat → Int) : ∀ d : List Nat, ((d.flatMap f).map v).sum = (d.map fun t => ((f t).map v).sum).sum
  | [] => rfl
  | t :: d => by rw [List.flatMap_cons, List.map_append, List.sum_append, List.map_cons, List.sum_cons, sum_flat f v d]
theorem sum_congr {f g : Nat → Int} : ∀ {d : List Nat}, (∀ t ∈ d, f t = g t) → (d.map f).sum = (d.map g).sum
  | [], _ => rfl
  | t :: d, h => by rw [List.map_cons, List.map_cons, List.sum_cons, List.sum_cons, h t (by simp), sum_congr fun x hx => h x (List.mem_cons_of_mem _ hx)]
theorem map_pt_range (v : Pt → Int) : ∀ P : List Pt, ((List.range P.length).map fun k => v (pt P k)) = P.map v := fun P => by
  apply List.ext_getElem?
  intro i
  rw [List.getElem?_map, List.getElem?_map]
  by_cases hi : i < P.length
  · rw [List.getElem?_range hi, List.getElem?_eq_getElem hi]; simp [pt, List.getD_eq_getElem?_getD, List.getElem?_eq_getElem hi]
  · rw [List.getElem?_eq_none (by simp; omega), List.getElem?_eq_none (by omega)]; rfl

/-! the least division -/
theorem cyc_div (st : Pt) (P : List Pt) {z : Nat} {L : Nat → Int × Int} {F : Nat → Nat} (hz1 : 1 ≤ z) (hz8 : z ≤ 8) (hn : P.length ≤ 5) (h0 : L 0 = (0, 0)) (hF : ∀ s, 0 < s → s < pw P.length → Best (tlv st P) (lgv st P) z L s 0 (L s) (F s)) :
    walkF F 31 (pw P.length - 1) ∈ divs z 31 (pw P.length - 1) ∧ (L (pw P.length - 1)).1 = ((walkF F 31 (pw P.length - 1)).map (lgv st P)).sum ∧ ∀ d ∈ divs z 31 (pw P.length - 1), ((walkF F 31 (pw P.length - 1)).map (lgv st P)).sum ≤ (d.map (lgv st P)).sum := by
  have hinj : ∀ s t, s < 2 ^ P.length → t < 2 ^ P.length → tlv st P s = tlv st P t → s = t := fun s t hs ht h => tlv_inj st P (by omega) hs ht h
  have hp : 2 ^ P.length ≤ 32 := pw_5 hn
  have hp0 : 0 < 2 ^ P.length := Nat.two_pow_pos _
  have hv := has_valid
  rw [List.all_eq_true] at hv
  have hex : ∀ set, 0 < set → set < 2 ^ P.length → ∃ t, valid z set t = true := by
    intro set hs0 hs
    have hv1 := hv set (List.mem_range.2 (by omega))
    rw [List.all_eq_true] at hv1
    have hv2 := hv1 (z - 1) (List.mem_range.2 (by omega))
    rw [show z - 1 + 1 = z by omega] at hv2
    simp only [Bool.or_eq_true, beq_iff_eq, List.any_eq_true] at hv2
    rcases hv2 with hv2 | ⟨t, _, ht⟩
    · omega
    · exact ⟨t, ht⟩
  obtain ⟨w1, w2, w3⟩ := dp_min (tlv st P) (lgv st P) hinj hex h0 hF 31 (2 ^ P.length - 1) (by omega) (by omega)
  refine ⟨w1, ?_, fun d hd => ?_⟩
  · show (L (2 ^ P.length - 1)).1 = _
    rw [w2]; rfl
  · have := w3 d hd
    unfold le3 valD at this
    rcases this with h | ⟨h, _⟩
    · exact Int.le_of_lt h
    · exact Int.le_of_eq h
structure CycAll (st : Pt) (P : List Pt) (z : Nat) (D : List Nat) (n : Int) : Prop where
  mem : D ∈ divs z 31 (pw P.length - 1)
  sum : n = (D.map (lgv st P)).sum
  least : ∀ d ∈ divs z 31 (pw P.length - 1), n ≤ (d.map (lgv st P)).sum
theorem CycAll.of {st : Pt} {P : List Pt} {z : Nat} {L : Nat → Int × Int} {F : Nat → Nat} (hz1 : 1 ≤ z) (hz8 : z ≤ 8) (hn : P.length ≤ 5) (h0 : L 0 = (0, 0)) (hF : ∀ s, 0 < s → s < pw P.length → Best (tlv st P) (lgv st P) z L s 0 (L s) (F s)) :
    CycAll st P z (walkF F 31 (pw P.length - 1)) (L (pw P.length - 1)).1 := by
  obtain ⟨a, b, c⟩ := cyc_div st P hz1 hz8 hn h0 hF
  exact ⟨a, b, fun d hd => by rw [b]; exact c d hd⟩
theorem CycAll.mono {st : Pt} {P : List Pt} {z z' : Nat} {D D' : List Nat} {n m : Int} (h : CycAll st P z D n) (h' : CycAll st P z' D' m) (hz : z ≤ z') : m ≤ n := by
  have := h'.least D (divs_mono hz _ _ _ h.mem)
  rw [← h.sum] at this
  exact this
section
variable {st : Pt} {P : List Pt} {z : Nat} {D : List Nat} {n : Int} (h : CycAll st P z D n) (hn : P.length ≤ 5)
include h hn
theorem CycAll.facts : (∀ t ∈ D, 1 ≤ t ∧ t < pw P.length ∧ (tlist st P P.length st t).length ≤ z ∧ tlist st P P.length st t ≠ []) ∧ (D.flatMap fun t => tlist st P P.length st t).Perm (List.range P.length) := by
  have hp5 := pw_5 hn
  have hp0 : 0 < pw P.length := Nat.two_pow_pos _
  obtain ⟨a, b, c⟩ := divs_mem (memF_ok st hn) 31 (pw P.length - 1) D (by omega) h.mem
  have hlt : ∀ t ∈ D, t < pw P.length := fun t ht => sub_pw fun i hi => by
    have := (a t ht).2.2.2 i hi
    rw [full_bit] at this
    simpa using this
  have hfl : ∀ d : List Nat, (∀ t ∈ d, t < pw P.length) → d.flatMap (memF st P) = d.flatMap fun t => tlist st P P.length st t := by
    intro d
    induction d with
    | nil => intro _; rfl
    | cons t d ih =>
      intro hd
      rw [List.flatMap_cons, List.flatMap_cons, ih fun x hx => hd x (List.mem_cons_of_mem _ hx)]
      unfold memF
      rw [if_pos (hd t (by simp))]
  refine ⟨fun t ht => ?_, ?_⟩
  · obtain ⟨q1, q2, q3, _⟩ := a t ht
    have h1 := (memF_ok st hn).len q2
    have h2 := (memF_ok st hn).some q2 (by omega)
    unfold memF at h1 h2
    rw [if_pos (hlt t ht)] at h1 h2
    exact ⟨q1, hlt t ht, by omega, h2⟩
  · rw [← hfl D hlt]
    refine (List.perm_ext_iff_of_nodup b List.nodup_range).2 fun i => ?_
    rw [c i, full_bit, List.mem_range]; simp
theorem CycAll.empty : D = [] ↔ P = [] := by
  obtain ⟨a, b⟩ := h.facts hn
  constructor
  · intro e; subst e
    have := b.length_eq
    simp at this
    exact List.eq_nil_of_length_eq_zero this.symm
  · intro e; subst e
    cases D with
    | nil => rfl
    | cons t D =>
      have := (a t (by simp)).2.2.2
      have hl := b.length_eq
      rw [List.flatMap_cons, List.length_append, List.length_range, List.length_nil] at hl
      have h1 := List.length_pos_iff.2 this
      rw [List.length_nil] at h1
      omega
end
theorem CycAll.alone {st : Pt} {P : List Pt} {D : List Nat} {n : Int} (h : CycAll st P 1 D n) (hn : P.length ≤ 5) : n = (P.map fun p => 2 * dist st p).sum := by
  have hp5 := pw_5 hn
  have hp0 : 0 < pw P.length := Nat.two_pow_pos _
  obtain ⟨a, b, c⟩ := divs_mem (memF_ok st hn) 31 (pw P.length - 1) D (by omega) h.mem
  obtain ⟨f1, f2⟩ := h.facts hn
  rw [h.sum]
  have e1 : (D.map (lgv st P)).sum = (D.map fun t => ((tlist st P P.length st t).map fun k => 2 * dist st (pt P k)).sum).sum :=
    sum_congr fun t ht => one_V st P hn (f1 t ht).2.1 (a t ht).2.2.1 (a t ht).1
  rw [e1, ← sum_flat, sum_perm (f2.map _), map_pt_range fun p => 2 * dist st p]
end Go.Proofs.YtgcmlhpocbgkaaaGreatDoor
