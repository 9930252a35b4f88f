/- Plain law of NoTourIsShorter and of CyclesHaveAllPoints: no order is shorter than what the table gives; more nozzles never make cycles longer. No program. · Plain law of NoTourIsShorter: turns of parts only shorten an order and keep its elements; what has no gain stays. No program. -/
import Derived.Test.YtbkglhakhahfpaaGreatDoorCyc
import Derived.Test.YtbkglhakhahfpaaGreatDoorNear2
import Derived.Test.YtbkglhakhahfpaaGreatDoorMake2
namespace Go.Proofs.YtbkglhakhahfpaaGreatDoor
open Go.RowKit Go.Sort

/-- how long the way is from a point through an order and back. -/
def wlen (st : Pt) (P : List Pt) : Pt → List Nat → Int
  | a, [] => dist a st
  | a, k :: o => dist a (pt P k) + wlen st P (pt P k) o
theorem wlen_walk (st : Pt) (P : List Pt) : ∀ (o : List Nat) (a : Pt) (n : Int), (walkTo P a n o).2 + dist (walkTo P a n o).1 st = n + wlen st P a o
  | [], a, n => rfl
  | k :: o, a, n => by
    simp only [walkTo, wlen]
    have := wlen_walk st P o (pt P k) (n + dist a (pt P k))
    show (walkTo P (pt P k) (n + dist a (pt P k)) o).2 + dist (walkTo P (pt P k) (n + dist a (pt P k)) o).1 st = _
    rw [this]; omega
theorem lenOf_wlen (st : Pt) (P : List Pt) (o : List Nat) : lenOf st P o = wlen st P st o := by
  have := wlen_walk st P o st 0
  unfold lenOf
  omega
theorem clr_rest {o : List Nat} {k set : Nat} (hs : set < 2 ^ 64) (hk : k < 64) (hnd : (k :: o).Nodup) (hm : ∀ i, set.testBit i = true ↔ i ∈ k :: o) : ∀ i, (clr set k).testBit i = true ↔ i ∈ o := by
  intro i
  rw [clr_bit hs hk]
  simp only [Bool.and_eq_true, Bool.not_eq_true', decide_eq_false_iff_not, hm i, List.mem_cons]
  have hko := (List.nodup_cons.1 hnd).1
  constructor
  · rintro ⟨h1 | h1, h2⟩
    · exact absurd h1 h2
    · exact h1
  · intro h
    exact ⟨.inr h, fun e => hko (e ▸ h)⟩
theorem V_min {st : Pt} {P : List Pt} (hn : P.length ≤ 16) : ∀ (o : List Nat) (set : Nat) (a : Pt), Sub P.length set → o.Nodup → (∀ i, set.testBit i = true ↔ i ∈ o) → V st P a set ≤ wlen st P a o
  | [], set, a, hs, _, hm => by
    have h0 : set = 0 := by
      apply Classical.byContradiction
      intro h
      obtain ⟨i, hi⟩ := Nat.exists_testBit_of_ne_zero h
      have := (hm i).1 hi
      simp at this
    unfold V
    rw [if_pos h0]; exact Int.le_refl _
  | k :: o, set, a, hs, hnd, hm => by
    have hk := (hm k).2 (by simp)
    have hkn := hs k hk
    have hne : set ≠ 0 := by intro h; rw [h] at hk; simp at hk
    have h1 := (scan_best P (W st P) a set P.length k hkn hk).2.1
    have h2 := V_min (st := st) hn o (clr set k) (pt P k) hs.clr (List.nodup_cons.1 hnd).2 (clr_rest (sub_lt hs hn) (by omega) hnd hm)
    rw [← W_eq st P k (clr set k) (sub_lt hs.clr hn) (by omega)] at h2
    unfold V
    rw [if_neg hne]
    simp only [wlen]
    unfold nextW
    omega
theorem tlist_wlen {st : Pt} {P : List Pt} (hn : P.length ≤ 16) : ∀ (f set : Nat) (a : Pt), Few f set → Sub P.length set → wlen st P a (tlist st P f a set) = V st P a set
  | 0, set, a, hf, _ => by
    have h0 := hf.zero
    simp only [tlist, wlen]
    unfold V
    rw [if_pos h0]
  | f + 1, set, a, hf, hs => by
    simp only [tlist]
    by_cases h0 : set = 0
    · rw [if_pos h0]
      unfold V
      rw [if_pos h0]; rfl
    · obtain ⟨k, hk, hb, hv⟩ := next_ok (st := st) a h0 hs
      have hkn := hs k hb
      rw [if_neg h0, hk, Int.toNat_natCast]
      simp only [wlen]
      rw [tlist_wlen hn f (clr set k) (pt P k) (hf.step (sub_lt hs hn) (by omega) hb) hs.clr, ← W_eq st P k (clr set k) (sub_lt hs.clr hn) (by omega)]
      unfold V
      rw [if_neg h0, hv]
theorem tlist_nodup {st : Pt} {P : List Pt} (hn : P.length ≤ 16) : ∀ (f set : Nat) (a : Pt), Few f set → Sub P.length set → (tlist st P f a set).Nodup
  | 0, _, _, _, _ => List.nodup_nil
  | f + 1, set, a, hf, hs => by
    simp only [tlist]
    by_cases h0 : set = 0
    · rw [if_pos h0]; exact List.nodup_nil
    · obtain ⟨k, hk, hb, _⟩ := next_ok (st := st) a h0 hs
      have hkn := hs k hb
      have hf' := hf.step (sub_lt hs hn) (by omega : k < 64) hb
      rw [if_neg h0, hk, Int.toNat_natCast]
      refine List.nodup_cons.2 ⟨fun h => ?_, tlist_nodup hn f (clr set k) (pt P k) hf' hs.clr⟩
      rw [tlist_mem hn k f (clr set k) (pt P k) hf' hs.clr, clr_bit (sub_lt hs hn) (by omega)] at h
      simp at h
/-- no order of all points is shorter. -/
theorem shortest_least {st : Pt} {P : List Pt} (hn : P.length ≤ 16) (o : List Nat) (hnd : o.Nodup) (hm : ∀ i, i < P.length ↔ i ∈ o) : V st P st (pw P.length - 1) ≤ lenOf st P o := by
  rw [lenOf_wlen]
  exact V_min hn o _ st (sub_full _) hnd (fun i => by rw [full_bit]; simp [hm i])
theorem shortest_len {st : Pt} {P : List Pt} (hn : P.length ≤ 16) : lenOf st P (tlist st P P.length st (pw P.length - 1)) = V st P st (pw P.length - 1) := by
  rw [lenOf_wlen]
  exact tlist_wlen hn _ _ st (Few.start (sub_full _)) (sub_full _)

/-! divisions under more nozzles -/
theorem valid_mono {z z' s t : Nat} (hz : z ≤ z') (h : valid z s t = true) : valid z' s t = true := by
  simp only [valid, Bool.and_eq_true, beq_iff_eq, decide_eq_true_eq] at h ⊢
  exact ⟨h.1, by omega⟩
theorem divs_mono {z z' : Nat} (hz : z ≤ z') : ∀ (f s : Nat) (d : List Nat), d ∈ divs z f s → d ∈ divs z' f s
  | 0, s, d, h => h
  | f + 1, s, d, h => by
    simp only [divs] at h ⊢
    by_cases h0 : s = 0
    · rw [if_pos h0] at h ⊢; exact h
    · rw [if_neg h0] at h ⊢
      obtain ⟨t, ht, hd⟩ := List.mem_flatMap.1 h
      obtain ⟨d', hd', rfl⟩ := List.mem_map.1 hd
      obtain ⟨h1, h2⟩ := List.mem_filter.1 ht
      exact List.mem_flatMap.2 ⟨t, List.mem_filter.2 ⟨h1, valid_mono hz h2⟩, List.mem_map.2 ⟨d', divs_mono hz f _ d' hd', rfl⟩⟩
end Go.Proofs.YtbkglhakhahfpaaGreatDoor
namespace Go.Proofs.YtbkglhakhahfpaaGreatDoor
open Go.RowKit Go.Sort

theorem Turns.shorter {st : Pt} {P : List Pt} : ∀ {t : Nat} {o a : List Nat}, Turns st P t o a → lenOf st P a ≤ lenOf st P o
  | 0, o, a, h => by simp only [Turns] at h; rw [h]; exact Int.le_refl _
  | t + 1, o, a, ⟨i, k, hf, h⟩ => by
    have h1 := (rev_len st P o i k (by have := hf.1; omega) hf.2.1).2 hf.2.2.1
    have h2 := h.shorter
    omega
theorem revSeg_perm {o : List Nat} {i m : Nat} (h : i + m ≤ o.length) : (revSeg o i m).Perm o := by
  have ho : o = o.take i ++ (o.drop i).take m ++ o.drop (i + m) := by
    conv => lhs; rw [← List.take_append_drop i o, ← List.take_append_drop m (o.drop i), List.drop_drop]
    rw [List.append_assoc]
  have hr : revSeg o i m = o.take i ++ ((o.drop i).take m).reverse ++ o.drop (i + m) := by
    unfold revSeg splice
    rw [List.length_reverse, List.length_take, List.length_drop, show i + min m (o.length - i) = i + m by omega]
  rw [hr]
  conv => rhs; rw [ho]
  exact ((List.reverse_perm _).append_left _).append_right _
theorem Turns.perm {st : Pt} {P : List Pt} : ∀ {t : Nat} {o a : List Nat}, Turns st P t o a → a.Perm o
  | 0, o, a, h => by simp only [Turns] at h; rw [h]
  | t + 1, o, a, ⟨i, k, hf, h⟩ => h.perm.trans (revSeg_perm (by have := hf.1; have := hf.2.1; omega))
theorem Turns.stay {st : Pt} {P : List Pt} {t : Nat} {o a : List Nat} (hn : NoGain st P o) (h : Turns st P t o a) : a = o := by
  cases t with
  | zero => simpa only [Turns] using h
  | succ t =>
    obtain ⟨i, k, hf, _⟩ := h
    exact absurd hf.2.2.1 (hn i k hf.1 hf.2.1)

theorem nats_perm {a b : List Nat} (h : a.Perm b) : (nats a).Perm (nats b) := h.map _
theorem upto_nats (n : Nat) : upto n = nats (List.range n) := rfl
theorem perm_upto {o : List Nat} {n : Nat} (hnd : o.Nodup) (hm : ∀ i, i ∈ o ↔ i < n) : (nats o).Perm (upto n) := by
  rw [upto_nats]
  exact nats_perm ((List.perm_ext_iff_of_nodup hnd List.nodup_range).2 fun i => by rw [hm i, List.mem_range])
theorem of_upto {l : List Int} {n : Nat} (h : l.Perm (upto n)) : ∃ o : List Nat, l = nats o ∧ o.Perm (List.range n) := by
  refine ⟨l.map Int.toNat, ?_, ?_⟩
  · have : ∀ x ∈ l, ((x.toNat : Nat) : Int) = x := fun x hx => by
      have := h.mem_iff.1 hx
      rw [upto_nats] at this
      obtain ⟨k, _, rfl⟩ := List.mem_map.1 this
      simp
    unfold nats
    rw [List.map_map]
    conv => lhs; rw [← List.map_id l]
    exact List.map_congr_left fun x hx => (this x hx).symm
  · have := h.map Int.toNat
    rw [upto_nats] at this
    unfold nats at this
    rw [List.map_map] at this
    have e : List.map (Int.toNat ∘ fun (k : Nat) => (k : Int)) (List.range n) = List.range n := by
      conv => rhs; rw [← List.map_id (List.range n)]
      exact List.map_congr_left fun x _ => by simp
    rw [e] at this
    exact this
theorem range_facts {o : List Nat} {n : Nat} (h : o.Perm (List.range n)) : o.Nodup ∧ (∀ i, i ∈ o ↔ i < n) ∧ o.length = n := by
  refine ⟨h.symm.nodup_iff.1 List.nodup_range |> fun x => ?_, fun i => by rw [h.mem_iff, List.mem_range], by rw [h.length_eq, List.length_range]⟩
  exact x
theorem near_perm (P : List Pt) (st : Pt) : (nats (nearTo P st P.length).1).Perm (upto P.length) ∧ (nearTo P st P.length).1.Perm (List.range P.length) := by
  obtain ⟨h1, h2, h3⟩ := nearTo_ok P st P.length (Nat.le_refl _)
  have hm : ∀ i, i ∈ (nearTo P st P.length).1 ↔ i < P.length := fun i => ⟨h2 i, fun hi => pigeon_nodup _ P.length h3 h2 (by omega) i hi⟩
  exact ⟨perm_upto h3 hm, (List.perm_ext_iff_of_nodup h3 List.nodup_range).2 fun i => by rw [hm i, List.mem_range]⟩
theorem tlist_perm {st : Pt} {P : List Pt} (hn : P.length ≤ 16) : (nats (tlist st P P.length st (pw P.length - 1))).Perm (upto P.length) ∧ (tlist st P P.length st (pw P.length - 1)).Perm (List.range P.length) := by
  have h3 := tlist_nodup (st := st) hn P.length (pw P.length - 1) st (Few.start (sub_full _)) (sub_full _)
  have hm : ∀ i, i ∈ tlist st P P.length st (pw P.length - 1) ↔ i < P.length := fun i => by
    rw [tlist_mem hn i P.length (pw P.length - 1) st (Few.start (sub_full _)) (sub_full _), full_bit]; simp
  exact ⟨perm_upto h3 hm, (List.perm_ext_iff_of_nodup h3 List.nodup_range).2 fun i => by rw [hm i, List.mem_range]⟩
theorem least_perm {st : Pt} {P : List Pt} (hn : P.length ≤ 16) {o : List Nat} (h : o.Perm (List.range P.length)) : V st P st (pw P.length - 1) ≤ lenOf st P o := by
  obtain ⟨h1, h2, _⟩ := range_facts h
  exact shortest_least hn o h1 fun i => (h2 i).symm
/-- an order's fault: none. -/
theorem ordF_ok {n : Nat} : ∀ (l : List Nat) (seen : List Int), l.Nodup → (∀ k ∈ l, k < n ∧ (k : Int) ∉ seen) → ordF n seen (nats l) = 0
  | [], _, _, _ => rfl
  | k :: l, seen, hnd, h => by
    obtain ⟨h1, h2⟩ := h k (by simp)
    have hk : inB 0 (k : Int) ((n : Int) - 1) = true := inB_true (by omega) (by omega)
    have hm : memB (k : Int) seen = false := memB_no h2
    have := ordF_ok (n := n) l (seen ++ [(k : Int)]) (List.nodup_cons.1 hnd).2 (fun j hj => ⟨(h j (by simp [hj])).1, fun hm => by
      rcases List.mem_append.1 hm with hm | hm
      · exact (h j (by simp [hj])).2 hm
      · simp at hm
        have : j = k := by omega
        exact (List.nodup_cons.1 hnd).1 (this ▸ hj)⟩)
    show ordF n seen ((k : Int) :: nats l) = 0
    simp only [ordF, hk, hm, if_true]
    exact this
theorem orderF_ok {n : Nat} {o : List Nat} (h : o.Perm (List.range n)) : orderF n (nats o) = 0 := by
  obtain ⟨h1, h2, h3⟩ := range_facts h
  unfold orderF
  rw [if_pos (by rw [nats_len, h3])]
  exact ordF_ok o [] h1 fun k hk => ⟨(h2 k).1 hk, by simp⟩
end Go.Proofs.YtbkglhakhahfpaaGreatDoor
