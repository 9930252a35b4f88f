/- Plain law of NoTourIsShorter and of CyclesHaveAllPoints: no order is shorter than what the table gives; more nozzles never make cycles longer. No program. -/
import Derived.Test.YtgcmlhpocbgkaaaGreatDoorCyc
namespace Go.Proofs.YtgcmlhpocbgkaaaGreatDoor
open Go.RowKit Go.Sort

/-- how long the way is from a point through an order and back. -/
def wlen (st : Pt) (P : List Pt) : Pt → List Nat → Int
  | a, [] => dist a st
  | a, k :: o => dist a (pt P k) + wlen st P (pt P k) o
theorem wlen_walk (st : Pt) (P : List Pt) : ∀ (o : List Nat) (a : Pt) (n : Int), (walkTo P a n o).2 + dist (walkTo P a n o).1 st = n + wlen st P a o
  | [], a, n => rfl
  | k :: o, a, n => by
    simp only [walkTo, wlen]
    have := wlen_walk st P o (pt P k) (n + dist a (pt P k))
    show (walkTo P (pt P k) (n + dist a (pt P k)) o).2 + dist (walkTo P (pt P k) (n + dist a (pt P k)) o).1 st = _
    rw [this]; omega
theorem lenOf_wlen (st : Pt) (P : List Pt) (o : List Nat) : lenOf st P o = wlen st P st o := by
  have := wlen_walk st P o st 0
  unfold lenOf
  omega
theorem clr_rest {o : List Nat} {k set : Nat} (hs : set < 2 ^ 64) (hk : k < 64) (hnd : (k :: o).Nodup) (hm : ∀ i, set.testBit i = true ↔ i ∈ k :: o) : ∀ i, (clr set k).testBit i = true ↔ i ∈ o := by
  intro i
  rw [clr_bit hs hk]
  simp only [Bool.and_eq_true, Bool.not_eq_true', decide_eq_false_iff_not, hm i, List.mem_cons]
  have hko := (List.nodup_cons.1 hnd).1
  constructor
  · rintro ⟨h1 | h1, h2⟩
    · exact absurd h1 h2
    · exact h1
  · intro h
    exact ⟨.inr h, fun e => hko (e ▸ h)⟩
theorem V_min {st : Pt} {P : List Pt} (hn : P.length ≤ 16) : ∀ (o : List Nat) (set : Nat) (a : Pt), Sub P.length set → o.Nodup → (∀ i, set.testBit i = true ↔ i ∈ o) → V st P a set ≤ wlen st P a o
  | [], set, a, hs, _, hm => by
    have h0 : set = 0 := by
      apply Classical.byContradiction
      intro h
      obtain ⟨i, hi⟩ := Nat.exists_testBit_of_ne_zero h
      have := (hm i).1 hi
      simp at this
    unfold V
    rw [if_pos h0]; exact Int.le_refl _
  | k :: o, set, a, hs, hnd, hm => by
    have hk := (hm k).2 (by simp)
    have hkn := hs k hk
    have hne : set ≠ 0 := by intro h; rw [h] at hk; simp at hk
    have h1 := (scan_best P (W st P) a set P.length k hkn hk).2.1
    have h2 := V_min (st := st) hn o (clr set k) (pt P k) hs.clr (List.nodup_cons.1 hnd).2 (clr_rest (sub_lt hs hn) (by omega) hnd hm)
    rw [← W_eq st P k (clr set k) (sub_lt hs.clr hn) (by omega)] at h2
    unfold V
    rw [if_neg hne]
    simp only [wlen]
    unfold nextW
    omega
theorem tlist_wlen {st : Pt} {P : List Pt} (hn : P.length ≤ 16) : ∀ (f set : Nat) (a : Pt), Few f set → Sub P.length set → wlen st P a (tlist st P f a set) = V st P a set
  | 0, set, a, hf, _ => by
    have h0 := hf.zero
    simp only [tlist, wlen]
    unfold V
    rw [if_pos h0]
  | f + 1, set, a, hf, hs => by
    simp only [tlist]
    by_cases h0 : set = 0
    · rw [if_pos h0]
      unfold V
      rw [if_pos h0]; rfl
    · obtain ⟨k, hk, hb, hv⟩ := next_ok (st := st) a h0 hs
      have hkn := hs k hb
      rw [if_neg h0, hk, Int.toNat_natCast]
      simp only [wlen]
      rw [tlist_wlen hn f (clr set k) (pt P k) (hf.step (sub_lt hs hn) (by omega) hb) hs.clr, ← W_eq st P k (clr set k) (sub_lt hs.clr hn) (by omega)]
      unfold V
      rw [if_neg h0, hv]
theorem tlist_nodup {st : Pt} {P : List Pt} (hn : P.length ≤ 16) : ∀ (f set : Nat) (a : Pt), Few f set → Sub P.length set → (tlist st P f a set).Nodup
  | 0, _, _, _, _ => List.nodup_nil
  | f + 1, set, a, hf, hs => by
    simp only [tlist]
    by_cases h0 : set = 0
    · rw [if_pos h0]; exact List.nodup_nil
    · obtain ⟨k, hk, hb, _⟩ := next_ok (st := st) a h0 hs
      have hkn := hs k hb
      have hf' := hf.step (sub_lt hs hn) (by omega : k < 64) hb
      rw [if_neg h0, hk, Int.toNat_natCast]
      refine List.nodup_cons.2 ⟨fun h => ?_, tlist_nodup hn f (clr set k) (pt P k) hf' hs.clr⟩
      rw [tlist_mem hn k f (clr set k) (pt P k) hf' hs.clr, clr_bit (sub_lt hs hn) (by omega)] at h
      simp at h
/-- no order of all points is shorter. -/
theorem shortest_least {st : Pt} {P : List Pt} (hn : P.length ≤ 16) (o : List Nat) (hnd : o.Nodup) (hm : ∀ i, i < P.length ↔ i ∈ o) : V st P st (pw P.length - 1) ≤ lenOf st P o := by
  rw [lenOf_wlen]
  exact V_min hn o _ st (sub_full _) hnd (fun i => by rw [full_bit]; simp [hm i])
theorem shortest_len {st : Pt} {P : List Pt} (hn : P.length ≤ 16) : lenOf st P (tlist st P P.length st (pw P.length - 1)) = V st P st (pw P.length - 1) := by
  rw [lenOf_wlen]
  exact tlist_wlen hn _ _ st (Few.start (sub_full _)) (sub_full _)

/-! divisions under more nozzles -/
theorem valid_mono {z z' s t : Nat} (hz : z ≤ z') (h : valid z s t = true) : valid z' s t = true := by
  simp only [valid, Bool.and_eq_true, beq_iff_eq, decide_eq_true_eq] at h ⊢
  exact ⟨h.1, by omega⟩
theorem divs_mono {z z' : Nat} (hz : z ≤ z') : ∀ (f s : Nat) (d : List Nat), d ∈ divs z f s → d ∈ divs z' f s
  | 0, s, d, h => h
  | f + 1, s, d, h => by
    simp only [divs] at h ⊢
    by_cases h0 : s = 0
    · rw [if_pos h0] at h ⊢; exact h
    · rw [if_neg h0] at h ⊢
      obtain ⟨t, ht, hd⟩ := List.mem_flatMap.1 h
      obtain ⟨d', hd', rfl⟩ := List.mem_map.1 hd
      obtain ⟨h1, h2⟩ := List.mem_filter.1 ht
      exact List.mem_flatMap.2 ⟨t, List.mem_filter.2 ⟨h1, valid_mono hz h2⟩, List.mem_map.2 ⟨d', divs_mono hz f _ d' hd', rfl⟩⟩
end Go.Proofs.YtgcmlhpocbgkaaaGreatDoor
