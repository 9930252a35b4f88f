/- The contracts of slices.Sort of ints that the call owns, of isOrder and of rightPoints. Conditions: short lists. -/
import Derived.Test.YtgcmlhpocbgkaaaGreatDoorNt
import Derived.Test.YtgcmlhpocbgkaaaGreatDoorSortRow
import Derived.Test.YtgcmlhpocbgkaaaGreatDoorLaw
namespace Go.Proofs.YtgcmlhpocbgkaaaGreatDoor
open Go.RowKit Go.Sort

theorem Sort_own (l : List Int) (B : Nat) (v : Value) (w : World) (h : Own w B v l) (hl : l.length ≤ 1000000) :
    Calls Tryz.prog 104 #[v] w fun e w' => e = .returned (.tuple #[]) ∧ Own w' B v (l.mergeSort fun x y => decide (x ≤ y)) ∧ w.grownBy w' v.ownBlock := by
  by_cases h0 : l = []
  · subst h0
    rcases h.2 with ⟨rfl, _⟩ | ⟨g, cap, cur, rfl, hB, hb, rest⟩
    · exact (Tryz.slices_Sort_int_none _ _ w).mono fun e w' ⟨he, hw⟩ => ⟨he, by subst hw; rw [List.mergeSort_nil]; exact Own.nil _ _, by subst hw; exact Gr.refl _ _⟩
    · exact (Tryz.slices_Sort_int_none _ _ w).mono fun e w' ⟨he, hw⟩ => ⟨he, by subst hw; rw [List.mergeSort_nil]; exact h, by subst hw; exact Gr.refl _ _⟩
  · obtain ⟨g, cap, rfl, hB, hg, hc⟩ := Own.nonnil h h0
    have h' : w.ownsRow B 3 1 (.slice (some ⟨g, 0, none⟩) l.length cap) l.length (l.map (Value.int .i64)) := h
    obtain ⟨hH, hlt, _⟩ := holds_own (Value.int .i64) h' rfl
    refine (Tryz.slices_Sort_int g 0 cap l w hH hlt (by omega)).mono ?_
    rintro e w' ⟨rfl, q, os, rfl⟩
    refine ⟨rfl, ?_, grownBy_resorted _ _⟩
    have := own_resorted (q := q) (os := os) (Value.int .i64) h' rfl (m := l.mergeSort fun x y => decide (x ≤ y)) (by simp)
    unfold Own
    rw [List.length_mergeSort]
    exact this
theorem upto_sorted (n : Nat) : (upto n).Pairwise fun x y => decide (x ≤ y) = true := by
  rw [upto_nats]
  unfold nats
  rw [List.pairwise_map]
  exact List.pairwise_lt_range.imp fun h => by simp; omega
theorem sorted_upto {l : List Int} {n : Nat} (h : l.Perm (upto n)) : (l.mergeSort fun x y => decide (x ≤ y)) = upto n := by
  refine List.Perm.eq_of_pairwise (le := fun x y => decide (x ≤ y) = true) (fun a b _ _ h1 h2 => by simp at h1 h2; omega) (List.pairwise_mergeSort (fun a b c h1 h2 => by simp at *; omega) (fun a b => by simp; omega) l) (upto_sorted n) ((List.mergeSort_perm l _).trans h)
theorem upto_at {n k : Nat} (h : k < n) : (upto n)[k]? = some (k : Int) := by
  rw [upto_nats]; unfold nats; simp [h]
set_option maxHeartbeats 2000000 in
theorem isOrder_any (l : List Int) (n : Nat) (v : Value) (w : World) (hn : n ≤ 1000) (hp : l.Perm (upto n)) (rl : Ints w 0 v l) :
    Calls Tryz.prog 43 #[v, .int .i64 n] w fun e w' => e = .returned (.bool true) ∧ Below w.heap.size w w' := by
  have hl : l.length = n := by rw [hp.length_eq, upto_length]
  go_enter Tryz.func43, Tryz.ntmps43
  go_wp2_with fail
  refine (Clone_any l v w (by omega) rl).mono ?_
  rintro e w1 ⟨v1, rfl, hO1, hb1⟩
  go_wp2_with fail
  refine (Sort_own l _ v1 w1 hO1 (by omega)).mono ?_
  rintro e w2 ⟨rfl, hO2, hg2⟩
  rw [sorted_upto hp] at hO2
  have hb2 := Below.trans hb1 (app_below hO1 hg2 hb1.size)
  obtain ⟨va, cap, rfl, hc1, hc2⟩ := Ints.form hO2.ints
  rw [upto_length] at hc1
  have hI : Ints w2 0 (.slice va n cap) (upto n) := by have := hO2.ints0; rw [upto_length] at this; exact this
  have hlu : (upto n).length = n := upto_length n
  rw [hlu]
  clear hO1 hO2 hg2 hlu hl hp rl hb1
  go_wp2
  go_loop [14] (fun i => ∃ k : Nat, k ≤ n ∧ i = .int .i64 k) (fun i => n - (intOf i).toNat)
  case atStart => exact ⟨0, Nat.zero_le _, rfl⟩
  case round =>
    obtain ⟨k, hk, rfl⟩ := hrel
    by_cases hlt : k < n
    · obtain ⟨b, o, rfl, _, _, hc⟩ := hI.at (upto_at hlt)
      go_wp2
      go_round
      case rel => exact ⟨k + 1, by omega, by go_num⟩
      case measure => simp [intOf]; omega
    · have : k = n := by omega
      subst this
      clear hI
      go_wp2
      go_ret
      exact ⟨rfl, hb2⟩
theorem ownp_far {w : World} {B g : Nat} {v : Value} {l : List Pt} (h : OwnP w B v l) (hg : g < B) (j : Nat) (u : Value) : OwnP (w.setCell ⟨g, j, none⟩ u) B v l := by
  refine ⟨h.1, h.2.imp id ?_⟩
  rintro ⟨b, cap, cur, hv, hb, hc, rest⟩
  exact ⟨b, cap, cur, hv, hb, blk_far hc g j u (by omega), rest⟩
set_option maxHeartbeats 4000000 in
theorem rightPoints_any (s m : Nat) (c : Int) (w : World) (h : Str w s c) (hm : m ≤ 100) (hc : c ≤ 800000) :
    Calls Tryz.prog 44 #[.pointer (some ⟨s, 0, none⟩), .int .i64 m] w fun e w' => ∃ (st : Pt) (vp : Value) (P : List Pt), e = .returned (.tuple #[ptv st, vp]) ∧ Bd st ∧ (∀ p ∈ P, Bd p) ∧ P.length ≤ m ∧ OwnP w' w.heap.size vp P ∧ tourF st P 500 = 0 ∧ Str w' s (c + 6 + 5 * m) ∧ w.grownBy w' (some s) := by
  have ls := h.lt
  have h0 := h.alloc (.cells #[.int .i64 0, .int .i64 0] 57)
  have hR0 := blk_new w (.cells #[.int .i64 0, .int .i64 0] 57)
  have hg0 := Gr.alloc (Gr.refl w (some s)) (.cells #[.int .i64 0, .int .i64 0] 57)
  go_enter Tryz.func44, Tryz.ntmps44
  go_wp2_with fail
  generalize w.alloc (.cells #[.int .i64 0, .int .i64 0] 57) = w0 at *
  have l0 := h0.lt
  have z0 := hg0.size
  have lR := blk_lt hR0
  refine (APlace_any s c w0 h0 (by omega)).mono ?_
  rintro e w1 ⟨⟨sx, sy⟩, he, hst, hs1, hg1⟩
  simp only [ptv] at he
  subst he
  have hR1 := Gr.blk hg1 hR0 (by omega)
  have hg01 := Gr.trans hg0 hg1
  have z1 := hg1.size
  clear hg1 hR0 h0
  go_wp2_with fail
  refine (PointsOf_any s m _ w1 hs1 hm (by omega)).mono ?_
  rintro e w2 ⟨vp, P, rfl, hP2, hPl, hPb, hs2, hg2⟩
  have hR2 := Gr.blk hg2 hR1 (by omega)
  have hg02 := Gr.trans hg01 hg2
  have z2 := hg2.size
  obtain ⟨pa, pcap, rfl, hp1, hp2⟩ := Pts.form hP2.pts
  have hP2 := own_base' hP2 (show w.heap.size + 1 ≤ _ by omega)
  have hs3 := hs2.alloc (.cells #[.int .i64 sx, .int .i64 sy] 57)
  have hR3 := blk_old hR2 (.cells #[.int .i64 sx, .int .i64 sy] 57)
  have hP3 := hP2.alloc (.cells #[.int .i64 sx, .int .i64 sy] 57)
  have hg03 := Gr.alloc hg02 (.cells #[.int .i64 sx, .int .i64 sy] 57)
  have hS3 := blk_new w2 (.cells #[.int .i64 sx, .int .i64 sy] 57)
  clear hg2 hR1 hR2 hs2 hs1 hg01 hg02 hg0
  go_wp2_with fail
  refine (TourFault_any (sx, sy) P 500 _ _ (by omega) (hP3.pts.mono (Nat.zero_le _))).mono ?_
  rintro e w4 ⟨rfl, hb4⟩
  have hg4 := Gr.of_below hb4 (some s)
  have hg04 := Gr.trans hg03 hg4
  have hR4 := blk_below hR3 hb4
  have hS4 := blk_below hS3 hb4
  have hP4 := hP3.below hb4
  have hs4 := hs3.below hb4
  have r0 : w4.cell? ⟨w.heap.size, 0, none⟩ = some (.int .i64 0) := blk_cell hR4 0
  have r1 : w4.cell? ⟨w.heap.size, 1, none⟩ = some (.int .i64 0) := blk_cell hR4 1
  have q0 := blk_free hR4 0
  have q1 := blk_free hR4 1
  have s0 : w4.cell? ⟨w2.heap.size, 0, none⟩ = some (.int .i64 sx) := blk_cell hS4 0
  have s1 : w4.cell? ⟨w2.heap.size, 1, none⟩ = some (.int .i64 sy) := blk_cell hS4 1
  clear hR3 hS3 hP3 hs3 hg4 hg03
  by_cases hT : tourF (sx, sy) P 500 = 0
  · rw [hT]
    have hR5 := blk_set (blk_set hR4 0 (.int .i64 sx)) 1 (.int .i64 sy)
    have hs5 := Str.far (Str.far hs4 w.heap.size 0 (by omega) (.int .i64 sx)) w.heap.size 1 (by omega) (.int .i64 sy)
    have hg5 := Gr.set (Gr.set hg04 w.heap.size 0 (.inr (Nat.le_refl _)) (.int .i64 sx)) w.heap.size 1 (.inr (Nat.le_refl _)) (.int .i64 sy)
    have hP5 := ownp_far (ownp_far hP4 (g := w.heap.size) (by omega) 0 (.int .i64 sx)) (g := w.heap.size) (by omega) 1 (.int .i64 sy)
    go_wp2
    generalize (w4.setCell ⟨w.heap.size, 0, none⟩ (.int .i64 sx)).setCell ⟨w.heap.size, 1, none⟩ (.int .i64 sy) = w5 at *
    have t0 : w5.cell? ⟨w.heap.size, 0, none⟩ = some (.int .i64 sx) := blk_cell hR5 0
    have t1 : w5.cell? ⟨w.heap.size, 1, none⟩ = some (.int .i64 sy) := blk_cell hR5 1
    refine bodyPost_ret (v := .tuple #[.agg #[.int .i64 sx, .int .i64 sy], .slice pa P.length pcap]) (by simp [results, Tryz.results44, go_sem, t0, t1]) rfl ?_
    exact ⟨(sx, sy), _, P, rfl, hst, hPb, by omega, own_base' hP5 (by omega), hT, hs5.mono (by omega), hg5⟩
  · have hne := errno_ne hT
    have hR5 := blk_set (blk_set hR4 0 (.int .i64 0)) 1 (.int .i64 0)
    have hs5 := Str.far (Str.far hs4 w.heap.size 0 (by omega) (.int .i64 0)) w.heap.size 1 (by omega) (.int .i64 0)
    have hg5 := Gr.set (Gr.set hg04 w.heap.size 0 (.inr (Nat.le_refl _)) (.int .i64 0)) w.heap.size 1 (.inr (Nat.le_refl _)) (.int .i64 0)
    go_wp2
    generalize (w4.setCell ⟨w.heap.size, 0, none⟩ (.int .i64 0)).setCell ⟨w.heap.size, 1, none⟩ (.int .i64 0) = w5 at *
    have t0 : w5.cell? ⟨w.heap.size, 0, none⟩ = some (.int .i64 0) := blk_cell hR5 0
    have t1 : w5.cell? ⟨w.heap.size, 1, none⟩ = some (.int .i64 0) := blk_cell hR5 1
    refine bodyPost_ret (v := .tuple #[.agg #[.int .i64 0, .int .i64 0], .slice none 0 0]) (by simp [results, Tryz.results44, go_sem, t0, t1]) rfl ?_
    exact ⟨(0, 0), _, [], rfl, by unfold Bd; omega, by simp, Nat.zero_le _, OwnP.nil _ _, by decide, hs5.mono (by omega), hg5⟩
end Go.Proofs.YtgcmlhpocbgkaaaGreatDoor
