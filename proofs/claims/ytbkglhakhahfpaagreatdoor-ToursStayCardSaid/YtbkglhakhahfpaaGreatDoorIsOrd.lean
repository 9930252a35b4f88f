/- The contracts of slices.Sort of ints that the call owns, of isOrder and of rightPoints. Conditions: short lists. -/
import Derived.Test.YtbkglhakhahfpaaGreatDoorNt
import Derived.Test.YtbkglhakhahfpaaGreatDoorSortRow
import Derived.Test.YtbkglhakhahfpaaGreatDoorLaw
namespace Go.Proofs.YtbkglhakhahfpaaGreatDoor
open Go.RowKit Go.Sort

theorem upto_sorted (n : Nat) : (upto n).Pairwise fun x y => decide (x ≤ y) = true := by
  rw [upto_nats]
  unfold nats
  rw [List.pairwise_map]
  exact List.pairwise_lt_range.imp fun h => by simp; omega
theorem sorted_upto {l : List Int} {n : Nat} (h : l.Perm (upto n)) : (l.mergeSort fun x y => decide (x ≤ y)) = upto n := by
  refine List.Perm.eq_of_pairwise (le := fun x y => decide (x ≤ y) = true) (fun a b _ _ h1 h2 => by simp at h1 h2; omega) (List.pairwise_mergeSort (fun a b c h1 h2 => by simp at *; omega) (fun a b => by simp; omega) l) (upto_sorted n) ((List.mergeSort_perm l _).trans h)
theorem upto_at {n k : Nat} (h : k < n) : (upto n)[k]? = some (k : Int) := by
  rw [upto_nats]; unfold nats; simp [h]
theorem ownp_far {w : World} {B g : Nat} {v : Value} {l : List Pt} (h : OwnP w B v l) (hg : g < B) (j : Nat) (u : Value) : OwnP (w.setCell ⟨g, j, none⟩ u) B v l := by
  refine ⟨h.1, h.2.imp id ?_⟩
  rintro ⟨b, cap, cur, hv, hb, hc, rest⟩
  exact ⟨b, cap, cur, hv, hb, blk_far hc g j u (by omega), rest⟩
set_option maxHeartbeats 4000000 in
theorem rightPoints_any (s m : Nat) (c : Int) (w : World) (h : Str w s c) (hm : m ≤ 100) (hc : c ≤ 800000) :
    Calls Tryz.prog 44 #[.pointer (some ⟨s, 0, none⟩), .int .i64 m] w fun e w' => ∃ (st : Pt) (vp : Value) (P : List Pt), e = .returned (.tuple #[ptv st, vp]) ∧ Bd st ∧ (∀ p ∈ P, Bd p) ∧ P.length ≤ m ∧ OwnP w' w.heap.size vp P ∧ tourF st P 500 = 0 ∧ Str w' s (c + 6 + 5 * m) ∧ w.grownBy w' (some s) := by
  have ls := h.lt
  have h0 := h.alloc (.cells #[.int .i64 0, .int .i64 0] 81)
  have hR0 := blk_new w (.cells #[.int .i64 0, .int .i64 0] 81)
  have hg0 := Gr.alloc (Gr.refl w (some s)) (.cells #[.int .i64 0, .int .i64 0] 81)
  go_enter Tryz.func44, Tryz.ntmps44
  go_wp2_with fail
  generalize w.alloc (.cells #[.int .i64 0, .int .i64 0] 81) = w0 at *
  have l0 := h0.lt
  have z0 := hg0.size
  have lR := blk_lt hR0
  refine (APlace_any s c w0 h0 (by omega)).mono ?_
  rintro e w1 ⟨⟨sx, sy⟩, he, hst, hs1, hg1⟩
  simp only [ptv] at he
  subst he
  have hR1 := Gr.blk hg1 hR0 (by omega)
  have hg01 := Gr.trans hg0 hg1
  have z1 := hg1.size
  clear hg1 hR0 h0
  go_wp2_with fail
  refine (PointsOf_any s m _ w1 hs1 hm (by omega)).mono ?_
  rintro e w2 ⟨vp, P, rfl, hP2, hPl, hPb, hs2, hg2⟩
  have hR2 := Gr.blk hg2 hR1 (by omega)
  have hg02 := Gr.trans hg01 hg2
  have z2 := hg2.size
  obtain ⟨pa, pcap, rfl, hp1, hp2⟩ := Pts.form hP2.pts
  have hP2 := own_base' hP2 (show w.heap.size + 1 ≤ _ by omega)
  have hs3 := hs2.alloc (.cells #[.int .i64 sx, .int .i64 sy] 81)
  have hR3 := blk_old hR2 (.cells #[.int .i64 sx, .int .i64 sy] 81)
  have hP3 := hP2.alloc (.cells #[.int .i64 sx, .int .i64 sy] 81)
  have hg03 := Gr.alloc hg02 (.cells #[.int .i64 sx, .int .i64 sy] 81)
  have hS3 := blk_new w2 (.cells #[.int .i64 sx, .int .i64 sy] 81)
  clear hg2 hR1 hR2 hs2 hs1 hg01 hg02 hg0
  go_wp2_with fail
  refine (TourFault_any (sx, sy) P 500 _ _ (by omega) (hP3.pts.mono (Nat.zero_le _))).mono ?_
  rintro e w4 ⟨rfl, hb4⟩
  have hg4 := Gr.of_below hb4 (some s)
  have hg04 := Gr.trans hg03 hg4
  have hR4 := blk_below hR3 hb4
  have hS4 := blk_below hS3 hb4
  have hP4 := hP3.below hb4
  have hs4 := hs3.below hb4
  have r0 : w4.cell? ⟨w.heap.size, 0, none⟩ = some (.int .i64 0) := blk_cell hR4 0
  have r1 : w4.cell? ⟨w.heap.size, 1, none⟩ = some (.int .i64 0) := blk_cell hR4 1
  have q0 := blk_free hR4 0
  have q1 := blk_free hR4 1
  have s0 : w4.cell? ⟨w2.heap.size, 0, none⟩ = some (.int .i64 sx) := blk_cell hS4 0
  have s1 : w4.cell? ⟨w2.heap.size, 1, none⟩ = some (.int .i64 sy) := blk_cell hS4 1
  clear hR3 hS3 hP3 hs3 hg4 hg03
  by_cases hT : tourF (sx, sy) P 500 = 0
  · rw [hT]
    have hR5 := blk_set (blk_set hR4 0 (.int .i64 sx)) 1 (.int .i64 sy)
    have hs5 := Str.far (Str.far hs4 w.heap.size 0 (by omega) (.int .i64 sx)) w.heap.size 1 (by omega) (.int .i64 sy)
    have hg5 := Gr.set (Gr.set hg04 w.heap.size 0 (.inr (Nat.le_refl _)) (.int .i64 sx)) w.heap.size 1 (.inr (Nat.le_refl _)) (.int .i64 sy)
    have hP5 := ownp_far (ownp_far hP4 (g := w.heap.size) (by omega) 0 (.int .i64 sx)) (g := w.heap.size) (by omega) 1 (.int .i64 sy)
    go_wp2
    generalize (w4.setCell ⟨w.heap.size, 0, none⟩ (.int .i64 sx)).setCell ⟨w.heap.size, 1, none⟩ (.int .i64 sy) = w5 at *
    have t0 : w5.cell? ⟨w.heap.size, 0, none⟩ = some (.int .i64 sx) := blk_cell hR5 0
    have t1 : w5.cell? ⟨w.heap.size, 1, none⟩ = some (.int .i64 sy) := blk_cell hR5 1
    refine bodyPost_ret (v := .tuple #[.agg #[.int .i64 sx, .int .i64 sy], .slice pa P.length pcap]) (by simp [results, Tryz.results44, go_sem, t0, t1]) rfl ?_
    exact ⟨(sx, sy), _, P, rfl, hst, hPb, by omega, own_base' hP5 (by omega), hT, hs5.mono (by omega), hg5⟩
  · have hne := errno_ne hT
    have hR5 := blk_set (blk_set hR4 0 (.int .i64 0)) 1 (.int .i64 0)
    have hs5 := Str.far (Str.far hs4 w.heap.size 0 (by omega) (.int .i64 0)) w.heap.size 1 (by omega) (.int .i64 0)
    have hg5 := Gr.set (Gr.set hg04 w.heap.size 0 (.inr (Nat.le_refl _)) (.int .i64 0)) w.heap.size 1 (.inr (Nat.le_refl _)) (.int .i64 0)
    go_wp2
    generalize (w4.setCell ⟨w.heap.size, 0, none⟩ (.int .i64 0)).setCell ⟨w.heap.size, 1, none⟩ (.int .i64 0) = w5 at *
    have t0 : w5.cell? ⟨w.heap.size, 0, none⟩ = some (.int .i64 0) := blk_cell hR5 0
    have t1 : w5.cell? ⟨w.heap.size, 1, none⟩ = some (.int .i64 0) := blk_cell hR5 1
    refine bodyPost_ret (v := .tuple #[.agg #[.int .i64 0, .int .i64 0], .slice none 0 0]) (by simp [results, Tryz.results44, go_sem, t0, t1]) rfl ?_
    exact ⟨(0, 0), _, [], rfl, by unfold Bd; omega, by simp, Nat.zero_le _, OwnP.nil _ _, by decide, hs5.mono (by omega), hg5⟩
end Go.Proofs.YtbkglhakhahfpaaGreatDoor
