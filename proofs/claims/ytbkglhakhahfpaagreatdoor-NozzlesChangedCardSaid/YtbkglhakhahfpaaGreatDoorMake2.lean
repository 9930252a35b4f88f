/- The contracts of what makes points and orders out of a stream. Condition: at most 900000 numbers taken. · The contracts of what makes orders out of a stream. Condition: at most 900000 numbers taken. -/
import Derived.Test.YtbkglhakhahfpaaGreatDoorStream
namespace Go.Proofs.YtbkglhakhahfpaaGreatDoor
open Go.RowKit Go.Sort

set_option maxHeartbeats 1000000 in
theorem APlace_any (s : Nat) (c : Int) (w : World) (h : Str w s c) (hc : c ≤ 999990) :
    Calls Tryz.prog 139 #[.pointer (some ⟨s, 0, none⟩)] w fun e w' => ∃ p : Pt, e = .returned (ptv p) ∧ Bd p ∧ Str w' s (c + 5) ∧ w.grownBy w' (some s) := by
  go_enter Tryz.func139, Tryz.ntmps139
  have hs := h.lt
  go_wp2_with fail
  refine (Pick_any s c [0, 1, 2, 5, 10, 100, -3] _ _ ((h.alloc _).alloc _) (by omega) (Ints.of_blk (blk_new' (w.alloc _) _ (by simp)) rfl rfl (by simp) (by omega) (by omega)) (by simp) (by simp)).mono ?_
  rintro e w1 ⟨x, rfl, hx, hS1, hG1⟩
  have hx1 : -3 ≤ x ∧ x ≤ 100 := by simp only [List.mem_cons, List.not_mem_nil, or_false] at hx; omega
  have hb1 := Gr.blk hG1 (blk_old (blk_new w _) _) (by omega)
  have hz1 := hG1.size
  simp at hz1
  have hG1' := Gr.trans (Gr.alloc (Gr.alloc (Gr.refl w (some s)) _) _) hG1
  clear hG1 hx
  go_wp2_with fail
  refine (Pick_any s (c + 1) [0, 0, 1, 2, 7, -5] _ _ (hS1.alloc _) (by omega) (Ints.of_blk (blk_new _ _) rfl rfl (by simp) (by omega) hS1.lt) (by simp) (by simp)).mono ?_
  rintro e w2 ⟨y, rfl, hy, hS2, hG2⟩
  have hy1 : -5 ≤ y ∧ y ≤ 7 := by simp only [List.mem_cons, List.not_mem_nil, or_false] at hy; omega
  have hb2 := Gr.blk hG2 (blk_old hb1 _) (by omega)
  have hz2 := hG2.size
  simp at hz2
  have hG2' := Gr.trans (Gr.alloc hG1' _) hG2
  clear hG2 hG1' hb1 hy
  go_wp2_with fail
  refine (Flip_any s (c + 1 + 1) 60 _ (hS2.alloc _) (by omega) (by omega)).mono ?_
  rintro e w3 ⟨r, rfl, hS3, hG3⟩
  have hb3 := Gr.blk hG3 (blk_old hb2 _) (by omega)
  have hp3 := Gr.blk hG3 (blk_new w2 _) (by omega)
  have hz3 := hG3.size
  simp at hz3
  have hG3' := Gr.trans (Gr.alloc hG2' _) hG3
  clear hG3 hG2' hb2
  cases r
  · have c0 := blk_cell hp3 0
    have c1 := blk_cell hp3 1
    have r0 := blk_cell hb3 0
    have r1 := blk_cell hb3 1
    have f0 := blk_free hb3 0
    have f1 := blk_free hb3 1
    simp only [List.getElem?_toArray, List.getElem?_cons_zero, List.getElem?_cons_succ] at c0 c1 r0 r1
    go_wp2
    have hb4 := blk_set (blk_set hb3 0 (.int .i64 x)) 1 (.int .i64 y)
    have k0 := blk_cell hb4 0
    have k1 := blk_cell hb4 1
    refine bodyPost_ret (v := ptv (x, y)) (by simp [results, Tryz.results139, go_sem, ptv, k0, k1]) rfl ⟨(x, y), rfl, ?_, ?_, ?_⟩
    · unfold Bd; simp only; omega
    · exact ((hS3.belowB (B := w.heap.size) (Bl.set (Bl.set (Below.refl _ _) _ _ (by omega) _) _ _ (by omega) _) hs)).mono (by omega)
    · exact Gr.set (Gr.set hG3' _ _ (.inr (by omega)) _) _ _ (.inr (by omega)) _
  · go_wp2_with fail
    refine (Odd_any s (c + 1 + 1 + 1) (-500000) 500000 _ hS3 (by omega) (by omega) (by omega) (by omega)).mono ?_
    rintro e w4 ⟨z, rfl, hz, hS4, hG4⟩
    have hb4 := Gr.blk hG4 hb3 (by omega)
    have hp4 := Gr.blk hG4 hp3 (by omega)
    have hG4' := Gr.trans hG3' hG4
    clear hG4 hG3' hb3 hp3
    have hp5 := blk_set hp4 0 (.int .i64 z)
    have hb5 : (w4.setCell ⟨w2.heap.size, 0, none⟩ (.int .i64 z)).heap[w.heap.size]? = _ := (Below.heap_setCell w4 ⟨w2.heap.size, 0, none⟩ (.int .i64 z) w.heap.size (by show w.heap.size ≠ w2.heap.size; omega)).trans hb4
    have e0 := blk_cell hp4 0
    have e1 := blk_cell hp4 1
    have c0 := blk_cell hp5 0
    have c1 := blk_cell hp5 1
    have r0 := blk_cell hb5 0
    have r1 := blk_cell hb5 1
    have f0 := blk_free hb5 0
    have f1 := blk_free hb5 1
    have f2 := blk_free hp4 0
    have f3 := blk_free hp4 1
    simp only [List.getElem?_toArray, List.getElem?_cons_zero, List.getElem?_cons_succ] at e0 e1 r0 r1
    simp at c0 c1
    go_wp2
    have hb6 := blk_set (blk_set hb5 0 (.int .i64 z)) 1 (.int .i64 y)
    have k0 := blk_cell hb6 0
    have k1 := blk_cell hb6 1
    refine bodyPost_ret (v := ptv (z, y)) (by simp [results, Tryz.results139, go_sem, ptv, k0, k1]) rfl ⟨(z, y), rfl, ?_, ?_, ?_⟩
    · unfold Bd; simp only; omega
    · exact ((hS4.belowB (B := w.heap.size) (Bl.set (Bl.set (Bl.set (Below.refl _ _) _ _ (by omega) _) _ _ (by omega) _) _ _ (by omega) _) hs)).mono (by omega)
    · exact Gr.set (Gr.set (Gr.set hG4' _ _ (.inr (by omega)) _) _ _ (.inr (by omega)) _) _ _ (.inr (by omega)) _

set_option maxHeartbeats 1000000 in
theorem PointsOf_any (s m : Nat) (c : Int) (w : World) (h : Str w s c) (hm : m ≤ 100) (hc : c ≤ 900000) :
    Calls Tryz.prog 140 #[.pointer (some ⟨s, 0, none⟩), .int .i64 m] w fun e w' => ∃ v P, e = .returned v ∧ OwnP w' w.heap.size v P ∧ P.length ≤ m ∧ (∀ p ∈ P, Bd p) ∧ Str w' s (c + 1 + 5 * m) ∧ w.grownBy w' (some s) := by
  have hs := h.lt
  go_enter Tryz.func140, Tryz.ntmps140
  go_wp2_with fail
  refine (Range_any s c 0 m _ h (by omega) (by omega) (by omega) (by omega) (by omega)).mono ?_
  rintro e w1 ⟨n, rfl, ⟨hn0, hn1, _⟩, hS1, hG1⟩
  have hn2 := hn1 (by omega)
  clear hn1
  obtain ⟨n, rfl⟩ := Int.eq_ofNat_of_zero_le hn0
  go_wp2_with fail
  go_loopw [5, 9] (fun v i wr => ∃ (k : Nat) (P : List Pt), k ≤ n ∧ i = .int .i64 k ∧ OwnP wr w.heap.size v P ∧ Hid (P.length = k) ∧ (∀ p ∈ P, Bd p) ∧ Str wr s (c + 1 + 5 * k) ∧ w.grownBy wr (some s)) (fun _ i _ => n - (intOf i).toNat)
  case atStart => exact ⟨0, [], Nat.zero_le _, rfl, OwnP.nil _ _, Lib.hid rfl, by simp, hS1.mono (by omega), hG1⟩
  case round =>
    obtain ⟨k, P, hk, rfl, hO, hP, hB, hS, hG⟩ := hrel
    by_cases hlt : k < n
    · go_wp2_with fail
      refine (APlace_any s _ _ hS (by omega)).mono ?_
      rintro e w2 ⟨p, rfl, hp, hS2, hG2⟩
      have hO2 := hO.grown hG2 hs
      have hG2' := Gr.trans hG hG2
      obtain ⟨px, py⟩ := p
      unfold ptv
      have hz := hG2'.size
      go_wp2_with (at_builtin; refine wp_app_pt rfl _ _ rfl w.heap.size _ P rfl (hO2.alloc _) w2.heap.size 1 (px, py) rfl (by rw [blk_cell (blk_new w2 _) 0]; rfl) (by rw [blk_cell (blk_new w2 _) 1]; rfl) (by rw [hP.out]; omega) (by simp; omega) ?_)
      intro v' w3 hO3 hA3 hb3
      go_wp2
      go_roundw
      case rel => exact ⟨k + 1, P ++ [(px, py)], by omega, by go_num, hO3, Lib.hid (by rw [List.length_append, hP.out]; rfl), by
          intro p hp'; rcases List.mem_append.1 hp' with h | h
          · exact hB p h
          · rw [List.mem_singleton.1 h]; exact hp, ((hS2.alloc _).belowB hb3 hs).mono (by omega), Gr.app (Gr.alloc hG2' _) (hO2.alloc _) hA3 (Nat.le_refl _)⟩
      case measure => simp [intOf]; omega
    · have hk2 : k = n := by omega
      subst hk2
      go_wp2
      go_ret
      exact ⟨_, P, rfl, hO, by rw [hP.out]; omega, hB, hS.mono (by omega), hG⟩
end Go.Proofs.YtbkglhakhahfpaaGreatDoor
namespace Go.Proofs.YtbkglhakhahfpaaGreatDoor
open Go.RowKit Go.Sort

theorem ics_set (l : List Int) (j : Nat) (x : Int) : (ics l).set j (.int .i64 x) = ics (l.set j x) := by simp [ics, List.map_set]
theorem Own.set {w : World} {B g n cap : Nat} {l : List Int} (h : Own w B (.slice (some ⟨g, 0, none⟩) n cap) l) (hn : n = l.length) (j : Nat) (x : Int) : Own (w.setCell ⟨g, j, none⟩ (.int .i64 x)) B (.slice (some ⟨g, 0, none⟩) n cap) (l.set j x) := by
  subst hn
  have hs := (World.ownsRow.stored h j (.int .i64 x)).1
  rw [ics_set] at hs
  unfold Own
  rw [List.length_set]; exact hs
theorem Own.nonnil {w : World} {B : Nat} {v : Value} {l : List Int} (h : Own w B v l) (h0 : l ≠ []) : ∃ g cap, v = .slice (some ⟨g, 0, none⟩) l.length cap ∧ B ≤ g ∧ g < w.heap.size ∧ l.length ≤ cap := by
  rcases h.2 with ⟨_, h1⟩ | ⟨g, cap, cur, rfl, hb, hg, h1, h2, h3, h4⟩
  · exact absurd (List.eq_nil_of_length_eq_zero h1) h0
  · exact ⟨g, cap, rfl, hb, blk_lt hg, h1⟩
theorem Own.cell {w : World} {B g n cap : Nat} {l : List Int} (h : Own w B (.slice (some ⟨g, 0, none⟩) n cap) l) {j : Nat} {x : Int} (hx : l[j]? = some x) : w.cell? ⟨g, j, none⟩ = some (.int .i64 x) := by
  have hj := (List.getElem?_eq_some_iff.1 hx).1
  have := Ints.cells h.ints j hj
  rw [Nat.zero_add] at this
  rw [this, List.getD_eq_getElem?_getD, hx]; rfl
theorem Own.free {w : World} {B g n cap : Nat} {l : List Int} (h : Own w B (.slice (some ⟨g, 0, none⟩) n cap) l) (hn : n = l.length) (j : Nat) : w.frozen? ⟨g, j, none⟩ = false := by
  subst hn
  exact World.ownsRow.frozenAt h j

theorem swap_perm {l : List Int} {i j : Nat} {x y : Int} (h1 : l[i]? = some x) (h2 : l[j]? = some y) : ((l.set i y).set j x).Perm l := by
  obtain ⟨hi, rfl⟩ := List.getElem?_eq_some_iff.1 h1
  obtain ⟨hj, rfl⟩ := List.getElem?_eq_some_iff.1 h2
  exact List.set_set_perm hi hj
def upto (n : Nat) : List Int := (List.range n).map fun (k : Nat) => (k : Int)
theorem upto_succ (n : Nat) : upto (n + 1) = upto n ++ [(n : Int)] := by simp [upto, List.range_succ]
theorem upto_length (n : Nat) : (upto n).length = n := by simp [upto]

set_option maxHeartbeats 1000000 in
set_option maxRecDepth 100000 in
theorem Order_any (s n : Nat) (c : Int) (w : World) (h : Str w s c) (hm : n ≤ 100) (hc : c ≤ 900000) :
    Calls Tryz.prog 45 #[.pointer (some ⟨s, 0, none⟩), .int .i64 n] w fun e w' => ∃ v l, e = .returned v ∧ Own w' w.heap.size v l ∧ Hid (l.Perm (upto n)) ∧ Str w' s (c + n) ∧ w.grownBy w' (some s) := by
  have hs := h.lt
  go_enter Tryz.func45, Tryz.ntmps45
  go_wp2
  go_loopw [5, 10] (fun v i wr => ∃ (k : Nat), k ≤ n ∧ i = .int .i64 k ∧ Own wr w.heap.size v (upto k) ∧ Str wr s c ∧ w.grownBy wr (some s)) (fun _ i _ => n - (intOf i).toNat)
  case atStart => exact ⟨0, Nat.zero_le _, rfl, Own.nil _ _, h, Gr.refl _ _⟩
  case round =>
    obtain ⟨k, hk, rfl, hO, hS, hG⟩ := hrel
    by_cases hlt : k < n
    · have hz := hG.size
      go_wp2_with (at_builtin; refine wp_app_int rfl _ _ rfl w.heap.size _ (upto k) rfl (hO.alloc _) wr.heap.size 1 k rfl (by rw [blk_cell (blk_new wr _) 0]; rfl) (by rw [upto_length]; omega) (by simp; omega) ?_)
      intro v' w3 hO3 hA3 hb3
      rw [← upto_succ] at hO3
      go_wp2
      go_roundw
      case rel => exact ⟨k + 1, by omega, by go_num, hO3, ((hS.alloc _).belowB hb3 hs), Gr.app (Gr.alloc hG _) (hO.alloc _) hA3 (Nat.le_refl _)⟩
      case measure => simp [intOf]; omega
    · have hk2 : k = n := by omega
      subst hk2
      go_wp2
      obtain ⟨wo, hwo⟩ : ∃ wo : World, wo = wr := ⟨_, rfl⟩
      rw [← hwo] at hO hS hG
      have hc0 : Hid (wo = wr) := hwo
      clear hwo
      rw [← hc0.out]
      clear hc0
      go_loopw [7] (fun i wr => ∃ (j : Nat) (l : List Int), j ≤ k ∧ i = .int .i64 ((j : Int) - 1) ∧ Own wr w.heap.size u5 l ∧ Hid (l.Perm (upto k)) ∧ Str wr s (c + ((k : Int) - j)) ∧ w.grownBy wr (some s)) (fun i _ => (intOf i).toNat)
      case atStart => exact ⟨k, upto k, Nat.le_refl _, rfl, hO, Lib.hid (List.Perm.refl _), hS.mono (by omega), hG⟩
      case round =>
        obtain ⟨j, l, hj, rfl, hO, hP, hS, hG⟩ := hrel
        have hll := hP.out.length_eq
        rw [upto_length] at hll
        by_cases hlt : 2 ≤ j
        · obtain ⟨m, rfl⟩ : ∃ m, j = m + 2 := ⟨j - 2, by omega⟩
          rw [show (((m + 2 : Nat) : Int) - 1) = ((m + 1 : Nat) : Int) from by omega]
          obtain ⟨g, cap, rfl, hg1, hg2, hcap⟩ := Own.nonnil hO (by intro e; rw [e] at hll; simp at hll; omega)
          have hlk := Lib.hid hll
          clear hll
          go_wp2_with fail
          refine (Next_any s _ _ _ hS (by omega) (by omega)).mono ?_
          rintro e w2 ⟨r, rfl, ⟨hr0, hr1, _⟩, hS2, hG2⟩
          have hr2 := hr1 (by omega)
          clear hr1
          obtain ⟨r, rfl⟩ := Int.eq_ofNat_of_zero_le hr0
          have hO2 := hO.grown hG2 hs
          have hG2' := Gr.trans hG hG2
          obtain ⟨x, hx⟩ : ∃ x, l[m + 1]? = some x := ⟨_, List.getElem?_eq_getElem (by rw [hlk.out]; omega)⟩
          obtain ⟨y, hy⟩ : ∃ y, l[r]? = some y := ⟨_, List.getElem?_eq_getElem (by rw [hlk.out]; omega)⟩
          have k1 := Own.cell hO2 hx
          have k2 := Own.cell hO2 hy
          have f1 := Own.free hO2 rfl (m + 1)
          have f2 := Own.free hO2 rfl r
          obtain ⟨y', hy'⟩ := cell?_setCell_some (w := w2) (p := ⟨g, m + 1, none⟩) (x := Value.int .i64 y) (q := ⟨g, r, none⟩) (v := Value.int .i64 y) (by go_simp)
          have HX := Lib.hid hx
          have HY := Lib.hid hy
          have HL : Hid (m + 1 < l.length) := Lib.hid (by rw [hlk.out]; omega)
          have HR : Hid (r < l.length) := Lib.hid (by rw [hlk.out]; omega)
          have hl1 : m + 1 < l.length := HL.out
          have hl2 : r < l.length := HR.out
          clear hx hy
          go_wp2
          go_region
          go_wp2
          go_roundw
          case rel =>
            refine ⟨m + 1, (l.set (m + 1) y).set r x, by omega, by congr 1; omega, ?_, Lib.hid ((swap_perm HX.out HY.out).trans hP.out), ?_, Gr.drewN (Gr.set (Gr.set hG2' _ _ (.inr hg1) _) _ _ (.inr hg1) _) 1⟩
            · have := Own.set (Own.set hO2 rfl (m + 1) y) (by rw [List.length_set]) r x
              exact this
            · exact ((hS2.belowB (B := w.heap.size) (Bl.drewN (Bl.set (Bl.set (Below.refl _ _) _ _ hg1 _) _ _ hg1 _) 1) hs)).mono (by omega)
          case measure => simp [intOf]
        · go_wp2
          go_ret
          exact ⟨_, l, rfl, hO, hP, hS.mono (by omega), hG⟩

end Go.Proofs.YtbkglhakhahfpaaGreatDoor
