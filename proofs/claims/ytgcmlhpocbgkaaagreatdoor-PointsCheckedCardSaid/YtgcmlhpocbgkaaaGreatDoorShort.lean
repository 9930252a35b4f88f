/- The contracts of Shortest, Distance and toured. Condition: coordinates within 2^41. -/
import Derived.Test.YtgcmlhpocbgkaaaGreatDoorFtour
namespace Go.Proofs.YtgcmlhpocbgkaaaGreatDoor
open Go.RowKit Go.Sort

theorem tourF_len {st : Pt} {P : List Pt} {m : Int} (h : tourF st P m = 0) : (P.length : Int) ≤ m := by
  unfold tourF ptsF at h
  apply Classical.byContradiction
  intro hc
  split at h
  · omega
  · omega
theorem sub_full (n : Nat) : Sub n (pw n - 1) := sub_of_lt (by have : 0 < pw n := Nat.two_pow_pos _; omega)

set_option maxHeartbeats 2000000 in
set_option maxRecDepth 100000 in
theorem Shortest_any (st : Pt) (P : List Pt) (vp : Value) (w : World) (hst : Bd st) (hPb : ∀ p ∈ P, Bd p) (hn : P.length ≤ 1000) (rp : Pts w 0 vp P) :
    Calls Tryz.prog 46 #[ptv st, vp] w fun e w' => (∃ (r : List Int) (vr : Value) (n : Int), e = .returned (.tuple #[vr, .int .i64 n, .int .i64 (tourF st P 9)]) ∧ Own w' w.heap.size vr r ∧ (tourF st P 9 ≠ 0 → r = [] ∧ n = 0) ∧
      (tourF st P 9 = 0 → r = nats (tlist st P P.length st (pw P.length - 1)) ∧ n = V st P st (pw P.length - 1))) ∧ Below w.heap.size w w' := by
  obtain ⟨sx, sy⟩ := st
  obtain ⟨a, cap, rfl, hc1, hc2⟩ := Pts.form rp
  unfold ptv
  by_cases hT : tourF (sx, sy) P 9 = 0
  · have HT := Lib.hid hT
    have h9 := tourF_len hT
    have hpw := pw_10 (n := P.length) (by omega)
    have hp1 : 1 ≤ pw P.length := Nat.two_pow_pos _
    have q1 := wrap_pw P.length (by omega)
    have q2 : IntKind.i64.wrap (((pw P.length : Nat) : Int) - 1) = ((pw P.length - 1 : Nat) : Int) := by rw [IntWalk.i64_in _ (by omega)]; omega
    clear hT
    go_enter Tryz.func46, Tryz.ntmps46
    go_wp2_with fail
    refine (pointsFault_any (sx, sy) P 9 _ _ hn (rp.alloc _)).mono ?_
    rintro e w1 ⟨rfl, hb1⟩
    rw [HT.out]
    have hb1' := (Bl.alloc (Below.refl w.heap.size w) _).trans (hb1.mono (by simp))
    obtain ⟨z1, z2⟩ := blk2 (blk_below (blk_new w (.cells #[.int .i64 sx, .int .i64 sy] 57)) hb1)
    clear hb1
    go_wp2
    go_region_with ((first
      | (go_at_call 107; refine (newFinder_any (sx, sy) P _ w1.drew hst hPb (by omega) (rp.below (Below.drew hb1'))).mono ?_; rintro e w2 ⟨⟨F, gl, r, T, rfl, hFs, hF, hT, hTW⟩, hb2⟩)
      | (go_at_call 108; refine (ftour_any (sx, sy) P _ F gl (pw P.length - 1) r T w2 hst hPb (by omega) hF hT hTW (sub_full _) (rp.below (Bl.trans (Below.drew hb1') hb2))).mono ?_; rintro e w3 ⟨⟨v3, rfl, hO3⟩, hb3⟩)))
    all_goals go_wp2
    all_goals (
      go_ret3
      rw [HT.out]
      have hb13 := Bl.trans (Below.drew hb1') hb2
      exact ⟨⟨_, _, _, rfl, own_base hO3 hb13.size, fun h => absurd rfl h, fun _ => ⟨rfl, rfl⟩⟩, Bl.trans hb13 hb3⟩)
  · have hne := errno_ne hT
    have HT := Lib.hid hT
    clear hT
    generalize hg : tourF (sx, sy) P 9 = f at *
    have HG := Lib.hid hg
    clear hg
    go_enter Tryz.func46, Tryz.ntmps46
    go_wp2_with fail
    refine (pointsFault_any (sx, sy) P 9 _ _ hn (rp.alloc _)).mono ?_
    rintro e w1 ⟨rfl, hb1⟩
    rw [HG.out]
    have hb1' := (Bl.alloc (Below.refl w.heap.size w) _).trans (hb1.mono (by simp))
    go_wp2
    go_ret3
    exact ⟨⟨[], _, 0, rfl, Own.nil _ _, fun _ => ⟨rfl, rfl⟩, fun h => absurd h HT.out⟩, hb1'⟩

set_option maxHeartbeats 1000000 in
theorem Distance_any (w : World) : Calls Tryz.prog 33 #[.agg #[.int .i64 1, .int .i64 1], .agg #[.int .i64 4, .int .i64 3]] w fun e w' => e = .returned (.tuple #[.int .i64 3, .int .i64 0]) ∧ Below w.heap.size w w' := by
  have h1 : farB (1, 1) = false := by decide
  have h2 : farB (4, 3) = false := by decide
  have h3 : dist (1, 1) (4, 3) = 3 := by decide
  have b1 : Bd (1, 1) := by unfold Bd; omega
  have b2 : Bd (4, 3) := by unfold Bd; omega
  have c1 : ∀ w, Calls Tryz.prog 89 #[.agg #[.int .i64 1, .int .i64 1]] w fun e w' => e = .returned (.bool false) ∧ Below w.heap.size w w' := fun w => by rw [← h1]; exact isFar_any (1, 1) w
  have c2 : ∀ w, Calls Tryz.prog 89 #[.agg #[.int .i64 4, .int .i64 3]] w fun e w' => e = .returned (.bool false) ∧ Below w.heap.size w w' := fun w => by rw [← h2]; exact isFar_any (4, 3) w
  have c3 : ∀ w, Calls Tryz.prog 90 #[.agg #[.int .i64 1, .int .i64 1], .agg #[.int .i64 4, .int .i64 3]] w fun e w' => e = .returned (.int .i64 3) ∧ Below w.heap.size w w' := fun w => by rw [← h3]; exact distance_xy 1 1 4 3 w b1 b2
  go_enter Tryz.func33, Tryz.ntmps33
  have hA := blk_old (blk_new w (.cells #[.int .i64 1, .int .i64 1] 57)) (.cells #[.int .i64 4, .int .i64 3] 57)
  have hB := blk_new' (w.alloc (.cells #[.int .i64 1, .int .i64 1] 57)) (.cells #[.int .i64 4, .int .i64 3] 57) (g := w.heap.size + 1) (by simp)
  have hb := Bl.alloc (Bl.alloc (Below.refl w.heap.size w) (.cells #[.int .i64 1, .int .i64 1] 57)) (.cells #[.int .i64 4, .int .i64 3] 57)
  go_wp2_with fail
  refine (c1 _).mono ?_
  rintro e w1 ⟨rfl, hb1⟩
  have hA1 := blk_below hA hb1
  have hB1 := blk_below hB hb1
  have hw1 := Bl.trans hb hb1
  obtain ⟨x1, x2⟩ := blk2 hB1
  go_wp2_with fail
  refine (c2 _).mono ?_
  rintro e w2 ⟨rfl, hb2⟩
  have hA2 := blk_below hA1 hb2
  have hB2 := blk_below hB1 hb2
  have hw2 := Bl.trans hw1 hb2
  obtain ⟨x3, x4⟩ := blk2 hA2
  obtain ⟨x5, x6⟩ := blk2 hB2
  go_wp2_with fail
  refine (c3 _).mono ?_
  rintro e w3 ⟨rfl, hb3⟩
  go_wp2
  go_ret2
  exact ⟨rfl, Bl.trans hw2 hb3⟩

theorem toured_any (w : World) : Calls Tryz.prog 24 #[] w fun e w' => e = .returned (.bool true) ∧ Below w.heap.size w w' := by
  go_enter Tryz.func24, Tryz.ntmps24
  go_wp2_with fail
  refine (Distance_any _).mono ?_
  rintro e w1 ⟨rfl, hb1⟩
  go_wp2
  go_ret
  exact ⟨rfl, hb1⟩
end Go.Proofs.YtgcmlhpocbgkaaaGreatDoor
