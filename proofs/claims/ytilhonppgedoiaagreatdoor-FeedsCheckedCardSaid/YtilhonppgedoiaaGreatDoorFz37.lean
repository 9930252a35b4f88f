/- Texts of the proof of a law, put together, part 37 of 46. Conditions: none beyond those that each theorem names. -/
import Derived.Test.YtilhonppgedoiaaGreatDoorFz1
import Derived.Test.YtilhonppgedoiaaGreatDoorFz4
import Derived.Test.YtilhonppgedoiaaGreatDoorFz19
import Derived.Test.YtilhonppgedoiaaGreatDoorFz22
import Derived.Test.YtilhonppgedoiaaGreatDoorFz33
import Derived.Test.YtilhonppgedoiaaGreatDoorFz35
import Derived.Test.YtilhonppgedoiaaGreatDoorFz36
namespace Go.Proofs.YtilhonppgedoiaaGreatDoor
open Go.RowKit Go.Sort
theorem rblk2 {w : World} {g : Nat} {x y : Value} {t : TypeId} (h : w.heap[g]? = some (.cells #[x, y] t (0, 0))) : w.cell? ⟨g, 0, none⟩ = some x ∧ w.cell? ⟨g, 1, none⟩ = some y :=
  ⟨by simp [World.cell?, h], by simp [World.cell?, h]⟩
set_option maxHeartbeats 1000000 in
theorem rDistance_any (w : World) : Calls Tryz.prog 38 #[.agg #[.int .i64 1, .int .i64 1], .agg #[.int .i64 4, .int .i64 3]] w fun e w' => e = .returned (.tuple #[.int .i64 3, .int .i64 0]) ∧ Below w.heap.size w w' := by
  have h1 : farB (1, 1) = false := by decide
  have h2 : farB (4, 3) = false := by decide
  have h3 : dist (1, 1) (4, 3) = 3 := by decide
  have b1 : Bd (1, 1) := by unfold Bd; omega
  have b2 : Bd (4, 3) := by unfold Bd; omega
  have c1 : ∀ w, Calls Tryz.prog 80 #[.agg #[.int .i64 1, .int .i64 1]] w fun e w' => e = .returned (.bool false) ∧ Below w.heap.size w w' := fun w => by rw [← h1]; exact isFar_any (1, 1) w
  have c2 : ∀ w, Calls Tryz.prog 80 #[.agg #[.int .i64 4, .int .i64 3]] w fun e w' => e = .returned (.bool false) ∧ Below w.heap.size w w' := fun w => by rw [← h2]; exact isFar_any (4, 3) w
  have c3 : ∀ w, Calls Tryz.prog 81 #[.agg #[.int .i64 1, .int .i64 1], .agg #[.int .i64 4, .int .i64 3]] w fun e w' => e = .returned (.int .i64 3) ∧ Below w.heap.size w w' := fun w => by rw [← h3]; exact distance_any (1, 1) (4, 3) w b1 b2
  go_enter Tryz.func38, Tryz.ntmps38
  have hA := blk_old (blk_new w (.cells #[.int .i64 1, .int .i64 1] 78)) (.cells #[.int .i64 4, .int .i64 3] 78)
  have hB := blk_new' (w.alloc (.cells #[.int .i64 1, .int .i64 1] 78)) (.cells #[.int .i64 4, .int .i64 3] 78) (g := w.heap.size + 1) (by simp)
  have hb := Bl.alloc (Bl.alloc (Below.refl w.heap.size w) (.cells #[.int .i64 1, .int .i64 1] 78)) (.cells #[.int .i64 4, .int .i64 3] 78)
  go_wp2_with fail
  refine (c1 _).mono ?_
  rintro e w1 ⟨rfl, hb1⟩
  have hA1 := blk_below hA hb1
  have hB1 := blk_below hB hb1
  have hw1 := Bl.trans hb hb1
  obtain ⟨x1, x2⟩ := rblk2 hB1
  go_wp2_with fail
  refine (c2 _).mono ?_
  rintro e w2 ⟨rfl, hb2⟩
  have hA2 := blk_below hA1 hb2
  have hB2 := blk_below hB1 hb2
  have hw2 := Bl.trans hw1 hb2
  obtain ⟨x3, x4⟩ := rblk2 hA2
  obtain ⟨x5, x6⟩ := rblk2 hB2
  go_wp2_with fail
  refine (c3 _).mono ?_
  rintro e w3 ⟨rfl, hb3⟩
  go_wp2
  go_ret2
  exact ⟨rfl, Bl.trans hw2 hb3⟩
end Go.Proofs.YtilhonppgedoiaaGreatDoor
namespace Go.Proofs.YtilhonppgedoiaaGreatDoor
open Go.RowKit Go.Sort Go.Maps Go.Shelf Go.Lib
set_option maxHeartbeats 4000000 in
set_option maxRecDepth 100000 in
theorem ShopCond_u (S : Nat) (w : World) (hs : ShopU w S ⟨#[117]⟩) :
    Calls Tryz.prog 84 #[.pointer (some ⟨S, 0, none⟩), .string ⟨#[117]⟩] w fun e w' => (∃ a n c, e = .returned (.agg #[.int .i64 2, .int .i64 3, .int .i64 1, .slice a n c])) ∧ Below w.heap.size w w' := by
  obtain ⟨mb, g, hS, hM, hB, hm⟩ := hs
  have hb0 := Bl.alloc (Below.refl w.heap.size w) (.cells #[.int .i64 0, .int .i64 0, .int .i64 0, .slice none 0 0] 80)
  have hC0 := blk_new w (.cells #[.int .i64 0, .int .i64 0, .int .i64 0, .slice none 0 0] 80)
  have hS1 := blk_old hS (.cells #[.int .i64 0, .int .i64 0, .int .i64 0, .slice none 0 0] 80)
  have hM1 := hM.alloc (.cells #[.int .i64 0, .int .i64 0, .int .i64 0, .slice none 0 0] 80)
  have hB1 : Brd _ g 2 3 1 (.map (some (g - 2))) (.map (some (g - 1))) 0 := blk_old hB (.cells #[.int .i64 0, .int .i64 0, .int .i64 0, .slice none 0 0] 80)
  have hm1 := blk_old hm (.cells #[.int .i64 0, .int .i64 0, .int .i64 0, .slice none 0 0] 80)
  have lw := blk_lt hC0
  have lS := blk_lt hS
  have c1 : w.cell? ⟨S, 2, none⟩ = some (.map (some mb)) := blk_cell hS 2
  have hl0 := look_some hM1 ⟨#[117]⟩ (by show 1 ≤ maxLen; unfold maxLen; omega) rfl
  have hown : (w.alloc (.cells #[.int .i64 0, .int .i64 0, .int .i64 0, .slice none 0 0] 80)).ownsMap Tryz.prog 9 (fun _ => (none : Option (DataW Unit × List MemPlace))) (g - 2) 0 (.map []) := ⟨#[], 0, hm1, ⟨by simp, Go.MapKept.stamped_empty 0, by simp⟩, Nat.le_refl _, rfl⟩
  have HC := Lib.hid (condition_any g (g - 2) 0 2 3 1 0 _ _ _ _ hB1 hown (by show 0 ≤ 1099511627776; omega))
  clear hS hM hB hm hS1 hM1 hB1 hm1 hown
  go_enter Tryz.func84, Tryz.ntmps84
  go_wp2_with fail
  refine HC.out.mono ?_
  rintro e w2 ⟨v, ss, rfl, _, h2, _, hb2⟩
  obtain ⟨va, vc, rfl⟩ := row_form h2
  have hC2 := blk_below hC0 hb2
  have g0 := blk_free hC2 0
  have g1 := blk_free hC2 1
  have g2 := blk_free hC2 2
  have g3 := blk_free hC2 3
  have k0 : w2.cell? ⟨w.heap.size, 0, none⟩ = some (.int .i64 0) := blk_cell hC2 0
  have k1 : w2.cell? ⟨w.heap.size, 1, none⟩ = some (.int .i64 0) := blk_cell hC2 1
  have k2 : w2.cell? ⟨w.heap.size, 2, none⟩ = some (.int .i64 0) := blk_cell hC2 2
  have k3 : w2.cell? ⟨w.heap.size, 3, none⟩ = some (.slice none 0 0) := blk_cell hC2 3
  have hb3 := Bl.set (Bl.set (Bl.set (Bl.set (Bl.trans hb0 hb2) _ 0 (Nat.le_refl _) (.int .i64 2)) _ 1 (Nat.le_refl _) (.int .i64 3)) _ 2 (Nat.le_refl _) (.int .i64 1)) _ 3 (Nat.le_refl _) (.slice va ss.length vc)
  have hC3 := blk_set (blk_set (blk_set (blk_set hC2 0 (.int .i64 2)) 1 (.int .i64 3)) 2 (.int .i64 1)) 3 (.slice va ss.length vc)
  go_wp2
  generalize (((w2.setCell ⟨w.heap.size, 0, none⟩ (.int .i64 2)).setCell ⟨w.heap.size, 1, none⟩ (.int .i64 3)).setCell ⟨w.heap.size, 2, none⟩ (.int .i64 1)).setCell ⟨w.heap.size, 3, none⟩ (.slice va ss.length vc) = w3 at *
  have r0 : w3.cell? ⟨w.heap.size, 0, none⟩ = some (.int .i64 2) := blk_cell hC3 0
  have r1 : w3.cell? ⟨w.heap.size, 1, none⟩ = some (.int .i64 3) := blk_cell hC3 1
  have r2 : w3.cell? ⟨w.heap.size, 2, none⟩ = some (.int .i64 1) := blk_cell hC3 2
  have r3 : w3.cell? ⟨w.heap.size, 3, none⟩ = some (.slice va ss.length vc) := blk_cell hC3 3
  refine bodyPost_ret (v := .agg #[.int .i64 2, .int .i64 3, .int .i64 1, .slice va ss.length vc]) (by simp [results, Tryz.results84, go_sem, r0, r1, r2, r3]) rfl ?_
  exact ⟨⟨_, _, _, rfl⟩, hb3⟩
set_option maxHeartbeats 4000000 in
set_option maxRecDepth 100000 in
theorem At_u (b : Nat) (w : World) (h0 : w.cell? ⟨b, 0, none⟩ = some (.int .i64 3)) (h1 : w.cell? ⟨b, 1, none⟩ = some (.string ⟨#[117]⟩)) (h2 : w.cell? ⟨b, 2, none⟩ = some (.int .i64 1)) (h3 : w.cell? ⟨b, 3, none⟩ = some (.string ⟨#[]⟩)) :
    Calls Tryz.prog 39 #[.agg #[.int .i64 1, .int .i64 0], .slice (some ⟨b, 0, none⟩) 1 1, .string ⟨#[117]⟩, .int .i64 3] w fun e w' => (∃ a n c, e = .returned (.tuple #[.agg #[.int .i64 2, .int .i64 3, .int .i64 1, .slice a n c], .int .i64 0])) ∧ Below w.heap.size w w' := by
  have lb := World.block_lt_of_cell? _ _ h0
  have hR0 := blk_old (blk_new w (.cells #[.int .i64 1, .int .i64 0] 84)) (.cells #[.int .i64 0, .int .i64 0, .int .i64 0, .slice none 0 0] 80)
  have hC0 := blk_new' (w.alloc (.cells #[.int .i64 1, .int .i64 0] 84)) (.cells #[.int .i64 0, .int .i64 0, .int .i64 0, .slice none 0 0] 80) (g := w.heap.size + 1) (by simp)
  have hb0 := Bl.alloc (Bl.alloc (Below.refl w.heap.size w) (.cells #[.int .i64 1, .int .i64 0] 84)) (.cells #[.int .i64 0, .int .i64 0, .int .i64 0, .slice none 0 0] 80)
  go_enter Tryz.func39, Tryz.ntmps39
  go_wp2_with fail
  generalize (w.alloc (.cells #[.int .i64 1, .int .i64 0] 84)).alloc (.cells #[.int .i64 0, .int .i64 0, .int .i64 0, .slice none 0 0] 80) = w1 at *
  obtain ⟨bc, _⟩ := bcell hb0
  refine (boardFault_u b w1 ((bc b 0 lb).trans h0) ((bc b 1 lb).trans h1) ((bc b 2 lb).trans h2) ((bc b 3 lb).trans h3)).mono ?_
  rintro e w2 ⟨rfl, hb2⟩
  have hb02 := Bl.trans hb0 hb2
  have hR2 := blk_below hR0 hb2
  have hC2 := blk_below hC0 hb2
  have q0 : w2.cell? ⟨w.heap.size, 0, none⟩ = some (.int .i64 1) := blk_cell hR2 0
  have q1 : w2.cell? ⟨w.heap.size, 1, none⟩ = some (.int .i64 0) := blk_cell hR2 1
  obtain ⟨bc2, _⟩ := bcell hb02
  have HS := Lib.hid (shopAt_u b w2 ((bc2 b 0 lb).trans h0) ((bc2 b 1 lb).trans h1) ((bc2 b 2 lb).trans h2) ((bc2 b 3 lb).trans h3))
  clear h0 h1 h2 h3 bc bc2 hR0 hC0
  go_wp2_with fail
  refine HS.out.mono ?_
  rintro e w3 ⟨⟨S, rfl, hs⟩, hb3⟩
  have hC3 := blk_below hC2 hb3
  have hb03 := Bl.trans hb02 hb3
  have HT := Lib.hid (ShopCond_u S w3 hs)
  clear hs
  go_wp2_with fail
  refine HT.out.mono ?_
  rintro e w4 ⟨⟨va, vn, vc, rfl⟩, hb4⟩
  have hC4 := blk_below hC3 hb4
  have hb04 := Bl.trans hb03 hb4
  have g0 := blk_free hC4 0
  have g1 := blk_free hC4 1
  have g2 := blk_free hC4 2
  have g3 := blk_free hC4 3
  have k0 : w4.cell? ⟨w.heap.size + 1, 0, none⟩ = some (.int .i64 0) := blk_cell hC4 0
  have k1 : w4.cell? ⟨w.heap.size + 1, 1, none⟩ = some (.int .i64 0) := blk_cell hC4 1
  have k2 : w4.cell? ⟨w.heap.size + 1, 2, none⟩ = some (.int .i64 0) := blk_cell hC4 2
  have k3 : w4.cell? ⟨w.heap.size + 1, 3, none⟩ = some (.slice none 0 0) := blk_cell hC4 3
  have hb5 := Bl.set (Bl.set (Bl.set (Bl.set hb04 (w.heap.size + 1) 0 (by omega) (.int .i64 2)) (w.heap.size + 1) 1 (by omega) (.int .i64 3)) (w.heap.size + 1) 2 (by omega) (.int .i64 1)) (w.heap.size + 1) 3 (by omega) (.slice va vn vc)
  have hC5 := blk_set (blk_set (blk_set (blk_set hC4 0 (.int .i64 2)) 1 (.int .i64 3)) 2 (.int .i64 1)) 3 (.slice va vn vc)
  go_wp2
  generalize (((w4.setCell ⟨w.heap.size + 1, 0, none⟩ (.int .i64 2)).setCell ⟨w.heap.size + 1, 1, none⟩ (.int .i64 3)).setCell ⟨w.heap.size + 1, 2, none⟩ (.int .i64 1)).setCell ⟨w.heap.size + 1, 3, none⟩ (.slice va vn vc) = w5 at *
  have r0 : w5.cell? ⟨w.heap.size + 1, 0, none⟩ = some (.int .i64 2) := blk_cell hC5 0
  have r1 : w5.cell? ⟨w.heap.size + 1, 1, none⟩ = some (.int .i64 3) := blk_cell hC5 1
  have r2 : w5.cell? ⟨w.heap.size + 1, 2, none⟩ = some (.int .i64 1) := blk_cell hC5 2
  have r3 : w5.cell? ⟨w.heap.size + 1, 3, none⟩ = some (.slice va vn vc) := blk_cell hC5 3
  refine bodyPost_ret (v := .tuple #[.agg #[.int .i64 2, .int .i64 3, .int .i64 1, .slice va vn vc], .int .i64 0]) (by simp [results, Tryz.results39, go_sem, r0, r1, r2, r3]) rfl ?_
  exact ⟨⟨_, _, _, rfl⟩, hb5⟩
set_option maxHeartbeats 4000000 in
set_option maxRecDepth 100000 in
theorem ready_any (w : World) : Calls Tryz.prog 10 #[] w fun e w' => e = .returned (.bool true) ∧ Below w.heap.size w w' := by
  go_enter Tryz.func10, Tryz.ntmps10
  go_wp2_with fail
  refine (Life4_any w).mono ?_
  rintro e w' ⟨rfl, rfl⟩
  go_wp2_with fail
  refine (rDistance_any w).mono ?_
  rintro e w1 ⟨rfl, hb1⟩
  have hS := blk_new w1 (.cells #[.int .i64 3, .string ⟨#[117]⟩, .int .i64 1, .string ⟨#[]⟩] 86)
  have hb2 := Bl.alloc hb1 (.cells #[.int .i64 3, .string ⟨#[117]⟩, .int .i64 1, .string ⟨#[]⟩] 86)
  go_wp2_with fail
  refine (At_u w1.heap.size _ (blk_cell hS 0) (blk_cell hS 1) (blk_cell hS 2) (blk_cell hS 3)).mono ?_
  rintro e w3 ⟨⟨va, vn, vc, rfl⟩, hb3⟩
  have hb4 := Bl.alloc (Bl.trans hb2 hb3) (.cells #[.int .i64 2, .int .i64 3, .int .i64 1, .slice va vn vc] 80)
  go_wp2
  go_ret
  exact ⟨rfl, hb4⟩
end Go.Proofs.YtilhonppgedoiaaGreatDoor
namespace Go.Proofs.YtilhonppgedoiaaGreatDoor
open Go.RowKit Go.Sort
theorem Str.begin {w : World} {a : Option Addr} {cap : Nat} {l : List Int} (rl : Ints w 0 (.slice a l.length cap) l) (hl : ∀ x ∈ l, -9223372036854775808 ≤ x ∧ x ≤ 9223372036854775807) :
    Str (w.alloc (.cells #[.slice a l.length cap, .int .i64 0] 25)) w.heap.size 0 := by
  obtain ⟨a', cap', hv, h1, h2⟩ := Ints.form rl
  injection hv with _ _ hcap
  refine ⟨a, l.length, cap, 0, blk_new w _, Int.le_refl _, Int.le_refl _, by omega, fun k hk => ?_⟩
  obtain ⟨b, o, ha, _, hb, hc⟩ := rl.at (k := k) (x := l[k]) (List.getElem?_eq_getElem hk)
  have hx := hl l[k] (List.getElem_mem hk)
  exact ⟨b, o, l[k], ha, hb, by simp; omega, ((bcell (Bl.alloc (Below.refl _ _) _)).1 _ _ hb).trans hc, hx.1, hx.2⟩
end Go.Proofs.YtilhonppgedoiaaGreatDoor
namespace Go.Proofs.YtilhonppgedoiaaGreatDoor
open Go.RowKit Go.Sort Go.Maps Go.Lib
theorem bsF_inj {a b : ByteArray} (h : bsOf a = bsOf b) : a = b := by rw [← baOf_bsOf a, h, baOf_bsOf]
theorem len_int {n : Int} (h : (Lib.decDigits n.natAbs).length ≤ 15) : -9223372036854775808 ≤ n ∧ n ≤ 9223372036854775807 := by
  rw [Lib.decDigits_length] at h
  have h2 := lt_pow_nDigits n.natAbs
  have h3 : 10 ^ nDigits n.natAbs ≤ 10 ^ 15 := Nat.pow_le_pow_right (by decide) h
  have h4 : (10 : Nat) ^ 15 = 1000000000000000 := by decide
  omega
/-- what is read has short numbers and names. -/
theorem feedsRead_sml {t : Bs} (h : (feedsRead t).2.2 = 0) : ∀ e ∈ (feedsRead t).1, FdI e ∧ e.2.2.1.size ≤ 40 ∧ e.2.2.2.1.size ≤ 40 ∧ e.2.2.2.2.2.size ≤ 40 := by
  unfold feedsRead at h ⊢
  split at h
  · cases h
  · rename_i hl
    rw [if_neg hl]
    cases hr : readS rdF 0 (splitL 10 t) with
    | error i => rw [hr] at h; cases h
    | ok l =>
      rw [hr] at h
      have hk := hr
      rw [← readK_eq] at hk
      have hp := readK_all (P := fun e : Fed => FdI e ∧ e.2.2.1.size ≤ 40 ∧ e.2.2.2.1.size ≤ 40 ∧ e.2.2.2.2.2.size ≤ 40) (fun x a hx => by
        have h1 := (wrF_rdF hx).2
        obtain ⟨s1, s2, s3⟩ := rdF_small hx
        exact ⟨⟨len_int h1.at', len_int h1.mn'⟩, s1, s2, s3⟩) 0 _ l hk
      show ∀ e ∈ (if 5000 < l.length then ([], 0, 2) else (l, 0, 0) : List Fed × Int × Int).1, _
      split
      · intro e he; cases he
      · exact hp
set_option maxHeartbeats 4000000 in
set_option maxRecDepth 100000 in
theorem FeedsComeBack_any (l : List Int) (v : Value) (w : World) (rl : Ints w 0 v l) (hl : ∀ x ∈ l, -9223372036854775808 ≤ x ∧ x ≤ 9223372036854775807) (hT : TxW w) :
    Calls Tryz.prog 3 #[v] w fun e w' => e = .returned (.bool true) ∧ Below w.heap.size w w' := by
  obtain ⟨va, cap, rfl, hc1, hc2⟩ := Ints.form rl
  have hs0 := Str.begin rl hl
  have hb0 := Bl.alloc (Below.refl w.heap.size w) (.cells #[.slice va l.length cap, .int .i64 0] 25)
  obtain ⟨hg1, hg2⟩ := hT.size
  have HT := Lib.hid hT
  clear rl hl hT
  go_enter Tryz.func3, Tryz.ntmps3
  go_wp2_with fail
  refine (RightFeeds_any _ 0 _ hs0 (by omega)).mono ?_
  rintro e w1 ⟨vr, rs, vx, x, rfl, hR1, hO1, hr4, hx24, hrok, hxok, hx0, hs1, hG1⟩
  obtain ⟨ra, rn, rcap, rfl⟩ : ∃ a n c, vr = .slice a n c := by obtain ⟨a, c, h, _, _⟩ := hR1.form; exact ⟨a, _, c, h⟩
  have htx := feedsF_text hx0
  have hx9 : textsF x = 0 := textsF_of (by omega) fun e he => (htx e he).1.t
  clear hR1 hr4 hrok
  have hz0 := hb0.size
  have hb1 := Below.trans hb0 (Gr.below hG1 (Nat.le_refl _) hz0)
  have hz1 := hb1.size
  obtain ⟨xa, xcap, rfl, _, _⟩ := hO1.form
  have hxl : (textL wrF x).length ≤ 2664 := by
    have := textFd_len x fun e he => ⟨(htx e he).1.t, (htx e he).2⟩
    omega
  have HTX0 := FdText_any x (.slice xa x.length xcap) w1 (HT.out.below hb1) (by omega) hO1.rec0 (FedOk.z hxok) (fun e he => (htx e he).2) (fun _ => by omega)
  rw [hx9] at HTX0
  have HTX := Lib.hid HTX0
  have HRT := Lib.hid (feedsRead_text (by omega) (fun e he => (htx e he).1) (by omega))
  have HPT : Hid (fdTxt x = textL wrF x) := Lib.hid (by unfold fdTxt; rw [if_pos hx9])
  have HO1 := Lib.hid hO1.rec0
  have HS1 := Lib.hid hs1
  have HB1 := Lib.hid hb1
  have HXL := Lib.hid hxl
  clear hb0 hG1 hO1 hs1 hb1 hx0 hs0 HTX0 hxok hxl htx hx9
  go_wp2_with fail
  refine HTX.out.mono ?_
  rintro e w3 ⟨t, rfl, ht, hb3⟩
  have htl : bsOf t = textL wrF x := ht.trans HPT.out
  have hts : t.size ≤ 10000 := by
    rw [← bsOf_len, htl]
    have := HXL.out
    omega
  have hB3 := Bl.trans HB1.out hb3
  have hz3 := hB3.size
  have HRD0 := FdRead_any t w3 (HT.out.below hB3) (by omega)
  rw [htl, HRT.out] at HRD0
  have HRD := Lib.hid HRD0
  have HS3 := Lib.hid (HS1.out.below hb3)
  have HO3 := Lib.hid (HO1.out.below hb3)
  clear ht hb3 htl HTX HRD0
  go_wp2_with fail
  refine HRD.out.mono ?_
  rintro e w4 ⟨vy, rfl, hOy, hb4⟩
  obtain ⟨ya, ycap, rfl, _, _⟩ := hOy.form
  have hB4 := Bl.trans hB3 hb4
  have hz4 := hB4.size
  have HEQ0 := EqualFe_any x x (.slice ya x.length ycap) (.slice xa x.length xcap) w4 (by omega) (by omega) hOy.rec0 (HO3.out.below hb4)
  rw [decide_eq_true (show x = x from rfl)] at HEQ0
  have HEQ := Lib.hid HEQ0
  have HS4 := Lib.hid (HS3.out.below hb4)
  clear hOy hb4 HEQ0 HRD HRT HPT HXL
  go_wp2_with fail
  refine HEQ.out.mono ?_
  rintro e w5 ⟨rfl, hb5⟩
  have hB5 := Bl.trans hB4 hb5
  have hz5 := hB5.size
  have HPS := Lib.hid (FeedString_any w.heap.size _ w5 (HS4.out.below hb5) (HT.out.below hB5) hg1 hg2 (by omega))
  clear hb5 HEQ
  go_wp2_with fail
  refine HPS.out.mono ?_
  rintro e w6 ⟨t2, rfl, ht2, hs6, hG6⟩
  have hB6 := Below.trans hB5 (Gr.below hG6 (Nat.le_refl _) hz5)
  have hz6 := hB6.size
  have HRD := Lib.hid (FdRead_any t2 w6 (HT.out.below hB6) (by omega))
  obtain ⟨f, hf⟩ : ∃ f, f = (feedsRead (bsOf t2)).2.2 := ⟨_, rfl⟩
  obtain ⟨i2, hi2⟩ : ∃ f, f = (feedsRead (bsOf t2)).2.1 := ⟨_, rfl⟩
  obtain ⟨Q, hQ⟩ : ∃ f, f = (feedsRead (bsOf t2)).1 := ⟨_, rfl⟩
  rw [← hf, ← hi2, ← hQ] at HRD
  have HF := Lib.hid (And.intro hf hQ)
  clear hf hi2 hQ hs6 hG6 HPS
  by_cases h0 : f = 0
  · subst h0
    obtain ⟨q1, q2, q3⟩ := text_feedsRead HF.out.1.symm
    have q6 := (feedsRead_sml (t := bsOf t2) HF.out.1.symm)
    rw [← HF.out.2] at q1 q2 q6
    have q4 := (textsF_ok q1).1
    have q5 : (textL wrF Q).length ≤ 200000 := by rw [q2]; exact q3
    have HPT : Hid (fdTxt Q = bsOf t2) := Lib.hid (by unfold fdTxt; rw [if_pos q1, q2])
    have HQ1 := Lib.hid (And.intro q1 (And.intro q5 q6))
    clear q6
    clear q1 q2 q3 q5
    go_wp2_with fail
    refine HRD.out.mono ?_
    rintro e w7 ⟨vx, rfl, hOx, hb7⟩
    obtain ⟨za, zcap, rfl, _, _⟩ := hOx.form
    have hB7 := Bl.trans hB6 hb7
    have hz7 := hB7.size
    have HTX0 := FdText_any Q (.slice za Q.length zcap) w7 (HT.out.below hB7) (by omega) hOx.rec0 (fun s hs => by
      have h1 := (HQ1.out.2.2 s hs).2
      omega) (fun s hs => (HQ1.out.2.2 s hs).1) (fun _ => HQ1.out.2.1)
    rw [HQ1.out.1] at HTX0
    have HTX := Lib.hid HTX0
    clear hOx hb7 HTX0
    go_wp2_with fail
    refine HTX.out.mono ?_
    rintro e w8 ⟨t3, rfl, ht3, hb8⟩
    obtain rfl := bsF_inj (ht3.trans HPT.out)
    have hB8 := Bl.trans hB7 hb8
    clear ht3 hb8
    go_wp2_with fail
    refine (ready_any _).mono ?_
    rintro e w9 ⟨rfl, hb9⟩
    go_wp2
    go_ret
    exact ⟨rfl, Bl.trans hB8 hb9⟩
  · go_wp2_with fail
    refine HRD.out.mono ?_
    rintro e w7 ⟨vx, rfl, hOx, hb7⟩
    have hB7 := Bl.trans hB6 hb7
    clear hOx hb7
    go_wp2_with fail
    refine (ready_any _).mono ?_
    rintro e w9 ⟨rfl, hb9⟩
    go_wp2
    go_ret
    exact ⟨rfl, Bl.trans hB7 hb9⟩
end Go.Proofs.YtilhonppgedoiaaGreatDoor
