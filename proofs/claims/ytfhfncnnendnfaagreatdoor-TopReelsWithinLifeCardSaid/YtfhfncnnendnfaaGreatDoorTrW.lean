/- The walk of TopReelsWithinLife: whatever the input: true. No conditions. -/
import Derived.Test.YtfhfncnnendnfaaGreatDoorTrP
import Derived.Test.YtfhfncnnendnfaaGreatDoorReady2
import Derived.Test.YtfhfncnnendnfaaGreatDoorStrs
import Derived.Test.YtfhfncnnendnfaaGreatDoorStart
namespace Go.Proofs.YtfhfncnnendnfaaGreatDoor
open Go.RowKit Go.Sort Go.Maps

set_option maxHeartbeats 4000000 in
set_option maxRecDepth 100000 in
theorem h06_any (w : World) : Calls Tryz.prog 11 #[] w fun e w' => e = .returned (.bool true) ∧ Below w.heap.size w w' := by
  go_enter Tryz.func11, Tryz.ntmps11
  go_wp2_with fail
  refine (Life4_any w).mono ?_
  rintro e w' ⟨rfl, rfl⟩
  have hS := blk_new w (.cells #[.int .i64 3, .string ⟨#[117]⟩, .int .i64 1, .string ⟨#[]⟩] 78)
  have hb2 := Bl.alloc (Below.refl w.heap.size w) (.cells #[.int .i64 3, .string ⟨#[117]⟩, .int .i64 1, .string ⟨#[]⟩] 78)
  go_wp2_with fail
  refine (At_u w.heap.size _ (blk_cell hS 0) (blk_cell hS 1) (blk_cell hS 2) (blk_cell hS 3)).mono ?_
  rintro e w3 ⟨⟨va, vn, vc, rfl⟩, hb3⟩
  have hb4 := Bl.alloc (Bl.trans hb2 hb3) (.cells #[.int .i64 2, .int .i64 3, .int .i64 1, .slice va vn vc] 72)
  go_wp2
  go_ret
  exact ⟨rfl, hb4⟩
theorem ask_w {F : Int} (h : F = 0) {b : Bool} (hb : b = true) {t : Int} (ht : inB 0 t 345686399999 = true) : askF F b (inB 0 t 345686399999) 8 = 0 := by rw [h, hb, ht]; decide
set_option maxHeartbeats 8000000 in
set_option maxRecDepth 100000 in
theorem TopReelsWithinLife_any (l : List Int) (v : Value) (w : World) (rl : Ints w 0 v l) (hl : ∀ x ∈ l, -9223372036854775808 ≤ x ∧ x ≤ 9223372036854775807) :
    Calls Tryz.prog 3 #[v] w fun e w' => e = .returned (.bool true) ∧ Below w.heap.size w w' := by
  obtain ⟨va, cap, rfl, hc1, hc2⟩ := Ints.form rl
  have hs0 := Str.begin rl hl
  have hb0 := Bl.alloc (Below.refl w.heap.size w) (.cells #[.slice va l.length cap, .int .i64 0] 25)
  clear rl hl
  go_enter Tryz.func3, Tryz.ntmps3
  go_wp2_with fail
  refine (Range_any _ 0 2 6 _ hs0 (by omega) (by omega) (by omega) (by omega) (by omega)).mono ?_
  rintro e w1 ⟨lv, rfl, ⟨hv0, hv1, _⟩, hs1, hg1⟩
  have hv2 := hv1 (by omega)
  have hb1 := Below.trans hb0 (Gr.below hg1 (Nat.le_refl _) hb0.size)
  have l1 := hs1.lt
  clear hg1 hs0 hv1
  go_wp2_with fail
  refine (Pick_any _ _ [0, 3600000] _ _ (hs1.alloc _) (by omega) (Ints.of_blk (blk_new _ _) rfl rfl (by simp) (by omega) l1) (by simp) (by simp)).mono ?_
  rintro e w2 ⟨bk, rfl, hbk, hs2, hg2⟩
  have hbk2 : 0 ≤ bk ∧ bk ≤ 720000000 := by simp only [List.mem_cons, List.not_mem_nil, or_false] at hbk; omega
  have hb2 := Below.trans (Bl.alloc hb1 (.cells #[.int .i64 0, .int .i64 3600000] 3)) (Gr.below hg2 (Nat.le_refl _) (by simp; have := hb1.size; omega))
  clear hg2 hs1 hbk hb1
  have hP3 := blk_new w2 (.cells #[.string ⟨#[112]⟩, .string ⟨#[113]⟩, .int .i64 lv, .int .i64 bk] 29)
  have hs3 := hs2.alloc (.cells #[.string ⟨#[112]⟩, .string ⟨#[113]⟩, .int .i64 lv, .int .i64 bk] 29)
  have hb3 := Bl.alloc hb2 (.cells #[.string ⟨#[112]⟩, .string ⟨#[113]⟩, .int .i64 lv, .int .i64 bk] 29)
  have l2 := hs2.lt
  clear hs2 hb2
  obtain ⟨P, hPe⟩ : ∃ P, P = w2.heap.size := ⟨_, rfl⟩
  rw [← hPe] at hP3
  have HP := Lib.hid hPe
  have hPs : P ≠ w.heap.size := by omega
  clear hPe
  go_wp2_with fail
  generalize w2.alloc (.cells #[.string ⟨#[112]⟩, .string ⟨#[113]⟩, .int .i64 lv, .int .i64 bk] 29) = w3 at *
  rw [← HP.out]
  refine (Range_any _ _ 0 100 _ hs3 (by omega) (by omega) (by omega) (by omega) (by omega)).mono ?_
  rintro e w4 ⟨fr, rfl, ⟨hf0, hf1, _⟩, hs4, hg4⟩
  have hf2 := hf1 (by omega)
  have hP4 := Gr.blk hg4 hP3 hPs
  have hb4 := Below.trans hb3 (Gr.below hg4 (Nat.le_refl _) hb3.size)
  clear hg4 hs3 hf1 hP3 hb3
  go_wp2_with fail
  refine (Hours_any _ _ _ hs4 (by omega)).mono ?_
  rintro e w5 ⟨lo, rfl, ⟨hl0, hl1⟩, hs5, hg5⟩
  have hP5 := Gr.blk hg5 hP4 hPs
  have hb5 := Below.trans hb4 (Gr.below hg5 (Nat.le_refl _) hb4.size)
  clear hg5 hs4 hP4 hb4
  have e1 : IntKind.i64.wrap (1 + fr) = 1 + fr := IntWalk.i64_in _ (by omega)
  have e2 : IntKind.i64.wrap (1 + fr + lo) = 1 + fr + lo := IntWalk.i64_in _ (by omega)
  have e3 : IntKind.i64.wrap (2 + fr) = 2 + fr := IntWalk.i64_in _ (by omega)
  have e4 : IntKind.i64.wrap (fr + lo) = fr + lo := IntWalk.i64_in _ (by omega)
  have e5 : IntKind.i64.wrap (5 + fr) = 5 + fr := IntWalk.i64_in _ (by omega)
  have e6 : IntKind.i64.wrap (5 + fr + lo) = 5 + fr + lo := IntWalk.i64_in _ (by omega)
  obtain ⟨w6, hw6⟩ : ∃ w6, w6 = ((w5.alloc (.cells #[.int .i64 1, .int .i64 0, .int .i64 2, .int .i64 (1 + fr), .int .i64 1, .int .i64 (1 + fr + lo)] 32)).alloc (.cells #[.string ⟨#[114]⟩, .string ⟨#[112]⟩, .int .i64 5] 35)).alloc (.cells #[.int .i64 (1 + fr), .int .i64 1, .string ⟨#[102]⟩, .string ⟨#[114]⟩, .int .i64 0, .string ⟨#[]⟩, .int .i64 (1 + fr + lo), .int .i64 3, .string ⟨#[102]⟩, .string ⟨#[]⟩, .int .i64 0, .string ⟨#[]⟩] 38) := ⟨_, rfl⟩
  have hb56 : Below w5.heap.size w5 w6 := by rw [hw6]; exact Bl.alloc (Bl.alloc (Bl.alloc (Below.refl _ _) _) _) _
  have hS6 : w6.heap[w5.heap.size]? = some (.cells #[.int .i64 1, .int .i64 0, .int .i64 2, .int .i64 (1 + fr), .int .i64 1, .int .i64 (1 + fr + lo)] 32 (0, 0)) := by rw [hw6]; exact blk_old (blk_old (blk_new w5 _) _) _
  have hR6 : w6.heap[w5.heap.size + 1]? = some (.cells #[.string ⟨#[114]⟩, .string ⟨#[112]⟩, .int .i64 5] 35 (0, 0)) := by rw [hw6]; exact blk_old (blk_new' _ _ (by simp)) _
  have hF6 : w6.heap[w5.heap.size + 1 + 1]? = some (.cells #[.int .i64 (1 + fr), .int .i64 1, .string ⟨#[102]⟩, .string ⟨#[114]⟩, .int .i64 0, .string ⟨#[]⟩, .int .i64 (1 + fr + lo), .int .i64 3, .string ⟨#[102]⟩, .string ⟨#[]⟩, .int .i64 0, .string ⟨#[]⟩] 38 (0, 0)) := by rw [hw6]; exact blk_new' _ _ (by simp)
  have hs6 : Str w6 w.heap.size (0 + 1 + 1 + 1 + 2) := by rw [hw6]; exact ((hs5.alloc _).alloc _).alloc _
  have l5 := hs5.lt
  have hP6 := blk_below hP5 hb56
  have hb6 := Bl.trans hb5 hb56
  have l6 := hs6.lt
  have HZ6 : Hid (w5.heap.size + 1 + 1 + 1 = w6.heap.size) := Lib.hid (by rw [hw6]; simp)
  clear hb56 hs5 hP5 hb5
  go_wp2_with fail
  rw [← hw6]
  clear hw6
  have hz6 := HZ6.out
  have hI := blk_new' w6 (.cells #[.int .i64 0, .int .i64 fr, .int .i64 (1 + fr), .int .i64 (2 + fr), .int .i64 (fr + lo), .int .i64 (1 + fr + lo), .int .i64 (5 + fr + lo)] 3) hz6
  refine (Pick_any _ _ [0, fr, 1 + fr, 2 + fr, fr + lo, 1 + fr + lo, 5 + fr + lo] _ _ (hs6.alloc (.cells #[.int .i64 0, .int .i64 fr, .int .i64 (1 + fr), .int .i64 (2 + fr), .int .i64 (fr + lo), .int .i64 (1 + fr + lo), .int .i64 (5 + fr + lo)] 3)) (by omega) (Ints.of_blk (cap := 7) (n := 7) hI rfl rfl (Nat.le_refl _) (by omega) (by omega)) (by simp) (by simp)).mono ?_
  rintro e w7 ⟨t, rfl, ht, hs7, hg7⟩
  have htb : 0 ≤ t ∧ t ≤ 1440000106 := by simp only [List.mem_cons, List.not_mem_nil, or_false] at ht; omega
  have hS7 := Gr.blk hg7 (blk_old hS6 _) (by omega)
  have hR7 := Gr.blk hg7 (blk_old hR6 _) (by omega)
  have hF7 := Gr.blk hg7 (blk_old hF6 _) (by omega)
  have hP7 := Gr.blk hg7 (blk_old hP6 _) hPs
  have hb7 := Below.trans (Bl.alloc hb6 _) (Gr.below hg7 (Nat.le_refl _) (by simp; have := hb6.size; omega))
  clear hz6 hI hg7 hs7 ht hS6 hR6 hF6 hP6 hb6 hs6 e1 e2 e3 e4 e5 e6 HP l1 l2 l5 l6
  obtain ⟨a, ha⟩ : ∃ a, a = 1 + fr := ⟨_, rfl⟩
  obtain ⟨b, hb⟩ : ∃ b, b = 1 + fr + lo := ⟨_, rfl⟩
  rw [← hb, ← ha] at hF7 hS7
  have a0 : 0 < a := by omega
  have ab : a < b := by omega
  have b0 : b ≤ 345686399999 := by omega
  clear ha hb hf0 hf2 hl0 hl1
  have rS := (OwnR.of_blk (T := TY) (l := stT a b) (B := 0) (cap := 3) (Nat.zero_le _) hS7 (Nat.le_refl _) (by unfold maxLen; omega) rfl rfl rfl).rec0
  have rR := (OwnR.of_blk (T := TRe) (l := rsT) (B := 0) (cap := 1) (Nat.zero_le _) hR7 (Nat.le_refl _) (by unfold maxLen; omega) rfl rfl rfl).rec0
  have rF := (OwnR.of_blk (T := TFe) (l := fsT a b) (B := 0) (cap := 2) (Nat.zero_le _) hF7 (Nat.le_refl _) (by unfold maxLen; omega) rfl rfl rfl).rec0
  have hin : inB 0 t 345686399999 = true := inB_iff.2 ⟨by omega, by omega⟩
  have hin1 : inB 0 (t + 1) 345686399999 = true := inB_iff.2 ⟨by omega, by omega⟩
  have hE := ask_w (feedsT a0 ab b0) hasT hin
  have hW := Lib.hid (Where_any rsT (fsT a b) ⟨#[114]⟩ t _ _ w7 (by show 1 ≤ 1000000; omega) (by show 2 ≤ 900; omega) rR rF (fun x hx => by simp only [rsT, List.mem_cons, List.not_mem_nil, or_false] at hx; subst hx; exact ⟨by decide, by decide⟩) (fun x hx => by
    simp only [fsT, List.mem_cons, List.not_mem_nil, or_false] at hx
    rcases hx with rfl | rfl
    · exact ⟨by show 1 ≤ 140737488355328; omega, by show 1 ≤ 140737488355328; omega, by show 0 ≤ 140737488355328; omega⟩
    · exact ⟨by show 1 ≤ 140737488355328; omega, by show 0 ≤ 140737488355328; omega, by show 0 ≤ 140737488355328; omega⟩))
  have HIN : Hid ((runM t (newM rsT) 0 (fsT a b)).pos ⟨#[114]⟩ = if a ≤ t ∧ t < b then ⟨#[102]⟩ else ByteArray.empty) := Lib.hid (posT a b t ab)
  have hliv := livT (lv := lv) a0 ab b0 ⟨hv0, hv2⟩
  have HM0 : Hid (momF ⟨#[112]⟩ lv (stT a b) t = 0 ∧ exV ⟨#[112]⟩ lv bk (stT a b) t = expo lv bk (stT a b) t) := Lib.hid (by
    have h : momF ⟨#[112]⟩ lv (stT a b) t = 0 := by unfold momF; rw [if_pos hliv, if_pos hin]
    exact ⟨h, by unfold exV; rw [if_pos h]⟩)
  have HM1 : Hid (momF ⟨#[112]⟩ lv (stT a b) (t + 1) = 0 ∧ exV ⟨#[112]⟩ lv bk (stT a b) (t + 1) = expo lv bk (stT a b) (t + 1)) := Lib.hid (by
    have h : momF ⟨#[112]⟩ lv (stT a b) (t + 1) = 0 := by unfold momF; rw [if_pos hliv, if_pos hin1]
    exact ⟨h, by unfold exV; rw [if_pos h]⟩)
  have HU : Hid (useF ⟨#[112]⟩ lv (stT a b) 0 t = 0 ∧ usV ⟨#[112]⟩ lv bk (stT a b) 0 t = decide (expo lv bk (stT a b) t ≤ lifeV lv)) := Lib.hid (by
    have h : useF ⟨#[112]⟩ lv (stT a b) 0 t = 0 := by unfold useF; rw [if_pos hliv, if_pos ⟨inB_iff.2 ⟨by omega, by omega⟩, hin⟩]
    exact ⟨h, by unfold usV; rw [if_pos h]; exact usT a0 ab htb.1 hv0⟩)
  have HLR : Hid (lifR lv = (lifeV lv, decide (lv ≠ 1), 0)) := Lib.hid (by unfold lifR; rw [if_pos (inB_iff.2 ⟨by omega, by omega⟩)])
  obtain ⟨x, hx⟩ : ∃ x, x = expo lv bk (stT a b) t := ⟨_, rfl⟩
  obtain ⟨y, hy⟩ : ∃ y, y = expo lv bk (stT a b) (t + 1) := ⟨_, rfl⟩
  rw [← hx] at HM0 HU
  rw [← hy] at HM1
  have HXY : Hid (x < y ↔ (a ≤ t ∧ t < b)) := Lib.hid (by
    rw [hx, hy, expT a0 ab htb.1, expT a0 ab (by omega)]
    split <;> split <;> (try split) <;> (try split) <;> omega)
  have HE := Lib.hid hE
  have HRS := Lib.hid rS
  have HPB := Lib.hid hP7
  have HB7 := Lib.hid hb7
  have wt : IntKind.i64.wrap (t + 1) = t + 1 := IntWalk.i64_in _ (by omega)
  clear hE rS rR rF hin hin1 hliv hx hy hP7 hb7 hS7 hR7 hF7 a0 ab b0
  go_wp2_with fail
  refine hW.out.mono ?_
  rintro e w8 ⟨⟨q, d, rfl, hok, -⟩, hb8⟩
  obtain ⟨-, hd⟩ := hok HE.out
  rw [HE.out]
  rw [HIN.out] at hd
  have HD : Hid (d = true ↔ x < y) := Lib.hid (by
    rw [hd, HXY.out, decide_eq_true_iff]
    by_cases hc : a ≤ t ∧ t < b
    · rw [if_pos hc]; exact ⟨fun _ => hc, fun _ => by decide⟩
    · rw [if_neg hc]; exact ⟨fun h => absurd rfl h, fun h => absurd h hc⟩)
  have hP8 := blk_below HPB.out hb8
  have p0 : w8.cell? ⟨P, 0, none⟩ = some (.string ⟨#[112]⟩) := blk_cell hP8 0
  have p1 : w8.cell? ⟨P, 1, none⟩ = some (.string ⟨#[113]⟩) := blk_cell hP8 1
  have p2 : w8.cell? ⟨P, 2, none⟩ = some (.int .i64 lv) := blk_cell hP8 2
  have p3 : w8.cell? ⟨P, 3, none⟩ = some (.int .i64 bk) := blk_cell hP8 3
  have lP := blk_lt hP8
  have HEX := Lib.hid (Exposed_any ⟨#[112]⟩ lv bk t (stT a b) _ w8 (by decide) hbk2 (by show 3 ≤ 500; omega) (HRS.out.below hb8))
  have HB8 := Lib.hid (And.intro (Bl.trans HB7.out hb8) (And.intro hP8 (HRS.out.below hb8)))
  clear hok hd hb8 hP8 hW
  go_wp2_with fail
  refine HEX.out.mono ?_
  rintro e w9 ⟨rfl, hb9⟩
  rw [HM0.out.1, HM0.out.2]
  have hP9 := blk_below HB8.out.2.1 hb9
  have p0 : w9.cell? ⟨P, 0, none⟩ = some (.string ⟨#[112]⟩) := blk_cell hP9 0
  have p1 : w9.cell? ⟨P, 1, none⟩ = some (.string ⟨#[113]⟩) := blk_cell hP9 1
  have p2 : w9.cell? ⟨P, 2, none⟩ = some (.int .i64 lv) := blk_cell hP9 2
  have p3 : w9.cell? ⟨P, 3, none⟩ = some (.int .i64 bk) := blk_cell hP9 3
  have lP := blk_lt hP9
  have HEX1 := Lib.hid (Exposed_any ⟨#[112]⟩ lv bk (t + 1) (stT a b) _ w9 (by decide) hbk2 (by show 3 ≤ 500; omega) (HB8.out.2.2.below hb9))
  have HB9 := Lib.hid (And.intro (Bl.trans HB8.out.1 hb9) (And.intro hP9 (HB8.out.2.2.below hb9)))
  clear hb9 hP9 HEX
  go_wp2_with fail
  refine HEX1.out.mono ?_
  rintro e w10 ⟨rfl, hb10⟩
  rw [HM1.out.1, HM1.out.2]
  have hP10 := blk_below HB9.out.2.1 hb10
  have p0 : w10.cell? ⟨P, 0, none⟩ = some (.string ⟨#[112]⟩) := blk_cell hP10 0
  have p1 : w10.cell? ⟨P, 1, none⟩ = some (.string ⟨#[113]⟩) := blk_cell hP10 1
  have p2 : w10.cell? ⟨P, 2, none⟩ = some (.int .i64 lv) := blk_cell hP10 2
  have p3 : w10.cell? ⟨P, 3, none⟩ = some (.int .i64 bk) := blk_cell hP10 3
  have lP := blk_lt hP10
  have HUS := Lib.hid (Usable_any ⟨#[112]⟩ lv bk 0 t (stT a b) _ w10 (by decide) hbk2 (by show 3 ≤ 500; omega) (HB9.out.2.2.below hb10))
  have HB10 := Lib.hid (And.intro (Bl.trans HB9.out.1 hb10) hP10)
  clear hb10 hP10 HEX1
  go_wp2_with fail
  refine HUS.out.mono ?_
  rintro e w11 ⟨rfl, hb11⟩
  rw [HU.out.1, HU.out.2]
  have hP11 := blk_below HB10.out.2 hb11
  have p2 : w11.cell? ⟨P, 2, none⟩ = some (.int .i64 lv) := blk_cell hP11 2
  have lP := blk_lt hP11
  have HB11 := Lib.hid (Bl.trans HB10.out.1 hb11)
  clear hb11 hP11 HUS
  generalize hlf : lifeV lv = lf at HLR ⊢
  go_wp2_with fail
  refine (Life_any lv w11).mono ?_
  rintro e w12 ⟨rfl, rfl⟩
  rw [HLR.out]
  clear p2 lP p0 p1 p3 wt
  have HFA := Lib.hid (h06_any w11)
  have hxg : ∀ u : Bool, u = decide (y > x) → (u == d) = true := fun u hu => by
    rw [hu, beq_iff_eq, Bool.eq_iff_iff, decide_eq_true_iff]; exact HD.out.symm
  by_cases hxy : x < y
  · obtain rfl : d = true := HD.out.2 hxy
    by_cases hxl : x ≤ lf
    · rw [decide_eq_true hxl]
      go_wp2_with fail
      refine HFA.out.mono ?_
      rintro e w13 ⟨rfl, hb13⟩
      have HFF := Lib.hid (Bl.trans HB11.out hb13)
      clear hb13
      go_wp2
      go_ret
      exact ⟨rfl, HFF.out⟩
    · have HXD : Hid (decide (x ≤ lf) = false) := Lib.hid (decide_eq_false hxl)
      rw [HXD.out]
      go_wp2_with fail
      refine HFA.out.mono ?_
      rintro e w13 ⟨rfl, hb13⟩
      have HFF := Lib.hid (Bl.trans HB11.out hb13)
      clear hb13
      go_wp2
      go_ret
      exact ⟨by rw [HXD.out] <;> rfl, HFF.out⟩
  · obtain rfl : d = false := by
      cases d
      · rfl
      · exact absurd (HD.out.1 rfl) hxy
    by_cases hxl : x ≤ lf
    · rw [decide_eq_true hxl]
      go_wp2_with fail
      refine HFA.out.mono ?_
      rintro e w13 ⟨rfl, hb13⟩
      have HFF := Lib.hid (Bl.trans HB11.out hb13)
      clear hb13
      go_wp2
      go_ret
      exact ⟨rfl, HFF.out⟩
    · have HXD : Hid (decide (x ≤ lf) = false) := Lib.hid (decide_eq_false hxl)
      rw [HXD.out]
      go_wp2_with fail
      refine HFA.out.mono ?_
      rintro e w13 ⟨rfl, hb13⟩
      have HFF := Lib.hid (Bl.trans HB11.out hb13)
      clear hb13
      go_wp2
      go_ret
      exact ⟨by rw [HXD.out] <;> rfl, HFF.out⟩
end Go.Proofs.YtfhfncnnendnfaaGreatDoor
