/- The walk of BoardsStay: whatever the input: true. No conditions. -/
import Derived.Test.YtnmimagninhkkaaGreatDoorWai
import Derived.Test.YtnmimagninhkkaaGreatDoorSpo
import Derived.Test.YtnmimagninhkkaaGreatDoorCh3
import Derived.Test.YtnmimagninhkkaaGreatDoorReady2
import Derived.Test.YtnmimagninhkkaaGreatDoorStart
import Derived.Deep.RegionWith
namespace Go.Proofs.YtnmimagninhkkaaGreatDoor
open Go.RowKit Go.Sort Go.Maps

/-- all names of components are short. -/
theorem open_short {rh rr at' : Int} {l : List Stp} (h : ∀ s ∈ l, s.co.size ≤ 5) : ∀ p ∈ runS rh rr at' [] l, ∀ q ∈ p.2.op, q.1.length ≤ 5 := by
  refine runS_in (P := fun m => ∀ p ∈ m, ∀ q ∈ p.2.op, q.1.length ≤ 5) l [] (fun m s hs h0 => ?_) fun p hp => by simp at hp
  have hg : ∀ q ∈ ((m.get s.bd.data.toList).getD newB).op, q.1.length ≤ 5 := by
    cases hm : m.get s.bd.data.toList with
    | none => intro q hq; simp [newB] at hq
    | some b => exact h0 _ (Sm.get_mem hm)
  have hd : ∀ b : Bd0, (∀ q ∈ b.op, q.1.length ≤ 5) → ∀ q ∈ (doB b s).op, q.1.length ≤ 5 := fun b hb => by
    have hco : s.co.data.toList.length ≤ 5 := by have := h s hs; rw [show s.co.data.toList.length = s.co.size from Array.length_toList]; exact this
    unfold doB
    (repeat' split) <;> first
      | exact hb
      | (intro q hq; rcases Sm.put_mem.1 hq with rfl | ⟨hq, _⟩; exact hco; exact hb q hq)
      | (intro q hq; exact hb q (List.mem_filter.1 hq).1)
  obtain ⟨b', hb', hc⟩ := doS_put rh rr m s
  rw [hb']
  intro p hp
  rcases Sm.put_mem.1 hp with rfl | ⟨hp, _⟩
  · rcases hc with rfl | ⟨_, rfl⟩
    · exact hg
    · exact hd _ hg
  · exact h0 p hp
def u1b : ByteArray := ⟨#[117, 49]⟩
def spoilt : ByteArray := ⟨#[115, 112, 111, 105, 108, 116]⟩
theorem not_spoilt {rh rr at' : Int} {l : List Stp} {bs : ByteArray} (h : ∀ s ∈ l, s.co.size ≤ 5) : Lib.containsS ((cAt rh rr l bs at').op.keys.map baOf) spoilt = false := by
  rw [← Bool.not_eq_true, Lib.containsS_iff]
  intro hm
  obtain ⟨k, hk, e⟩ := List.mem_map.1 hm
  have h5 : k.length ≤ 5 := by
    obtain ⟨q, hq, rfl⟩ := List.mem_map.1 hk
    unfold cAt at hq
    split at hq
    · cases hg : (runS rh rr at' [] l).get (bsOf bs) with
      | none => rw [hg] at hq; simp [newB] at hq
      | some b => rw [hg] at hq; exact open_short h _ (Sm.get_mem hg) q hq
    · simp [zeroB0] at hq
  have : (baOf k).size = 6 := by rw [e]; rfl
  have e2 : (baOf k).size = k.length := by show k.toArray.size = _; simp
  omega
theorem kp_own {α : Type} {T : Rty α} {w w' : World} {B C D : Nat} {v : Value} {l : List α} (h : OwnR T w D v l) (hk : Kp w w' (fun i => B ≤ i ∧ i < C)) (hD : C ≤ D) : OwnR T w' D v l := h.keep fun k h1 h2 => hk.block k h2 (by omega)
theorem own_top {α : Type} {T : Rty α} {w : World} {B C : Nat} {v : Value} {l : List α} (h : OwnR T w B v l) (hC : w.heap.size ≤ C) : ∀ g, v.ownBlock = some g → g < C := fun g hg => by
  have := (World.ownsRow.lt h g hg).2; omega
theorem setL_short (s : Nat) : ∀ n, (setL s n).length ≤ n
  | 0 => Nat.le_refl _
  | n + 1 => by
    have := setL_short s n
    rw [setL]
    split
    · rw [List.length_append]; simp; omega
    · omega
theorem choose_any {ws : List Wk} {m : Int} {vw : Value} {w : World} (hlen : ws.length ≤ 100) (hsz : ∀ x ∈ ws, x.1.size ≤ 1000) (rl : RecR TW w 0 vw ws) :
    Calls Tryz.prog 51 #[vw, .int .i64 m] w fun e w' => (∃ (vr : Value) (l : List Int) (n : Int), e = .returned (.tuple #[vr, .int .i64 n, .int .i64 (wkF ws m)]) ∧ OwnR TIn w' w.heap.size vr l ∧ l.length ≤ 100000) ∧ Below w.heap.size w w' := by
  by_cases h0 : wkF ws m = 0
  · obtain ⟨hG, hm0, hm1⟩ := wkF_good h0
    refine (Choose_any ws m vw w hG hm0 hm1 hsz rl).mono ?_
    rintro e w' ⟨⟨s, vr, rfl, hO, _⟩, hb⟩
    exact ⟨⟨vr, _, _, by rw [h0], hO.rec, by unfold nats; rw [List.length_map]; have := setL_short s ws.length; omega⟩, hb⟩
  · refine (ChooseBad_any ws m vw w hlen hsz rl h0).mono ?_
    rintro e w' ⟨rfl, hb⟩
    exact ⟨⟨_, [], 0, rfl, OwnR.nil _ _, by simp⟩, hb⟩
theorem cAt_small {rh rr at' : Int} {l : List Stp} {bs : ByteArray} (h : stepsF l = 0) : ((cAt rh rr l bs at').op.keys.map baOf).length ≤ 100000 := by
  rw [List.length_map, keys_len]
  unfold cAt
  split
  · exact ((run_small h).get _).2.2.2.2.1
  · exact Nat.zero_le _
theorem waitL_few {rh rr at' : Int} {l : List Stp} (h : l.length ≤ 24) : ((waitL rh rr l at').map baOf).length ≤ 100000 := by
  rw [List.length_map]
  unfold waitL
  split
  · rw [(sortW_perm _ _).length_eq]
    have := fail_few (rh := rh) (rr := rr) (at' := at') h
    omega
  · exact Nat.zero_le _
set_option maxHeartbeats 8000000 in
set_option maxRecDepth 100000 in
theorem BoardsStay_any (l : List Int) (v : Value) (w : World) (rl : Ints w 0 v l) (hl : ∀ x ∈ l, -9223372036854775808 ≤ x ∧ x ≤ 9223372036854775807) :
    Calls Tryz.prog 7 #[v] w fun e w' => e = .returned (.bool true) ∧ Below w.heap.size w w' := by
  obtain ⟨va, cap, rfl, hc1, hc2⟩ := Ints.form rl
  have hs0 := Str.begin rl hl
  have hb0 := Bl.alloc (Below.refl w.heap.size w) (.cells #[.slice va l.length cap, .int .i64 0] 25)
  clear rl hl
  go_enter Tryz.func7, Tryz.ntmps7
  go_wp2_with fail
  refine (RightRules_any _ 0 _ hs0 (by omega)).mono ?_
  rintro e w1 ⟨rh, rr, rfl, hr1, hr2, hr3, hr4, hs1, hg1⟩
  have hb1 := Below.trans hb0 (Gr.below hg1 (Nat.le_refl _) hb0.size)
  clear hs0 hb0 hg1
  go_wp2_with fail
  refine (RightSteps_any _ _ _ hs1 (by omega)).mono ?_
  rintro e w2 ⟨vx, x, rfl, hO2, hx24, hxok, hx0, hs2, hg2⟩
  have hb2 := Below.trans hb1 (Gr.below hg2 (Nat.le_refl _) hb1.size)
  have HX := Lib.hid (And.intro hxok hx0)
  have hz1 := hb1.size
  have hl1 := hs1.lt
  clear hs1 hb1 hg2 hxok hx0
  go_wp2_with fail
  refine (WorkList_any _ _ _ hs2 (by omega)).mono ?_
  rintro e w3 ⟨vw, ws, rfl, hO3w, hw6, hwsz, hs3, hg3⟩
  have hb3 := Below.trans hb2 (Gr.below hg3 (Nat.le_refl _) hb2.size)
  have hO3 := (hO2.grown hg3 (by omega)).rec0
  have hO3w := hO3w.rec0
  have HWS := Lib.hid hwsz
  clear hs2 hs3 hb2 hO2 hg3 hwsz
  obtain ⟨w4, hw4⟩ : ∃ w4, w4 = w3.alloc (.cells #[.int .i64 rh, .int .i64 rr] 27) := ⟨_, rfl⟩
  have hbA : Below w3.heap.size w3 w4 := by rw [hw4]; exact Bl.alloc (Below.refl _ _) _
  have HX4 := Lib.hid (show w4.heap[w3.heap.size]? = some (.cells #[.int .i64 rh, .int .i64 rr] 27 (0, 0)) by rw [hw4]; exact blk_new w3 _)
  have HB4 := Lib.hid (Bl.trans hb3 hbA)
  have HO4 := Lib.hid (And.intro (hO3.below hbA) (hO3w.below hbA))
  clear hO3 hO3w hb3 hbA
  have HB0 := Lib.hid (show bfltF rh rr x u1b 345686399999 = 0 by
    unfold bfltF
    rw [fltF_of ⟨hr1, hr2⟩ ⟨hr3, hr4⟩ HX.out.2, if_pos rfl, show keyB u1b = true from by decide, if_pos rfl, show momB 345686399999 = true from by decide, if_pos rfl])
  have HM0 := Lib.hid (show mfltF rh rr x 345686399999 = 0 by
    unfold mfltF
    rw [fltF_of ⟨hr1, hr2⟩ ⟨hr3, hr4⟩ HX.out.2, if_pos rfl, show momB 345686399999 = true from by decide, if_pos rfl])
  go_wp2_with fail
  rw [← hw4]
  clear hw4
  refine (CloneSt_any vx w4 (by omega) HO4.out.1).mono ?_
  rintro e w5 ⟨vy, rfl, hY5, hb5⟩
  have HY5 := Lib.hid hY5.rec0
  have HB5 := Lib.hid hb5
  clear hY5 hb5
  go_wp2_with fail
  refine (CloneWk_any vw w5 (by omega) (HO4.out.2.below HB5.out)).mono ?_
  rintro e w6 ⟨vv, rfl, hV6, hb6⟩
  have HV6 := Lib.hid hV6.rec0
  have HY6 := Lib.hid (HY5.out.below hb6)
  have HB6 := Lib.hid (Below.trans HB5.out (hb6.mono HB5.out.size))
  have r0 : w6.cell? ⟨w3.heap.size, 0, none⟩ = some (.int .i64 rh) := blk_cell (blk_below HX4.out HB6.out) 0
  have r1 : w6.cell? ⟨w3.heap.size, 1, none⟩ = some (.int .i64 rr) := blk_cell (blk_below HX4.out HB6.out) 1
  clear hV6 hb6 HY5 HB5
  have HA := Lib.hid (At_any rh rr x u1b 345686399999 vx w6 (by omega) (HO4.out.1.below HB6.out) (StpOk.z HX.out.1) (by decide))
  rw [HB0.out] at HA
  obtain ⟨xa, xcap, rfl, _, _⟩ := HO4.out.1.form
  obtain ⟨wa, wcap, rfl, _, _⟩ := HO4.out.2.form
  obtain ⟨ya, ycap, rfl, _, _⟩ := HY6.out.form
  obtain ⟨ua, ucap, rfl, _, _⟩ := HV6.out.form
  obtain ⟨c, hc⟩ : ∃ c, c = cAt rh rr x u1b 345686399999 := ⟨_, rfl⟩
  have HCE := Lib.hid hc
  rw [← hc] at HA
  clear hc
  go_wp2_with fail
  refine HA.out.mono ?_
  rintro e w7 ⟨⟨v7, rfl, hC7, _⟩, hb7⟩
  obtain ⟨a7, n7, c7, rfl⟩ : ∃ a n c, v7 = .slice a n c := by obtain ⟨a, c, hv, _, _⟩ := hC7.form; exact ⟨a, _, c, hv⟩
  have HC7 := Lib.hid hC7
  have HB7 := Lib.hid hb7
  obtain ⟨w8, hw8⟩ : ∃ w8, w8 = w7.alloc (.cells #[.int .i64 c.st, .int .i64 c.si, .int .i64 c.he, .slice a7 n7 c7] 46) := ⟨_, rfl⟩
  have HX8 := Lib.hid (show w8.heap[w7.heap.size]? = some (.cells #[.int .i64 c.st, .int .i64 c.si, .int .i64 c.he, .slice a7 n7 c7] 46 (0, 0)) by rw [hw8]; exact blk_new w7 _)
  have HB78 := Lib.hid (show Below w7.heap.size w7 w8 by rw [hw8]; exact Bl.alloc (Below.refl _ _) _)
  have HB68 := Lib.hid (Below.trans hb7 (HB78.out.mono hb7.size))
  have hz78 : w7.heap.size < w8.heap.size := blk_lt HX8.out
  have hz67 := hb7.size
  clear hC7 hb7
  have HWA := Lib.hid (Waiting_any rh rr x 345686399999 (.slice xa x.length xcap) w8 (by omega) ((HO4.out.1.below HB6.out).below HB68.out) (StpOk.z HX.out.1))
  rw [HM0.out] at HWA
  have s0 : w7.cell? ⟨w3.heap.size, 0, none⟩ = some (.int .i64 rh) := blk_cell (blk_below (blk_below HX4.out HB6.out) HB7.out) 0
  have s1 : w7.cell? ⟨w3.heap.size, 1, none⟩ = some (.int .i64 rr) := blk_cell (blk_below (blk_below HX4.out HB6.out) HB7.out) 1
  have lt3 : w3.heap.size < w7.heap.size := blk_lt (blk_below (blk_below HX4.out HB6.out) HB7.out)
  unfold condV
  go_wp2_with fail
  rw [← hw8]
  clear hw8
  refine HWA.out.mono ?_
  rintro e w9 ⟨⟨v9, rfl, hO9⟩, hb9⟩
  obtain ⟨a9, n9, c9, rfl⟩ : ∃ a n c, v9 = .slice a n c := by obtain ⟨a, c, hv, _, _⟩ := hO9.form; exact ⟨a, _, c, hv⟩
  have HO9 := Lib.hid hO9
  have HB9 := Lib.hid hb9
  have hz89 := hb9.size
  have HCH := Lib.hid (choose_any (ws := ws) (m := 50) (vw := .slice wa ws.length wcap) (w := w9) (by omega) HWS.out (((HO4.out.2.below HB6.out).below HB68.out).below hb9))
  obtain ⟨F, hF⟩ : ∃ F, F = wkF ws 50 := ⟨_, rfl⟩
  rw [← hF] at HCH
  have HF := Lib.hid hF
  clear hO9 hb9 hF
  go_wp2_with fail
  refine HCH.out.mono ?_
  rintro e w10 ⟨⟨v10, kl, kn, rfl, hO10, hkl⟩, hb10⟩
  obtain ⟨a10, n10, c10, rfl⟩ : ∃ a n c, v10 = .slice a n c := by obtain ⟨a, c, hv, _, _⟩ := hO10.form; exact ⟨a, _, c, hv⟩
  have HO10 := Lib.hid hO10
  have HB10 := Lib.hid hb10
  have HKL := Lib.hid hkl
  have hz910 := hb10.size
  have HB610 := Lib.hid (Below.trans HB68.out (Below.trans (HB9.out.mono (Nat.le_trans hz67 (Nat.le_of_lt hz78))) (hb10.mono (by omega))))
  have HCF := Lib.hid (ChooseF_any ws 50 (.slice ua ws.length ucap) w10 (by omega) HWS.out (HV6.out.below HB610.out))
  rw [← HF.out] at HCF
  clear hO10 hb10 hkl
  go_wp2_with fail
  refine HCF.out.mono ?_
  rintro e w11 ⟨rfl, hb11⟩
  have hz11 := hb11.size
  have HB711 := Lib.hid (Below.trans HB78.out (Below.trans (HB9.out.mono (Nat.le_of_lt hz78)) (Below.trans (HB10.out.mono (by omega)) (hb11.mono (by omega)))) : Below w7.heap.size w7 w11)
  have HB911 := Lib.hid (Below.trans HB10.out (hb11.mono hz910) : Below w9.heap.size w9 w11)
  have HB1011 := Lib.hid hb11
  have HB611 := Lib.hid (Below.trans HB610.out (hb11.mono (by omega)) : Below w6.heap.size w6 w11)
  have HB811 := Lib.hid (Below.trans HB9.out (Below.trans (HB10.out.mono hz89) (hb11.mono (by omega))) : Below w8.heap.size w8 w11)
  have t3 : w11.cell? ⟨w7.heap.size, 3, none⟩ = some (.slice a7 n7 c7) := blk_cell (blk_below HX8.out HB811.out) 3
  have lt7 : w7.heap.size < w11.heap.size := by omega
  have HS1 := Lib.hid (spoilS_any _ (.slice a7 n7 c7) w11 w6.heap.size w7.heap.size (by rw [HCE.out]; exact cAt_small HX.out.2) (HC7.out.below HB711.out) (own_top HC7.out (Nat.le_refl _)))
  clear hb11
  go_wp2_with fail
  refine HS1.out.mono ?_
  rintro e w12 ⟨rfl, hk12⟩
  have HO912 := Lib.hid (kp_own (HO9.out.below HB911.out) hk12 (by omega))
  have HO1012 := Lib.hid (kp_own (HO10.out.below HB1011.out) hk12 (by omega))
  have HS2 := Lib.hid (spoilS_any _ (.slice a9 n9 c9) w12 w8.heap.size w9.heap.size (waitL_few (by omega)) HO912.out (own_top HO9.out (Nat.le_refl _)))
  have HB612 := Lib.hid (Below.trans HB611.out (hk12.below (B := w6.heap.size) (fun i _ h => h.1) (by omega)))
  clear hk12
  go_wp2_with fail
  refine HS2.out.mono ?_
  rintro e w13 ⟨rfl, hk13⟩
  have HO1013 := Lib.hid (kp_own HO1012.out hk13 (Nat.le_refl _))
  have HS3 := Lib.hid (spoilI_any _ (.slice a10 n10 c10) w13 w9.heap.size w10.heap.size HKL.out HO1013.out (own_top HO10.out (Nat.le_refl _)))
  have HB613 := Lib.hid (Below.trans HB612.out (hk13.below (B := w6.heap.size) (fun i _ h => by have := h.1; omega) (by have := HB612.out.size; omega)))
  clear hk13
  go_wp2_with fail
  refine HS3.out.mono ?_
  rintro e w14 ⟨rfl, hk14⟩
  have HB614 := Lib.hid (Below.trans HB613.out (hk14.below (B := w6.heap.size) (fun i _ h => by have := h.1; omega) (by have := HB613.out.size; omega)))
  have q0 : w14.cell? ⟨w3.heap.size, 0, none⟩ = some (.int .i64 rh) := blk_cell (blk_below (blk_below HX4.out HB6.out) HB614.out) 0
  have q1 : w14.cell? ⟨w3.heap.size, 1, none⟩ = some (.int .i64 rr) := blk_cell (blk_below (blk_below HX4.out HB6.out) HB614.out) 1
  have HA2 := At_any rh rr x u1b 345686399999 (.slice ya x.length ycap) w14 (by omega) (HY6.out.below HB614.out) (StpOk.z HX.out.1) (by decide)
  rw [HB0.out, ← HCE.out] at HA2
  have HA2 := Lib.hid HA2
  clear hk14
  go_wp2_with fail
  refine HA2.out.mono ?_
  rintro e w15 ⟨⟨v15, rfl, hC15, _⟩, hb15⟩
  obtain ⟨a15, n15, c15, rfl⟩ : ∃ a n c, v15 = .slice a n c := by obtain ⟨a, c, hv, _, _⟩ := hC15.form; exact ⟨a, _, c, hv⟩
  have HCO := HasS_any (c.op.keys.map baOf) (.slice a15 n15 c15) spoilt
  rw [show Lib.containsS (c.op.keys.map baOf) spoilt = false by rw [HCE.out]; exact not_spoilt (fun s hs => (HX.out.1 s hs).2.1)] at HCO
  have HCO := Lib.hid fun W (hW : Below w15.heap.size w15 W) => HCO W (by rw [HCE.out]; exact cAt_small HX.out.2) ((hC15.below hW).rec0)
  have HB615 := Lib.hid (Below.trans HB614.out (hb15.mono HB614.out.size))
  have HES := EqualSt_any x x (.slice xa x.length xcap) (.slice ya x.length ycap)
  rw [show decide (x = x) = true from decide_eq_true rfl] at HES
  have HES := Lib.hid fun W (hW : Below w15.heap.size w15 W) => HES W (by omega) (by omega) (((HO4.out.1.below HB6.out).below HB615.out).below hW) ((HY6.out.below HB615.out).below hW)
  have HEW := EqualWk_any ws ws (.slice wa ws.length wcap) (.slice ua ws.length ucap)
  rw [show decide (ws = ws) = true from decide_eq_true rfl] at HEW
  have HEW := Lib.hid fun W (hW : Below w15.heap.size w15 W) => HEW W (by omega) (by omega) (((HO4.out.2.below HB6.out).below HB615.out).below hW) ((HV6.out.below HB615.out).below hW)
  have hB0 := Below.refl w15.heap.size w15
  clear hC15 hb15
  unfold condV
  have hbA := Bl.alloc hB0 (.cells #[.int .i64 c.st, .int .i64 c.si, .int .i64 c.he, .slice a15 n15 c15] 46)
  go_wp2_with fail
  refine (HCO.out _ hbA).mono ?_
  rintro e w' ⟨rfl, rfl⟩
  go_wp2_with fail
  refine (HES.out _ hbA).mono ?_
  rintro e w17 ⟨rfl, hb17⟩
  have hb1517 := Bl.trans hbA hb17
  clear hb17
  go_wp2_with fail
  refine (HEW.out _ hb1517).mono ?_
  rintro e w18 ⟨rfl, hb18⟩
  have hb1518 := Bl.trans hb1517 hb18
  clear hb18
  go_wp2_with fail
  refine (ready_any _).mono ?_
  rintro e w19 ⟨rfl, hb19⟩
  have HFIN := Lib.hid (Below.trans (Below.trans HB4.out ((Below.trans HB6.out (HB615.out.mono HB6.out.size)).mono HB4.out.size)) ((Bl.trans hb1518 hb19).mono (by have := HB615.out.size; have := HB6.out.size; have := HB4.out.size; omega)))
  clear hb1518 hb19
  go_wp2
  go_ret
  exact ⟨rfl, HFIN.out⟩
end Go.Proofs.YtnmimagninhkkaaGreatDoor
