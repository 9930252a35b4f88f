/- The walk of HopelessOnesWait: whatever the input: true. No conditions. -/
import Derived.Test.YtnmimagninhkkaaGreatDoorHwl
import Derived.Test.YtnmimagninhkkaaGreatDoorSpo
import Derived.Test.YtnmimagninhkkaaGreatDoorReady2
import Derived.Test.YtnmimagninhkkaaGreatDoorStart
import Derived.Deep.RegionWith
namespace Go.Proofs.YtnmimagninhkkaaGreatDoor
open Go.RowKit Go.Sort Go.Maps

theorem waitL_len {rh rr at' : Int} {x : List Stp} (hx : x.length ≤ 24) : (waitL rh rr x at').length ≤ 24 := by
  unfold waitL
  split
  · rw [(sortW_perm _ _).length_eq]
    have h := (runS_small (rh := rh) (rr := rr) (at' := at') x (m := []) (n := 0) ⟨Nat.le_refl _, fun p hp => by simp at hp⟩).1
    have h2 : (inS (runS rh rr at' [] x) 3).length ≤ (runS rh rr at' [] x).length := by
      unfold inS
      rw [List.length_map]
      exact List.length_filter_le _ _
    omega
  · exact Nat.zero_le _
theorem hopL_len {rh rr at' : Int} {x : List Stp} (hx : x.length ≤ 24) : (hopL rh rr x at').length ≤ 24 := by
  unfold hopL
  split
  · have h := (runS_small (rh := rh) (rr := rr) (at' := at') x (m := []) (n := 0) ⟨Nat.le_refl _, fun p hp => by simp at hp⟩).1
    have h2 : (inS (runS rh rr at' [] x) 3).length ≤ (runS rh rr at' [] x).length := by
      unfold inS
      rw [List.length_map]
      exact List.length_filter_le _ _
    exact Nat.le_trans (List.length_filter_le _ _) (by omega)
  · exact Nat.zero_le _
set_option maxHeartbeats 8000000 in
set_option maxRecDepth 100000 in
theorem HopelessOnesWait_any (l : List Int) (v : Value) (w : World) (rl : Ints w 0 v l) (hl : ∀ x ∈ l, -9223372036854775808 ≤ x ∧ x ≤ 9223372036854775807) :
    Calls Tryz.prog 5 #[v] w fun e w' => e = .returned (.bool true) ∧ Below w.heap.size w w' := by
  obtain ⟨va, cap, rfl, hc1, hc2⟩ := Ints.form rl
  have hs0 := Str.begin rl hl
  have hb0 := Bl.alloc (Below.refl w.heap.size w) (.cells #[.slice va l.length cap, .int .i64 0] 25)
  clear rl hl
  go_enter Tryz.func5, Tryz.ntmps5
  go_wp2_with fail
  refine (RightRules_any _ 0 _ hs0 (by omega)).mono ?_
  rintro e w1 ⟨rh, rr, rfl, hr1, hr2, hr3, hr4, hs1, hg1⟩
  have hb1 := Below.trans hb0 (Gr.below hg1 (Nat.le_refl _) hb0.size)
  clear hs0 hb0 hg1
  go_wp2_with fail
  refine (RightSteps_any _ _ _ hs1 (by omega)).mono ?_
  rintro e w2 ⟨vx, x, rfl, hO2, hx24, hxok, hx0, hs2, hg2⟩
  have hb2 := Below.trans hb1 (Gr.below hg2 (Nat.le_refl _) hb1.size)
  have HX := Lib.hid (And.intro hxok hx0)
  have hO2 := hO2.rec0
  clear hs1 hb1 hg2 hxok hx0 hs2
  obtain ⟨w3, hw3⟩ : ∃ w3, w3 = w2.alloc (.cells #[.int .i64 rh, .int .i64 rr] 27) := ⟨_, rfl⟩
  have hbA : Below w2.heap.size w2 w3 := by rw [hw3]; exact Bl.alloc (Below.refl _ _) _
  have HX3 := Lib.hid (show w3.heap[w2.heap.size]? = some (.cells #[.int .i64 rh, .int .i64 rr] 27 (0, 0)) by rw [hw3]; exact blk_new w2 _)
  have HB3 := Lib.hid (Bl.trans hb2 hbA)
  have HO3 := Lib.hid (hO2.below hbA)
  obtain ⟨xa, xcap, rfl, _, _⟩ := HO3.out.form
  have HM := Lib.hid (mfl_of (rh := rh) (rr := rr) ⟨hr1, hr2⟩ ⟨hr3, hr4⟩ HX.out.2)
  obtain ⟨at', hat⟩ : ∃ a, a = lastM x := ⟨_, rfl⟩
  rw [← hat] at HM
  have HAT := Lib.hid hat
  clear hO2 hb2 hbA hat
  by_cases hne : x = []
  case' neg =>
    have hpos : 0 < x.length := List.length_pos_iff.2 hne
    have hposz : (0 : Int) < (x.length : Int) := by omega
    obtain ⟨b1, o1, rfl, _, _, hc⟩ := HO3.out.at TSt.ok.len (i := x.length - 1) (x := x.getLast hne) (by rw [List.getLast_eq_getElem]; exact List.getElem?_eq_getElem _) TSt.ok.pos
    have e0 : w3.cell? ⟨b1, o1 + (x.length - 1) * 4, none⟩ = some (.int .i64 (x.getLast hne).at) := hc 0 _ rfl
    have hla : lastM x = (x.getLast hne).at := dif_pos hne
    rw [← hla, ← HAT.out, hw3] at e0
    clear hla
    have hws : IntKind.i64.wrap ((x.length : Int) - 1) = ((x.length - 1 : Nat) : Int) := by rw [IntWalk.i64_in _ (by omega)]; omega
    clear hc
    have HWT0 := Waiting_any rh rr x at' (.slice (some ⟨b1, o1, none⟩) x.length xcap) w3 (by omega) HO3.out (StpOk.z HX.out.1)
    rw [HM.out] at HWT0
    have HWT := Lib.hid HWT0
    have c0 : w3.cell? ⟨w2.heap.size, 0, none⟩ = some (.int .i64 rh) := blk_cell HX3.out 0
    have c1 : w3.cell? ⟨w2.heap.size, 1, none⟩ = some (.int .i64 rr) := blk_cell HX3.out 1
    have lr := blk_lt HX3.out
    clear HWT0
    go_wp2_with fail
    rw [← hw3]
    clear hw3
    refine HWT.out.mono ?_
    rintro e w4 ⟨⟨v4, rfl, hO4⟩, hb4⟩
    obtain ⟨wL, hwL⟩ : ∃ wL, wL = waitL rh rr x at' := ⟨_, rfl⟩
    rw [← hwL] at hO4
    obtain ⟨a4, k4, rfl, _, _⟩ := hO4.form
    rw [List.length_map] at *
    have hw24 : wL.length ≤ 24 := by
      rw [hwL]
      exact waitL_len hx24
    obtain ⟨w5, hw5⟩ : ∃ w5, w5 = w4.alloc (.cells #[.slice a4 wL.length k4] 41) := ⟨_, rfl⟩
    have hA5 : Below w4.heap.size w4 w5 := by rw [hw5]; exact Bl.alloc (Below.refl _ _) _
    have HX5 := Lib.hid (show w5.heap[w4.heap.size]? = some (.cells #[.slice a4 wL.length k4] 41 (0, 0)) by rw [hw5]; exact blk_new w4 _)
    have hb5 := Bl.trans hb4 hA5
    have HB5 := Lib.hid (Bl.trans HB3.out hb5)
    have HO5 := Lib.hid (HO3.out.below hb5)
    have HW5 := Lib.hid (hO4.rec0.below hA5)
    have HR5 := Lib.hid (blk_below HX3.out hb5)
    have HWL := Lib.hid hwL
    have HHT0 := Hopeless_any rh rr x at' (.slice (some ⟨b1, o1, none⟩) x.length xcap) w5 (by omega) HO5.out (StpOk.z HX.out.1)
    rw [HM.out] at HHT0
    have HHT := Lib.hid HHT0
    have k0 : w4.cell? ⟨w2.heap.size, 0, none⟩ = some (.int .i64 rh) := blk_cell (blk_below HX3.out hb4) 0
    have k1 : w4.cell? ⟨w2.heap.size, 1, none⟩ = some (.int .i64 rr) := blk_cell (blk_below HX3.out hb4) 1
    have lr4 := blk_lt (blk_below HX3.out hb4)
    clear hO4 hA5 hb4 hb5 hwL HHT0 HWT e0 c0 c1 lr
    go_wp2_with fail
    rw [← hw5]
    clear hw5
    refine HHT.out.mono ?_
    rintro e w6 ⟨⟨v6, rfl, hO6⟩, hb6⟩
    obtain ⟨hL, hhL⟩ : ∃ hL, hL = hopL rh rr x at' := ⟨_, rfl⟩
    rw [← hhL] at hO6
    obtain ⟨a6, k6, rfl, _, _⟩ := hO6.form
    rw [List.length_map] at *
    have hh24 : hL.length ≤ 24 := by rw [hhL]; exact hopL_len hx24
    have HHL := Lib.hid hhL
    have HO6 := Lib.hid hO6.rec0
    have HB6 := Lib.hid (Bl.trans HB5.out hb6)
    have HW6 := Lib.hid (HW5.out.below hb6)
    have HX6 := Lib.hid (blk_below HX5.out hb6)
    have HR6 := Lib.hid (blk_below HR5.out hb6)
    have HS6 := Lib.hid (HO5.out.below hb6)
    have HCF := Lib.hid (HasW_any w6 w4.heap.size (hL.map baOf) (wL.map baOf) (.slice a6 hL.length k6) (.slice a4 wL.length k4) (by rw [List.length_map]; omega) (by rw [List.length_map]; omega) HO6.out (blk_cell HX6.out 0) HW6.out (by rw [HHL.out, HWL.out, HAT.out]; exact hop_mem ⟨hr1, hr2⟩ ⟨hr3, hr4⟩ HX.out.2))
    clear hO6 hb6 hhL HHT k0 k1 lr4
    go_wp2_with (go_at_call 25; refine HCF.out.mono ?_; rintro e w7 ⟨rfl, hb7⟩; have b7 : w7.cell? ⟨w4.heap.size, 0, none⟩ = some (.slice a4 wL.length k4) := blk_cell (blk_below HX6.out hb7) 0)
    have HB7 := Lib.hid (Bl.trans HB6.out hb7)
    have HW7 := Lib.hid (HW6.out.below hb7)
    have HR7 := Lib.hid (blk_below HR6.out hb7)
    have HS7 := Lib.hid (HS6.out.below hb7)
    have HH7 := Lib.hid (HO6.out.below hb7)
    clear hb7 b7 HCF
    go_loopw [63] (fun i wr => ∃ k : Nat, k ≤ wL.length ∧ i = .int .i64 k ∧ Below w7.heap.size w7 wr) (fun i _ => wL.length - (intOf i).toNat)
    case atStart => exact ⟨0, Nat.zero_le _, rfl, Below.refl _ _⟩
    case round =>
      obtain ⟨k, hk, rfl, hb⟩ := hrel
      by_cases hlt : k < wL.length
      · obtain ⟨key, hkey⟩ : ∃ y, wL[k]? = some y := ⟨_, List.getElem?_eq_getElem hlt⟩
        obtain ⟨b4, o4, rfl, _, _, hx1⟩ := str_at (HW7.out.below hb) (k := k) (x := baOf key) (by simp [hkey])
        have hin : key ∈ waitL rh rr x (lastM x) := by rw [← HAT.out, ← HWL.out]; exact List.mem_of_getElem? hkey
        obtain ⟨b, hkb, hcb, hop, hol, hck, hy0, hyst⟩ := hw_law ⟨hr1, hr2⟩ ⟨hr3, hr4⟩ HX.out.2 hx24 hin
        rw [← HAT.out] at hcb hy0 hyst
        rw [← HHL.out] at hyst
        have hla := lastM_ok HX.out.2
        rw [← HAT.out] at hla
        have hbf := bfl_of (bd := baOf key) ⟨hr1, hr2⟩ ⟨hr3, hr4⟩ HX.out.2 hla hkb
        have hks := keyB_size hkb
        have HA0 := At_any rh rr x (baOf key) at' (.slice (some ⟨b1, o1, none⟩) x.length xcap) wr (by omega) (HS7.out.below hb) (StpOk.z HX.out.1) (by omega)
        rw [hcb, hbf] at HA0
        have HA := Lib.hid HA0
        have HY := Lib.hid (And.intro hkb (And.intro hck (And.intro hy0 hyst)))
        have HLA := Lib.hid hla
        have c0 : wr.cell? ⟨w2.heap.size, 0, none⟩ = some (.int .i64 rh) := blk_cell (blk_below HR7.out hb) 0
        have c1 : wr.cell? ⟨w2.heap.size, 1, none⟩ = some (.int .i64 rr) := blk_cell (blk_below HR7.out hb) 1
        have hw1 : IntKind.i64.wrap ((k : Int) + 1) = ((k + 1 : Nat) : Int) := by rw [IntWalk.i64_in _ (by omega)]; omega
        obtain ⟨q, hq⟩ : ∃ q, q = b.op.length := ⟨_, rfl⟩
        have HQ := Lib.hid hq
        rw [← hq] at hop hol
        clear hkey hin hcb hbf HA0 hkb hck hy0 hyst hla hq
        go_wp2_with fail
        refine HA.out.mono ?_
        rintro e w8 ⟨⟨v8, rfl, hC8, _⟩, hb8⟩
        obtain ⟨a8, c8, hv8, _, _⟩ := hC8.form
        rw [List.length_map, keys_len, ← HQ.out] at hv8
        subst hv8
        have hB8 := Below.trans hb (hb8.mono hb.size)
        have HB8 := Lib.hid hB8
        have HC8 := Lib.hid hC8.rec0
        have HS8 := Lib.hid (HS7.out.below hB8)
        obtain ⟨bst, bsi, bhe, bop, brp, blp⟩ := b
        unfold condV
        simp only at HC8 HQ HY
        obtain ⟨w9, hw9⟩ : ∃ w9, w9 = w8.alloc (.cells #[.int .i64 bst, .int .i64 bsi, .int .i64 bhe, .slice a8 q c8] 46) := ⟨_, rfl⟩
        have hA9 : Below w8.heap.size w8 w9 := by rw [hw9]; exact Bl.alloc (Below.refl _ _) _
        have HX9 := Lib.hid (show w9.heap[w8.heap.size]? = some (.cells #[.int .i64 bst, .int .i64 bsi, .int .i64 bhe, .slice a8 q c8] 46 (0, 0)) by rw [hw9]; exact blk_new w8 _)
        have HCL := Lib.hid (CloneSt_any (.slice (some ⟨b1, o1, none⟩) x.length xcap) w9 (by omega) (HS8.out.below hA9))
        have hq1 : ((q : Int) == 0) = false := by simp; omega
        have hq2 : ¬ (q : Int) = 0 := by omega
        clear hC8 hb8 hB8 hb c0 c1
        go_wp2_with fail
        rw [← hw9]
        clear hw9
        refine HCL.out.mono ?_
        rintro e w10 ⟨vy, rfl, hOy, hb10⟩
        have hz9 := hA9.size
        have d3 : w10.cell? ⟨w8.heap.size, 3, none⟩ = some (.slice a8 q c8) := blk_cell (blk_below HX9.out hb10) 3
        have HB9 := Lib.hid (Bl.trans HB8.out hA9)
        have HC9 := Lib.hid (HC8.out.below hA9)
        have lX9 := blk_lt HX9.out
        clear HCL hA9
        go_wp2_with fail
        clear d3
        go_loopw [15, 88] (fun yv i wr => ∃ j : Nat, j ≤ q ∧ i = .int .i64 j ∧ OwnR TSt wr w9.heap.size yv (x ++ ((bop.keys.map baOf).take j).map (repS at' (baOf key))) ∧ Below w9.heap.size w9 wr) (fun _ i _ => q - (intOf i).toNat)
        case atStart => exact ⟨0, Nat.zero_le _, rfl, by simpa using hOy, hb10⟩
        case round =>
          obtain ⟨j, hj, rfl, hOv, hbv⟩ := hrel
          have hzv := hbv.size
          have hlk : (bop.keys.map baOf).length = q := by rw [List.length_map, keys_len]; exact HQ.out.symm
          by_cases hjl : j < q
          · obtain ⟨comp, hcomp⟩ : ∃ y, (bop.keys.map baOf)[j]? = some y := ⟨_, List.getElem?_eq_getElem (by omega)⟩
            obtain ⟨b8, o8, rfl, _, _, hx8⟩ := str_at (HC9.out.below hbv) (k := j) hcomp
            obtain ⟨ys, hys⟩ : ∃ ys, ys = x ++ ((bop.keys.map baOf).take j).map (repS at' (baOf key)) := ⟨_, rfl⟩
            have hysl : ys.length ≤ 1000000 := by
              rw [hys, List.length_append, List.length_map, List.length_take]; omega
            have HN : Hid (ys ++ [repS at' (baOf key) comp] = x ++ ((bop.keys.map baOf).take (j + 1)).map (repS at' (baOf key))) := Lib.hid (by
              rw [hys, List.take_add_one, hcomp]
              simp)
            rw [← hys] at hOv
            have hwj : IntKind.i64.wrap ((j : Int) + 1) = ((j + 1 : Nat) : Int) := by rw [IntWalk.i64_in _ (by omega)]; omega
            clear hys hcomp hlk
            obtain ⟨ay, cy, hvy, _, _⟩ := hOv.form
            go_wp2_with (at_builtin; refine wp_app_rec TSt.ok rfl _ _ rfl w9.heap.size _ ys rfl (hOv.alloc _) wr.heap.size 1 (repS at' (baOf key) comp) rfl (blk_new wr _) rfl hysl (by simp; omega) ?_)
            intro v11 w11 hO11 hA11 hb11
            have hbx := Below.trans (Bl.alloc hbv (.cells #[.int .i64 at', .string (baOf key), .int .i64 4, .string comp] 34)) hb11
            rw [HN.out] at hO11
            have HFF := Lib.hid (And.intro hO11 hbx)
            clear hO11 hA11 hb11 hbx
            go_wp2
            go_roundw
            case rel => exact ⟨j + 1, by omega, by go_num, HFF.out.1, HFF.out.2⟩
            case measure => simp [intOf]; omega
          · obtain rfl : j = q := by omega
            rw [List.take_of_length_le (by omega)] at hOv
            obtain ⟨ys, hys⟩ : ∃ ys, ys = x ++ (bop.keys.map baOf).map (repS at' (baOf key)) := ⟨_, rfl⟩
            have hysl : ys.length ≤ 1000 := by
              rw [hys, List.length_append, List.length_map]; omega
            rw [← hys] at hOv
            have HYY := HY.out
            rw [← hys] at HYY
            have HY2 := Lib.hid HYY
            have hyz : StpZ ys := fun s hs => by
              have := (stepsF_right HY2.out.2.2.1).2.1 s hs
              have h1 := this.bd
              have h2 := this.co
              omega
            have hks := keyB_size HY2.out.1
            have hbf := bfl_of (bd := baOf key) ⟨hr1, hr2⟩ ⟨hr3, hr4⟩ HY2.out.2.2.1 HLA.out HY2.out.1
            have hbw := Bl.trans HB9.out (hbv.mono (Nat.le_refl _))
            obtain ⟨ay, cy, hvy, _, _⟩ := hOv.form
            have HA0 := At_any rh rr ys (baOf key) at' _ wr (by omega) hOv.rec0 hyz (by omega)
            rw [hbf] at HA0
            obtain ⟨bb, hbb⟩ : ∃ bb, bb = cAt rh rr ys (baOf key) at' := ⟨_, rfl⟩
            rw [← hbb] at HA0
            have HA := Lib.hid HA0
            have HST0 := HY2.out.2.2.2
            rw [← hbb] at HST0
            have HST := Lib.hid HST0
            clear HST0
            have HBW := Lib.hid hbw
            have c0 : wr.cell? ⟨w2.heap.size, 0, none⟩ = some (.int .i64 rh) := blk_cell (blk_below HR7.out hbw) 0
            have c1 : wr.cell? ⟨w2.heap.size, 1, none⟩ = some (.int .i64 rr) := blk_cell (blk_below HR7.out hbw) 1
            clear hOv hys HA0 hbf hbb HYY hyz hbw hbv hOy hb10 hlk
            subst hvy
            go_wp2_with fail
            refine HA.out.mono ?_
            rintro e w11 ⟨⟨v11, rfl, hC11, _⟩, hb11⟩
            obtain ⟨a11, n11, c11, rfl⟩ : ∃ a n c, v11 = .slice a n c := by obtain ⟨a, c, hv, _, _⟩ := hC11.form; exact ⟨a, _, c, hv⟩
            have hB11 := Bl.trans HBW.out hb11
            obtain ⟨st2, si2, he2, op2, rp2, lp2⟩ := bb
            unfold condV
            simp only at HST
            obtain ⟨w12, hw12⟩ : ∃ w12, w12 = w11.alloc (.cells #[.int .i64 st2, .int .i64 si2, .int .i64 he2, .slice a11 n11 c11] 46) := ⟨_, rfl⟩
            have hA12 : Below w11.heap.size w11 w12 := by rw [hw12]; exact Bl.alloc (Below.refl _ _) _
            have f0 : w12.cell? ⟨w11.heap.size, 0, none⟩ = some (.int .i64 st2) := blk_cell (show w12.heap[w11.heap.size]? = some (.cells #[.int .i64 st2, .int .i64 si2, .int .i64 he2, .slice a11 n11 c11] 46 (0, 0)) by rw [hw12]; exact blk_new w11 _) 0
            have hB12 := Bl.trans hB11 hA12
            have HB12 := Lib.hid hB12
            have HCO0 := fun (W : World) (hW : Below w12.heap.size w12 W) => HasS_any (hL.map baOf) (.slice a6 hL.length k6) (baOf key) W (by rw [List.length_map]; omega) (HH7.out.below (HB12.out.trans (hW.mono HB12.out.size)))
            clear hC11 hb11 hB11 hA12 hB12 HA c0 c1
            cases hcs : Lib.containsS (hL.map baOf) (baOf key)
            case' false =>
              have h2 : st2 = 2 := HST.out.2 hcs
              subst h2
            case' true =>
              have h2 : ¬ st2 = 2 := fun e => by have := HST.out.1 e; rw [hcs] at this; cases this
              have h3 : (st2 == 2) = false := by simpa using h2
            all_goals (
              rw [hcs] at HCO0
              have HCO := Lib.hid HCO0
              clear HCO0 hcs HST
              go_wp2_with fail
              rw [← hw12]
              clear hw12
              go_region_with (go_at_call 20; refine (HCO.out _ (by first | exact Below.refl _ _ | exact Below.drew (Below.refl _ _))).mono ?_; rintro e w' ⟨rfl, rfl⟩)
              all_goals (
                go_wp2
                go_roundw
                case rel => first | exact ⟨k + 1, by omega, by go_num, HB12.out⟩ | exact ⟨k + 1, by omega, by go_num, Below.drew HB12.out⟩
                case measure => simp [intOf]; omega))
      · obtain rfl : k = wL.length := by omega
        have HF := Lib.hid (Bl.trans HB7.out hb)
        clear hb
        go_wp2_with (go_at_call 19; refine (ready_any _).mono ?_; rintro e w9 ⟨rfl, hb9⟩)
        go_ret
        exact ⟨rfl, Bl.trans HF.out hb9⟩
  case' pos =>
    subst hne
    have h0 : at' = 0 := by rw [HAT.out]; rfl
    subst h0
    have HW0 : Hid (waitL rh rr [] 0 = []) := Lib.hid (by
      unfold waitL
      split
      · exact List.eq_nil_of_length_eq_zero (by rw [(sortW_perm _ _).length_eq]; rfl)
      · rfl)
    have HH0 : Hid (hopL rh rr [] 0 = []) := Lib.hid (by unfold hopL; split <;> rfl)
    have HWT0 := Waiting_any rh rr [] 0 (.slice xa 0 xcap) w3 (by decide) HO3.out (fun s hs => by cases hs)
    rw [HM.out, HW0.out] at HWT0
    have HWT := Lib.hid HWT0
    have c0 : w3.cell? ⟨w2.heap.size, 0, none⟩ = some (.int .i64 rh) := blk_cell HX3.out 0
    have c1 : w3.cell? ⟨w2.heap.size, 1, none⟩ = some (.int .i64 rr) := blk_cell HX3.out 1
    have lr := blk_lt HX3.out
    clear HWT0
    go_wp2_with fail
    rw [← hw3]
    clear hw3
    refine HWT.out.mono ?_
    rintro e w4 ⟨⟨v4, rfl, hO4⟩, hb4⟩
    obtain ⟨a4, k4, rfl, _, _⟩ := hO4.form
    obtain ⟨w5, hw5⟩ : ∃ w5, w5 = w4.alloc (.cells #[.slice a4 0 k4] 41) := ⟨_, rfl⟩
    have hA5 : Below w4.heap.size w4 w5 := by rw [hw5]; exact Bl.alloc (Below.refl _ _) _
    have HX5 := Lib.hid (show w5.heap[w4.heap.size]? = some (.cells #[.slice a4 0 k4] 41 (0, 0)) by rw [hw5]; exact blk_new w4 _)
    have hb5 := Bl.trans hb4 hA5
    have HB5 := Lib.hid (Bl.trans HB3.out hb5)
    have HO5 := Lib.hid (HO3.out.below hb5)
    have HW5 := Lib.hid (hO4.rec0.below hA5)
    have HHT0 := Hopeless_any rh rr [] 0 (.slice xa 0 xcap) w5 (by decide) HO5.out (fun s hs => by cases hs)
    rw [HM.out, HH0.out] at HHT0
    have HHT := Lib.hid HHT0
    have k0 : w4.cell? ⟨w2.heap.size, 0, none⟩ = some (.int .i64 rh) := blk_cell (blk_below HX3.out hb4) 0
    have k1 : w4.cell? ⟨w2.heap.size, 1, none⟩ = some (.int .i64 rr) := blk_cell (blk_below HX3.out hb4) 1
    have lr4 := blk_lt (blk_below HX3.out hb4)
    clear hO4 hA5 hb4 hb5 HHT0 HWT c0 c1 lr
    go_wp2_with fail
    rw [← hw5]
    clear hw5
    refine HHT.out.mono ?_
    rintro e w6 ⟨⟨v6, rfl, hO6⟩, hb6⟩
    obtain ⟨a6, k6, rfl, _, _⟩ := hO6.form
    have HO6 := Lib.hid hO6.rec0
    have HB6 := Lib.hid (Bl.trans HB5.out hb6)
    have HW6 := Lib.hid (HW5.out.below hb6)
    have HX6 := Lib.hid (blk_below HX5.out hb6)
    have HCF := Lib.hid (HasW_any w6 w4.heap.size [] [] (.slice a6 0 k6) (.slice a4 0 k4) (by decide) (by decide) HO6.out (blk_cell HX6.out 0) HW6.out (fun k hk => by cases hk))
    clear hO6 hb6 HHT k0 k1 lr4
    go_wp2_with (go_at_call 25; refine HCF.out.mono ?_; rintro e w7 ⟨rfl, hb7⟩; have b7 : w7.cell? ⟨w4.heap.size, 0, none⟩ = some (.slice a4 0 k4) := blk_cell (blk_below HX6.out hb7) 0)
    have HB7 := Lib.hid (Bl.trans HB6.out hb7)
    clear hb7 b7 HCF
    go_loopw [63] (fun i wr => i = .int .i64 0 ∧ wr = w7) (fun i _ => 0)
    case atStart => exact ⟨rfl, rfl⟩
    case round =>
      obtain ⟨rfl, rfl⟩ := hrel
      go_wp2_with (go_at_call 19; refine (ready_any _).mono ?_; rintro e w9 ⟨rfl, hb9⟩)
      go_ret
      exact ⟨rfl, Bl.trans HB7.out hb9⟩
end Go.Proofs.YtnmimagninhkkaaGreatDoor
