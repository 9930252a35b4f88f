/- The walk of the law CyclesHaveAllPoints: whatever the input: true. -/
import Derived.Test.YtgcmlhpocbgkaaaGreatDoorCall2
import Derived.Test.YtgcmlhpocbgkaaaGreatDoorIsOrd
import Derived.Test.YtgcmlhpocbgkaaaGreatDoorReady2
namespace Go.Proofs.YtgcmlhpocbgkaaaGreatDoor
open Go.RowKit Go.Sort

theorem Cycles_all (st : Pt) (P : List Pt) (vp : Value) (z : Nat) (w : World) (hst : Bd st) (hPb : ∀ p ∈ P, Bd p) (hn : P.length ≤ 5) (hz1 : 1 ≤ z) (hz8 : z ≤ 8) (hT : tourF st P 500 = 0) (rp : Pts w 0 vp P) :
    Calls Tryz.prog 56 #[ptv st, vp, .int .i64 z] w fun e w' => (∃ (D : List Nat) (n : Int) (vr : Value), e = .returned (.tuple #[vr, .int .i64 n, .int .i64 0]) ∧ Lists w' 0 vr (D.map (tlv st P)) ∧ CycAll st P z D n) ∧ Below w.heap.size w w' :=
  (Cycles_ok st P vp z w hst hPb hn hz1 hz8 (tour_less hT (by omega)) rp).mono fun e w' ⟨⟨L, F, vr, he, hL, h0, hB⟩, hb⟩ => ⟨⟨_, _, vr, he, hL, CycAll.of hz1 hz8 hn h0 hB⟩, hb⟩

set_option maxHeartbeats 20000000 in
set_option maxRecDepth 100000 in
theorem CyclesHaveAllPoints_any (l : List Int) (v : Value) (w : World) (rl : Ints w 0 v l) (hl : ∀ x ∈ l, -9223372036854775808 ≤ x ∧ x ≤ 9223372036854775807) :
    Calls Tryz.prog 8 #[v] w fun e w' => e = .returned (.bool true) ∧ Below w.heap.size w w' := by
  obtain ⟨va, cap, rfl, hc1, hc2⟩ := Ints.form rl
  have hs0 := Str.start rl hl
  have hb0 := Bl.alloc (Below.refl w.heap.size w) (.cells #[.slice va l.length cap, .int .i64 0] 25)
  go_enter Tryz.func8, Tryz.ntmps8
  go_wp2_with fail
  refine (rightPoints_any _ 5 0 _ hs0 (by omega) (by omega)).mono ?_
  rintro e w1 ⟨⟨sx, sy⟩, vp, P, he, hst, hPb, hPl, hP1, hT, hs1, hg1⟩
  simp only [ptv] at he
  subst he
  have hb1 := Below.trans hb0 (Gr.below hg1 (Nat.le_refl _) hb0.size)
  obtain ⟨pa, pcap, rfl, hp1, hp2⟩ := Pts.form hP1.pts
  have l1 := hs1.lt
  have z1 := hg1.size
  have hP1 := own_base' hP1 (show w.heap.size + 1 ≤ _ by simp)
  have hb2 := Bl.alloc hb1 (.cells #[.int .i64 sx, .int .i64 sy] 57)
  have hP2 := hP1.alloc (.cells #[.int .i64 sx, .int .i64 sy] 57)
  have hs2 := hs1.alloc (.cells #[.int .i64 sx, .int .i64 sy] 57)
  have hS2 := blk_new w1 (.cells #[.int .i64 sx, .int .i64 sy] 57)
  have HT := Lib.hid hT
  have HP := Lib.hid hPb
  have HD := Lib.hid hst
  clear hg1 hs0 hb0 hs1 hP1 hb1 rl hl hT hPb hst
  go_wp2_with fail
  refine (Range_any _ _ 1 4 _ hs2 (by omega) (by omega) (by omega) (by omega) (by omega)).mono ?_
  rintro e w3 ⟨many, rfl, ⟨hm1, hm4, _⟩, hs3, hg3⟩
  have hm4 := hm4 (by omega)
  obtain ⟨z, rfl⟩ := Int.eq_ofNat_of_zero_le (show 0 ≤ many by omega)
  have hb3 := Below.trans hb2 (Gr.below hg3 (Nat.le_refl _) hb2.size)
  have hP3 := (hP2.grown hg3 (by omega)).pts.mono (Nat.zero_le _)
  have hS3 := Gr.blk hg3 hS2 (by omega)
  obtain ⟨c0, c1⟩ := blk2 hS3
  clear hg3 hs3 hs2 hP2 hS2 hb2
  -- Cycles with many nozzles
  go_wp2_with fail
  refine (Cycles_all (sx, sy) P _ z w3 HD.out HP.out hPl (by omega) (by omega) HT.out hP3).mono ?_
  rintro e w4 ⟨⟨D, n, vc, rfl, hL4, hA⟩, hb4⟩
  obtain ⟨ca, ccap, hvc, hcc1, hcc2⟩ := Lists.form hL4
  rw [List.length_map] at hvc hcc1
  subst hvc
  have HA := Lib.hid hA
  have hb34 := Bl.trans hb3 hb4
  have hP4 := hP3.below hb4
  have hS4 := blk_below hS3 hb4
  clear c0 c1
  obtain ⟨c0, c1⟩ := blk2 hS4
  clear hb4 hb3 hP3 hS3 hA
  have hw1 : IntKind.i64.wrap ((z : Int) + 1) = ((z + 1 : Nat) : Int) := by rw [IntWalk.i64_in _ (by omega)]; omega
  go_wp2_with fail
  (try rw [hw1])
  refine (Cycles_all (sx, sy) P _ (z + 1) w4 HD.out HP.out hPl (by omega) (by omega) HT.out hP4).mono ?_
  rintro e w5 ⟨⟨D2, m, vc2, rfl, hL5, hA2⟩, hb5⟩
  obtain ⟨ca2, ccap2, hvc, _, _⟩ := Lists.form hL5
  rw [List.length_map] at hvc
  subst hvc
  have hmn := HA.out.mono hA2 (by omega)
  have hb35 := Bl.trans hb34 hb5
  have hP5 := hP4.below hb5
  have hS5 := blk_below hS4 hb5
  have hL4' := hL4.below hb5
  clear c0 c1 hL5 hA2 hL4
  obtain ⟨c0, c1⟩ := blk2 hS5
  clear hb5 hb34 hP4 hS4
  go_wp2_with fail
  refine (Cycles_all (sx, sy) P _ 1 w5 HD.out HP.out hPl (by omega) (by omega) HT.out hP5).mono ?_
  rintro e w6 ⟨⟨D3, al, vc3, rfl, hL6, hA3⟩, hb6⟩
  obtain ⟨ca3, ccap3, hvc, _, _⟩ := Lists.form hL6
  rw [List.length_map] at hvc
  subst hvc
  have hna := hA3.mono HA.out (by omega)
  have HAL := Lib.hid (hA3.alone hPl)
  have hb36 := Bl.trans hb35 hb6
  have hP6 := hP5.below hb6
  have hS6 := blk_below hS5 hb6
  have hL6' := hL4'.below hb6
  clear c0 c1 hL6 hA3 hL4'
  obtain ⟨c0, c1⟩ := blk2 hS6
  clear hb6 hb35 hP5 hS5
  have hmn' : ¬ n < m := by omega
  have hna' : ¬ al < n := by omega
  have HF := Lib.hid (HA.out.facts hPl)
  have hD5 := HA.out.size hPl
  have HN := Lib.hid HA.out.sum
  have HE := Lib.hid (HA.out.empty hPl)
  clear hmn hna HA
  have hDl : (D.map (tlv (sx, sy) P)).length ≤ 31 := by rw [List.length_map]; omega
  obtain ⟨fl, hfl⟩ : ∃ fl, fl = (D.map (tlv (sx, sy) P)).flatten := ⟨_, rfl⟩
  have HLf : Hid (fl.Perm (upto P.length)) := Lib.hid (by rw [hfl, flat_tlv, upto_nats]; exact nats_perm HF.out.2)
  have HFL := Lib.hid hfl
  clear hfl
  have HLa : Hid (∀ l ∈ D.map (tlv (sx, sy) P), l ≠ [] ∧ l.length ≤ 1000) := Lib.hid (fun l hl => by
    obtain ⟨t, ht, rfl⟩ := List.mem_map.1 hl
    obtain ⟨f1, f2, f3, f4⟩ := HF.out.1 t ht
    unfold tlv
    rw [nats_len]
    exact ⟨fun e => f4 (List.eq_nil_of_length_eq_zero (by rw [← nats_len, e]; rfl)), by omega⟩)
  have hst' := HD.out
  have HLV : Hid (∀ t ∈ D, 0 ≤ lgv (sx, sy) P t ∧ lgv (sx, sy) P t ≤ 52776558133248) := Lib.hid fun t ht => lgv_bd HD.out HP.out hPl (HF.out.1 t ht).2.1
  clear hst'
  go_wp2_with fail
  go_loopw [16, 84] (fun n i wr => ∃ k : Nat, k ≤ D.length ∧ i = .int .i64 k ∧ n = .int .i64 (partS (sx, sy) P D k) ∧ Below w6.heap.size w6 wr) (fun _ i _ => D.length - (intOf i).toNat)
  case atStart => exact ⟨0, Nat.zero_le _, rfl, rfl, Below.refl _ _⟩
  case round =>
    obtain ⟨k, hk, rfl, rfl, hbr⟩ := hrel
    have hsb := sumG_bd (M := 52776558133248) (by omega) (d := D.take k) fun t ht => HLV.out t (List.mem_of_mem_take ht)
    rw [List.length_take] at hsb
    have hsb : 0 ≤ partS (sx, sy) P D k ∧ partS (sx, sy) P D k ≤ (min k D.length : Nat) * 52776558133248 := hsb
    have hPr := hP6.below hbr
    have hSr := blk_below hS6 hbr
    have hLr := hL6'.below hbr
    obtain ⟨d0, d1⟩ := blk2 hSr
    by_cases hlt : k < D.length
    · obtain ⟨t, ht⟩ : ∃ t, D[k]? = some t := ⟨_, List.getElem?_eq_getElem hlt⟩
      obtain ⟨f1, f2, f3, f4⟩ := HF.out.1 t (List.mem_of_getElem? ht)
      have htv := HLV.out t (List.mem_of_getElem? ht)
      have HX := Lib.hid (partS_next (st := (sx, sy)) (P := P) ht)
      have HM := Lib.hid (mem_tlist (st := (sx, sy)) hPl f2)
      have HV := Lib.hid (part_V (sx, sy) P hPl f2)
      obtain ⟨b, o, x, c, rfl, _, hlb, hc, hI⟩ := hLr.at (show (D.map (tlv (sx, sy) P))[k]? = some (tlv (sx, sy) P t) by rw [List.getElem?_map, ht]; rfl)
      unfold tlv at hc hI
      have HVE : Hid (V (sx, sy) P (sx, sy) t = lgv (sx, sy) P t) := Lib.hid rfl
      clear ht
      generalize hg : tlist (sx, sy) P P.length (sx, sy) t = g at *
      have hg5 : g.length ≤ 5 := by omega
      have hg1 : 1 ≤ g.length := List.length_pos_iff.2 f4
      have HG : Hid (∀ i ∈ g, i < P.length) := Lib.hid fun i hi => sub_of_lt f2 i ((HM.out.2 i).1 hi)
      rw [nats_len] at hc hI
      have e1 : ((g.length : Int) == 0) = false := by rw [beq_eq_false_iff_ne]; omega
      have e2 : ¬ ((z : Int) < g.length) := by omega
      clear hg f4 HM
      go_wp2_with fail
      have HCC : Calls Tryz.prog 57 #[.slice (some ⟨b, o, none⟩) D.length ccap] wr fun e w' => ∃ vr, e = .returned vr ∧ Own w' wr.heap.size vr fl ∧ Below wr.heap.size wr w' := by
        rw [HFL.out]; exact Concat_any (D.map (tlv (sx, sy) P)) _ wr (by omega) HLa.out hLr
      refine HCC.mono ?_
      clear HCC
      rintro e w7 ⟨vr, rfl, hOr, hb7⟩
      obtain ⟨ra, rcap, rfl, _, _⟩ := Ints.form hOr.ints
      go_wp2_with fail
      refine (isOrder_any fl P.length _ w7 (by omega) HLf.out hOr.ints0).mono ?_
      rintro e w8 ⟨rfl, hb8⟩
      have hb68 := Bl.trans (Bl.trans hbr hb7) hb8
      have hI8 := (hI.below hb7).below hb8
      have hP8 := hP6.below hb68
      have hS8 := blk_below hS6 hb68
      clear hc hI hOr hb7 hb8 hLr hPr hSr d0 d1 hbr e1 e2
      obtain ⟨d0, d1⟩ := blk2 hS8
      go_wp2_with fail
      have HOW := Lib.hid (show wr = wr from rfl)
      go_loopw [19, 107] (fun u i wx => ∃ j : Nat, j ≤ g.length ∧ i = .int .i64 j ∧ OwnP wx w8.heap.size u ((g.map (pt P)).take j) ∧ Below w8.heap.size w8 wx) (fun _ i _ => g.length - (intOf i).toNat)
      case atStart => exact ⟨0, Nat.zero_le _, rfl, OwnP.nil _ _, Below.refl _ _⟩
      case round =>
        obtain ⟨j, hj, rfl, hO, hbx⟩ := hrel
        by_cases hltj : j < g.length
        · obtain ⟨i, hi⟩ : ∃ i, g[j]? = some i := ⟨_, List.getElem?_eq_getElem hltj⟩
          have hin := HG.out i (List.mem_of_getElem? hi)
          obtain ⟨q, hq⟩ : ∃ q, P[i]? = some q := ⟨_, List.getElem?_eq_getElem hin⟩
          obtain ⟨b2, o2, hae, _, hl2, hx2⟩ := Ints.at (hI8.below hbx) (nats_at hi)
          subst hae
          obtain ⟨b3, o3, hae, _, hl3, hy2, hy3⟩ := Pts.at (hP8.below hbx) hq
          subst hae
          have HS : Hid ((g.map (pt P)).take (j + 1) = (g.map (pt P)).take j ++ [q]) := Lib.hid (by
            refine take_snoc ?_
            rw [List.getElem?_map, hi]
            unfold pt; simp [List.getD_eq_getElem?_getD, hq])
          obtain ⟨px, py⟩ := q
          have hw2 : IntKind.i64.wrap ((j : Int) + 1) = ((j + 1 : Nat) : Int) := by rw [IntWalk.i64_in _ (by omega)]; omega
          have hzx := hbx.size
          clear hi hq
          go_wp2_with (at_builtin; refine wp_app_pt rfl _ _ rfl w8.heap.size _ ((g.map (pt P)).take j) rfl (hO.alloc _) wr.heap.size 1 (px, py) rfl (by rw [blk_cell (blk_new wr _) 0]; rfl) (by rw [blk_cell (blk_new wr _) 1]; rfl) (by simp; omega) (by simp; omega) ?_)
          intro v' w9 hO9 _ hb9
          go_wp2
          go_roundw
          case rel => exact ⟨j + 1, by omega, by go_num, by rw [HS.out]; exact hO9, Below.trans (Bl.alloc hbx _) hb9⟩
          case measure => simp [intOf]; omega
        · have HS : Hid ((g.map (pt P)).take j = g.map (pt P)) := Lib.hid (by rw [List.take_of_length_le (by simp; omega)])
          rw [HS.out] at hO
          obtain ⟨qa, qcap, rfl, hq1, hq2⟩ := Pts.form hO.pts
          rw [List.length_map] at hO hq1
          have hS9 := blk_below hS8 hbx
          clear d0 d1
          obtain ⟨d0, d1⟩ := blk2 hS9
          have hTQ : tourF (sx, sy) (g.map (pt P)) 9 = 0 := tour_sub HT.out (fun p hp => by
            obtain ⟨i, hi, rfl⟩ := List.mem_map.1 hp
            exact getD_mem (HG.out i hi)) (by rw [List.length_map]; omega)
          have HQb : Hid (∀ p ∈ g.map (pt P), Bd p) := Lib.hid fun p hp => by
            obtain ⟨i, hi, rfl⟩ := List.mem_map.1 hp
            exact HP.out _ (getD_mem (HG.out i hi))
          have HTQ := Lib.hid hTQ
          clear hTQ
          go_wp2_with fail
          refine (Shortest_any (sx, sy) (g.map (pt P)) _ _ HD.out HQb.out (by rw [List.length_map]; omega) (hO.pts.mono (Nat.zero_le _))).mono ?_
          rintro e w10 ⟨⟨x2, vx2, nx, he, hX, _, hx⟩, hb10⟩
          rw [HTQ.out] at he
          subst he
          obtain ⟨_, hx2⟩ := hx HTQ.out
          rw [HV.out, HVE.out] at hx2
          subst hx2
          obtain ⟨xa, xcap, rfl, _, _⟩ := Ints.form hX.ints
          have hbF := Bl.trans (Bl.trans hb68 hbx) hb10
          have hw2 : IntKind.i64.wrap ((k : Int) + 1) = ((k + 1 : Nat) : Int) := by rw [IntWalk.i64_in _ (by omega)]; omega
          have hw3 : IntKind.i64.wrap (partS (sx, sy) P D k + lgv (sx, sy) P t) = partS (sx, sy) P D (k + 1) := by rw [HX.out, IntWalk.i64_in _ (by omega)]
          clear hX hx hO HS
          go_wp2
          go_roundw
          case rel => exact ⟨k + 1, by omega, by go_num, by first | rfl | rw [hw3], hbF⟩
          case measure => simp [intOf]; omega
    · obtain rfl : k = D.length := by omega
      have HPS : Hid (partS (sx, sy) P D D.length = n) := Lib.hid (by rw [partS_all]; exact HN.out.symm)
      have hbk := backS_bd (st := (sx, sy)) HD.out HP.out
      have HBK := Lib.hid hbk
      rw [HPS.out]
      clear d0 d1 hbk hsb hLr
      go_wp2_with fail
      go_loopw [25, 134] (fun n i wx => ∃ j : Nat, j ≤ P.length ∧ i = .int .i64 j ∧ n = .int .i64 (backS (sx, sy) P j) ∧ Below w6.heap.size w6 wx) (fun _ i _ => P.length - (intOf i).toNat)
      case atStart => exact ⟨0, Nat.zero_le _, rfl, rfl, hbr⟩
      case round =>
        obtain ⟨j, hj, rfl, rfl, hbx⟩ := hrel
        have hbj := HBK.out j
        by_cases hltj : j < P.length
        · obtain ⟨q, hq⟩ : ∃ q, P[j]? = some q := ⟨_, List.getElem?_eq_getElem hltj⟩
          have hqb := HP.out q (List.mem_of_getElem? hq)
          have HB := Lib.hid (backS_next (st := (sx, sy)) hq)
          have hqd := dist_bd HD.out hqb
          obtain ⟨b3, o3, hae, _, hl3, hy2, hy3⟩ := Pts.at (hP6.below hbx) hq
          subst hae
          have hSx := blk_below hS6 hbx
          obtain ⟨d0, d1⟩ := blk2 hSx
          obtain ⟨px, py⟩ := q
          have hbx2 := Bl.alloc hbx (.cells #[.int .i64 px, .int .i64 py] 57)
          have hw2 : IntKind.i64.wrap ((j : Int) + 1) = ((j + 1 : Nat) : Int) := by rw [IntWalk.i64_in _ (by omega)]; omega
          have hw3 : IntKind.i64.wrap (2 * dist (sx, sy) (px, py)) = 2 * dist (sx, sy) (px, py) := IntWalk.i64_in _ (by omega)
          have hw4 : IntKind.i64.wrap (backS (sx, sy) P j + 2 * dist (sx, sy) (px, py)) = backS (sx, sy) P (j + 1) := by rw [HB.out, IntWalk.i64_in _ (by omega)]
          have ld := blk_lt hSx
          clear hq
          go_wp2_with fail
          refine (Apart_xy sx sy px py _ HD.out hqb).mono ?_
          rintro e w11 ⟨rfl, hb11⟩
          have hbF := Bl.trans hbx2 hb11
          go_wp2
          go_roundw
          case rel => exact ⟨j + 1, by omega, by go_num, by first | rfl | rw [hw4], hbF⟩
          case measure => simp [intOf]; omega
        · obtain rfl : j = P.length := by omega
          have HB : Hid (backS (sx, sy) P P.length = al) := Lib.hid (by rw [backS_all]; exact HAL.out.symm)
          rw [HB.out]
          have hbF := Bl.trans hb36 hbx
          have hE2 : ((D.length : Int) == 0) = ((P.length : Int) == 0) := by
            have := HE.out
            by_cases h : D = []
            · have hp := this.1 h; rw [h, hp]; rfl
            · have hp : P ≠ [] := fun e => h (this.2 e)
              have h1 := List.length_pos_iff.2 h
              have h2 := List.length_pos_iff.2 hp
              rw [show ((D.length : Int) == 0) = false by rw [beq_eq_false_iff_ne]; omega, show ((P.length : Int) == 0) = false by rw [beq_eq_false_iff_ne]; omega]
          go_wp2_with fail
          refine (ready_any _).mono ?_
          rintro e w12 ⟨rfl, hb12⟩
          have hbZ := Bl.trans hbF hb12
          go_wp2
          go_ret
          exact ⟨rfl, hbZ⟩
end Go.Proofs.YtgcmlhpocbgkaaaGreatDoor
