/- Texts of the proof of a law, put together, part 23 of 41. Conditions: none beyond those that each theorem names. -/
import Derived.Test.YtihgnpobkpnipaaGreatDoorQz22
import Derived.Lib.QuietBelow
import Derived.BigQuiet
namespace Go.Proofs.YtihgnpobkpnipaaGreatDoor
open Go.RowKit Go.Sort Go.Maps
/-- the search for what is told twice, with what replaces told ahead. -/
structure TwR (l : List Alt) (k j : Nat) (x : Alt) (done : List (Bs × Bs)) : Prop where
  dn : done = (l.take k).flatMap waysR ++ (waysR x).take j
  eq : twiceB [] (waysL l) = twiceB done ((waysR x).drop j ++ (l.drop (k + 1)).flatMap waysR)
theorem flatR_take {l : List Alt} {k : Nat} {x : Alt} (h : l[k]? = some x) : (l.take (k + 1)).flatMap waysR = (l.take k).flatMap waysR ++ waysR x := by
  rw [List.take_add_one, h, List.flatMap_append]
  simp
theorem flatR_drop {l : List Alt} {k : Nat} {x : Alt} (h : l[k]? = some x) : (l.drop k).flatMap waysR = waysR x ++ (l.drop (k + 1)).flatMap waysR := by
  obtain ⟨hk, e⟩ := List.getElem?_eq_some_iff.1 h
  rw [List.drop_eq_getElem_cons hk, e]
  rfl
theorem TwR.start {l : List Alt} {k : Nat} {x : Alt} (hx : l[k]? = some x) (h : twiceB [] (waysL l) = twiceB ((l.take k).flatMap waysR) ((l.drop k).flatMap waysR)) : TwR l k 0 x ((l.take k).flatMap waysR) :=
  ⟨by simp, by rw [h, flatR_drop hx]; rfl⟩
theorem TwR.stop {l : List Alt} {k j : Nat} {x : Alt} {done : List (Bs × Bs)} (hx : l[k]? = some x) (h : TwR l k j x done) (hj : (waysR x).length ≤ j) : done = (l.take (k + 1)).flatMap waysR ∧ twiceB [] (waysL l) = twiceB ((l.take (k + 1)).flatMap waysR) ((l.drop (k + 1)).flatMap waysR) := by
  have h1 : done = (l.take (k + 1)).flatMap waysR := by rw [h.dn, flatR_take hx, List.take_of_length_le hj]
  refine ⟨h1, ?_⟩
  rw [h.eq, List.drop_of_length_le hj, h1]
  rfl
theorem TwR.hit {l : List Alt} {k j : Nat} {x : Alt} {done : List (Bs × Bs)} {y : Bs × Bs} (h : TwR l k j x done) (hy : (waysR x)[j]? = some y) (hm : y ∈ done) : twiceB [] (waysL l) = true := by
  obtain ⟨hj, he⟩ := List.getElem?_eq_some_iff.1 hy
  rw [h.eq, List.drop_eq_getElem_cons hj, he]
  exact twice_hit hm
theorem TwR.next {l : List Alt} {k j : Nat} {x : Alt} {done : List (Bs × Bs)} {y : Bs × Bs} (h : TwR l k j x done) (hy : (waysR x)[j]? = some y) (hm : y ∉ done) : TwR l k (j + 1) x (done ++ [y]) := by
  obtain ⟨hj, he⟩ := List.getElem?_eq_some_iff.1 hy
  refine ⟨by rw [h.dn, List.append_assoc, List.take_add_one, hy]; rfl, ?_⟩
  rw [h.eq, List.drop_eq_getElem_cons hj, he]
  exact twice_go hm
theorem waysT_len (x : Alt) : (waysT x).length ≤ 2 := by unfold waysT; split <;> simp
theorem flatR_len : ∀ l : List Alt, (l.flatMap waysR).length ≤ 2 * l.length
  | [] => by simp
  | x :: l => by
    have ih := flatR_len l
    have h := waysT_len x
    rw [List.flatMap_cons, List.length_append, List.length_cons, waysT_eq, List.length_map]
    omega
theorem TwR.len {l : List Alt} {k j : Nat} {x : Alt} {done : List (Bs × Bs)} (hx : l[k]? = some x) (h : TwR l k j x done) : done.length ≤ 2 * l.length + 2 := by
  rw [h.dn, List.length_append]
  have h1 := flatR_len (l.take k)
  have h2 : ((waysR x).take j).length ≤ 2 := by
    rw [List.length_take, waysT_eq, List.length_map]
    have := waysT_len x
    omega
  rw [List.length_take] at h1
  have := (List.getElem?_eq_some_iff.1 hx).1
  omega
theorem shortT_of {x : Alt} (h : x.1.size ≤ 140737488355328 ∧ x.2.1.size ≤ 140737488355328) : ∀ y ∈ waysR x, shortW y := by
  intro y hy
  rw [waysR_eq] at hy
  obtain ⟨z, hz, rfl⟩ := List.mem_map.1 hy
  have := shortW_of h z hz
  exact ⟨this.2, this.1⟩
theorem TwR.short {l : List Alt} {k j : Nat} {x : Alt} {done : List (Bs × Bs)} (hz : AltZ l) (hx : l[k]? = some x) (h : TwR l k j x done) : ∀ y ∈ done, shortW y := by
  intro y hy
  rw [h.dn] at hy
  rcases List.mem_append.1 hy with hy | hy
  · obtain ⟨z, hz2, hy⟩ := List.mem_flatMap.1 hy
    exact shortT_of (hz z (List.mem_of_mem_take hz2)) y hy
  · exact shortT_of (hz x (List.mem_of_getElem? hx)) y (List.mem_of_mem_take hy)
set_option maxHeartbeats 16000000 in
set_option maxRecDepth 100000 in
theorem CatalogueFault_any (ps : List Prt) (l : List Alt) (vp va : Value) (w : World) (hl : ps.length ≤ 1000000) (hl2 : l.length ≤ 1000000) (hz : PrtZ ps) (hz2 : AltZ l) (hc : CatR w vp va ps l) :
    Calls Tryz.prog 8 #[.agg #[vp, va]] w fun e w' => e = .returned (.int .i64 (catsF ps l)) ∧ Below w.heap.size w w' := by
  have HHP := Lib.hid fun (key : ByteArray) W (hW : Below w.heap.size w W) => HasPart_any ps l vp va key W hl (hc.low hW)
  have HRA := Lib.hid fun W (hW : Below w.heap.size w W) => hc.a.below hW
  have HRP := Lib.hid fun W (hW : Below w.heap.size w W) => hc.p.below hW
  obtain ⟨pa, pc, rfl, _, _⟩ := hc.p.form
  obtain ⟨aa, ac, rfl, _, _⟩ := hc.a.form
  have hmm := @run_makeMap Tryz.prog
  obtain ⟨w1, hw1⟩ : ∃ w1, w1 = w.alloc (.cells #[.slice pa ps.length pc, .slice aa l.length ac] 29) := ⟨_, rfl⟩
  have hA1 : Below w.heap.size w w1 := by rw [hw1]; exact Bl.alloc (Below.refl _ _) _
  have HXC := Lib.hid (show ∀ W, Below w1.heap.size w1 W → W.cell? ⟨w.heap.size, 0, none⟩ = some (.slice pa ps.length pc) ∧ W.cell? ⟨w.heap.size, 1, none⟩ = some (.slice aa l.length ac) ∧ w.heap.size < W.heap.size from fun W hW => by
    have h3 : W.heap[w.heap.size]? = _ := blk_below (show w1.heap[w.heap.size]? = some (.cells #[.slice pa ps.length pc, .slice aa l.length ac] 29 (0, 0)) by rw [hw1]; exact blk_new w _) hW
    exact ⟨blk_cell h3 0, blk_cell h3 1, blk_lt h3⟩)
  obtain ⟨F, hF⟩ : ∃ F, F = catsF ps l := ⟨_, rfl⟩
  have HV1 : Hid (1000 < ps.length → F = 2) := Lib.hid fun h => by rw [hF]; unfold catsF; rw [if_pos h]
  have HV2 : Hid (¬ 1000 < ps.length → prtsF1 none ps ≠ 0 → F = prtsF1 none ps) := Lib.hid fun h h2 => by rw [hF]; unfold catsF; rw [if_neg h, if_pos h2]
  have HV3 : Hid (¬ 1000 < ps.length → prtsF1 none ps = 0 → 2000 < l.length → F = 2) := Lib.hid fun h h2 h3 => by rw [hF]; unfold catsF; rw [if_neg h, if_neg (by simp [h2]), if_pos h3]
  have HV4 : Hid (¬ 1000 < ps.length → prtsF1 none ps = 0 → ¬ 2000 < l.length → altsF1 ps none l ≠ 0 → F = altsF1 ps none l) := Lib.hid fun h h2 h3 h4 => by rw [hF]; unfold catsF; rw [if_neg h, if_neg (by simp [h2]), if_neg h3, if_pos h4]
  have HV5 : Hid (¬ 1000 < ps.length → prtsF1 none ps = 0 → ¬ 2000 < l.length → altsF1 ps none l = 0 → F = if twiceB [] (waysL l) = true then 6 else 0) := Lib.hid fun h h2 h3 h4 => by rw [hF]; unfold catsF; rw [if_neg h, if_neg (by simp [h2]), if_neg h3, if_neg (by simp [h4])]
  rw [← hF]
  obtain ⟨q0, q1, lw⟩ := HXC.out w1 (Below.refl _ _)
  have HW1 := Lib.hid hw1
  have HA1 := Lib.hid hA1
  have HZ1 := Lib.hid hz
  have HZ2 := Lib.hid hz2
  clear hF hw1 hA1 hc hz hz2
  by_cases h1 : 1000 < ps.length
  · have HFF := Lib.hid (HV1.out h1)
    have h1' : (1000 : Int) < (ps.length : Int) := by omega
    go_enter Tryz.func8, Tryz.ntmps8
    go_wp2_with fail
    rw [← HW1.out]
    go_wp2
    go_ret
    exact ⟨ret_int HFF.out.symm, HA1.out⟩
  have h1' : ¬ (1000 : Int) < (ps.length : Int) := by omega
  have HN1 := Lib.hid h1
  go_enter Tryz.func8, Tryz.ntmps8
  go_wp2_with fail
  rw [← HW1.out]
  go_wp2_with fail
  clear h1 h1'
  go_loopw [19] (fun i wr => ∃ k : Nat, k ≤ ps.length ∧ i = .int .i64 k ∧ Hid (prtsF1 none ps = prtsF1 (prvP ps k) (ps.drop k)) ∧ Hid (Below w1.heap.size w1 wr)) (fun i _ => ps.length - (intOf i).toNat)
  case atStart => exact ⟨0, Nat.zero_le _, rfl, Lib.hid rfl, Lib.hid (Below.refl _ _)⟩
  case round =>
    obtain ⟨k, hk, rfl, HP, HB⟩ := hrel
    obtain ⟨u0, u1, lu⟩ := HXC.out wr HB.out
    by_cases hlt : k < ps.length
    · obtain ⟨x, hx⟩ : ∃ x, ps[k]? = some x := ⟨_, List.getElem?_eq_getElem hlt⟩
      obtain ⟨zz1, zz2⟩ := HZ1.out x (List.mem_of_getElem? hx)
      have hwk : IntKind.i64.wrap ((k : Int) + 1) = ((k + 1 : Nat) : Int) := by rw [IntWalk.i64_in _ (by omega)]; omega
      have HGO : Hid ((prtF (prvP ps k) x = 0 → prtsF1 none ps = prtsF1 (prvP ps (k + 1)) (ps.drop (k + 1))) ∧ (prtF (prvP ps k) x ≠ 0 → F = prtF (prvP ps k) x)) := Lib.hid ⟨fun h => by rw [HP.out]; exact prtsF1_go hx h, fun h => by
        have h2 : prtsF1 none ps = prtF (prvP ps k) x := by rw [HP.out]; exact prtsF1_stop hx h
        rw [HV2.out HN1.out (by rw [h2]; exact h), h2]⟩
      have HRW := Lib.hid (HRP.out wr (Bl.trans HA1.out HB.out))
      obtain ⟨b1, o1, rfl, _, hb1, hc1⟩ := HRW.out.at TPt.ok.len hx TPt.ok.pos
      obtain ⟨ky, pk, lv, bk⟩ := x
      have c0 : wr.cell? ⟨b1, o1 + k * 4, none⟩ = some (.string ky) := hc1 0 _ rfl
      have c1 : wr.cell? ⟨b1, o1 + k * 4 + 1, none⟩ = some (.string pk) := hc1 1 _ rfl
      have c2 : wr.cell? ⟨b1, o1 + k * 4 + 2, none⟩ = some (.int .i64 lv) := hc1 2 _ rfl
      have c3 : wr.cell? ⟨b1, o1 + k * 4 + 3, none⟩ = some (.int .i64 bk) := hc1 3 _ rfl
      obtain ⟨w2, hw2⟩ : ∃ w2, w2 = wr.alloc (.cells #[.string ky, .string pk, .int .i64 lv, .int .i64 bk] 66) := ⟨_, rfl⟩
      have hA : Below wr.heap.size wr w2 := by rw [hw2]; exact Bl.alloc (Below.refl _ _) _
      have hX : w2.heap[wr.heap.size]? = some (.cells #[.string ky, .string pk, .int .i64 lv, .int .i64 bk] 66 (0, 0)) := by rw [hw2]; exact blk_new wr _
      have HYC := Lib.hid (show ∀ W, Below w2.heap.size w2 W → W.cell? ⟨wr.heap.size, 0, none⟩ = some (.string ky) ∧ W.cell? ⟨wr.heap.size, 1, none⟩ = some (.string pk) ∧ W.cell? ⟨wr.heap.size, 2, none⟩ = some (.int .i64 lv) ∧ W.cell? ⟨wr.heap.size, 3, none⟩ = some (.int .i64 bk) ∧ W.cell? ⟨w.heap.size, 0, none⟩ = some (.slice (some ⟨b1, o1, none⟩) ps.length pc) from fun W hW => by
        have h := blk_below hX hW
        exact ⟨blk_cell h 0, blk_cell h 1, blk_cell h 2, blk_cell h 3, (HXC.out W (Bl.trans HB.out (Bl.trans hA hW))).1⟩)
      have HA2 := Lib.hid hA
      have HB2 := Lib.hid (Bl.trans HB.out hA)
      have HW2 := Lib.hid hw2
      have HK1 := Lib.hid fun W => Key_any ky W zz1
      have HK2 := Lib.hid fun W => Key_any pk W zz2
      have HI1 := Lib.hid fun W => in_any lv 1 6 W
      have HI2 := Lib.hid fun W => in_any bk 0 720000000 W
      obtain ⟨x1, x2, x3, x4, x5⟩ := HYC.out w2 (Below.refl _ _)
      obtain ⟨O, hO⟩ : ∃ O, O = ordP (prvP ps k) ky := ⟨_, rfl⟩
      have HV : Hid (prtF (prvP ps k) (ky, pk, lv, bk) = if keyB ky = false then 5 else if keyB pk = false then 5 else if inB 1 lv 6 = false then 1 else if inB 0 bk 720000000 = false then 1 else O) := Lib.hid (by rw [hO]; rfl)
      obtain ⟨G, hG⟩ : ∃ G, G = prtF (prvP ps k) (ky, pk, lv, bk) := ⟨_, rfl⟩
      rw [← hG] at HGO HV
      generalize hk1 : keyB ky = q1 at *
      generalize hk2 : keyB pk = q2 at *
      generalize hi1 : inB 1 lv 6 = q3 at *
      generalize hi2 : inB 0 bk 720000000 = q4 at *
      have HO := Lib.hid hO
      clear hA hX zz1 zz2 hx hc1 hO hG hk1 hk2 hi1 hi2 hw2
      cases q1
      case false =>
        have HGC : Hid (G = 5) := Lib.hid HV.out
        have HFF : Hid (F = 5) := Lib.hid (by rw [HGO.out.2 (by rw [HGC.out]; decide), HGC.out])
        go_wp2_with fail
        rw [← HW2.out]
        go_wp2_with fail
        refine (HK1.out w2).mono ?_
        rintro e w3 ⟨rfl, hb3⟩
        obtain ⟨y1, y2, y3, y4, y5⟩ := HYC.out w3 hb3
        have HB3 := Lib.hid (Bl.trans HB2.out hb3)
        have HR3 := Lib.hid hb3
        clear hb3
        have HBF := Lib.hid (Bl.trans HA1.out HB3.out)
        go_wp2
        go_ret
        exact ⟨ret_int HFF.out.symm, HBF.out⟩
      cases q2
      case false =>
        have HGC : Hid (G = 5) := Lib.hid HV.out
        have HFF : Hid (F = 5) := Lib.hid (by rw [HGO.out.2 (by rw [HGC.out]; decide), HGC.out])
        go_wp2_with fail
        rw [← HW2.out]
        go_wp2_with fail
        refine (HK1.out w2).mono ?_
        rintro e w3 ⟨rfl, hb3⟩
        obtain ⟨y1, y2, y3, y4, y5⟩ := HYC.out w3 hb3
        have HB3 := Lib.hid (Bl.trans HB2.out hb3)
        have HR3 := Lib.hid hb3
        clear hb3
        go_wp2_with fail
        refine (HK2.out w3).mono ?_
        rintro e w4 ⟨rfl, hb4⟩
        have HR4 := Lib.hid (Bl.trans HR3.out hb4)
        obtain ⟨z1, z2, z3, z4, z5⟩ := HYC.out w4 HR4.out
        have HB4 := Lib.hid (Bl.trans HB3.out hb4)
        clear hb4
        have HBF := Lib.hid (Bl.trans HA1.out HB4.out)
        go_wp2
        go_ret
        exact ⟨ret_int HFF.out.symm, HBF.out⟩
      cases q3
      case false =>
        have HGC : Hid (G = 1) := Lib.hid HV.out
        have HFF : Hid (F = 1) := Lib.hid (by rw [HGO.out.2 (by rw [HGC.out]; decide), HGC.out])
        go_wp2_with fail
        rw [← HW2.out]
        go_wp2_with fail
        refine (HK1.out w2).mono ?_
        rintro e w3 ⟨rfl, hb3⟩
        obtain ⟨y1, y2, y3, y4, y5⟩ := HYC.out w3 hb3
        have HB3 := Lib.hid (Bl.trans HB2.out hb3)
        have HR3 := Lib.hid hb3
        clear hb3
        go_wp2_with fail
        refine (HK2.out w3).mono ?_
        rintro e w4 ⟨rfl, hb4⟩
        have HR4 := Lib.hid (Bl.trans HR3.out hb4)
        obtain ⟨z1, z2, z3, z4, z5⟩ := HYC.out w4 HR4.out
        have HB4 := Lib.hid (Bl.trans HB3.out hb4)
        clear hb4
        go_wp2_with fail
        refine (HI1.out w4).mono ?_
        rintro e w' ⟨rfl, rfl⟩
        have HBF := Lib.hid (Bl.trans HA1.out HB4.out)
        go_wp2
        go_ret
        exact ⟨ret_int HFF.out.symm, HBF.out⟩
      cases q4
      case false =>
        have HGC : Hid (G = 1) := Lib.hid HV.out
        have HFF : Hid (F = 1) := Lib.hid (by rw [HGO.out.2 (by rw [HGC.out]; decide), HGC.out])
        go_wp2_with fail
        rw [← HW2.out]
        go_wp2_with fail
        refine (HK1.out w2).mono ?_
        rintro e w3 ⟨rfl, hb3⟩
        obtain ⟨y1, y2, y3, y4, y5⟩ := HYC.out w3 hb3
        have HB3 := Lib.hid (Bl.trans HB2.out hb3)
        have HR3 := Lib.hid hb3
        clear hb3
        go_wp2_with fail
        refine (HK2.out w3).mono ?_
        rintro e w4 ⟨rfl, hb4⟩
        have HR4 := Lib.hid (Bl.trans HR3.out hb4)
        obtain ⟨z1, z2, z3, z4, z5⟩ := HYC.out w4 HR4.out
        have HB4 := Lib.hid (Bl.trans HB3.out hb4)
        clear hb4
        go_wp2_with fail
        refine (HI1.out w4).mono ?_
        rintro e w' ⟨rfl, rfl⟩
        go_wp2_with fail
        refine (HI2.out w4).mono ?_
        rintro e w' ⟨rfl, rfl⟩
        have HBF := Lib.hid (Bl.trans HA1.out HB4.out)
        go_wp2
        go_ret
        exact ⟨ret_int HFF.out.symm, HBF.out⟩
      have HVO : Hid (G = O) := Lib.hid HV.out
      clear HV
      by_cases h0 : k = 0
      · have HG : Hid (prtsF1 none ps = prtsF1 (prvP ps (k + 1)) (ps.drop (k + 1))) := Lib.hid (HGO.out.1 (by rw [HVO.out, HO.out, h0]; rfl))
        have hk0 : ¬ 0 < k := by omega
        have hk1 : ¬ (0 : Int) < (k : Int) := by omega
        clear h0
        go_wp2_with fail
        rw [← HW2.out]
        go_wp2_with fail
        refine (HK1.out w2).mono ?_
        rintro e w3 ⟨rfl, hb3⟩
        obtain ⟨y1, y2, y3, y4, y5⟩ := HYC.out w3 hb3
        have HB3 := Lib.hid (Bl.trans HB2.out hb3)
        have HR3 := Lib.hid hb3
        clear hb3
        go_wp2_with fail
        refine (HK2.out w3).mono ?_
        rintro e w4 ⟨rfl, hb4⟩
        have HR4 := Lib.hid (Bl.trans HR3.out hb4)
        obtain ⟨z1, z2, z3, z4, z5⟩ := HYC.out w4 HR4.out
        have HB4 := Lib.hid (Bl.trans HB3.out hb4)
        clear hb4
        go_wp2_with fail
        refine (HI1.out w4).mono ?_
        rintro e w' ⟨rfl, rfl⟩
        go_wp2_with fail
        refine (HI2.out w4).mono ?_
        rintro e w' ⟨rfl, rfl⟩
        go_wp2
        go_quiet (fail)
        have HB5 := Lib.hid (fun n => Bl.drewN HB4.out n)
        go_wp2
        go_roundw
        case rel => exact ⟨k + 1, by omega, by go_num, HG, Lib.hid (HB5.out _)⟩
        case measure => simp [intOf]; omega
      · obtain ⟨k', hkk⟩ : ∃ k', k = k' + 1 := ⟨k - 1, by omega⟩
        obtain ⟨pp, hp⟩ : ∃ x, ps[k']? = some x := ⟨_, List.getElem?_eq_getElem (by omega)⟩
        have hpr : prvP ps k = some pp.1 := by rw [hkk]; show (ps[k']?).map (·.1) = _; rw [hp]; rfl
        obtain ⟨b4, o4, hae, _, hb4', hc4⟩ := HRW.out.at TPt.ok.len hp TPt.ok.pos
        injection hae with hae
        injection hae with e1 e2 _
        subst e1 e2
        have d0 : wr.cell? ⟨b1, o1 + k' * 4, none⟩ = some (.string pp.1) := hc4 0 _ rfl
        obtain ⟨pk', hpk⟩ : ∃ z, z = pp.1 := ⟨_, rfl⟩
        rw [← hpk] at hpr d0
        have HD := Lib.hid (show ∀ W, Below w2.heap.size w2 W → W.cell? ⟨b1, o1 + k' * 4, none⟩ = some (.string pk') from fun W hW => ((bcell (Bl.trans HA2.out hW)).1 _ _ hb4').trans d0)
        have HOB : Hid (G = if blePt ky pk' = true then 7 else 0) := Lib.hid (by rw [HVO.out, HO.out, hpr]; rfl)
        have hk1 : (0 : Int) < (k : Int) := by omega
        have hkn : 0 < k := by omega
        have hkm : IntKind.i64.wrap ((k : Int) - 1) = (k' : Int) := by rw [IntWalk.i64_in _ (by omega)]; omega
        have j1 : (0 : Int) ≤ (k' : Int) := by omega
        have j2 : (k' : Int) < (ps.length : Int) := by omega
        clear hc4 hp hpk h0 d0 hkk hpr hb4'
        cases hbl1 : Op.bytesLess ky.toList pk'.toList <;> cases hbl2 : (ky.toList == pk'.toList)
        all_goals (
          have HR1 := HOB.out
          simp only [blePt, hbl1, hbl2, Bool.or_true, Bool.or_false, if_true, Bool.false_eq_true, if_false] at HR1
          have HR2 := Lib.hid HR1
          clear HR1
          go_wp2_with fail
          rw [← HW2.out]
          go_wp2_with fail
          refine (HK1.out w2).mono ?_
          rintro e w3 ⟨rfl, hb3⟩
          obtain ⟨y1, y2, y3, y4, y5⟩ := HYC.out w3 hb3
          have HB3 := Lib.hid (Bl.trans HB2.out hb3)
          have HR3 := Lib.hid hb3
          clear hb3
          go_wp2_with fail
          refine (HK2.out w3).mono ?_
          rintro e w4 ⟨rfl, hb4⟩
          have HR4 := Lib.hid (Bl.trans HR3.out hb4)
          obtain ⟨z1, z2, z3, z4, z5⟩ := HYC.out w4 HR4.out
          have HB4 := Lib.hid (Bl.trans HB3.out hb4)
          clear hb4
          go_wp2_with fail
          refine (HI1.out w4).mono ?_
          rintro e w' ⟨rfl, rfl⟩
          go_wp2_with fail
          refine (HI2.out w4).mono ?_
          rintro e w' ⟨rfl, rfl⟩
          have d3 := HD.out w4 HR4.out
          go_wp2
          go_quiet (fail)
          have HB5 := Lib.hid (fun n => Bl.drewN HB4.out n)
          clear hkm hk1 hkn
          go_wp2
          first
            | (have HFF : Hid (F = 7) := Lib.hid (by rw [HGO.out.2 (by rw [HR2.out]; decide), HR2.out])
               go_ret
               exact ⟨ret_int HFF.out.symm, Bl.trans HA1.out (HB5.out _)⟩)
            | (have HG : Hid (prtsF1 none ps = prtsF1 (prvP ps (k + 1)) (ps.drop (k + 1))) := Lib.hid (HGO.out.1 HR2.out)
               go_roundw
               case rel => exact ⟨k + 1, by omega, by go_num, HG, Lib.hid (HB5.out _)⟩
               case measure => simp [intOf]; omega))
    obtain rfl : k = ps.length := by omega
    have HP0 : Hid (prtsF1 none ps = 0) := Lib.hid (by rw [HP.out, List.drop_length]; rfl)
    by_cases h2 : 2000 < l.length
    · have HFF := Lib.hid (HV3.out HN1.out HP0.out h2)
      have h2' : (2000 : Int) < (l.length : Int) := by omega
      have HB2 := Lib.hid (Bl.trans HA1.out HB.out)
      go_wp2
      go_ret
      exact ⟨ret_int HFF.out.symm, HB2.out⟩
    have h2' : ¬ (2000 : Int) < (l.length : Int) := by omega
    have HN2 := Lib.hid h2
    obtain ⟨wo, hwo⟩ : ∃ wo : World, wo = wr := ⟨_, rfl⟩
    rw [← hwo]
    rw [← hwo] at HB u0 u1 lu
    clear hwo
    go_wp2_with fail
    clear h2 h2'
    go_loopw [69] (fun i wr => ∃ k : Nat, k ≤ l.length ∧ i = .int .i64 k ∧ Hid (altsF1 ps none l = altsF1 ps (prvA l k) (l.drop k)) ∧ Hid (Below w1.heap.size w1 wr)) (fun i _ => l.length - (intOf i).toNat)
    case atStart => exact ⟨0, Nat.zero_le _, rfl, Lib.hid rfl, HB⟩
    case round =>
      obtain ⟨k, hk2, rfl, HQ, HB3⟩ := hrel
      obtain ⟨t0, t1, lt0⟩ := HXC.out wr HB3.out
      by_cases hlt2 : k < l.length
      · obtain ⟨x, hx⟩ : ∃ x, l[k]? = some x := ⟨_, List.getElem?_eq_getElem hlt2⟩
        have HRW := Lib.hid (HRA.out wr (Bl.trans HA1.out HB3.out))
        obtain ⟨b1, o1, rfl, _, hb1, hc1⟩ := HRW.out.at TAl.ok.len hx TAl.ok.pos
        have hwk : IntKind.i64.wrap ((k : Int) + 1) = ((k + 1 : Nat) : Int) := by rw [IntWalk.i64_in _ (by omega)]; omega
        have HGO : Hid ((altF ps (prvA l k) x = 0 → altsF1 ps none l = altsF1 ps (prvA l (k + 1)) (l.drop (k + 1))) ∧ (altF ps (prvA l k) x ≠ 0 → F = altF ps (prvA l k) x)) := Lib.hid ⟨fun h => by rw [HQ.out]; exact altsF1_go hx h, fun h => by
          have h2 : altsF1 ps none l = altF ps (prvA l k) x := by rw [HQ.out]; exact altsF1_stop hx h
          rw [HV4.out HN1.out HP0.out HN2.out (by rw [h2]; exact h), h2]⟩
        obtain ⟨G, hG⟩ : ∃ G, G = altF ps (prvA l k) x := ⟨_, rfl⟩
        rw [← hG] at HGO
        obtain ⟨f, b, bo⟩ := x
        have c0 : wr.cell? ⟨b1, o1 + k * 3, none⟩ = some (.string f) := hc1 0 _ rfl
        have c1 : wr.cell? ⟨b1, o1 + k * 3 + 1, none⟩ = some (.string b) := hc1 1 _ rfl
        have c2 : wr.cell? ⟨b1, o1 + k * 3 + 2, none⟩ = some (.bool bo) := hc1 2 _ rfl
        obtain ⟨w2, hw2⟩ : ∃ w2, w2 = wr.alloc (.cells #[.string f, .string b, .bool bo] 72) := ⟨_, rfl⟩
        have hA : Below wr.heap.size wr w2 := by rw [hw2]; exact Bl.alloc (Below.refl _ _) _
        have hX : w2.heap[wr.heap.size]? = some (.cells #[.string f, .string b, .bool bo] 72 (0, 0)) := by rw [hw2]; exact blk_new wr _
        have HYC := Lib.hid (show ∀ W, Below w2.heap.size w2 W → W.cell? ⟨wr.heap.size, 0, none⟩ = some (.string f) ∧ W.cell? ⟨wr.heap.size, 1, none⟩ = some (.string b) ∧ W.cell? ⟨wr.heap.size, 2, none⟩ = some (.bool bo) ∧ W.cell? ⟨w.heap.size, 0, none⟩ = some (.slice pa ps.length pc) ∧ W.cell? ⟨w.heap.size, 1, none⟩ = some (.slice (some ⟨b1, o1, none⟩) l.length ac) ∧ w.heap.size < W.heap.size ∧ wr.heap.size < W.heap.size from fun W hW => by
          have h := blk_below hX hW
          obtain ⟨g1, g2, g3⟩ := HXC.out W (Bl.trans HB3.out (Bl.trans hA hW))
          exact ⟨blk_cell h 0, blk_cell h 1, blk_cell h 2, g1, g2, g3, blk_lt h⟩)
        have HA2 := Lib.hid hA
        have HB2 := Lib.hid (Bl.trans HB3.out hA)
        have HC2 := Lib.hid (Bl.trans HA1.out (Bl.trans HB3.out hA))
        have HW2 := Lib.hid hw2
        obtain ⟨x1, x2, x3, x4, x5, lx1, lx2⟩ := HYC.out w2 (Below.refl _ _)
        obtain ⟨p1, hp1⟩ : ∃ q, q = hasP ps f := ⟨_, rfl⟩
        obtain ⟨p2, hp2⟩ : ∃ q, q = hasP ps b := ⟨_, rfl⟩
        obtain ⟨O, hO⟩ : ∃ O : Int, O = (match prvA l k with | none => 0 | some y => if 0 ≤ altC y (f, b, bo) then 7 else 0) := ⟨_, rfl⟩
        have HV : Hid (G = if p1 = false then 8 else if p2 = false then 8 else if f = b then 3 else O) := Lib.hid (by rw [hG, hp1, hp2, hO]; rfl)
        have HK1 : Hid (∀ W, Below w.heap.size w W → Calls Tryz.prog 42 #[.agg #[.slice pa ps.length pc, .slice (some ⟨b1, o1, none⟩) l.length ac], .string f] W fun e w' => e = .returned (.bool p1) ∧ Below W.heap.size W w') := Lib.hid (fun W hW => by rw [hp1]; exact HHP.out f W hW)
        have HK2 : Hid (∀ W, Below w.heap.size w W → Calls Tryz.prog 42 #[.agg #[.slice pa ps.length pc, .slice (some ⟨b1, o1, none⟩) l.length ac], .string b] W fun e w' => e = .returned (.bool p2) ∧ Below W.heap.size W w') := Lib.hid (fun W hW => by rw [hp2]; exact HHP.out b W hW)
        have HO := Lib.hid hO
        have HXX := Lib.hid hx
        clear hA hX hx hc1 hO hG hp1 hp2 hw2
        cases p1
        case false =>
          have HGC : Hid (G = 8) := Lib.hid HV.out
          have HFF : Hid (F = 8) := Lib.hid (by rw [HGO.out.2 (by rw [HGC.out]; decide), HGC.out])
          go_wp2_with fail
          rw [← HW2.out]
          go_wp2_with fail
          refine (HK1.out w2 HC2.out).mono ?_
          rintro e w3 ⟨rfl, hb3⟩
          obtain ⟨y1, y2, y3, y4, y5, ly1, ly2⟩ := HYC.out w3 hb3
          have HB4 := Lib.hid (Bl.trans HC2.out hb3)
          have HR4 := Lib.hid hb3
          clear hb3
          go_wp2
          go_ret
          exact ⟨ret_int HFF.out.symm, HB4.out⟩
        cases p2
        case false =>
          have HGC : Hid (G = 8) := Lib.hid HV.out
          have HFF : Hid (F = 8) := Lib.hid (by rw [HGO.out.2 (by rw [HGC.out]; decide), HGC.out])
          go_wp2_with fail
          rw [← HW2.out]
          go_wp2_with fail
          refine (HK1.out w2 HC2.out).mono ?_
          rintro e w3 ⟨rfl, hb3⟩
          obtain ⟨y1, y2, y3, y4, y5, ly1, ly2⟩ := HYC.out w3 hb3
          have HB4 := Lib.hid (Bl.trans HC2.out hb3)
          have HR4 := Lib.hid hb3
          clear hb3
          go_wp2_with fail
          refine (HK2.out w3 HB4.out).mono ?_
          rintro e w4 ⟨rfl, hb4⟩
          have HR5 := Lib.hid (Bl.trans HR4.out hb4)
          obtain ⟨z1, z2, z3, z4, z5, lz1, lz2⟩ := HYC.out w4 HR5.out
          have HB5 := Lib.hid (Bl.trans HB4.out hb4)
          clear hb4
          go_wp2
          go_ret
          exact ⟨ret_int HFF.out.symm, HB5.out⟩
        by_cases hfb : f = b
        · have HG3 : Hid (G = 3) := Lib.hid (by rw [HV.out, if_pos hfb]; rfl)
          have HFF : Hid (F = 3) := Lib.hid (by rw [HGO.out.2 (by rw [HG3.out]; decide), HG3.out])
          subst hfb
          go_wp2_with fail
          rw [← HW2.out]
          go_wp2_with fail
          refine (HK1.out w2 HC2.out).mono ?_
          rintro e w3 ⟨rfl, hb3⟩
          obtain ⟨y1, y2, y3, y4, y5, ly1, ly2⟩ := HYC.out w3 hb3
          have HB4 := Lib.hid (Bl.trans HC2.out hb3)
          have HR4 := Lib.hid hb3
          clear hb3
          go_wp2_with fail
          refine (HK2.out w3 HB4.out).mono ?_
          rintro e w4 ⟨rfl, hb4⟩
          have HR5 := Lib.hid (Bl.trans HR4.out hb4)
          obtain ⟨z1, z2, z3, z4, z5, lz1, lz2⟩ := HYC.out w4 HR5.out
          have HB5 := Lib.hid (Bl.trans HB4.out hb4)
          clear hb4
          go_wp2
          go_ret
          exact ⟨ret_int HFF.out.symm, HB5.out⟩
        have HVO : Hid (G = O) := Lib.hid (by rw [HV.out, if_neg hfb]; rfl)
        have hne : (f.toList == b.toList) = false := by
          cases h : f.toList == b.toList
          · rfl
          · exact absurd (ba_inj (by simpa using h)) hfb
        have hne2 : ¬ f.toList = b.toList := fun h => hfb (ba_inj h)
        clear HV hfb
        by_cases h0 : k = 0
        · have HG : Hid (altsF1 ps none l = altsF1 ps (prvA l (k + 1)) (l.drop (k + 1))) := Lib.hid (HGO.out.1 (by rw [HVO.out, HO.out, h0]; rfl))
          have hk0 : ¬ 0 < k := by omega
          have hk1 : ¬ (0 : Int) < (k : Int) := by omega
          clear h0
          go_wp2_with fail
          rw [← HW2.out]
          go_wp2_with fail
          refine (HK1.out w2 HC2.out).mono ?_
          rintro e w3 ⟨rfl, hb3⟩
          obtain ⟨y1, y2, y3, y4, y5, ly1, ly2⟩ := HYC.out w3 hb3
          have HB4 := Lib.hid (Bl.trans HC2.out hb3)
          have HR4 := Lib.hid hb3
          clear hb3
          go_wp2_with fail
          refine (HK2.out w3 HB4.out).mono ?_
          rintro e w4 ⟨rfl, hb4⟩
          have HR5 := Lib.hid (Bl.trans HR4.out hb4)
          obtain ⟨z1, z2, z3, z4, z5, lz1, lz2⟩ := HYC.out w4 HR5.out
          have HB5 := Lib.hid (Bl.trans HB4.out hb4)
          clear hb4
          have HBR := Lib.hid (Bl.trans HB2.out HR5.out)
          go_wp2
          go_quiet (fail)
          have HB6 := Lib.hid (fun n => Bl.drewN HBR.out n)
          go_wp2
          go_roundw
          case rel => exact ⟨k + 1, by omega, by go_num, HG, Lib.hid (HB6.out _)⟩
          case measure => simp [intOf]; omega
        · obtain ⟨k', hkk⟩ : ∃ k', k = k' + 1 := ⟨k - 1, by omega⟩
          obtain ⟨y, hy⟩ : ∃ x, l[k']? = some x := ⟨_, List.getElem?_eq_getElem (by omega)⟩
          have hpr : prvA l k = some y := by rw [hkk]; exact hy
          obtain ⟨b4, o4, hae, _, hb4', hc4⟩ := HRW.out.at TAl.ok.len hy TAl.ok.pos
          injection hae with hae
          injection hae with e1 e2 _
          subst e1 e2
          have HD := Lib.hid (show ∀ W, Below w2.heap.size w2 W → W.cell? ⟨b1, o1 + k' * 3, none⟩ = some (.string y.1) ∧ W.cell? ⟨b1, o1 + k' * 3 + 1, none⟩ = some (.string y.2.1) ∧ W.cell? ⟨b1, o1 + k' * 3 + 2, none⟩ = some (.bool y.2.2) from fun W hW => ⟨((bcell (Bl.trans HA2.out hW)).1 _ _ hb4').trans (hc4 0 _ rfl), ((bcell (Bl.trans HA2.out hW)).1 _ _ hb4').trans (hc4 1 _ rfl), ((bcell (Bl.trans HA2.out hW)).1 _ _ hb4').trans (hc4 2 _ rfl)⟩)
          obtain ⟨C, hC⟩ : ∃ C, C = altC y (f, b, bo) := ⟨_, rfl⟩
          have HOB : Hid (G = if 0 ≤ C then 7 else 0) := Lib.hid (by rw [HVO.out, HO.out, hpr, hC])
          have HBA : Hid (∀ W, Calls Tryz.prog 43 #[.agg #[.string y.1, .string y.2.1, .bool y.2.2], .agg #[.string f, .string b, .bool bo]] W fun e w' => e = .returned (.int .i64 C) ∧ Below W.heap.size W w') := Lib.hid fun W => by rw [hC]; exact byAlternate_any y (f, b, bo) W
          have hk1 : (0 : Int) < (k : Int) := by omega
          have hkn : 0 < k := by omega
          have hkm : IntKind.i64.wrap ((k : Int) - 1) = (k' : Int) := by rw [IntWalk.i64_in _ (by omega)]; omega
          have j1 : (0 : Int) ≤ (k' : Int) := by omega
          have j2 : (k' : Int) < (l.length : Int) := by omega
          obtain ⟨yf, yb, ybo⟩ := y
          simp only at HD HBA
          clear hc4 hC h0 hkk hpr hb4' hy
          go_wp2_with fail
          rw [← HW2.out]
          go_wp2_with fail
          refine (HK1.out w2 HC2.out).mono ?_
          rintro e w3 ⟨rfl, hb3⟩
          obtain ⟨y1, y2, y3, y4, y5, ly1, ly2⟩ := HYC.out w3 hb3
          have HB4 := Lib.hid (Bl.trans HC2.out hb3)
          have HR4 := Lib.hid hb3
          clear hb3
          go_wp2_with fail
          refine (HK2.out w3 HB4.out).mono ?_
          rintro e w4 ⟨rfl, hb4⟩
          have HR5 := Lib.hid (Bl.trans HR4.out hb4)
          obtain ⟨z1, z2, z3, z4, z5, lz1, lz2⟩ := HYC.out w4 HR5.out
          have HB5 := Lib.hid (Bl.trans HB4.out hb4)
          clear hb4
          obtain ⟨e3, e4, e5⟩ := HD.out w4 HR5.out
          have r1 := cell_regrown z1
          have r2 := cell_regrown z2
          have r3 := cell_regrown z3
          have r5 := cell_regrown z5
          have r6 := cell_regrown e3
          have r7 := cell_regrown e4
          have r8 := cell_regrown e5
          have HRB : Hid (∀ d os, Calls Tryz.prog 43 #[.agg #[.string yf, .string yb, .bool ybo], .agg #[.string f, .string b, .bool bo]] (grow (redrawn w4 d) os) fun e w'' => e = .returned (.int .i64 C) ∧ ∃ p : Regrown, w'' = grow (redrawn w4 p.d) p.os) := Lib.hid fun d os => Calls.regrown_of (HBA.out _)
          have HBR := Lib.hid (Bl.trans HB2.out HR5.out)
          go_wp2
          clear e3 e4 e5 z1 z2 z3 z5
          refine wp_region_quiet_below (by kernel_rfl) (by kernel_rfl) ?_
          repeat (go_big_quiet_step (exact HRB.out _ _))
          refine wpQuiet_nil ?_
          intro w5 hw'
          obtain ⟨⟨dq, osq⟩, hw''⟩ := hw'
          have HB45 : Hid (Below w4.heap.size w4 w5) := Lib.hid (hw'' ▸ below_regrown w4 dq osq)
          clear hw'' r1 r2 r3 r5 r6 r7 r8 hkm hk1 hkn
          by_cases hc0 : 0 ≤ C
          · have HG7 : Hid (G = 7) := Lib.hid (by rw [HOB.out, if_pos hc0])
            have HFF : Hid (F = 7) := Lib.hid (by rw [HGO.out.2 (by rw [HG7.out]; decide), HG7.out])
            have HBF := Lib.hid (Bl.trans HB5.out HB45.out)
            go_wp2
            go_ret
            exact ⟨ret_int HFF.out.symm, HBF.out⟩
          · have HG : Hid (altsF1 ps none l = altsF1 ps (prvA l (k + 1)) (l.drop (k + 1))) := Lib.hid (HGO.out.1 (by rw [HOB.out, if_neg hc0]))
            have HBF := Lib.hid (Bl.trans HBR.out HB45.out)
            go_wp2
            go_roundw
            case rel => exact ⟨k + 1, by omega, by go_num, HG, HBF⟩
            case measure => simp [intOf]; omega
      obtain rfl : k = l.length := by omega
      have HQ0 : Hid (altsF1 ps none l = 0) := Lib.hid (by rw [HQ.out, List.drop_length]; rfl)
      have HF5 := Lib.hid (HV5.out HN1.out HP0.out HN2.out HQ0.out)
      obtain ⟨wo2, hwo⟩ : ∃ wo2 : World, wo2 = wr := ⟨_, rfl⟩
      rw [← hwo]
      rw [← hwo] at HB3 t0 t1 lt0
      have hM0 : MapW 82 TMd (wo2.alloc (.map #[] 0)) wo2.heap.size (seenW ((l.take 0).flatMap waysR)) := MapW.made _
      have HB4 := Lib.hid (Bl.alloc HB3.out (.map #[] 0))
      obtain ⟨wm, hwm⟩ : ∃ wm, wm = wo2.alloc (.map #[] 0) := ⟨_, rfl⟩
      rw [← hwm] at hM0 HB4
      have HWM := Lib.hid hwm
      have HM0 := Lib.hid hM0
      have lmm : w1.heap.size ≤ wo2.heap.size := HB3.out.size
      have HL2 := Lib.hid HN2.out
      clear hwo hwm hM0
      go_wp2_with fail
      rw [← HWM.out]
      obtain ⟨s0, s1, ls0⟩ := HXC.out wm HB4.out
      go_wp2_with fail
      go_loopw [112] (fun i wr => ∃ k : Nat, k ≤ l.length ∧ i = .int .i64 k ∧ Hid (twiceB [] (waysL l) = twiceB ((l.take k).flatMap waysR) ((l.drop k).flatMap waysR)) ∧ Hid (MapW 82 TMd wr wo2.heap.size (seenW ((l.take k).flatMap waysR))) ∧ Hid (Below w1.heap.size w1 wr)) (fun i _ => l.length - (intOf i).toNat)
      case atStart => exact ⟨0, Nat.zero_le _, rfl, Lib.hid (twiceR l).symm, HM0, HB4⟩
      case round =>
        obtain ⟨k, hk3, rfl, HT, HM, HB5⟩ := hrel
        by_cases hlt3 : k < l.length
        · obtain ⟨x, hx⟩ : ∃ x, l[k]? = some x := ⟨_, List.getElem?_eq_getElem hlt3⟩
          have HX := Lib.hid hx
          obtain ⟨b1, o1, rfl, _, hb1, hc1⟩ := (HRA.out wr (Bl.trans HA1.out HB5.out)).at TAl.ok.len hx TAl.ok.pos
          have HWY := Lib.hid fun W => directions_any x W
          have HT0 := Lib.hid (TwR.start hx HT.out)
          have HZX := Lib.hid (HZ2.out x (List.mem_of_getElem? hx))
          obtain ⟨f, y, bo⟩ := x
          have m0 : wr.cell? ⟨b1, o1 + k * 3, none⟩ = some (.string f) := hc1 0 _ rfl
          have m1 : wr.cell? ⟨b1, o1 + k * 3 + 1, none⟩ = some (.string y) := hc1 1 _ rfl
          have m2 : wr.cell? ⟨b1, o1 + k * 3 + 2, none⟩ = some (.bool bo) := hc1 2 _ rfl
          have hwk : IntKind.i64.wrap ((k : Int) + 1) = ((k + 1 : Nat) : Int) := by rw [IntWalk.i64_in _ (by omega)]; omega
          obtain ⟨wx, hwx⟩ : ∃ wx, wx = wr.alloc (.cells #[.string f, .string y, .bool bo] 72) := ⟨_, rfl⟩
          have hbx : Below wr.heap.size wr wx := by rw [hwx]; exact Bl.alloc (Below.refl _ _) _
          have hX : wx.heap[wr.heap.size]? = some (.cells #[.string f, .string y, .bool bo] 72 (0, 0)) := by rw [hwx]; exact blk_new wr _
          have d0 : wx.cell? ⟨wr.heap.size, 0, none⟩ = some (.string f) := blk_cell hX 0
          have d1 : wx.cell? ⟨wr.heap.size, 1, none⟩ = some (.string y) := blk_cell hX 1
          have d2 : wx.cell? ⟨wr.heap.size, 2, none⟩ = some (.bool bo) := blk_cell hX 2
          have HMX := Lib.hid (HM.out.below hbx)
          have HBX := Lib.hid (Bl.trans HB5.out hbx)
          have HWX := Lib.hid hwx
          clear hx hc1 hwx hX hbx hb1
          go_wp2_with fail
          rw [← HWX.out]
          go_wp2_with fail
          refine (HWY.out wx).mono ?_
          rintro e w4 ⟨⟨vw, rfl, hOw⟩, hb4⟩
          obtain ⟨wa, wc, rfl, _, _⟩ := hOw.form
          have HRW := Lib.hid fun W (hW : Below w4.heap.size w4 W) => (hOw.rec.mono (show wo2.heap.size + 1 ≤ wx.heap.size from HMX.out.lt)).below hW
          have HM4 := Lib.hid (HMX.out.below hb4)
          have HB4' := Lib.hid (Bl.trans HBX.out hb4)
          have hzl := waysT_len (f, y, bo)
          have hzw : (waysR (f, y, bo)).length = (waysT (f, y, bo)).length := by rw [waysT_eq, List.length_map]
          have HZW := Lib.hid hzw
          clear hOw hb4 HWY HMX HBX hzw
          obtain ⟨n, hn⟩ : ∃ n, n = (waysT (f, y, bo)).length := ⟨_, rfl⟩
          rw [← hn] at hzl
          rw [← hn]
          have HN := Lib.hid hn
          clear hn
          go_wp2_with fail
          obtain ⟨wq, hwq⟩ : ∃ wq : World, wq = wr := ⟨_, rfl⟩
          clear hwq
          go_loopw [119] (fun i wr => ∃ (j : Nat) (done : List (Bs × Bs)), j ≤ n ∧ i = .int .i64 j ∧ Hid (TwR l k j (f, y, bo) done) ∧ Hid (MapW 82 TMd wr wo2.heap.size (seenW done)) ∧ Hid (Below w1.heap.size w1 wr) ∧ Hid (RecR TDr wr (wo2.heap.size + 1) (.slice wa n wc) (waysT (f, y, bo)))) (fun i _ => n - (intOf i).toNat)
          case atStart => exact ⟨0, _, Nat.zero_le _, rfl, HT0, HM4, HB4', Lib.hid (by rw [HN.out]; exact HRW.out w4 (Below.refl _ _))⟩
          case round =>
            obtain ⟨j, done, hj, rfl, HTW, HMD, HBD, HRD⟩ := hrel
            by_cases hlt4 : j < n
            · obtain ⟨p, hp⟩ : ∃ p, (waysT (f, y, bo))[j]? = some p := ⟨_, List.getElem?_eq_getElem (by have := HN.out; omega)⟩
              have hpa : (waysR (f, y, bo))[j]? = some (bsW p) := by rw [waysT_eq, List.getElem?_map, hp]; rfl
              have hsh := shortT_of HZX.out _ (List.mem_of_getElem? hpa)
              have hRR := HRD.out
              rw [HN.out] at hRR
              obtain ⟨b5, o5, rfl, _, hb5, hc5⟩ := hRR.at TDr.ok.len hp TDr.ok.pos
              have HPA := Lib.hid hpa
              have HSH := Lib.hid (HTW.out.short HZ2.out HX.out)
              have hlen := HTW.out.len HX.out
              obtain ⟨pf, pb⟩ := p
              have n0 : wr.cell? ⟨b5, o5 + j * 2, none⟩ = some (.string pf) := hc5 0 _ rfl
              have n1 : wr.cell? ⟨b5, o5 + j * 2 + 1, none⟩ = some (.string pb) := hc5 1 _ rfl
              have hkey := dirKey (a := pf) (b := pb) (by have := hsh.1; show pf.data.size ≤ maxLen; rw [← Array.length_toList]; exact this) (by have := hsh.2; show pb.data.size ≤ maxLen; rw [← Array.length_toList]; exact this)
              have hwj : IntKind.i64.wrap ((j : Int) + 1) = ((j + 1 : Nat) : Int) := by rw [IntWalk.i64_in _ (by omega)]; omega
              have hbA := Bl.alloc (Below.refl wr.heap.size wr) (.cells #[.string pf, .string pb] 82)
              have hXA := blk_new wr (.cells #[.string pf, .string pb] 82)
              obtain ⟨wA, hwA⟩ : ∃ wA, wA = wr.alloc (.cells #[.string pf, .string pb] 82) := ⟨_, rfl⟩
              rw [← hwA] at hbA hXA
              have hMA := HMD.out.below hbA
              have hlk := hMA.look TMd.ok hkey
              have hget : ((seenW done).get (enc2 pf.data.toList pb.data.toList)).getD TMd.z = decide (bsW (pf, pb) ∈ done) := seenW_get (y := bsW (pf, pb)) hsh done HSH.out
              rw [hget] at hlk
              have s0 : wA.cell? ⟨wr.heap.size, 0, none⟩ = some (.string pf) := blk_cell hXA 0
              have s1 : wA.cell? ⟨wr.heap.size, 1, none⟩ = some (.string pb) := blk_cell hXA 1
              have HWA := Lib.hid hwA
              have HBA := Lib.hid (Bl.trans HBD.out hbA)
              have HRA2 := Lib.hid (HRD.out.below hbA)
              clear hp hpa hc5 hRR hget hwA hb5
              by_cases hin : bsW (pf, pb) ∈ done
              · have HFF : Hid (F = 6) := Lib.hid (by rw [HF5.out, if_pos (HTW.out.hit HPA.out hin)])
                rw [decide_eq_true hin] at hlk
                have hlk2 : (Instr.lookup 79 (.map (some wo2.heap.size)) (.agg #[.string pf, .string pb]) false).run Tryz.prog wA = .ok (.bool true) wA := hlk
                have HBF := Lib.hid (Bl.trans HA1.out HBA.out)
                rw [HWA.out] at hlk2
                clear hlk hMA hbA hXA hkey hsh s0 s1
                go_wp2
                go_ret
                exact ⟨ret_int HFF.out.symm, by rw [← HWA.out]; exact HBF.out⟩
              · have HTN := Lib.hid (HTW.out.next HPA.out hin)
                rw [decide_eq_false hin] at hlk
                have hlk2 : (Instr.lookup 79 (.map (some wo2.heap.size)) (.agg #[.string pf, .string pb]) false).run Tryz.prog wA = .ok (.bool false) wA := hlk
                obtain ⟨w6, hr6, hM6, ht6⟩ := hMA.put TMd.ok hkey true (by have := seenW_len done; unfold maxLen; omega)
                have hr6' : (Instr.mapUpdate 79 (.map (some wo2.heap.size)) (.agg #[.string pf, .string pb]) (.bool true)).run Tryz.prog wA = .ok () w6 := hr6
                have hb6 := Turned.below ht6 (B := w1.heap.size) lmm (by have := HBA.out.size; omega)
                have HM6 : Hid (MapW 82 TMd w6 wo2.heap.size (seenW (done ++ [bsW (pf, pb)]))) := Lib.hid (by rw [seenW_snoc]; exact hM6)
                have HB6 := Lib.hid (Below.trans HBA.out hb6)
                have HR6 := Lib.hid (show RecR TDr w6 (wo2.heap.size + 1) (.slice (some ⟨b5, o5, none⟩) n wc) (waysT (f, y, bo)) from (HRA2.out.grown ht6.grown (Nat.lt_succ_self _)).mono (Nat.le_refl _))
                rw [HWA.out] at hlk2 hr6'
                clear hlk hMA hbA hXA hkey hsh hr6 hM6 ht6 hb6 s0 s1
                go_wp2
                go_roundw
                case rel => exact ⟨j + 1, _, by omega, by go_num, HTN, HM6, HB6, HR6⟩
                case measure => simp [intOf]; omega
            · obtain rfl : j = n := by omega
              obtain ⟨hd1, hd2⟩ := HTW.out.stop HX.out (by rw [HZW.out, ← HN.out]; exact Nat.le_refl _)
              have HTE := Lib.hid hd2
              have HME : Hid (MapW 82 TMd wr wo2.heap.size (seenW ((l.take (k + 1)).flatMap waysR))) := Lib.hid (by rw [← hd1]; exact HMD.out)
              clear hd1 hd2
              go_wp2
              go_roundw
              case rel => exact ⟨k + 1, by omega, by go_num, HTE, HME, HBD⟩
              case measure => simp [intOf]; omega
        · obtain rfl : k = l.length := by omega
          have HTZ : Hid (twiceB [] (waysL l) = false) := Lib.hid (by rw [HT.out, List.drop_length]; rfl)
          have HFF : Hid (F = 0) := Lib.hid (by rw [HF5.out, HTZ.out]; rfl)
          have HBF := Lib.hid (Bl.trans HA1.out HB5.out)
          go_wp2
          go_ret
          exact ⟨ret_int HFF.out.symm, HBF.out⟩
end Go.Proofs.YtihgnpobkpnipaaGreatDoor
