/- The contract of CyclesOf's inner search: one step; and of CyclesOf. Conditions: at most 5 points, coordinates within 2^41. -/
import Derived.Test.YtgcmlhpocbgkaaaDiv2
namespace Go.Proofs.Ytgcmlhpocbgkaaa
open Go.RowKit Go.Sort

theorem OwnV.keepB {w w' : World} {B g n cap : Nat} {vs : List Value} (h : OwnV w B (.slice (some ⟨g, 0, none⟩) n cap) vs) (e : w'.heap[g]? = w.heap[g]?) : OwnV w' B (.slice (some ⟨g, 0, none⟩) n cap) vs := by
  refine ⟨h.1, ?_⟩
  rcases h.2 with ⟨h1, _⟩ | ⟨g', cap', cur, hv, hb, hg, rest⟩
  · cases h1
  · right
    have e2 := hv
    injection hv with hv1 _ _
    injection hv1 with hv1
    injection hv1 with hv1 _ _
    subst hv1
    exact ⟨g, cap', cur, e2, hb, e.trans hg, rest⟩
theorem OwnV.cell {w : World} {B g n cap : Nat} {vs : List Value} (h : OwnV w B (.slice (some ⟨g, 0, none⟩) n cap) vs) {j : Nat} {x : Value} (hx : vs[j]? = some x) : w.cell? ⟨g, j, none⟩ = some x := by
  obtain ⟨a, c, hv, _, _, h3⟩ := h.rd
  obtain ⟨b, o, ha, _, _, hc⟩ := h3 j x hx
  injection hv with h1 _ _
  rw [← h1] at ha
  injection ha with ha
  injection ha with ha1 ha2 _
  subst ha1 ha2
  rwa [Nat.zero_add] at hc
theorem Own.farV {w : World} {B B' g n cap i : Nat} {x u : Value} {l : List Int} {vs : List Value} (h : Own w B x l) (hv : OwnV w B' (.slice (some ⟨g, 0, none⟩) n cap) vs) : Own (w.setCell ⟨g, i, none⟩ u) B x l :=
  h.kept (Gr.set (Gr.refl w (some g)) g i (.inl rfl) u) (by
    have := h.ne_row hv
    simpa [Value.ownBlock] using this)
theorem rows_fin {wr wX wA : World} {lo : Nat} {vC vA y : Value} {vs : List Value} {ls : List (List Int)} {k : Int} (hvl : vs.length = ls.length) (hlo : lo ≤ wr.heap.size) (hvs : ∀ (j : Nat) (x : Value) (l : List Int), vs[j]? = some x → ls[j]? = some l → Ints wr lo x l)
    (hX : Below wr.heap.size wr wX) (hO : OwnV wX wr.heap.size vC vs) (hk : Own wX wr.heap.size y [k]) (hOA : OwnV wA wr.heap.size vA (vs ++ [y])) (hgA : wX.grownBy wA vC.ownBlock) (hbA : Below wr.heap.size wX wA) :
    Lists wA lo vA (ls ++ [[k]]) ∧ Below wr.heap.size wr wA := by
  have hk' : Own wA wr.heap.size y [k] := hk.kept hgA (hk.ne_row hO)
  have hb := Below.trans hX hbA
  exact ⟨rows_new hOA hvl hlo (fun j x l h1 h2 => (hvs j x l h1 h2).below hb) (hk'.ints.mono hlo), hb⟩
set_option maxHeartbeats 4000000 in
set_option maxRecDepth 100000 in
theorem tryC_step (st : Pt) (P : List Pt) (vp : Value) (z : Nat) (w0 : World) (lo gS gP gN gB gL gT f : Nat) (hst : Bd st) (hPb : ∀ p ∈ P, Bd p) (hn : P.length ≤ 9) (rp : Pts w0 0 vp P) (h0 : w0.heap.size ≤ gS)
    (ih : TryC st P vp z w0 lo gS gP gN gB gL gT f) : TryC st P vp z w0 lo gS gP gN gB gL gT (f + 1) := by
  intro k gs acc vg w hkf hgk hgd ha1 ha2 ha3 ha4 hw0 hby hvg hnil
  obtain ⟨va, cap, rfl, hc1, hc2⟩ := Pts.form rp
  obtain ⟨ga, gcap, rfl, hgc1, hgc2⟩ := Lists.form hvg
  obtain ⟨sx, sy⟩ := st
  obtain ⟨g1, g2, g3, g4, g5, g6⟩ := hby.ord
  have hlo := hby.hlo
  rw [List.length_map] at *
  have cP : w.cell? ⟨gP, 0, none⟩ = some (.slice va P.length cap) := blk_cell hby.hP 0
  have hkP : k < P.length := by omega
  have hglen : gs.length ≤ 9 := by omega
  have hkids := kids_kb (st := (sx, sy)) (P := P) hst hPb hn (z := z) (f := f) (k := k) (gs := gs) (acc := acc) hkf hgk hgd ⟨ha1, ha2, ha3, ha4⟩
  have HK := Lib.hid hkids
  have hk1 : k + 1 + f = P.length := by omega
  have HK1 := Lib.hid hk1
  have hG := Lib.hid hgd
  have HB := Lib.hid hby
  have HV := Lib.hid hvg
  have HP := Lib.hid hPb
  have HW := Lib.hid hw0
  have HN := Lib.hid hnil
  have HIH := Lib.hid ih
  have HL : Hid ((leaves z (f + 1) k gs).foldl (stepC (sx, sy) P) acc = (leaves z f (k + 1) (gs ++ [[k]])).foldl (stepC (sx, sy) P) (kidsTo (sx, sy) P z f k gs acc gs.length)) := Lib.hid (by
    simp only [leaves]
    rw [List.foldl_append, kids_eq])
  clear hgd hby hvg ha4 hPb hw0 hnil hkf hkids hk1 ih ha1 ha2 ha3
  go_enter Try.func53, Try.ntmps53
  go_wp2
  go_loopg [25] gs.length (fun gk iv wr => ∃ i : Nat, gk = gs.length - i ∧ i ≤ gs.length ∧ iv = .int .i64 i ∧ By wr lo gS gP gN gB gL gT (sx, sy) (.slice va P.length cap) z (kidsTo (sx, sy) P z f k gs acc i) ∧ Tw gB gL w wr)
  case atStart => exact ⟨0, by omega, Nat.zero_le _, rfl, HB.out, Tw.refl _ _ _⟩
  case round =>
    clear cP
    obtain ⟨i, rfl, hi, rfl, hby, htw⟩ := hrel
    have hvr := htw.lists HV.out (by omega) (by omega)
    have hw0r := htw.below HW.out (by omega) (by omega)
    by_cases hlt : i < gs.length
    · obtain ⟨g, hg⟩ : ∃ g, gs[i]? = some g := ⟨_, List.getElem?_eq_getElem hlt⟩
      have hgn : (gs.map nats)[i]? = some (nats g) := by rw [List.getElem?_map, hg]; rfl
      have hgD : gs.getD i [] = g := by rw [List.getD_eq_getElem?_getD, hg]; rfl
      obtain ⟨b2, o2, x1, x2, rfl, _, hl2, hx2, hx3⟩ := Lists.at hvr hgn
      have cN : wr.cell? ⟨gN, 0, none⟩ = some (.int .i64 z) := blk_cell hby.hN 0
      have hnew : kidsTo (sx, sy) P z f k gs acc (i + 1) = if g.length < z then (leaves z f (k + 1) (gs.set i (g ++ [k]))).foldl (stepC (sx, sy) P) (kidsTo (sx, sy) P z f k gs acc i) else kidsTo (sx, sy) P z f k gs acc i := by simp only [kidsTo]; rw [hgD]
      have hkb := HK.out i hi
      generalize kidsTo (sx, sy) P z f k gs acc i = ack at *
      have hglz : g.length ≤ 9 := by
        have := asc_len (hG.out.2 g (List.mem_of_getElem? hg)).1 (hG.out.2 g (List.mem_of_getElem? hg)).2
        omega
      rw [nats_len] at hx2 hx3
      have HNEW := Lib.hid hnew
      have HKB := Lib.hid hkb
      have HBY := Lib.hid hby
      have HTW := Lib.hid htw
      have HGI := Lib.hid hg
      have HX3 := Lib.hid hx3
      have HVR := Lib.hid hvr
      have hlor := hby.hlo
      clear hgn hgD hg hnew hkb hby htw hx3
      by_cases hz : g.length < z
      · go_wp2_with fail
        refine (CloneLL_any _ (gs.map nats) lo _ (by simp; omega) (fun h => HN.out (by simpa using h)) HVR.out).mono ?_
        rintro e w1 ⟨v1, vs, rfl, hO1, hvl, hvs, hb1⟩
        rw [List.length_map] at hvl
        have hgi := HVR.out.below hb1
        obtain ⟨gn, ncap, hv1e, hgn1, hgn2, hgn3⟩ := hO1.nonnil (by intro h; rw [h] at hvl; simp at hvl; omega)
        rw [hvl] at hgn3 hv1e
        subst hv1e
        have hx31 := Ints.below HX3.out hb1
        have HVS := Lib.hid hvs
        have HVL := Lib.hid hvl
        clear hvs hvl
        go_wp2_with fail
        refine (Clone_any (nats g) _ _ (by rw [nats_len]; omega) ((hx31.mono (Nat.zero_le _)))).mono ?_
        rintro e w2 ⟨v2, rfl, hO2, hb2⟩
        have hz2 := hb2.size
        go_wp2_with (at_builtin; refine wp_app_int rfl _ _ rfl w1.heap.size _ (nats g) rfl (hO2.alloc _) w2.heap.size 1 k rfl (by rw [blk_cell (blk_new w2 _) 0]; rfl) (by rw [nats_len]; omega) (by simp; omega) ?_)
        intro v3 w3 hO3 hA3 hb3
        rw [← nats_snoc] at hO3
        obtain ⟨a3, c3, rfl, _, _⟩ := Ints.form hO3.ints
        have hb13 : Below w1.heap.size w1 w3 := Below.trans (Bl.alloc hb2 _) hb3
        have hb03 := Bl.trans hb1 hb13
        have hV3 : OwnV w3 wr.heap.size (.slice (some ⟨gn, 0, none⟩) gs.length ncap) vs := hO1.keepB (hb13.block gn hgn2)
        have hO4 := hO3.farV (i := i) (u := .slice a3 (nats (g ++ [k])).length c3) hV3
        have hV4 := hV3.set HVL.out.symm i (.slice a3 (nats (g ++ [k])).length c3)
        obtain ⟨y, hy⟩ : ∃ y, vs[i]? = some y := ⟨_, List.getElem?_eq_getElem (by rw [HVL.out]; exact hlt)⟩
        have y1 := hV3.cell hy
        have y2 := hV3.free HVL.out.symm i
        have hb04 := Bl.set hb03 gn i hgn1 (.slice a3 (nats (g ++ [k])).length c3)
        have hby4 := HBY.out.below hb04
        have cT : (w3.setCell ⟨gn, i, none⟩ (.slice a3 (nats (g ++ [k])).length c3)).cell? ⟨gT, 0, none⟩ = some (tryCV gP gN gT gS gL gB) := blk_cell hby4.hT 0
        unfold tryCV at cT
        have hls : Lists (w3.setCell ⟨gn, i, none⟩ (.slice a3 (nats (g ++ [k])).length c3)) lo (.slice (some ⟨gn, 0, none⟩) gs.length ncap) ((gs.set i (g ++ [k])).map nats) := by
          rw [List.map_set]
          exact rows_set hV4 (by simpa using HVL.out) hlor (fun j x l h1 h2 => (HVS.out j x l h1 h2).below hb04) (hO4.ints.mono (by have := hb1.size; omega))
        have hself := HIH.out (k + 1) (gs.set i (g ++ [k])) ack _ _ HK1.out (by rw [List.length_set]; omega) (hG.out.set HGI.out) HKB.out.1 HKB.out.2.1 HKB.out.2.2.1 HKB.out.2.2.2 (Bl.trans hw0r hb04) hby4 hls (fun h => by
          have h2 : (gs.set i (g ++ [k])).length = 0 := by rw [h]; rfl
          rw [List.length_set] at h2; omega)
        rw [show ((k + 1 : Nat) : Int) = (k : Int) + 1 by omega] at hself
        have HSELF := Lib.hid hself
        have HT4 : Hid (Tw gB gL w _) := Lib.hid (HTW.out.trans (Tw.of_below hb04))
        have HE : Hid (kidsTo (sx, sy) P z f k gs acc (i + 1) = (leaves z f (k + 1) (gs.set i (g ++ [k]))).foldl (stepC (sx, sy) P) ack) := Lib.hid (by rw [HNEW.out, if_pos hz])
        clear hself hls hby4 hb04 hV4 hO4 hV3 hy hb03 hb13 hb3 hA3 hO3 hO2 hb2 hz2 hO1 hgi hx31 hb1
        go_wp2_with fail
        refine HSELF.out.mono ?_
        rintro e w5 ⟨rfl, hby5, htw5⟩
        go_wp2
        go_roundg (gs.length - (i + 1))
        case rel => exact ⟨i + 1, rfl, by omega, by go_num, by rw [HE.out]; exact hby5, HT4.out.trans htw5⟩
        case measure => omega
      · have HE : Hid (kidsTo (sx, sy) P z f k gs acc (i + 1) = ack) := Lib.hid (by rw [HNEW.out, if_neg hz])
        go_wp2
        go_roundg (gs.length - (i + 1))
        case rel => exact ⟨i + 1, rfl, by omega, by go_num, by rw [HE.out]; exact HBY.out, HTW.out⟩
        case measure => omega
    · have hie : i = gs.length := by omega
      subst hie
      have hkb := HK.out gs.length hi
      generalize kidsTo (sx, sy) P z f k gs acc gs.length = ack at *
      obtain ⟨vs, hvl, hvrd, hvs⟩ := hvr
      have hlor := hby.hlo
      have hB0 : Below wr.heap.size wr wr.drew := Below.drew (Below.refl _ _)
      have hB1 : Below wr.heap.size wr (wr.alloc (.cells #[.int .i64 k] 3)).drew := Below.drew (Bl.alloc (Below.refl _ _) _)
      have hB2 : Below wr.heap.size wr ((wr.alloc (.cells #[.int .i64 k] 3)).alloc (.cells #[.slice (some ⟨wr.heap.size, 0, none⟩) 1 1] 22)).drew := Below.drew (Bl.alloc (Bl.alloc (Below.refl _ _) _) _)
      have cT : wr.cell? ⟨gT, 0, none⟩ = some (tryCV gP gN gT gS gL gB) := blk_cell hby.hT 0
      unfold tryCV at cT
      have lT := blk_lt hby.hT
      have HCT := Lib.hid (show ∀ W, Below wr.heap.size wr W → W.cell? ⟨gT, 0, none⟩ = _ from fun W hW => ((bcell hW).1 _ _ lT).trans cT)
      have HGk1 := Lib.hid (show ∀ w2, Below (wr.alloc (.cells #[.int .i64 k] 3)).drew.heap.size (wr.alloc (.cells #[.int .i64 k] 3)).drew w2 → w2.heap[wr.heap.size]? = some (.cells #[.int .i64 k] 3 (0, 0)) from fun w2 h => blk_below (show (wr.alloc (.cells #[.int .i64 k] 3)).drew.heap[wr.heap.size]? = _ from blk_new wr _) h)
      have HGk2 := Lib.hid (show ∀ w2, Below ((wr.alloc (.cells #[.int .i64 k] 3)).alloc (.cells #[.slice (some ⟨wr.heap.size, 0, none⟩) 1 1] 22)).drew.heap.size ((wr.alloc (.cells #[.int .i64 k] 3)).alloc (.cells #[.slice (some ⟨wr.heap.size, 0, none⟩) 1 1] 22)).drew w2 →
          w2.heap[wr.heap.size]? = some (.cells #[.int .i64 k] 3 (0, 0)) ∧ w2.heap[wr.heap.size + 1]? = some (.cells #[.slice (some ⟨wr.heap.size, 0, none⟩) 1 1] 22 (0, 0)) from fun w2 h =>
        ⟨blk_below (show ((wr.alloc (.cells #[.int .i64 k] 3)).alloc (.cells #[.slice (some ⟨wr.heap.size, 0, none⟩) 1 1] 22)).drew.heap[wr.heap.size]? = _ from blk_old (blk_new wr _) _) h,
         blk_below (show ((wr.alloc (.cells #[.int .i64 k] 3)).alloc (.cells #[.slice (some ⟨wr.heap.size, 0, none⟩) 1 1] 22)).drew.heap[wr.heap.size + 1]? = _ from blk_new' _ _ (by simp)) h⟩)
      have HClone := Lib.hid (show ∀ W, Below wr.heap.size wr W → Calls Try.prog 54 #[.slice ga gs.length gcap] W fun e w' => (∃ v', e = .returned v' ∧ OwnV w' wr.heap.size v' vs) ∧ Below W.heap.size W w' ∧ Below wr.heap.size wr w' from fun W hW =>
        (CloneV_any _ vs W (by rw [hvl]; simp; omega) (fun x hx => by
          obtain ⟨j, hj, e⟩ := List.getElem_of_mem hx
          obtain ⟨a, c, rfl, _, _⟩ := Ints.form (hvs j x ((gs.map nats)[j]'(by omega)) (by rw [List.getElem?_eq_getElem hj, e]) (List.getElem?_eq_getElem (by omega)))
          rfl) (fun h => HN.out (by
            have := congrArg List.length h
            rw [hvl] at this
            exact List.eq_nil_of_length_eq_zero (by simpa using this))) (by rw [hvl]; exact (hvrd.keep (fun i _ hi => hW.block i hi) hW.size).mono (Nat.zero_le _))).mono fun e w' ⟨v', h1, h2, h3⟩ => ⟨⟨v', h1, h2.base hW.size⟩, h3, Bl.trans hW h3⟩)
      have HSelf := Lib.hid (show ∀ W v, Below wr.heap.size wr W → Lists W lo v (gs.map nats ++ [[(k : Int)]]) → Calls Try.prog 53 #[.int .i64 ((k : Int) + 1), v, .pointer (some ⟨gP, 0, none⟩), .pointer (some ⟨gN, 0, none⟩), .pointer (some ⟨gT, 0, none⟩), .pointer (some ⟨gS, 0, none⟩), .pointer (some ⟨gL, 0, none⟩), .pointer (some ⟨gB, 0, none⟩)] W fun e w' =>
          e = .returned (.tuple #[]) ∧ By w' lo gS gP gN gB gL gT (sx, sy) (.slice va P.length cap) z ((leaves z f (k + 1) (gs ++ [[k]])).foldl (stepC (sx, sy) P) ack) ∧ Tw gB gL wr w' from fun W v hW hL => by
        have := HIH.out (k + 1) (gs ++ [[k]]) ack v W HK1.out (by simp; omega) (hG.out.new (by omega)) hkb.1 hkb.2.1 hkb.2.2.1 hkb.2.2.2 (Bl.trans hw0r hW) (hby.below hW) (by rw [List.map_append]; exact hL) (fun h => by simp at h)
        rw [show ((k + 1 : Nat) : Int) = (k : Int) + 1 by omega] at this
        exact this.mono fun e w' ⟨h1, h2, h3⟩ => ⟨h1, h2, (Tw.of_below hW).trans h3⟩)
      have HFin := Lib.hid (show ∀ (wX wA : World) (vC vA y : Value), Below wr.heap.size wr wX → OwnV wX wr.heap.size vC vs → Own wX wr.heap.size y [(k : Int)] → OwnV wA wr.heap.size vA (vs ++ [y]) → wX.grownBy wA vC.ownBlock → Below wr.heap.size wX wA → Lists wA lo vA (gs.map nats ++ [[(k : Int)]]) ∧ Below wr.heap.size wr wA from
        fun wX wA vC vA y h1 h2 h3 h4 h5 h6 => rows_fin hvl hlor hvs h1 h2 h3 h4 h5 h6)
      have hvl6 : vs.length ≤ 1000000 := by rw [hvl]; simp; omega
      have HTW := Lib.hid htw
      have HCTs := Lib.hid (show ∀ W, Tw gB gL wr W → W.cell? ⟨gT, 0, none⟩ = _ from fun W hW => (blk_cell (hW.blk hby.hT (by omega) (by omega)) 0 : W.cell? ⟨gT, 0, none⟩ = some (tryCV gP gN gT gS gL gB)))
      unfold tryCV at HCTs
      have hwr : IntKind.i64.wrap ((k : Int) + 1) = (k : Int) + 1 := IntWalk.i64_in _ (by omega)
      clear hvrd hvs hby htw hkb HIH hvl
      go_wp2
      go_region_held2 (fun W : World => W.cell? ⟨gT, 0, none⟩ = some (.func (.func 53) #[] #[.pointer (some ⟨gP, 0, none⟩), .pointer (some ⟨gN, 0, none⟩), .pointer (some ⟨gT, 0, none⟩), .pointer (some ⟨gS, 0, none⟩), .pointer (some ⟨gL, 0, none⟩), .pointer (some ⟨gB, 0, none⟩)]))
        (first | exact HCT.out _ hB0 | exact HCT.out _ hB1 | exact HCT.out _ hB2 | exact HCT.out _ hB | exact HCT.out _ (Bl.alloc hB _) | exact HCT.out _ (Bl.alloc (Bl.alloc hB _) _) | exact HCT.out _ hLA.2 | exact HCTs.out _ hSelf.2)
        (first
          | (refine step_app_row rfl (.tmp 54) (.tmp 57) rfl wr.heap.size _ vs rfl hO (wr.heap.size + 1) 1 (.slice (some ⟨wr.heap.size, 0, none⟩) 1 1) rfl (blk_cell hGy 0) rfl hvl6 hB.size ?_; intro vA wA hOA hgA hbA; have hLA := HFin.out _ _ _ _ _ hB hO (Own.one hGk (Nat.le_refl _)) hOA hgA hbA)
          | (refine step_app_row rfl (.tmp 54) (.tmp 57) rfl wr.heap.size _ vs rfl (hO.alloc _) _ 1 (.slice (some ⟨wr.heap.size, 0, none⟩) 1 1) rfl (by rw [blk_cell (blk_new _ _) 0]; rfl) rfl hvl6 (Bl.alloc hB _).size ?_; intro vA wA hOA hgA hbA; have hLA := HFin.out _ _ _ _ _ (Bl.alloc hB _) (hO.alloc _) (Own.one (blk_old hGk _) (Nat.le_refl _)) hOA hgA hbA)
          | (refine step_app_row rfl (.tmp 54) (.tmp 57) rfl wr.heap.size _ vs rfl ((hO.alloc _).alloc _) _ 1 (.slice (some ⟨wC.heap.size, 0, none⟩) 1 1) rfl (by rw [blk_cell (blk_new' _ _ (by simp)) 0]; rfl) rfl hvl6 (Bl.alloc (Bl.alloc hB _) _).size ?_; intro vA wA hOA hgA hbA; have hLA := HFin.out _ _ _ _ _ (Bl.alloc (Bl.alloc hB _) _) ((hO.alloc _).alloc _) (Own.one (blk_old (blk_new _ _) _) hB.size) hOA hgA hbA)
          | (go_at_call 54; refine (HClone.out _ (by first | exact hB0 | exact hB1 | exact hB2)).mono ?_; rintro e wC ⟨⟨vC, rfl, hO⟩, hb, hB⟩; first | (have hGG := HGk2.out _ hb; have hGk := hGG.1; have hGy := hGG.2) | have hGk := HGk1.out _ hb | skip)
          | (go_at_call 53; (try rw [hwr]); refine (HSelf.out _ _ hLA.2 hLA.1).mono ?_; rintro e wE ⟨rfl, hSelf⟩))
      all_goals (
        go_wp2
        refine bodyPost_ret (results_none rfl _ _ _) rfl ?_
        exact ⟨rfl, by rw [HL.out]; exact hSelf.1, HTW.out.trans hSelf.2⟩)
end Go.Proofs.Ytgcmlhpocbgkaaa
