/- The contract of CyclesOf's inner search, and of CyclesOf. Conditions: at most 5 points, coordinates within 2^41. -/
import Derived.Test.YtgcmlhpocbgkaaaDiv
namespace Go.Proofs.Ytgcmlhpocbgkaaa
open Go.RowKit Go.Sort

theorem Own.one {W : World} {g lo : Nat} {k : Int} (hg : W.heap[g]? = some (.cells #[.int .i64 k] 3 (0, 0))) (hlo : lo ≤ g) : Own W lo (.slice (some ⟨g, 0, none⟩) 1 1) [k] :=
  ⟨rfl, .inr ⟨g, 1, _, rfl, hlo, hg, Nat.le_refl _, by decide, rfl, rfl⟩⟩
theorem CloneLL_any (v : Value) (ls : List (List Int)) (lo : Nat) (w : World) (hlen : ls.length ≤ 1000000) (h0 : ls = [] → v = .slice none 0 0) (rl : Lists w lo v ls) :
    Calls Try.prog 54 #[v] w fun e w' => ∃ v' vs, e = .returned v' ∧ OwnV w' w.heap.size v' vs ∧ vs.length = ls.length ∧ (∀ (j : Nat) (x : Value) (l : List Int), vs[j]? = some x → ls[j]? = some l → Ints w lo x l) ∧ Below w.heap.size w w' := by
  obtain ⟨vs, h1, h2, h3⟩ := rl
  refine (CloneV_any v vs w (by omega) (fun x hx => ?_) (fun h => h0 (List.eq_nil_of_length_eq_zero (by rw [← h1, h]; rfl))) (h1 ▸ (h2.mono (Nat.zero_le _)))).mono ?_
  · obtain ⟨j, hj, e⟩ := List.getElem_of_mem hx
    obtain ⟨a, c, rfl, _, _⟩ := Ints.form (h3 j x (ls[j]'(by omega)) (by rw [List.getElem?_eq_getElem hj, e]) (List.getElem?_eq_getElem (by omega)))
    rfl
  · rintro e w' ⟨v', he, ho, hb⟩
    exact ⟨v', vs, he, ho, h1, h3, hb⟩
theorem rows_set {w : World} {lo B g n cap i : Nat} {vs : List Value} {ls : List (List Int)} {x : Value} {l : List Int} (h1 : OwnV w B (.slice (some ⟨g, 0, none⟩) n cap) (vs.set i x)) (h2 : vs.length = ls.length) (hlo : lo ≤ B)
    (h3 : ∀ (j : Nat) (x : Value) (l : List Int), vs[j]? = some x → ls[j]? = some l → Ints w lo x l) (hx : Ints w lo x l) : Lists w lo (.slice (some ⟨g, 0, none⟩) n cap) (ls.set i l) := by
  refine h1.lists (by simp [h2]) hlo fun j y m hy hm => ?_
  rw [List.getElem?_set] at hy hm
  by_cases hij : i = j
  · rw [if_pos hij] at hy hm
    split at hy
    · split at hm
      · rw [← Option.some.inj hy, ← Option.some.inj hm]; exact hx
      · cases hm
    · cases hy
  · rw [if_neg hij] at hy hm
    exact h3 j y m hy hm
theorem rows_new {w : World} {lo B : Nat} {v x : Value} {vs : List Value} {ls : List (List Int)} {l : List Int} (h1 : OwnV w B v (vs ++ [x])) (h2 : vs.length = ls.length) (hlo : lo ≤ B)
    (h3 : ∀ (j : Nat) (x : Value) (l : List Int), vs[j]? = some x → ls[j]? = some l → Ints w lo x l) (hx : Ints w lo x l) : Lists w lo v (ls ++ [l]) := by
  refine h1.lists (by simp [h2]) hlo fun j y m hy hm => ?_
  by_cases hj : j < vs.length
  · rw [List.getElem?_append_left hj] at hy
    rw [List.getElem?_append_left (by omega)] at hm
    exact h3 j y m hy hm
  · rw [List.getElem?_append_right (by omega)] at hy
    rw [List.getElem?_append_right (by omega)] at hm
    have h0 : j - vs.length = 0 := by
      have := (List.getElem?_eq_some_iff.1 hy).1
      simp at this; omega
    rw [h0] at hy
    rw [show j - ls.length = 0 by omega] at hm
    simp at hy hm
    subst hy hm
    exact hx
theorem or_lt3 {a b : Int × List (List Int)} : orF [cmpI a.1 b.1, cmpI (a.2.length : Int) (b.2.length : Int), cmpLL a.2 b.2] < 0 ↔ lt3 a b := by
  unfold lt3 orF orF orF orF cmpI
  constructor
  · intro h
    by_cases h1 : a.1 < b.1
    · exact .inl h1
    · rw [if_neg h1] at h
      by_cases h2 : b.1 < a.1
      · rw [if_pos h2] at h; simp at h
      · rw [if_neg h2, if_pos rfl] at h
        refine .inr ⟨by omega, ?_⟩
        by_cases h3 : (a.2.length : Int) < b.2.length
        · exact .inl (by omega)
        · rw [if_neg h3] at h
          by_cases h4 : (b.2.length : Int) < a.2.length
          · rw [if_pos h4] at h; simp at h
          · rw [if_neg h4, if_pos rfl] at h
            refine .inr ⟨by omega, ?_⟩
            split at h <;> omega
  · rintro (h | ⟨h1, h | ⟨h2, h3⟩⟩)
    · rw [if_pos h, if_neg (show ¬((-1 : Int) = 0) by decide)]; decide
    · rw [if_neg (show ¬ a.1 < b.1 by omega), if_neg (show ¬ b.1 < a.1 by omega), if_pos rfl, if_pos (show (a.2.length : Int) < b.2.length by omega), if_neg (show ¬((-1 : Int) = 0) by decide)]; decide
    · rw [if_neg (show ¬ a.1 < b.1 by omega), if_neg (show ¬ b.1 < a.1 by omega), if_pos rfl, if_neg (show ¬ (a.2.length : Int) < b.2.length by omega), if_neg (show ¬ (b.2.length : Int) < a.2.length by omega), if_pos rfl, if_neg (by omega)]
      exact h3

theorem stepC_pos {st : Pt} {P : List Pt} {acc : Int × List (List Int)} {gs : List (List Nat)} (h : acc.1 < 0 ∨ lt3 (valD (tlv st P) (lgv st P) (gs.map mask)) acc) : stepC st P acc gs = valD (tlv st P) (lgv st P) (gs.map mask) := by
  unfold stepC stepB; rw [if_pos h]
theorem stepC_neg {st : Pt} {P : List Pt} {acc : Int × List (List Int)} {gs : List (List Nat)} (h : ¬(acc.1 < 0 ∨ lt3 (valD (tlv st P) (lgv st P) (gs.map mask)) acc)) : stepC st P acc gs = acc := by
  unfold stepC stepB; rw [if_neg h]
theorem OrInt_q (l : List Int) (v : Value) (w : World) (h : l.length ≤ 1000) (rl : Ints w 0 v l) :
    Calls Try.prog 56 #[v] w fun e w' => e = .returned (.int .i64 (orF l)) ∧ w = w' := (OrInt_any l v w h rl).mono fun _ _ ⟨h1, h2⟩ => ⟨h1, h2.symm⟩
set_option maxHeartbeats 4000000 in
set_option maxRecDepth 100000 in
theorem tryC_leaf (st : Pt) (P : List Pt) (vp : Value) (z : Nat) (w0 : World) (lo gS gP gN gB gL gT : Nat) (hst : Bd st) (hPb : ∀ p ∈ P, Bd p) (hn : P.length ≤ 9) (rp : Pts w0 0 vp P) : TryC st P vp z w0 lo gS gP gN gB gL gT 0 := by
  intro k gs acc vg w hkf hgk hgd ha1 ha2 ha3 ha4 hw0 hby hvg hnil
  obtain ⟨va, cap, rfl, hc1, hc2⟩ := Pts.form rp
  obtain ⟨ga, gcap, rfl, hgc1, hgc2⟩ := Lists.form hvg
  obtain ⟨sx, sy⟩ := st
  obtain ⟨le, bl⟩ := acc
  obtain ⟨g1, g2, g3, g4, g5, g6⟩ := hby.ord
  simp only at ha1 ha2 ha3 ha4
  have hlo := hby.hlo
  rw [List.length_map] at *
  have cP : w.cell? ⟨gP, 0, none⟩ = some (.slice va P.length cap) := blk_cell hby.hP 0
  have hkP : ¬ k < P.length := by omega
  have hkle : k ≤ P.length := by omega
  have hglen : gs.length ≤ 9 := by omega
  have hG := Lib.hid hgd
  have HB := Lib.hid hby
  have HV := Lib.hid hvg
  have H4 := Lib.hid ha4
  have HP := Lib.hid hPb
  have HW := Lib.hid hw0
  have hsum := sumTo_bd (st := (sx, sy)) (P := P) (gs := gs) hst hPb hn (fun g hg i hi => by have := (hgd.2 g hg).2 i hi; omega)
  have HSUM := Lib.hid hsum
  have HL : Hid (leaves z 0 k gs = [gs]) := Lib.hid rfl
  clear hgd hby hvg ha4 hPb hw0 hnil hsum hkf
  go_enter Try.func53, Try.ntmps53
  go_wp2
  go_loopw [13, 14, 62] (fun v s i wr => ∃ m : Nat, m ≤ gs.length ∧ i = .int .i64 m ∧ OwnL wr w.heap.size v (((gs.take m).map mask).map (tlv (sx, sy) P)) ∧ s = .int .i64 (sumTo (sx, sy) P gs m) ∧ Below w.heap.size w wr) (fun _ _ i _ => gs.length - (intOf i).toNat)
  case atStart => exact ⟨0, Nat.zero_le _, rfl, OwnL.nil _ _, rfl, Below.refl _ _⟩
  case round =>
    obtain ⟨m, hm, rfl, hO, rfl, hb⟩ := hrel
    have hsm := HSUM.out m hm
    by_cases hlt : m < gs.length
    · obtain ⟨g, hg⟩ : ∃ g, gs[m]? = some g := ⟨_, List.getElem?_eq_getElem hlt⟩
      have hgn : (gs.map nats)[m]? = some (nats g) := by rw [List.getElem?_map, hg]; rfl
      obtain ⟨b2, o2, x1, x2, rfl, _, hl2, hx2, hx3⟩ := Lists.at (HV.out.below hb) hgn
      obtain ⟨q1, q2⟩ := hG.out.2 g (List.mem_of_getElem? hg)
      have hsub : Sub P.length (mask g) := fun i hi => by have := q2 i (by rw [mask_mem] at hi; simpa using hi); omega
      have hV := V_hi (sx, sy) P hst HP.out hn hsub hst
      have HS1 := Lib.hid (sumTo_snoc (st := (sx, sy)) (P := P) hg)
      have HS2 : Hid (((gs.take (m + 1)).map mask).map (tlv (sx, sy) P) = ((gs.take m).map mask).map (tlv (sx, sy) P) ++ [tlv (sx, sy) P (mask g)]) := Lib.hid (by rw [take_snoc hg]; simp)
      have hby' := HB.out.below hb
      obtain ⟨z1, z2⟩ := blk2 hby'.hS
      have cP' : wr.cell? ⟨gP, 0, none⟩ = some (.slice va P.length cap) := blk_cell hby'.hP 0
      clear hg hgn hby'
      go_wp2_with fail
      refine (cycle_any (sx, sy) P g _ _ _ hst HP.out hn ((rp.below HW.out).below hb) (hx3.mono (Nat.zero_le _)) q1 (fun i hi => by have := q2 i hi; omega)).mono ?_
      rintro e w4 ⟨⟨vr, rfl, hR⟩, hb4⟩
      have hb04 := Bl.trans hb hb4
      obtain ⟨vs, hv1, hv2, hv3⟩ := hO.below hb4
      obtain ⟨ra, rcap, rfl, _, _⟩ := Ints.form hR.ints
      have hvl : vs.length ≤ 1000000 := by rw [hv2]; simp; omega
      have hz4 := hb04.size
      have hR4 := own_base hR hb.size
      have HV3 := Lib.hid hv3
      have HV2 := Lib.hid hv2
      clear hv2 hv3 hR
      generalize V (sx, sy) P (sx, sy) (mask g) = vv at *
      go_wp2_with (at_builtin; refine wp_app_row rfl _ _ rfl w.heap.size _ vs rfl (hv1.alloc _) w4.heap.size 1 _ rfl (by rw [blk_cell (blk_new w4 _) 0]; rfl) rfl hvl (by simp; omega) ?_)
      intro v' w5 hO5 hA5 hb5
      have hN := OwnL.app (hv1.alloc _) HV2.out (fun j x l h1 h2 => (HV3.out j x l h1 h2).alloc _) (hR4.alloc _) hO5 hA5
      clear hA5
      go_wp2
      go_roundw
      case rel => exact ⟨m + 1, by omega, by go_num, by rw [HS2.out]; exact hN, by rw [HS1.out], Below.trans (Bl.alloc hb04 _) hb5⟩
      case measure => simp [intOf]; omega
    · have HS2 : Hid (((gs.take m).map mask).map (tlv (sx, sy) P) = (valD (tlv (sx, sy) P) (lgv (sx, sy) P) (gs.map mask)).2) := Lib.hid (by rw [List.take_of_length_le (by omega)]; rfl)
      have HS3 : Hid (sumTo (sx, sy) P gs m = (valD (tlv (sx, sy) P) (lgv (sx, sy) P) (gs.map mask)).1) := Lib.hid (by unfold sumTo; rw [List.take_of_length_le (by omega)]; rfl)
      have HCl : ∀ l ∈ (valD (tlv (sx, sy) P) (lgv (sx, sy) P) (gs.map mask)).2, l.length ≤ 1000000 := by
        intro l hl
        simp only [valD, List.mem_map] at hl
        obtain ⟨s, _, rfl⟩ := hl
        unfold tlv
        rw [nats_len]
        have := tlist_le (sx, sy) P P.length (sx, sy) s
        omega
      have HCl2 : (valD (tlv (sx, sy) P) (lgv (sx, sy) P) (gs.map mask)).2.length = gs.length := by simp [valD]
      have HST : Hid ((leaves z 0 k gs).foldl (stepC (sx, sy) P) (le, bl) = stepC (sx, sy) P (le, bl) gs) := Lib.hid (by rw [HL.out]; rfl)
      have HSP := Lib.hid (stepC_pos (st := (sx, sy)) (P := P) (acc := (le, bl)) (gs := gs))
      have HSN := Lib.hid (stepC_neg (st := (sx, sy)) (P := P) (acc := (le, bl)) (gs := gs))
      rw [HS2.out] at hO
      rw [HS3.out] at hsm ⊢
      clear HS2 HS3
      generalize valD (tlv (sx, sy) P) (lgv (sx, sy) P) (gs.map mask) = vd at *
      obtain ⟨sm, cy⟩ := vd
      simp only at hO hsm HCl HCl2 ⊢
      have HLl := Lib.hid HCl
      have HLen := Lib.hid HCl2
      clear HCl HCl2
      have hby' := HB.out.below hb
      have hL := hO.lists
      obtain ⟨vb, hB1, hB2⟩ := hby'.hB
      obtain ⟨oa, ocap, rfl, _, _⟩ := Lists.form hL
      obtain ⟨ba, bcap, rfl, _, _⟩ := Lists.form hB2
      have cB : wr.cell? ⟨gB, 0, none⟩ = some (.slice ba bl.length bcap) := blk_cell hB1 0
      have cL : wr.cell? ⟨gL, 0, none⟩ = some (.int .i64 le) := blk_cell hby'.hL 0
      have HBY := Lib.hid hby'
      have hL0 := hL.mono hlo
      clear hby' hO
      have HLC := Lib.hid hL
      clear hL0 hB1 hL
      by_cases hneg : le < 0
      · have hd : decide (le < 0) = true := by simpa using hneg
        have hb6 : Below wr.heap.size wr wr.drew := Below.drew (Below.refl _ _)
        go_wp2
        go_region
        generalize hw6 : wr.drew = w6 at hb6 ⊢
        have hby6 := HBY.out.below hb6
        have hL6 := (HLC.out.below hb6).mono hlo
        obtain ⟨vb6, hB6, _⟩ := hby6.hB
        have y1 : w6.cell? ⟨gB, 0, none⟩ = some vb6 := blk_cell hB6 0
        have y2 := blk_free hB6 0
        have y3 : w6.cell? ⟨gL, 0, none⟩ = some (.int .i64 le) := blk_cell hby6.hL 0
        have y4 := blk_free hby6.hL 0
        have y5 : (w6.setCell ⟨gB, 0, none⟩ (.slice oa cy.length ocap)).cell? ⟨gL, 0, none⟩ = some (.int .i64 le) := blk_cell (blk_far hby6.hL gB 0 _ (by omega)) 0
        have y6 := blk_free (blk_far hby6.hL gB 0 (.slice oa cy.length ocap) (by omega)) 0
        have HPUT := Lib.hid (hby6.put hL6 sm)
        have HBY6 := Lib.hid hby6
        have HTW6 : Hid (Tw gB gL w w6) := Lib.hid (Tw.of_below (Bl.trans hb hb6))
        clear hw6 hby6 hB6 hL6 hb6
        go_wp2
        go_end0
        rw [HST.out]
        rw [HSP.out (.inl hneg)]
        exact ⟨rfl, HPUT.out.1, HTW6.out.trans HPUT.out.2⟩
      · have hd : decide (le < 0) = false := by simpa using hneg
        have hor := or_lt3 (a := (sm, cy)) (b := (le, bl))
        have HOR := Lib.hid (OrInt_q [cmpI sm le, cmpI (cy.length : Int) (bl.length : Int), cmpLL cy bl] (.slice (some ⟨wr.heap.size, 0, none⟩) 3 3) (wr.alloc (.cells #[.int .i64 (cmpI sm le), .int .i64 (cmpI (cy.length : Int) (bl.length : Int)), .int .i64 (cmpLL cy bl)] 3)).drew (by simp)
          (Ints.of_blk (show (wr.alloc (.cells #[.int .i64 (cmpI sm le), .int .i64 (cmpI (cy.length : Int) (bl.length : Int)), .int .i64 (cmpLL cy bl)] 3)).drew.heap[wr.heap.size]? = _ from blk_new wr _) rfl rfl (Nat.le_refl _) (by simp) (Nat.zero_le _)))
        have hb6 : Below wr.heap.size wr (wr.alloc (.cells #[.int .i64 (cmpI sm le), .int .i64 (cmpI (cy.length : Int) (bl.length : Int)), .int .i64 (cmpLL cy bl)] 3)).drew := Below.drew (Bl.alloc (Below.refl _ _) _)
        simp only at hor
        by_cases hlt3 : lt3 (sm, cy) (le, bl)
        case' pos =>
          have hd2 : decide (orF [cmpI sm le, cmpI (cy.length : Int) (bl.length : Int), cmpLL cy bl] < 0) = true := by simpa using hor.2 hlt3
        case' neg =>
          have hd2 : decide (orF [cmpI sm le, cmpI (cy.length : Int) (bl.length : Int), cmpLL cy bl] < 0) = false := by
            have : ¬ (orF [cmpI sm le, cmpI (cy.length : Int) (bl.length : Int), cmpLL cy bl] < 0) := fun h => hlt3 (hor.1 h)
            simpa using this
        all_goals (
          have HLT := Lib.hid hlt3
          have HB1 := Lib.hid hB2
          clear hlt3 hB2 hor
          go_wp2
          go_region_held2 (fun W : World => W.cell? ⟨gB, 0, none⟩ = some (.slice ba bl.length bcap) ∧ W.cell? ⟨gL, 0, none⟩ = some (.int .i64 le))
            (go_keep)
            (first
              | (go_at_call 57; refine (cmpInt_any _ _ _).mono ?_; rintro e w' ⟨rfl, rfl⟩)
              | (go_at_call 58; refine (CompareLL_any cy bl _ _ _ (by rw [HLen.out]; omega) (by omega) HLl.out (fun x hx => by have := H4.out x hx; omega) ((HLC.out.below (Below.drew (Below.refl _ _))).mono (Nat.zero_le _)) ((HB1.out.below (Below.drew (Below.refl _ _))).mono (Nat.zero_le _))).mono ?_; rintro e w' ⟨rfl, rfl⟩)
              | (go_at_call 56; refine HOR.out.mono ?_; rintro e w' ⟨rfl, rfl⟩))
          all_goals (
            generalize hw6 : (wr.alloc (.cells #[.int .i64 (cmpI sm le), .int .i64 (cmpI (cy.length : Int) (bl.length : Int)), .int .i64 (cmpLL cy bl)] 3)).drew = w6 at hb6 ⊢
            have hby6 := HBY.out.below hb6
            have hL6 := (HLC.out.below hb6).mono hlo
            obtain ⟨vb6, hB6, _⟩ := hby6.hB
            have y1 : w6.cell? ⟨gB, 0, none⟩ = some vb6 := blk_cell hB6 0
            have y2 := blk_free hB6 0
            have y3 : w6.cell? ⟨gL, 0, none⟩ = some (.int .i64 le) := blk_cell hby6.hL 0
            have y4 := blk_free hby6.hL 0
            have y5 : (w6.setCell ⟨gB, 0, none⟩ (.slice oa cy.length ocap)).cell? ⟨gL, 0, none⟩ = some (.int .i64 le) := blk_cell (blk_far hby6.hL gB 0 _ (by omega)) 0
            have y6 := blk_free (blk_far hby6.hL gB 0 (.slice oa cy.length ocap) (by omega)) 0
            have HPUT := Lib.hid (hby6.put hL6 sm)
            have HBY6 := Lib.hid hby6
            have HTW6 : Hid (Tw gB gL w w6) := Lib.hid (Tw.of_below (Bl.trans hb hb6))
            clear hw6 hby6 hB6 hL6 hb6
            go_wp2
            go_end0
            rw [HST.out]
            first
              | (rw [HSP.out (.inr HLT.out)]; exact ⟨rfl, HPUT.out.1, HTW6.out.trans HPUT.out.2⟩)
              | (rw [HSN.out (fun h => h.elim (fun h1 => absurd h1 (Int.not_lt.2 hneg)) HLT.out)]; exact ⟨rfl, HBY6.out, HTW6.out⟩)))
end Go.Proofs.Ytgcmlhpocbgkaaa
