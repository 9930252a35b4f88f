/- Texts of the proof of a law, put together, part 31 of 31. Conditions: none beyond those that each theorem names. -/
import Derived.Test.YtjegfebolhjghaaGreatDoorPg1
import Derived.Test.YtjegfebolhjghaaGreatDoorPg28
import Derived.Test.YtjegfebolhjghaaGreatDoorPg30
import Derived.Test.YtjegfebolhjghaaGreatDoorRows
import Derived.ProofKit
import Derived.LaidMore
import Derived.Lay
import Derived.LaidOnce
import Derived.SevenTiedAt
import Derived.Stop.Joined
namespace Go.Proofs.YtjegfebolhjghaaGreatDoor
open Go.RowKit Go.Sort
set_option maxHeartbeats 16000000 in
set_option maxRecDepth 100000 in
theorem GroupsReplaceOneAnother_any (li : List Int) (v : Value) (w : World) (rl : Ints w 0 v li) (hl : ∀ x ∈ li, -9223372036854775808 ≤ x ∧ x ≤ 9223372036854775807) :
    Calls Tryz.prog 4 #[v] w fun e w' => e = .returned (.bool true) ∧ Below w.heap.size w w' := by
  obtain ⟨xa, xcap, rfl, hc1, hc2⟩ := Ints.form rl
  obtain ⟨w0, hw0⟩ : ∃ w0, w0 = w.alloc (.cells #[.slice xa li.length xcap, .int .i64 0] 25) := ⟨_, rfl⟩
  have hs0 : Str w0 w.heap.size 0 := by rw [hw0]; exact Str.begin rl hl
  have hb0 : Below w.heap.size w w0 := by rw [hw0]; exact Bl.alloc (Below.refl w.heap.size w) _
  have hz0 : w.heap.size < w0.heap.size := hs0.lt
  have HW0 := Lib.hid hw0
  have HB0 := Lib.hid hb0
  clear rl hl hw0 hb0
  go_enter Tryz.func4, Tryz.ntmps4
  go_wp2_with fail
  rw [← HW0.out]
  refine (RightCatalogue_any w.heap.size 0 w0 hs0 (by omega)).mono ?_
  rintro e w2 ⟨⟨vp, va, ps, l, rfl, hOp, hOa, hp5, hl25, hkp, hka, hcf⟩, hS2, hG2⟩
  obtain ⟨pa, pcap, rfl, _, hpc⟩ := hOp.form
  obtain ⟨aa, an, acap, rfl⟩ : ∃ a n c, va = .slice a n c := by obtain ⟨a, c, h, _, _⟩ := hOa.form; exact ⟨a, _, c, h⟩
  obtain ⟨C, hC⟩ : ∃ C, C = w2.heap.size := ⟨_, rfl⟩
  obtain ⟨w3, hw3⟩ : ∃ w3, w3 = w2.alloc (.cells #[.slice pa ps.length pcap, .slice aa an acap] 29) := ⟨_, rfl⟩
  have hb3 : Below w2.heap.size w2 w3 := by rw [hw3]; exact Bl.alloc (Below.refl _ _) _
  have HCB : Hid (CatB w3 C w0.heap.size (.slice pa ps.length pcap) (.slice aa an acap) ps l) := Lib.hid ⟨by rw [hw3, hC]; exact blk_new w2 _, hOp.below hb3, hOa.below hb3⟩
  have hG3 := Gr.trans hG2 (Gr.of_below hb3 (some w.heap.size))
  have HB3 : Hid (Below w.heap.size w w3) := Lib.hid (Below.trans HB0.out (Gr.below hG3 (Nat.le_refl _) (by omega)))
  have HK := Lib.hid (And.intro hl25 (And.intro hkp hka))
  have HC0 := Lib.hid hcf
  have HR3 := Lib.hid (And.intro hC hw3)
  have HCW : Hid (∀ W, Below w3.heap.size w3 W → W.cell? ⟨C, 0, none⟩ = some (.slice pa ps.length pcap) ∧ W.cell? ⟨C, 1, none⟩ = some (.slice aa an acap) ∧ C < W.heap.size) := Lib.hid fun W hW => ⟨blk_cell (HCB.out.low hW).c 0, blk_cell (HCB.out.low hW).c 1, blk_lt (HCB.out.low hW).c⟩
  have HCR : Hid (∀ W, Below w3.heap.size w3 W → CatR W (.slice pa ps.length pcap) (.slice aa an acap) ps l) := Lib.hid fun W hW => (HCB.out.low hW).r
  have HALL : Hid (∀ x ∈ ps, ∀ W, Below w3.heap.size w3 W → Calls Tryz.prog 10 #[.agg #[.slice pa ps.length pcap, .slice aa an acap], .string x.1] W fun e w' => (∃ v, e = .returned (.tuple #[v, .int .i64 0]) ∧ RecR TS w' 0 v ((allB ps l (bsOf x.1)).map baOf)) ∧ Below W.heap.size W w') := Lib.hid fun x hx W hW => by
    have h1 := All_any ps l (.slice pa ps.length pcap) (.slice aa an acap) x.1 W (by omega) (by have := HK.out.1; omega) (PrtS.z HK.out.2.1) (AltS.z HK.out.2.2) (HCR.out W hW) (Nat.le_trans (HK.out.2.1 x hx).1 (by decide))
    rw [known1 HC0.out (keys_in hx), allS_0 HC0.out (keys_in hx)] at h1
    exact h1
  have HDIR : Hid (∀ x ∈ ps, ∀ W, Below w3.heap.size w3 W → Calls Tryz.prog 12 #[.agg #[.slice pa ps.length pcap, .slice aa an acap], .string x.1] W fun e w' => (∃ v, e = .returned (.tuple #[v, .int .i64 0]) ∧ RecR TS w' 0 v ((nextL l (bsOf x.1)).map baOf)) ∧ Below W.heap.size W w') := Lib.hid fun x hx W hW => by
    have h1 := Direct_any ps l (.slice pa ps.length pcap) (.slice aa an acap) x.1 W (by omega) (by have := HK.out.1; omega) (PrtS.z HK.out.2.1) (AltS.z HK.out.2.2) (HCR.out W hW) (Nat.le_trans (HK.out.2.1 x hx).1 (by decide))
    rw [known1 HC0.out (keys_in hx), dirS_0 HC0.out (keys_in hx)] at h1
    exact h1
  have HGR0 := Groups_any ps l (.slice pa ps.length pcap) (.slice aa an acap) w3 (by omega) (by omega) (PrtS.z hkp) (AltS.z hka) (HCR.out w3 (Below.refl _ _))
  rw [hcf] at HGR0
  have HGRC := Lib.hid HGR0
  clear hOp hOa hl25 hkp hka hcf hS2 hG2 hG3 hb3 hC hw3 HGR0
  go_wp2_with fail
  rw [← HR3.out.2, ← HR3.out.1]
  refine HGRC.out.mono ?_
  rintro e w4 ⟨⟨v5, hs, out, rfl, hOG, hF0, _⟩, hb4⟩
  obtain ⟨ks, hks, _, hout⟩ := hF0 rfl
  have HOG := Lib.hid hOG
  have HB4 := Lib.hid hb4
  have HGOOD : Hid (∀ a b : ByteArray, bsOf a ∈ keysP ps → bsOf b ∈ keysP ps → a ≠ b → bothG out a b = (decide (bsOf b ∈ allB ps l (bsOf a)) && decide (bsOf a ∈ allB ps l (bsOf b)))) := Lib.hid fun a b ha hb hne => by
    rw [Bool.eq_iff_iff, bothG_iff, Bool.and_eq_true, decide_eq_true_eq, decide_eq_true_eq, hout]
    exact groups_good HC0.out hks (fun k hk s => memK_iff HC0.out ((hks k).1 hk) s) ha hb fun e => hne (bsC_inj e)
  have HSM : Hid (∀ g ∈ out, g.length ≤ 100000) := Lib.hid fun g hg => by
    rw [hout] at hg
    have := grps_small HC0.out hks g hg
    omega
  obtain ⟨q0, q1, lC⟩ := HCW.out w4 hb4
  clear HGRC hOG hF0 hks hout hb4
  go_wp2_with fail
  clear q0 q1
  go_loopw [34] (fun i wr => ∃ k : Nat, k ≤ ps.length ∧ i = .int .i64 k ∧ Hid (Below w4.heap.size w4 wr)) (fun i _ => ps.length - (intOf i).toNat)
  case atStart => exact ⟨0, Nat.zero_le _, rfl, Lib.hid (Below.refl _ _)⟩
  case round =>
    obtain ⟨k, hk, rfl, HB⟩ := hrel
    by_cases hlt : k < ps.length
    · obtain ⟨x, hx⟩ : ∃ x, ps[k]? = some x := ⟨_, List.getElem?_eq_getElem hlt⟩
      have HX := Lib.hid (List.mem_of_getElem? hx)
      obtain ⟨bp, op, rfl, _, lbp, z⟩ := (HCR.out wr (Bl.trans HB4.out HB.out)).p.at TPt.ok.len hx TPt.ok.pos
      have HAX := Lib.hid (HALL.out x HX.out)
      have HDX := Lib.hid (HDIR.out x HX.out)
      have HKX := Lib.hid (keys_in HX.out)
      obtain ⟨a, xp, xl, xv⟩ := x
      have c0 : wr.cell? ⟨bp, op + k * 4, none⟩ = some (.string a) := z 0 _ rfl
      have c1 : wr.cell? ⟨bp, op + k * 4 + 1, none⟩ = some (.string xp) := z 1 _ rfl
      have c2 : wr.cell? ⟨bp, op + k * 4 + 2, none⟩ = some (.int .i64 xl) := z 2 _ rfl
      have c3 : wr.cell? ⟨bp, op + k * 4 + 3, none⟩ = some (.int .i64 xv) := z 3 _ rfl
      have hadd : IntKind.i64.wrap ((k : Int) + 1) = ((k + 1 : Nat) : Int) := by rw [IntWalk.i64_in _ (by omega)]; omega
      obtain ⟨q0, q1, lC1⟩ := HCW.out wr (Bl.trans HB4.out HB.out)
      obtain ⟨P, hP⟩ : ∃ P, P = wr.heap.size := ⟨_, rfl⟩
      obtain ⟨wx, hwx⟩ : ∃ wx, wx = wr.alloc (.cells #[.string a, .string xp, .int .i64 xl, .int .i64 xv] 33) := ⟨_, rfl⟩
      have hbx : Below wr.heap.size wr wx := by rw [hwx]; exact Bl.alloc (Below.refl _ _) _
      have hBX : wx.heap[P]? = some (.cells #[.string a, .string xp, .int .i64 xl, .int .i64 xv] 33 (0, 0)) := by rw [hwx, hP]; exact blk_new wr _
      have HXP : Hid (∀ W, Below wx.heap.size wx W → W.cell? ⟨P, 0, none⟩ = some (.string a) ∧ P < W.heap.size) := Lib.hid fun W hW => ⟨blk_cell (blk_below hBX hW) 0, blk_lt (blk_below hBX hW)⟩
      have HBX := Lib.hid (Bl.trans HB.out hbx)
      have HRX := Lib.hid (And.intro hP hwx)
      clear hx z hbx hBX hP hwx
      go_wp2_with fail
      rw [← HRX.out.2, ← HRX.out.1]
      refine (HAX.out wx (Bl.trans HB4.out HBX.out)).mono ?_
      rintro e w5 ⟨⟨v9, rfl, hR9⟩, hb5⟩
      have HB5 := Lib.hid hb5
      have HR9 := Lib.hid hR9
      have HB45 := Lib.hid (Bl.trans HB4.out (Bl.trans HBX.out hb5))
      obtain ⟨p0, lP⟩ := HXP.out w5 hb5
      clear c0 c1 c2 c3 q0 q1 hb5 hR9
      obtain ⟨q0, q1, lC2⟩ := HCW.out w5 HB45.out
      go_wp2_with fail
      refine (HDX.out w5 HB45.out).mono ?_
      rintro e w6 ⟨⟨v11, rfl, hR11⟩, hb6⟩
      have HR9' := Lib.hid (HR9.out.below hb6)
      have HR11 := Lib.hid hR11
      have HBX6 := Lib.hid (Bl.trans HB5.out hb6)
      have HB46 := Lib.hid (Bl.trans HBX.out HBX6.out)
      clear p0 q0 q1 hb6 hR11 lP
      obtain ⟨q0, q1, lC3⟩ := HCW.out w6 (Bl.trans HB4.out HB46.out)
      go_wp2_with fail
      clear q0 q1 lC3 lC2
      go_loopw [61] (fun i wr => ∃ k2 : Nat, k2 ≤ ps.length ∧ i = .int .i64 k2 ∧ Hid (Below w6.heap.size w6 wr)) (fun i _ => ps.length - (intOf i).toNat)
      case atStart => exact ⟨0, Nat.zero_le _, rfl, Lib.hid (Below.refl _ _)⟩
      case round =>
        obtain ⟨k2, hk2, rfl, HBI⟩ := hrel
        by_cases hlt2 : k2 < ps.length
        · obtain ⟨y, hy⟩ : ∃ y, ps[k2]? = some y := ⟨_, List.getElem?_eq_getElem hlt2⟩
          have HY := Lib.hid (List.mem_of_getElem? hy)
          have HB42 := Lib.hid (Bl.trans HB4.out (Bl.trans HB46.out HBI.out))
          obtain ⟨b2, o2, e2, _, lb2, z⟩ := (HCR.out wr HB42.out).p.at TPt.ok.len hy TPt.ok.pos
          injection e2 with e2
          injection e2 with e3 e4 _
          subst e3 e4
          have HAY := Lib.hid (HALL.out y HY.out)
          have HKY := Lib.hid (keys_in HY.out)
          obtain ⟨b, yp, yl, yv⟩ := y
          have c0 : wr.cell? ⟨bp, op + k2 * 4, none⟩ = some (.string b) := z 0 _ rfl
          have c1 : wr.cell? ⟨bp, op + k2 * 4 + 1, none⟩ = some (.string yp) := z 1 _ rfl
          have c2 : wr.cell? ⟨bp, op + k2 * 4 + 2, none⟩ = some (.int .i64 yl) := z 2 _ rfl
          have c3 : wr.cell? ⟨bp, op + k2 * 4 + 3, none⟩ = some (.int .i64 yv) := z 3 _ rfl
          have hadd2 : IntKind.i64.wrap ((k2 : Int) + 1) = ((k2 + 1 : Nat) : Int) := by rw [IntWalk.i64_in _ (by omega)]; omega
          obtain ⟨q0, q1, lC2⟩ := HCW.out wr HB42.out
          obtain ⟨Q, hQ⟩ : ∃ Q, Q = wr.heap.size := ⟨_, rfl⟩
          obtain ⟨wy, hwy⟩ : ∃ wy, wy = wr.alloc (.cells #[.string b, .string yp, .int .i64 yl, .int .i64 yv] 33) := ⟨_, rfl⟩
          have hby : Below wr.heap.size wr wy := by rw [hwy]; exact Bl.alloc (Below.refl _ _) _
          have hBY : wy.heap[Q]? = some (.cells #[.string b, .string yp, .int .i64 yl, .int .i64 yv] 33 (0, 0)) := by rw [hwy, hQ]; exact blk_new wr _
          have HYQ : Hid (∀ W, Below wy.heap.size wy W → W.cell? ⟨Q, 0, none⟩ = some (.string b) ∧ Q < W.heap.size) := Lib.hid fun W hW => ⟨blk_cell (blk_below hBY hW) 0, blk_lt (blk_below hBY hW)⟩
          have HBY := Lib.hid (Bl.trans HBI.out hby)
          have HRY := Lib.hid (And.intro hQ hwy)
          have HBY2 := Lib.hid (Bl.trans HB42.out hby)
          clear hy z hby hBY hQ hwy
          go_wp2_with fail
          rw [← HRY.out.2, ← HRY.out.1]
          refine (HAY.out wy HBY2.out).mono ?_
          rintro e w7 ⟨⟨v15, rfl, hR15⟩, hb7⟩
          have HBN := Lib.hid (Bl.trans HBY.out hb7)
          obtain ⟨p0, lP⟩ := HXP.out w7 (Bl.trans HBX6.out HBN.out)
          obtain ⟨p1, lQ⟩ := HYQ.out w7 hb7
          have hfew : ∀ L : List Bs, L.length ≤ 1000 → (L.map baOf).length ≤ 100000 := fun L h => by rw [List.length_map]; omega
          have h9 := HasS_any _ v9 b w7 (hfew _ (by have := allB_len HC0.out HKX.out; omega)) (HR9'.out.below HBN.out)
          have h15 := HasS_any _ v15 a w7 (hfew _ (by have := allB_len HC0.out HKY.out; omega)) hR15
          have h11 := HasS_any _ v11 b w7 (hfew _ (by have := nextL_len l (bsOf a); have := HK.out.1; omega)) (HR11.out.below HBN.out)
          have hgr := ContG_any hs out v5 a b P Q _ w7 HSM.out (HOG.out.low (Bl.trans HB46.out HBN.out)) p0 p1 lP lQ
          rw [has_map] at h9 h15 h11
          have hda : decide (bsOf b ∈ nextL l (bsOf a)) = true → decide (bsOf b ∈ allB ps l (bsOf a)) = true := fun h => by
            rw [decide_eq_true_eq] at h ⊢
            exact next_all HC0.out HKX.out h
          clear c0 c1 c2 c3 q0 q1 hb7 hR15 hfew
          by_cases hab : a = b
          · have hdn : decide (bsOf b ∈ nextL l (bsOf a)) = false := by
              rw [decide_eq_false_iff_not, hab]
              exact fun h => (next_in HC0.out h).2.2 rfl
            rw [hdn] at h11
            have H11 := Lib.hid h11
            subst hab
            clear h9 h15 h11 hgr hda hdn
            go_wp2_with fail
            refine H11.out.mono ?_
            rintro e w8 ⟨rfl, rfl⟩
            go_wp2
            go_roundw
            case rel => exact ⟨k2 + 1, by omega, by go_num, HBN⟩
            case measure => simp [intOf]; omega
          · have hab2 : (a.toList == b.toList) = false := by
              rw [beq_eq_false_iff_ne]
              exact fun e => hab (ba_inj e)
            have hg2 := HGOOD.out a b HKX.out HKY.out hab
            rw [hg2] at hgr
            generalize decide (bsOf b ∈ nextL l (bsOf a)) = d at *
            generalize decide (bsOf b ∈ allB ps l (bsOf a)) = m1 at *
            generalize decide (bsOf a ∈ allB ps l (bsOf b)) = m2 at *
            have H9 := Lib.hid h9
            have H15 := Lib.hid h15
            have H11 := Lib.hid h11
            have HDA := Lib.hid hda
            clear h9 h15 h11 hda hg2 hab
            cases m1
            · have hd0 : d = false := by
                cases d
                · rfl
                · exact absurd (HDA.out rfl) (by decide)
              subst hd0
              have HGC : Hid (Calls Tryz.prog 14 #[v5, .func (.func 15) #[] #[.pointer (some ⟨P, 0, none⟩), .pointer (some ⟨Q, 0, none⟩)]] w7 fun e w' => e = .returned (.bool false) ∧ w7 = w') := Lib.hid (by simpa using hgr)
              clear hgr
              go_wp2_with fail
              refine H9.out.mono ?_
              rintro e w8 ⟨rfl, rfl⟩
              go_wp2_with fail
              refine HGC.out.mono ?_
              rintro e w8 ⟨rfl, rfl⟩
              go_wp2_with fail
              refine H11.out.mono ?_
              rintro e w8 ⟨rfl, rfl⟩
              go_wp2
              go_roundw
              case rel => exact ⟨k2 + 1, by omega, by go_num, HBN⟩
              case measure => simp [intOf]; omega
            · have HGC : Hid (Calls Tryz.prog 14 #[v5, .func (.func 15) #[] #[.pointer (some ⟨P, 0, none⟩), .pointer (some ⟨Q, 0, none⟩)]] w7 fun e w' => e = .returned (.bool m2) ∧ w7 = w') := Lib.hid (by simpa using hgr)
              clear hgr
              cases m2
              · cases d
                · go_wp2_with fail
                  refine H9.out.mono ?_
                  rintro e w8 ⟨rfl, rfl⟩
                  go_wp2_with fail
                  refine H15.out.mono ?_
                  rintro e w8 ⟨rfl, rfl⟩
                  go_wp2_with fail
                  refine HGC.out.mono ?_
                  rintro e w8 ⟨rfl, rfl⟩
                  go_wp2_with fail
                  refine H11.out.mono ?_
                  rintro e w8 ⟨rfl, rfl⟩
                  go_wp2
                  go_roundw
                  case rel => exact ⟨k2 + 1, by omega, by go_num, HBN⟩
                  case measure => simp [intOf]; omega
                · go_wp2_with fail
                  refine H9.out.mono ?_
                  rintro e w8 ⟨rfl, rfl⟩
                  go_wp2_with fail
                  refine H15.out.mono ?_
                  rintro e w8 ⟨rfl, rfl⟩
                  go_wp2_with fail
                  refine HGC.out.mono ?_
                  rintro e w8 ⟨rfl, rfl⟩
                  go_wp2_with fail
                  refine H11.out.mono ?_
                  rintro e w8 ⟨rfl, rfl⟩
                  go_wp2_with fail
                  refine H9.out.mono ?_
                  rintro e w8 ⟨rfl, rfl⟩
                  go_wp2
                  go_roundw
                  case rel => exact ⟨k2 + 1, by omega, by go_num, HBN⟩
                  case measure => simp [intOf]; omega
              · cases d
                · go_wp2_with fail
                  refine H9.out.mono ?_
                  rintro e w8 ⟨rfl, rfl⟩
                  go_wp2_with fail
                  refine H15.out.mono ?_
                  rintro e w8 ⟨rfl, rfl⟩
                  go_wp2_with fail
                  refine HGC.out.mono ?_
                  rintro e w8 ⟨rfl, rfl⟩
                  go_wp2_with fail
                  refine H11.out.mono ?_
                  rintro e w8 ⟨rfl, rfl⟩
                  go_wp2
                  go_roundw
                  case rel => exact ⟨k2 + 1, by omega, by go_num, HBN⟩
                  case measure => simp [intOf]; omega
                · go_wp2_with fail
                  refine H9.out.mono ?_
                  rintro e w8 ⟨rfl, rfl⟩
                  go_wp2_with fail
                  refine H15.out.mono ?_
                  rintro e w8 ⟨rfl, rfl⟩
                  go_wp2_with fail
                  refine HGC.out.mono ?_
                  rintro e w8 ⟨rfl, rfl⟩
                  go_wp2_with fail
                  refine H11.out.mono ?_
                  rintro e w8 ⟨rfl, rfl⟩
                  go_wp2_with fail
                  refine H9.out.mono ?_
                  rintro e w8 ⟨rfl, rfl⟩
                  go_wp2
                  go_roundw
                  case rel => exact ⟨k2 + 1, by omega, by go_num, HBN⟩
                  case measure => simp [intOf]; omega
        · obtain rfl : k2 = ps.length := by omega
          have HBO := Lib.hid (Bl.trans HB46.out HBI.out)
          go_wp2
          go_roundw
          case rel => exact ⟨k + 1, by omega, by go_num, HBO⟩
          case measure => simp [intOf]; omega
    · obtain rfl : k = ps.length := by omega
      have HBE := Lib.hid (Bl.trans HB3.out (Bl.trans HB4.out HB.out))
      go_wp2_with fail
      refine (ready_any wr).mono ?_
      rintro e w9 ⟨rfl, hb9⟩
      have HB9 := Lib.hid (Bl.trans HBE.out hb9)
      clear hb9
      go_wp2
      go_ret
      exact ⟨rfl, HB9.out⟩
end Go.Proofs.YtjegfebolhjghaaGreatDoor
namespace Go.Proofs.YtjegfebolhjghaaGreatDoor
open Go.ChangeShapes Go.WideShapes Go.ChangeAt Go.RowKit
theorem own : ownKnob Tryz.prog.godebug = none := by kernel_rfl
theorem laidOut : laidOutB Tryz.prog = true := by kernel_rfl
section
variable {H : Type} {enc : TypeId × Value → H} {P : Program}
theorem post_of_below {f : Func} {s : ChangeSpec} {apart fresh handsOn again : Bool} {W W' : World} {args : Array Value} {v : Value} {ds gs : List (DataW H)} {before pa pv : List MemPlace}
    (hW : DataW.Whole enc P f.params.toList s.vars apart W args.toList ds gs before)
    (hres : ∀ (b : Nat) (sp : Nat → Bool) (hd : Bool), DataW.TrodAll enc P W' b sp hd f.resultTypes.toList (v.resultList f.resultTypes.size) (s.fn H (ds ++ gs)).results [])
    (hargs : ∀ sp : Nat → Bool, (∀ p ∈ before, sp p.block = true) → DataW.TrodAll enc P W' 0 sp true f.params.toList args.toList (s.fn H (ds ++ gs)).args pa)
    (hvars : ∀ sp : Nat → Bool, (∀ p ∈ before, sp p.block = true) → DataW.TrodVars enc P W' sp s.vars (s.fn H (ds ++ gs)).vars pv)
    (hps : before = pa ++ pv) (hb : Below W.heap.size W W')
    (hok : ∀ (j : Nat) (t : TypeId) (r : Value), f.resultTypes[j]? = some t → (v.resultList f.resultTypes.size)[j]? = some r → Value.okWide P W' .any 0 t r) :
    s.post enc P f apart fresh handsOn again W args v W' := by
  have hlt : ∀ p ∈ before, p.block < W.heap.size := fun p hp => hW.lt p hp
  have hold : ∀ p ∈ before, (fun b => decide (b < W.heap.size)) p.block = true := fun p hp => by simpa using hlt p hp
  refine ⟨ds, gs, before, [], pa, pv, hW, hres _ _ _, hargs _ hold, hvars _ hold, World.keptBut_mono (fun p hp => ⟨hp, ?_⟩) (hb.frame (· ∈ before)), fun _ => ?_⟩
  · rw [hps, List.mem_append] at hp
    exact Or.inr hp
  · obtain ⟨_, _, _, _, _, hz, hn⟩ := hW
    refine ⟨hok, _, _, ([] ++ pa) ++ pv, ⟨[] ++ pa, pv, trodAll_append (hargs _ (fun _ _ => rfl)) (hres _ _ _), hvars _ (fun _ _ => rfl), rfl, ?_, ?_⟩, ?_⟩
    · intro b off hp
      have hin : MemPlace.cell b off ∈ before := by rw [hps]; simpa using hp
      rw [hb.frozen (hlt _ hin)]
      exact hz b off hin
    · intro ha
      have := hn ha
      rw [hps] at this
      simpa using this
    · intro p hp _
      rw [hps]
      simpa using hp
end
set_option maxRecDepth 100000 in
theorem ints_key {H : Type} {enc : TypeId × Value → H} {W : World} {base : Nat} {v0 : Value} {d0 : DataW H} {p : List MemPlace}
    (hv : Value.okWide Tryz.prog W .any base 22 v0) (h0 : DataW.Trod enc Tryz.prog W 0 (fun _ => true) true 22 v0 d0 p) :
    ∃ l : List Int, Ints W 0 v0 l ∧ ∀ x ∈ l, -9223372036854775808 ≤ x ∧ x ≤ 9223372036854775807 := by
  obtain ⟨fuel, hf⟩ := h0
  obtain ⟨a0, len, cap, rfl⟩ := okWide_slice Tryz.underlying22 hv
  rcases open_ints Tryz.underlying22 Tryz.underlying3 (show Tryz.prog.cellsOf 3 = 1 by kernel_rfl) hf with ⟨hcs, hx⟩ | ⟨a, len', cap', zs, hcs, _, hl, hm, hz, hx, hcell, hwz⟩
  · simp [Value.cells] at hcs
    obtain ⟨rfl, rfl, rfl⟩ := hcs
    exact ⟨[], Rd.nil _ _, by simp⟩
  · simp [Value.cells] at hcs
    obtain ⟨rfl, rfl, rfl⟩ := hcs
    simp only [if_true] at hz
    refine ⟨zs.take len, ⟨some a, cap, by rw [List.length_take, Nat.min_eq_left (by omega)], by rw [List.length_take]; omega, by unfold maxLen at hm; omega, fun j x hj => ?_⟩, fun x hx => ?_⟩
    · have hjl : j < (zs.take len).length := by
        have := (List.getElem?_eq_some_iff.1 hj).1
        simpa [ics] using this
      rw [List.length_take] at hjl
      have hc := hcell j (by omega)
      obtain ⟨b, off, spot⟩ := a
      have hspot : spot = none := by simpa [Addr.add] using World.cell?_spot (hcell 0 (by omega))
      subst hspot
      have hx : x = .int .i64 (zs.getD j 0) := by
        have e : (ics (zs.take len))[j]? = some (.int .i64 (zs.getD j 0)) := ics_at (by rw [List.getElem?_take_of_lt (by omega), List.getD_eq_getElem?_getD, List.getElem?_eq_getElem (by omega)]; rfl)
        rw [e] at hj
        exact (Option.some.inj hj).symm
      subst hx
      have hc' : W.cell? ⟨b, off + j, none⟩ = some (.int .i64 (zs.getD j 0)) := by
        by_cases hj0 : j = 0
        · subst hj0; simpa [Addr.add] using hc
        · simpa [Addr.add, hj0] using hc
      exact ⟨b, off, rfl, Nat.zero_le _, World.block_lt_of_cell? W ⟨b, off + j, none⟩ hc', hc'⟩
    · have := hwz x (List.mem_of_mem_take hx)
      simp only [Lit.wf, Bool.and_eq_true, decide_eq_true_eq] at this
      exact this
end Go.Proofs.YtjegfebolhjghaaGreatDoor
