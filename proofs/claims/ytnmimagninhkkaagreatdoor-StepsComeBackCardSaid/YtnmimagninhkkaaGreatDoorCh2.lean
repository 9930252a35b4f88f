/- The contract of rework.Choose: the best of all sets of works. Conditions: works that are right, minutes from 0 to 10000. -/
import Derived.Test.YtnmimagninhkkaaGreatDoorCh1
import Derived.Test.YtnmimagninhkkaaGreatDoorCond
namespace Go.Proofs.YtnmimagninhkkaaGreatDoor
open Go.RowKit Go.Sort

theorem bitN_is {s k : Nat} (h : s.testBit k = true) : (((bitN s k : Nat) : Int) == 1) = true := by unfold bitN; rw [h]; rfl
theorem bitN_not {s k : Nat} (h : s.testBit k = false) : (((bitN s k : Nat) : Int) == 1) = false := by unfold bitN; rw [h]; rfl
theorem setL_yes {s n : Nat} (h : s.testBit n = true) : setL s (n + 1) = setL s n ++ [n] := by rw [setL, if_pos h]
theorem setL_no {s n : Nat} (h : s.testBit n = false) : setL s (n + 1) = setL s n := by rw [setL, if_neg (by rw [h]; simp)]
theorem nats_app (l : List Nat) (b : Nat) : nats (l ++ [b]) = nats l ++ [(b : Int)] := by simp [nats]
theorem own_aboveI {w : World} {B : Nat} {v : Value} {l : List Int} (h : Own w B v l) : ∀ k, v.ownBlock = some k → B ≤ k ∧ k < w.heap.size := World.ownsRow.lt h
theorem own_formI {w : World} {B : Nat} {v : Value} {l : List Nat} (h : Own w B v (nats l)) : ∃ a c, v = .slice a l.length c := by
  obtain ⟨a, c, hv, _, _⟩ := Ints.form h.ints
  rw [nats_len] at hv
  exact ⟨a, c, hv⟩
set_option maxHeartbeats 16000000 in
set_option maxRecDepth 100000 in
theorem Choose_any (ws : List Wk) (m : Int) (vw : Value) (w : World) (hG : GoodW keyB ws) (hm0 : 0 ≤ m) (hm1 : m ≤ 10000) (hsz : ∀ x ∈ ws, x.1.size ≤ 1000) (rl : RecR TW w 0 vw ws) :
    Calls Tryz.prog 51 #[vw, .int .i64 m] w fun e w' => (∃ (s : Nat) (vr : Value), e = .returned (.tuple #[vr, .int .i64 (sumO (wkV ws) (setL s ws.length)), .int .i64 0]) ∧ Own w' w.heap.size vr (nats (setL s ws.length)) ∧ BestS ws m (2 ^ ws.length) s) ∧ Below w.heap.size w w' := by
  obtain ⟨a, cap, rfl, hc1, hc2⟩ := rl.form
  have hn := hG.len
  have HG := Lib.hid hG
  have HWF := Lib.hid (worksFault_any ws m _ w hG hm0 hm1 hsz rl)
  have hpw : pw ws.length ≤ 16384 := by
    unfold pw
    exact Nat.le_trans (Nat.pow_le_pow_right (by omega) hn) (by simp)
  have hshl := wrap_pw ws.length (by omega)
  have HZ : Hid (setL 0 ws.length = []) := Lib.hid (setL_zero _)
  have HM0 := Lib.hid hm0
  clear hG hsz
  go_enter Tryz.func51, Tryz.ntmps51
  go_wp2_with fail
  refine HWF.out.mono ?_
  rintro e w1 ⟨rfl, hb1⟩
  have rl1 := rl.below hb1
  have hbx := blk_new w1 (.cells #[.slice none 0 0, .int .i64 0, .int .i64 0] 170)
  have hba := Bl.alloc (Below.refl w1.heap.size w1) (.cells #[.slice none 0 0, .int .i64 0, .int .i64 0] 170)
  have hza : w1.heap.size + 1 ≤ (w1.alloc (.cells #[.slice none 0 0, .int .i64 0, .int .i64 0] 170)).heap.size := by simp
  clear rl HWF
  go_wp2_with fail
  go_loopg [22] (pw ws.length) (fun gk i wr => ∃ (k s : Nat) (ba : Option Addr) (bc : Nat), gk = pw ws.length - k ∧ k ≤ pw ws.length ∧ i = .int .i64 k ∧ wr.heap[w1.heap.size]? = some (.cells #[.slice ba (setL s ws.length).length bc, .int .i64 (sumO (wkV ws) (setL s ws.length)), .int .i64 (sumO (wkM ws) (setL s ws.length))] 170 (0, 0)) ∧ Own wr (w1.heap.size + 1) (.slice ba (setL s ws.length).length bc) (nats (setL s ws.length)) ∧ Hid (BestS ws m k s) ∧ Below w1.heap.size w1 wr ∧ w1.heap.size + 1 ≤ wr.heap.size)
  case atStart => exact ⟨0, 0, none, 0, rfl, Nat.zero_le _, rfl, by rw [HZ.out]; exact hbx, by rw [HZ.out]; exact Own.nil _ _, Lib.hid (BestS.start ws HM0.out), hba, hza⟩
  case round =>
    obtain ⟨k, s, ba, bc, rfl, hk, rfl, hB, hO, hbest, hbr, hzr⟩ := hrel
    obtain ⟨bl, hbl⟩ : ∃ bl, bl = setL s ws.length := ⟨_, rfl⟩
    obtain ⟨bv, hbv⟩ : ∃ bv, bv = sumO (wkV ws) (setL s ws.length) := ⟨_, rfl⟩
    obtain ⟨bm, hbm⟩ : ∃ bm, bm = sumO (wkM ws) (setL s ws.length) := ⟨_, rfl⟩
    have hbll : bl.length ≤ 14 := by rw [hbl]; exact Nat.le_trans (setL_len s ws.length) hn
    rw [← hbv, ← hbm, ← hbl] at hB
    rw [← hbl] at hO
    have HBL := Lib.hid hbl
    have HBV := Lib.hid hbv
    have HBM := Lib.hid hbm
    clear hbl hbv hbm
    by_cases hlt : k < pw ws.length
    · have hltI : (k : Int) < ((pw ws.length : Nat) : Int) := by omega
      have hw0 : IntKind.i64.wrap ((k : Int) + 1) = ((k + 1 : Nat) : Int) := by rw [IntWalk.i64_in _ (by omega)]; omega
      obtain ⟨wo, rfl⟩ : ∃ wo : World, wo = wr := ⟨_, rfl⟩
      go_wp2
      go_loopg [27] ws.length (fun gq j wx => ∃ (q : Nat) (ca : Option Addr) (cc : Nat), gq = ws.length - q ∧ q ≤ ws.length ∧ j = .int .i64 q ∧ wx.heap[wo.heap.size]? = some (.cells #[.slice ca (setL k q).length cc, .int .i64 (sumO (wkV ws) (setL k q)), .int .i64 (sumO (wkM ws) (setL k q))] 170 (0, 0)) ∧ Own wx (wo.heap.size + 1) (.slice ca (setL k q).length cc) (nats (setL k q)) ∧ Below wo.heap.size wo wx ∧ wo.heap.size + 1 ≤ wx.heap.size)
      case atStart => exact ⟨0, none, 0, rfl, Nat.zero_le _, rfl, blk_new wo _, Own.nil _ _, Bl.alloc (Below.refl _ _) _, by simp⟩
      case round =>
        obtain ⟨q, ca, cc, rfl, hq, rfl, hC, hOc, hbx, hzx⟩ := hrel
        have hsum := HG.out.sums k q hq
        have hcl0 := setL_len k q
        by_cases hqn : q < ws.length
        · obtain ⟨x, hx⟩ : ∃ x, ws[q]? = some x := ⟨_, List.getElem?_eq_getElem hqn⟩
          obtain ⟨b2, o2, hae, _, hl2, y1, y2, y3⟩ := works_at (rl1.below (Bl.trans hbr hbx)) hx
          subst hae
          have hxb := HG.out.all x (List.mem_of_getElem? hx)
          have HWM : Hid (wkM ws q = x.2.1) := Lib.hid (by unfold wkM; rw [hx]; rfl)
          have HWV : Hid (wkV ws q = x.2.2) := Lib.hid (by unfold wkV; rw [hx]; rfl)
          have r1 := op_shr k q (by omega)
          have r2 := bits_and1' k q (by omega)
          have hw1 : IntKind.i64.wrap ((q : Int) + 1) = ((q + 1 : Nat) : Int) := by rw [IntWalk.i64_in _ (by omega)]; omega
          obtain ⟨xb, xm, xv⟩ := x
          simp only at y1 y2 y3 HWM HWV hxb
          have hnb := blk_new wr (.cells #[.string xb, .int .i64 xm, .int .i64 xv] 74)
          have hCb := blk_old hC (.cells #[.string xb, .int .i64 xm, .int .i64 xv] 74)
          have hOb := hOc.alloc (.cells #[.string xb, .int .i64 xm, .int .i64 xv] 74)
          have hbb := Bl.alloc hbx (.cells #[.string xb, .int .i64 xm, .int .i64 xv] 74)
          have hzb : wo.heap.size + 1 ≤ (wr.alloc (.cells #[.string xb, .int .i64 xm, .int .i64 xv] 74)).heap.size := by simp; omega
          clear hx
          cases hbit : k.testBit q
          · have r3 := bitN_not hbit
            have HS := Lib.hid (setL_no hbit)
            clear hbit
            go_wp2
            go_roundg (ws.length - (q + 1))
            case rel => exact ⟨q + 1, ca, cc, rfl, by omega, by go_num, by rw [HS.out]; exact hCb, by rw [HS.out]; exact hOb, hbb, hzb⟩
            case measure => omega
          · have r3 := bitN_is hbit
            have HS := Lib.hid (setL_yes hbit)
            have HSV := Lib.hid (sumO_snoc (wkV ws) (setL k q) q)
            have HSM := Lib.hid (sumO_snoc (wkM ws) (setL k q) q)
            rw [HWV.out] at HSV
            rw [HWM.out] at HSM
            have hovn : ∀ g, (Value.slice ca (setL k q).length cc).ownBlock = some g → g < wr.heap.size := fun g e => (own_aboveI hOc g e).2
            have HOV := Lib.hid hovn
            clear hbit hovn hOc
            generalize setL k q = cl at *
            generalize sumO (wkV ws) cl = cv at *
            generalize sumO (wkM ws) cl = cm at *
            have hw2 : IntKind.i64.wrap (cv + xv) = cv + xv := IntWalk.i64_in _ (by omega)
            have hw3 : IntKind.i64.wrap (cm + xm) = cm + xm := IntWalk.i64_in _ (by omega)
            have k0 := blk_cell hCb 0
            go_wp2_with (at_builtin; refine wp_app_int rfl _ _ rfl (wo.heap.size + 1) _ (nats cl) rfl (hOb.alloc _) (wr.heap.size + 1) 1 (q : Int) rfl (by rw [blk_cell (blk_new' _ _ (by simp)) 0]; rfl) (by rw [nats_len]; omega) (by simp; omega) ?_)
            intro v3 w3 hO3 hg3 hb3
            have hC3 : w3.heap[wo.heap.size]? = _ := (hb3.block wo.heap.size (Nat.lt_succ_self _)).trans (blk_old hCb (.cells #[.int .i64 q] 3))
            have hn3 : w3.heap[wr.heap.size]? = _ := (hg3.block wr.heap.size (by simp; omega) (fun e => by have := HOV.out _ e.symm; omega)).trans (blk_old hnb (.cells #[.int .i64 q] 3))
            rw [← nats_app] at hO3
            obtain ⟨da, dc, hv3⟩ := own_formI hO3
            rw [List.length_append, List.length_singleton] at hv3
            subst hv3
            have k1 := blk_cell hC3 1
            have k2 := blk_cell hC3 2
            have k00 := blk_cell hC3 0
            have f0 := blk_free hC3 0
            have f1 := blk_free hC3 1
            have f2 := blk_free hC3 2
            have z1 := blk_cell hn3 1
            have z2 := blk_cell hn3 2
            have hCs := blk_set (blk_set (blk_set hC3 0 (.slice da (cl.length + 1) dc)) 1 (.int .i64 (cv + xv))) 2 (.int .i64 (cm + xm))
            have hOs := own_far (own_far (own_far hO3 (Nat.lt_succ_self wo.heap.size) 0 (.slice da (cl.length + 1) dc)) (Nat.lt_succ_self wo.heap.size) 1 (.int .i64 (cv + xv))) (Nat.lt_succ_self wo.heap.size) 2 (.int .i64 (cm + xm))
            have hb13 : Below wo.heap.size wo w3 := (Bl.alloc hbb (.cells #[.int .i64 q] 3)).trans (hb3.mono (by omega))
            have hbs := Bl.set (Bl.set (Bl.set hb13 wo.heap.size 0 (Nat.le_refl _) (.slice da (cl.length + 1) dc)) wo.heap.size 1 (Nat.le_refl _) (.int .i64 (cv + xv))) wo.heap.size 2 (Nat.le_refl _) (.int .i64 (cm + xm))
            have hzs : wo.heap.size + 1 ≤ (((w3.setCell ⟨wo.heap.size, 0, none⟩ (.slice da (cl.length + 1) dc)).setCell ⟨wo.heap.size, 1, none⟩ (.int .i64 (cv + xv))).setCell ⟨wo.heap.size, 2, none⟩ (.int .i64 (cm + xm))).heap.size := by have := blk_lt hC3; simp; omega
            clear hO3 hg3 hb3 hb13
            go_wp2
            go_roundg (ws.length - (q + 1))
            case rel => exact ⟨q + 1, da, dc, rfl, by omega, by go_num, by rw [HS.out, HSV.out, HSM.out, List.length_append, List.length_singleton]; exact hCs, by rw [HS.out, List.length_append, List.length_singleton]; exact hOs, hbs, hzs⟩
            case measure => omega
        · have hq2 : q = ws.length := by omega
          subst hq2
          have hB2 : wr.heap[w1.heap.size]? = _ := (hbx.block w1.heap.size (blk_lt hB)).trans hB
          have hO2 := hO.below hbx
          have HLV : Hid (∀ h : ¬ sumO (wkM ws) (setL k ws.length) ≤ m, BestS ws m (k + 1) s) := Lib.hid (fun h => hbest.out.leave fun h' => absurd h' h)
          have HLV2 : Hid (sumO (wkV ws) (setL k ws.length) ≤ bv → BestS ws m (k + 1) s) := Lib.hid (fun h => hbest.out.leave fun _ => by rw [← HBV.out]; exact h)
          have HTK : Hid (sumO (wkM ws) (setL k ws.length) ≤ m → bv ≤ sumO (wkV ws) (setL k ws.length) → BestS ws m (k + 1) k) := Lib.hid (fun h h' => hbest.out.take h (by rw [← HBV.out]; exact h'))
          have hbw := Bl.trans hbr hbx
          have hzw : w1.heap.size + 1 ≤ wr.heap.size := by omega
          obtain ⟨cl, hcl⟩ : ∃ cl, cl = setL k ws.length := ⟨_, rfl⟩
          obtain ⟨cv, hcv⟩ : ∃ cv, cv = sumO (wkV ws) (setL k ws.length) := ⟨_, rfl⟩
          obtain ⟨cm, hcm⟩ : ∃ cm, cm = sumO (wkM ws) (setL k ws.length) := ⟨_, rfl⟩
          rw [← hcv, ← hcm, ← hcl] at hC
          rw [← hcl] at hOc
          rw [← hcm] at HLV HTK
          rw [← hcv] at HLV2 HTK
          have HCLQ := Lib.hid hcl
          have HCV := Lib.hid hcv
          have HCM := Lib.hid hcm
          have hcll : cl.length ≤ 14 := by rw [hcl]; omega
          clear hcl hcv hcm hsum hcl0
          have c0 := blk_cell hC 0
          have c1 := blk_cell hC 1
          have c2 := blk_cell hC 2
          have b0 := blk_cell hB2 0
          have b1 := blk_cell hB2 1
          have b2 := blk_cell hB2 2
          have HBT := Lib.hid (better_any (nats cl) (nats bl) cv cm bv bm _ _ wr (by rw [nats_len]; omega) (by rw [nats_len]; omega) hOc.ints0 hO2.ints0)
          by_cases hfe : cm ≤ m
          · generalize hbt : decide (orF [cmpI bv cv, cmpI cm bm, cmpL (nats cl) (nats bl)] < 0) = bt at *
            have HT := Lib.hid hbt
            clear hbt
            go_wp2_with fail
            refine HBT.out.mono ?_
            rintro e w5 ⟨rfl, hb5⟩
            have hC5 := blk_below hC hb5
            have hB5 := blk_below hB2 hb5
            have hO5 := hO2.below hb5
            have hOc5 := hOc.below hb5
            have hbw5 := Bl.trans hbw hb5
            have hz5 : w1.heap.size + 1 ≤ w5.heap.size := Nat.le_trans hzw hb5.size
            cases bt
            · have HL := Lib.hid (HLV2.out (better_no HT.out))
              go_wp2
              go_roundg (pw ws.length - (k + 1))
              case rel => exact ⟨k + 1, s, ba, bc, rfl, by omega, by go_num, by rw [← HBV.out, ← HBM.out, ← HBL.out]; exact hB5, by rw [← HBL.out]; exact hO5, HL, hbw5, hz5⟩
              case measure => omega
            · have HL := Lib.hid (HTK.out hfe (better_yes HT.out))
              have d0 := blk_cell hC5 0
              have d1 := blk_cell hC5 1
              have d2 := blk_cell hC5 2
              have g0 := blk_cell hB5 0
              have g1 := blk_cell hB5 1
              have g2 := blk_cell hB5 2
              have f0 := blk_free hB5 0
              have f1 := blk_free hB5 1
              have f2 := blk_free hB5 2
              have hBs := blk_set (blk_set (blk_set hB5 0 (.slice ca cl.length cc)) 1 (.int .i64 cv)) 2 (.int .i64 cm)
              have hOd := own_base hOc5 (show w1.heap.size + 1 ≤ wo.heap.size + 1 by omega)
              have hOs := own_far (own_far (own_far hOd (Nat.lt_succ_self w1.heap.size) 0 (.slice ca cl.length cc)) (Nat.lt_succ_self w1.heap.size) 1 (.int .i64 cv)) (Nat.lt_succ_self w1.heap.size) 2 (.int .i64 cm)
              have hbs := Bl.set (Bl.set (Bl.set hbw5 w1.heap.size 0 (Nat.le_refl _) (.slice ca cl.length cc)) w1.heap.size 1 (Nat.le_refl _) (.int .i64 cv)) w1.heap.size 2 (Nat.le_refl _) (.int .i64 cm)
              have hzs : w1.heap.size + 1 ≤ (((w5.setCell ⟨w1.heap.size, 0, none⟩ (.slice ca cl.length cc)).setCell ⟨w1.heap.size, 1, none⟩ (.int .i64 cv)).setCell ⟨w1.heap.size, 2, none⟩ (.int .i64 cm)).heap.size := by simp; omega
              go_wp2
              go_roundg (pw ws.length - (k + 1))
              case rel => exact ⟨k + 1, k, ca, cc, rfl, by omega, by go_num, by rw [← HCV.out, ← HCM.out, ← HCLQ.out]; exact hBs, by rw [← HCLQ.out]; exact hOs, HL, hbs, hzs⟩
              case measure => omega
          · have HL := Lib.hid (HLV.out hfe)
            go_wp2
            go_roundg (pw ws.length - (k + 1))
            case rel => exact ⟨k + 1, s, ba, bc, rfl, by omega, by go_num, by rw [← HBV.out, ← HBM.out, ← HBL.out]; exact hB2, by rw [← HBL.out]; exact hO2, HL, hbw, hzw⟩
            case measure => omega
    · obtain rfl : k = pw ws.length := by omega
      have b0 := blk_cell hB 0
      have b1 := blk_cell hB 1
      have hbw := Bl.trans hb1 hbr
      have hbz := hb1.size
      have HBS : Hid (BestS ws m (2 ^ ws.length) s) := Lib.hid hbest.out
      go_wp2
      go_region
      all_goals (
        go_wp2
        go_ret3
        exact ⟨⟨s, _, by rw [← HBV.out] <;> rfl, by rw [← HBL.out]; exact own_base (hO.below (Below.drew (Below.refl _ _))) (by omega), HBS.out⟩, Below.drew hbw⟩)
end Go.Proofs.YtnmimagninhkkaaGreatDoor
