/- The walk of ReworkCounted. Conditions: the library's table of powers of ten. -/
import Derived.Test.YtbkglhakhahfpaaGreatDoorCnn
import Derived.Test.YtbkglhakhahfpaaGreatDoorWof
import Derived.Test.YtbkglhakhahfpaaGreatDoorLpo
import Derived.Test.YtbkglhakhahfpaaGreatDoorChn
import Derived.Test.YtbkglhakhahfpaaGreatDoorRt
import Derived.Test.YtbkglhakhahfpaaGreatDoorStart
namespace Go.Proofs.YtbkglhakhahfpaaGreatDoor
open Go.RowKit Go.Sort Go.Maps

theorem own_tn {w : World} {B : Nat} {v : Value} {l : List Int} (h : Own w B v l) : OwnR TN w B v l := by
  have e : l.flatMap TN.f = ics l := by
    clear h
    induction l with
    | nil => rfl
    | cons a l ih => rw [List.flatMap_cons, ih]; rfl
  unfold OwnR
  rw [e]
  exact h
theorem or_fltR (rh rr : Int) (x : List Stp) : orF [rulesF rh rr, stepsF x] = fltF rh rr x := by
  unfold fltF
  simp only [orF]
  by_cases h : rulesF rh rr = 0
  · by_cases h2 : stepsF x = 0
    · simp [h, h2]
    · simp [h, h2]
  · simp [h]
theorem neqFr_no (x y : Int) (W : World) : (binOp .neq 39 (.agg #[.int .i64 x, .int .i64 y]) (.agg #[.int .i64 x, .int .i64 y])).run Tryz.prog W = .ok (.bool false) W := by
  go_simp
theorem RFirstPass (rh rr : Int) (l : List Stp) (v : Value) (w : World) (rl : RecR TSt w 0 v l) (h0 : fltF rh rr l = 0) :
    Calls Tryz.prog 18 #[.agg #[.int .i64 rh, .int .i64 rr], v] w fun e w' => e = .returned (.tuple #[frcV (fpA rh rr l).2 (fpA rh rr l).1.length, .bool (decide ((fpA rh rr l).1.length ≠ 0))]) ∧ Below w.heap.size w w' := by
  have h := FirstPassOf_any rh rr l v w rl (fltF_zero h0).2
  rw [show fpL ([], 0) (accL rh rr [] l) = fpA rh rr l from (if_pos h0).symm] at h
  exact h
theorem RFinal (rh rr : Int) (l : List Stp) (v : Value) (w : World) (rl : RecR TSt w 0 v l) (h0 : fltF rh rr l = 0) :
    Calls Tryz.prog 19 #[.agg #[.int .i64 rh, .int .i64 rr], v] w fun e w' => e = .returned (.tuple #[frcV (finA rh rr l).1 (finA rh rr l).2, .bool (decide ((finA rh rr l).2 ≠ 0))]) ∧ Below w.heap.size w w' := by
  have h := RFinalOf_any rh rr l v w rl (fltF_zero h0).2
  have e : finA rh rr l = (inN (runS rh rr 345686400000 [] l) 6, inN (runS rh rr 345686400000 [] l) 6 + inN (runS rh rr 345686400000 [] l) 5) := if_pos h0
  rw [e]
  exact h
set_option maxHeartbeats 8000000 in
set_option maxRecDepth 100000 in
theorem ReworkCounted_any (l : List Int) (v : Value) (w : World) (rl : Ints w 0 v l) (hl : ∀ x ∈ l, -9223372036854775808 ≤ x ∧ x ≤ 9223372036854775807) (hT : TxW w) :
    Calls Tryz.prog 3 #[v] w fun e w' => e = .returned (.bool true) ∧ Below w.heap.size w w' := by
  obtain ⟨va, cap, rfl, hc1, hc2⟩ := Ints.form rl
  have hs0 := Str.begin rl hl
  have hb0 := Bl.alloc (Below.refl w.heap.size w) (.cells #[.slice va l.length cap, .int .i64 0] 25)
  have HT := Lib.hid fun U (hU : Below w.heap.size w U) => hT.below hU
  clear rl hl hT
  go_enter Tryz.func3, Tryz.ntmps3
  go_wp2_with fail
  refine (RulesOf_any _ 0 _ hs0 (by omega)).mono ?_
  rintro e w1 ⟨rh, rr, rfl, hrh, hrr, hs1, hG1⟩
  have hb1 := Below.trans hb0 (Gr.below hG1 (Nat.le_refl _) hb0.size)
  have hz1 := hb1.size
  clear hs0 hb0 hG1
  go_wp2_with fail
  refine (StepListN_any _ _ _ hs1 (by omega)).mono ?_
  rintro e w2 ⟨vx, x, rfl, hO2, hx24, hxok, hs2, hG2⟩
  have hl1 := hs1.lt
  have hb2 := Below.trans hb1 (Gr.below hG2 (Nat.le_refl _) hz1)
  have hz2 := hb2.size
  obtain ⟨xa, xcap, rfl, _, _⟩ := hO2.form
  have HZ := Lib.hid (StpOk.z fun s hs => (hxok s hs).ok)
  have HFC := Lib.hid (few_components rh rr x hxok)
  have hz12 : w1.heap.size ≤ w2.heap.size := hG2.size
  clear hb1 hG2 hs1 hxok
  go_wp2_with fail
  refine (WorkList_any _ _ _ hs2 (by omega)).mono ?_
  rintro e w3 ⟨vw, ws, rfl, hW3, hW6, hWs, hs3, hG3⟩
  obtain ⟨wa, wcap, rfl, _, _⟩ := hW3.form
  have HWS := Lib.hid hWs
  have hb3 := Below.trans hb2 (Gr.below hG3 (Nat.le_refl _) hz2)
  have hO3 := hO2.grown hG3 (by omega)
  have hz3 := hb3.size
  clear hb2 hG3 hs2 hO2 hWs
  go_wp2_with fail
  refine (Pick_any _ _ [0, 10, 30, 45, -1, 10001] _ _ (hs3.alloc _) (by omega) (Ints.of_blk (blk_new _ _) rfl rfl (by simp) (by omega) hs3.lt) (by simp) (by simp)).mono ?_
  rintro e w5 ⟨m, rfl, hm, hs5, hG5⟩
  have hG5' := Gr.trans (Gr.alloc (Gr.refl w3 (some w.heap.size)) _) hG5
  have hb5 := Below.trans hb3 (Gr.below hG5' (Nat.le_refl _) hz3)
  have hO5 := hO3.grown hG5' (by omega)
  have hW5 := hW3.grown hG5' (by omega)
  obtain ⟨w6, hw6⟩ : ∃ w6, w6 = w5.alloc (.cells #[.int .i64 rh, .int .i64 rr] 27) := ⟨_, rfl⟩
  have hbA : Below w5.heap.size w5 w6 := by rw [hw6]; exact Bl.alloc (Below.refl _ _) _
  have HX6 := Lib.hid (show w6.heap[w5.heap.size]? = some (.cells #[.int .i64 rh, .int .i64 rr] 27 (0, 0)) by rw [hw6]; exact blk_new w5 _)
  have HB6 := Lib.hid (Bl.trans hb5 hbA)
  have HO6 := Lib.hid (hO5.rec0.below hbA)
  have HW6 := Lib.hid (hW5.rec0.below hbA)
  have HC := Lib.hid fun (W : World) (hW : Below w6.heap.size w6 W) => And.intro (show W.cell? ⟨w5.heap.size, 0, none⟩ = some (.int .i64 rh) from blk_cell (blk_below HX6.out hW) 0) (show W.cell? ⟨w5.heap.size, 1, none⟩ = some (.int .i64 rr) from blk_cell (blk_below HX6.out hW) 1)
  have HLT := Lib.hid fun (W : World) (hW : Below w6.heap.size w6 W) => show w5.heap.size < W.heap.size from blk_lt (blk_below HX6.out hW)
  obtain ⟨F, hF⟩ : ∃ f, f = fltF rh rr x := ⟨_, rfl⟩
  have HF := Lib.hid hF
  obtain ⟨c0, c1⟩ := HC.out w6 (Below.refl _ _)
  clear hb3 hG5 hs3 hO3 hW3 hb5 hs5 hO5 hW5 hF hbA hz1 hz2 hz3 hl1 hm hG5'
  go_wp2_with fail
  rw [← hw6]
  clear hw6
  refine (RRulesFault_any rh rr w6).mono ?_
  rintro e w7 ⟨rfl, hb7⟩
  have H2 := Lib.hid (StepsFault_any x (.slice xa x.length xcap) w7 (by omega) (HO6.out.below hb7) HZ.out)
  clear c0 c1
  go_wp2_with fail
  refine H2.out.mono ?_
  rintro e w8 ⟨rfl, hb8⟩
  have H3 := OrErrno_any [rulesF rh rr, stepsF x] (.slice (some ⟨w8.heap.size, 0, none⟩) 2 2) _ (by simp) (Ints.of_blk (blk_new w8 (.cells #[.int .i64 (rulesF rh rr), .int .i64 (stepsF x)] 34)) rfl rfl (Nat.le_refl _) (by omega) (Nat.zero_le _))
  rw [or_fltR, ← HF.out] at H3
  have H3 := Lib.hid H3
  have hb8' := Bl.alloc (Bl.trans hb7 hb8) (.cells #[.int .i64 (rulesF rh rr), .int .i64 (stepsF x)] 34)
  obtain ⟨c0, c1⟩ := HC.out _ hb8'
  have lr := HLT.out _ hb8'
  have HFP := FirstPass_any rh rr x (.slice xa x.length xcap) _ (by omega) (HO6.out.below hb8') HZ.out
  rw [← HF.out] at HFP
  obtain ⟨q, hq⟩ : ∃ q, q = fpA rh rr x := ⟨_, rfl⟩
  obtain ⟨fx, fy, hfv⟩ := frcV_form (fpA rh rr x).2 (fpA rh rr x).1.length
  obtain ⟨fb, hfb⟩ : ∃ b, b = decide ((fpA rh rr x).1.length ≠ 0) := ⟨_, rfl⟩
  rw [hfv, ← hfb] at HFP
  have HFP := Lib.hid HFP
  have HFV := Lib.hid (And.intro hfv hfb)
  clear H2 hb7 hq hfv hfb
  go_wp2_with fail
  refine H3.out.mono ?_
  rintro e w9 ⟨rfl, rfl⟩
  obtain ⟨w9, hw9⟩ : ∃ w9, w9 = w8.alloc (.cells #[.int .i64 (rulesF rh rr), .int .i64 (stepsF x)] 34) := ⟨_, rfl⟩
  rw [← hw9] at hb8' c0 c1 lr HFP ⊢
  have HB9 := Lib.hid hb8'
  clear H3 hb8 hb8' hw9
  go_wp2_with fail
  refine HFP.out.mono ?_
  rintro e wA ⟨rfl, hbA⟩
  obtain ⟨wB, hwB⟩ : ∃ wB, wB = wA.alloc (.cells #[.int .i64 fx, .int .i64 fy] 39) := ⟨_, rfl⟩
  have hbAB : Below wA.heap.size wA wB := by rw [hwB]; exact Bl.alloc (Below.refl _ _) _
  have HXB := Lib.hid (show wB.heap[wA.heap.size]? = some (.cells #[.int .i64 fx, .int .i64 fy] 39 (0, 0)) by rw [hwB]; exact blk_new wA _)
  have HBB := Lib.hid (Bl.trans HB9.out (Bl.trans hbA hbAB))
  clear c0 c1 lr
  obtain ⟨c0, c1⟩ := HC.out wA (Bl.trans HB9.out hbA)
  have lr := HLT.out wA (Bl.trans HB9.out hbA)
  have HFI := Final_any rh rr x (.slice xa x.length xcap) wB (by omega) (HO6.out.below HBB.out) HZ.out
  rw [← HF.out] at HFI
  obtain ⟨gx, gy, hgv⟩ := frcV_form (finA rh rr x).1 (finA rh rr x).2
  obtain ⟨gb, hgb⟩ : ∃ b, b = decide ((finA rh rr x).2 ≠ 0) := ⟨_, rfl⟩
  rw [hgv, ← hgb] at HFI
  have HFI := Lib.hid HFI
  have HGV := Lib.hid (And.intro hgv hgb)
  clear hbA hbAB HFP hgv hgb
  go_wp2_with fail
  rw [← hwB]
  clear hwB
  refine HFI.out.mono ?_
  rintro e wC ⟨rfl, hbC⟩
  obtain ⟨wD, hwD⟩ : ∃ wD, wD = wC.alloc (.cells #[.int .i64 gx, .int .i64 gy] 39) := ⟨_, rfl⟩
  have hbCD : Below wC.heap.size wC wD := by rw [hwD]; exact Bl.alloc (Below.refl _ _) _
  have HXD := Lib.hid (And.intro (blk_below HXB.out (Bl.trans hbC hbCD)) (show wD.heap[wC.heap.size]? = some (.cells #[.int .i64 gx, .int .i64 gy] 39 (0, 0)) by rw [hwD]; exact blk_new wC _))
  have HBD := Lib.hid (Bl.trans HBB.out (Bl.trans hbC hbCD))
  clear c0 c1 lr
  obtain ⟨c0, c1⟩ := HC.out wC (Bl.trans HBB.out hbC)
  have lr := HLT.out wC (Bl.trans HBB.out hbC)
  have HLO := Loops_any rh rr x (.slice xa x.length xcap) wD (HT.out _ (HB6.out.trans (HBD.out.mono HB6.out.size))) (by omega) (HO6.out.below HBD.out) HZ.out
  rw [← HF.out] at HLO
  obtain ⟨ls, hls⟩ : ∃ q, q = (lpsA rh rr x).map prOf := ⟨_, rfl⟩
  rw [← hls] at HLO
  have HLO := Lib.hid HLO
  have HLS := Lib.hid hls
  clear hbC hbCD HFI HXB HBB hls
  go_wp2_with fail
  rw [← hwD]
  clear hwD
  refine HLO.out.mono ?_
  rintro e wE ⟨⟨lv, rfl, hlv⟩, hbE⟩
  obtain ⟨la, lc, rfl, _, _⟩ := hlv.form
  have HRL := Lib.hid hlv.rec0
  have HXE := Lib.hid (And.intro (blk_below HXD.out.1 hbE) (blk_below HXD.out.2 hbE))
  have HBE := Lib.hid (Bl.trans HBD.out hbE)
  clear c0 c1 lr
  obtain ⟨c0, c1⟩ := HC.out wE HBE.out
  have lr := HLT.out wE HBE.out
  have HWO := Worst_any rh rr x (.slice xa x.length xcap) wE (HT.out _ (HB6.out.trans (HBE.out.mono HB6.out.size))) (by omega) (HO6.out.below HBE.out) HZ.out
  rw [← HF.out] at HWO
  have HWO := Lib.hid HWO
  clear hlv hbE HLO HXD HBD
  go_wp2_with fail
  refine HWO.out.mono ?_
  rintro e wF ⟨⟨wv, l', rfl, hwst, hwv⟩, hbF⟩
  have HWL := Lib.hid (And.intro hwst hwv.rec0)
  obtain ⟨ks, hks⟩ : ∃ q, q = l'.map prOf := ⟨_, rfl⟩
  rw [← hks] at hwv HWL
  obtain ⟨ka, kc, rfl, _, _⟩ := hwv.form
  have HKS := Lib.hid hks
  have HXF := Lib.hid (And.intro (blk_below HXE.out.1 hbF) (blk_below HXE.out.2 hbF))
  have HRF := Lib.hid (And.intro (HRL.out.below hbF) HWL.out.2)
  have HBF := Lib.hid (Bl.trans HBE.out hbF)
  clear hwv hbF HWO HXE HBE HRL hwst hks c0 c1 lr
  go_upto_if 76 with fail
  have hbAW := Bl.alloc (Bl.alloc (Below.refl wF.heap.size wF) (.cells #[.int .i64 0, .int .i64 0] 39)) (.cells #[.int .i64 0, .int .i64 0] 39)
  have hPW := blk_old (blk_new wF (.cells #[.int .i64 0, .int .i64 0] 39)) (.cells #[.int .i64 0, .int .i64 0] 39)
  have hQW := blk_new' (wF.alloc (.cells #[.int .i64 0, .int .i64 0] 39)) (.cells #[.int .i64 0, .int .i64 0] 39) (g := wF.heap.size + 1) (by simp)
  generalize (wF.alloc (.cells #[.int .i64 0, .int .i64 0] 39)).alloc (.cells #[.int .i64 0, .int .i64 0] 39) = w0 at *
  have HW0 := Lib.hid (And.intro hbAW (And.intro hPW hQW))
  clear hbAW hPW hQW
  go_cut [21, 22, 23, 24] from 76 to 94 (fun v21 v22 v23 v24 wx => ∃ (a1 : Option Addr) (n1 c1 : Nat) (a2 : Option Addr) (n2 c2 : Nat), v21 = .slice a1 n1 c1 ∧ v22 = .slice a2 n2 c2 ∧ v23 = .bool fb ∧ v24 = .bool gb ∧ Hid (Below wF.heap.size wF wx ∧ wx.heap[wF.heap.size]? = some (.cells #[.int .i64 fx, .int .i64 fy] 39 (0, 0)) ∧ wx.heap[wF.heap.size + 1]? = some (.cells #[.int .i64 gx, .int .i64 gy] 39 (0, 0)) ∧ RecR TPr wx 0 (.slice a1 n1 c1) ls ∧ RecR TPr wx 0 (.slice a2 n2 c2) ks))
  case first =>
    by_cases h0 : F = 0
    · have HZ2 := Lib.hid (fltF_zero (HF.out ▸ h0))
      have hB0 := Bl.trans HBF.out HW0.out.1
      have HFO := RFirstPass rh rr x (.slice xa x.length xcap) w0 (HO6.out.below hB0) (HF.out ▸ h0)
      rw [HFV.out.1, ← HFV.out.2] at HFO
      have HFO := Lib.hid HFO
      have HGO := Lib.hid fun U (hU : Below w6.heap.size w6 U) => by
        have h := RFinal rh rr x (.slice xa x.length xcap) U (HO6.out.below hU) (HF.out ▸ h0)
        rw [HGV.out.1, ← HGV.out.2] at h
        exact h
      have HLT1 := Lib.hid fun U (hU : Below w6.heap.size w6 U) => by
        have h := RLoopsOf_any rh rr x (.slice xa x.length xcap) U (HT.out _ (HB6.out.trans (hU.mono HB6.out.size))) (HO6.out.below hU) HZ2.out.2
        rw [show lpL (runS rh rr 345686400000 [] x) = lpsA rh rr x from (if_pos (HF.out ▸ h0)).symm, ← HLS.out] at h
        exact h
      have HWT1 := Lib.hid fun U (hU : Below w6.heap.size w6 U) => by
        have h := WorstOf_any rh rr x (.slice xa x.length xcap) U (HT.out _ (HB6.out.trans (hU.mono HB6.out.size))) (HO6.out.below hU) HZ2.out.2 HFC.out
        rw [show cntL [] (accL rh rr [] x) = worA rh rr x from (if_pos (HF.out ▸ h0)).symm] at h
        exact h
      subst h0
      obtain ⟨c0, c1⟩ := HC.out _ hB0
      have lr := HLT.out _ hB0
      go_wp2_with fail
      refine HFO.out.mono ?_
      rintro e wG ⟨rfl, hbG⟩
      have hPG := blk_below HW0.out.2.1 hbG
      have hQG := blk_below HW0.out.2.2 hbG
      have hBG := Bl.trans HW0.out.1 hbG
      have lP := blk_lt hPG
      have k0 : wG.cell? ⟨wF.heap.size, 0, none⟩ = some (.int .i64 0) := blk_cell hPG 0
      have k1 : wG.cell? ⟨wF.heap.size, 1, none⟩ = some (.int .i64 0) := blk_cell hPG 1
      have g0 := blk_free hPG 0
      have g1 := blk_free hPG 1
      obtain ⟨wH, hwH⟩ : ∃ wH, wH = (wG.setCell ⟨wF.heap.size, 0, none⟩ (.int .i64 fx)).setCell ⟨wF.heap.size, 1, none⟩ (.int .i64 fy) := ⟨_, rfl⟩
      have hPH : wH.heap[wF.heap.size]? = some (.cells #[.int .i64 fx, .int .i64 fy] 39 (0, 0)) := by rw [hwH]; exact blk_set (blk_set hPG 0 _) 1 _
      have hQH : wH.heap[wF.heap.size + 1]? = some (.cells #[.int .i64 0, .int .i64 0] 39 (0, 0)) := by rw [hwH]; exact blk_far (blk_far hQG _ 0 _ (by omega)) _ 1 _ (by omega)
      have hBH : Below wF.heap.size wF wH := by rw [hwH]; exact Bl.set (Bl.set hBG _ 0 (Nat.le_refl _) _) _ 1 (Nat.le_refl _) _
      have HPQ := Lib.hid (And.intro hPH (And.intro hQH hBH))
      have hB6H := Bl.trans HBF.out hBH
      have HGO2 := Lib.hid (HGO.out wH hB6H)
      have HCG := Lib.hid (HC.out _ (Bl.trans HBF.out hBG))
      have lrG := HLT.out _ (Bl.trans HBF.out hBG)
      have lF := HLT.out _ HBF.out
      have hne : ¬ w5.heap.size = wF.heap.size := by omega
      clear c0 c1 lr hPG hQG hbG hBG hPH hQH hBH
      obtain ⟨c0, c1⟩ := HCG.out
      go_wp2_with fail
      rw [← hwH]
      clear hwH
      refine HGO2.out.mono ?_
      rintro e wI ⟨rfl, hbI⟩
      have hPI := blk_below HPQ.out.1 hbI
      have hQI := blk_below HPQ.out.2.1 hbI
      have hBI := Bl.trans HPQ.out.2.2 hbI
      have lQ := blk_lt hQI
      have lPI := blk_lt hPI
      have m0 : wI.cell? ⟨wF.heap.size + 1, 0, none⟩ = some (.int .i64 0) := blk_cell hQI 0
      have m1 : wI.cell? ⟨wF.heap.size + 1, 1, none⟩ = some (.int .i64 0) := blk_cell hQI 1
      have n0 := blk_free hQI 0
      have n1 := blk_free hQI 1
      clear k0 k1 g0 g1 c0 c1 lrG
      obtain ⟨wJ, hwJ⟩ : ∃ wJ, wJ = (wI.setCell ⟨wF.heap.size + 1, 0, none⟩ (.int .i64 gx)).setCell ⟨wF.heap.size + 1, 1, none⟩ (.int .i64 gy) := ⟨_, rfl⟩
      have hQJ : wJ.heap[wF.heap.size + 1]? = some (.cells #[.int .i64 gx, .int .i64 gy] 39 (0, 0)) := by rw [hwJ]; exact blk_set (blk_set hQI 0 _) 1 _
      have hPJ : wJ.heap[wF.heap.size]? = some (.cells #[.int .i64 fx, .int .i64 fy] 39 (0, 0)) := by rw [hwJ]; exact blk_far (blk_far hPI _ 0 _ (by omega)) _ 1 _ (by omega)
      have hBJ : Below wF.heap.size wF wJ := by rw [hwJ]; exact Bl.set (Bl.set hBI _ 0 (Nat.le_succ _) _) _ 1 (Nat.le_succ _) _
      have HJ := Lib.hid (And.intro hPJ (And.intro hQJ hBJ))
      have HB6J := Lib.hid (Bl.trans HBF.out hBJ)
      have HCI := Lib.hid (HC.out _ (Bl.trans HBF.out hBI))
      have lrI := HLT.out _ (Bl.trans HBF.out hBI)
      have hBd := Below.drew (Below.refl wJ.heap.size wJ)
      obtain ⟨d0, d1⟩ := HC.out _ HB6J.out
      have lrJ := HLT.out _ HB6J.out
      clear hPI hQI hbI hBI hPJ hQJ hBJ
      go_wp2_with fail
      rw [← hwJ]
      clear hwJ m0 m1 n0 n1
      go_region_with (first
        | (go_at_call 20; first
          | (refine (HLT1.out _ (Bl.trans HB6J.out hBo2)).mono ?_; rintro e wP ⟨⟨u1, rfl, hu1⟩, hbb1⟩; obtain ⟨ua1, un1, uc1, rfl⟩ : ∃ a n c, u1 = .slice a n c := (by obtain ⟨a, c, hv, _, _⟩ := hu1.form; exact ⟨a, _, c, hv⟩); have HU1 := Lib.hid hu1.rec0; have HV2 := Lib.hid (And.intro HU2.out.1 (HU2.out.2.below hbb1)); have hBe := Bl.trans hBo2 hbb1; clear hu1 hbb1)
          | (refine (HLT1.out _ (Bl.trans HB6J.out hBd)).mono ?_; rintro e wP ⟨⟨u1, rfl, hu1⟩, hbb1⟩; obtain ⟨ua1, un1, uc1, rfl⟩ : ∃ a n c, u1 = .slice a n c := (by obtain ⟨a, c, hv, _, _⟩ := hu1.form; exact ⟨a, _, c, hv⟩); have HU1 := Lib.hid hu1.rec0; have hBo1 := Bl.trans hBd hbb1; obtain ⟨k0, k1⟩ := HC.out _ (Bl.trans HB6J.out hBo1); have lrk := HLT.out _ (Bl.trans HB6J.out hBo1); clear hu1 hbb1))
        | (go_at_call 21; first
          | (refine (HWT1.out _ (Bl.trans HB6J.out hBo1)).mono ?_; rintro e wQ ⟨⟨u2, l2, rfl, hw2, hu2⟩, hbb2⟩; obtain ⟨ua2, un2, uc2, rfl⟩ : ∃ a n c, u2 = .slice a n c := (by obtain ⟨a, c, hv, _, _⟩ := hu2.form; exact ⟨a, _, c, hv⟩); have HU2 := Lib.hid (And.intro hw2 hu2.rec0); have HV1 := Lib.hid (HU1.out.below hbb2); have hBe := Bl.trans hBo1 hbb2; clear hu2 hbb2 hw2)
          | (refine (HWT1.out _ (Bl.trans HB6J.out hBd)).mono ?_; rintro e wQ ⟨⟨u2, l2, rfl, hw2, hu2⟩, hbb2⟩; obtain ⟨ua2, un2, uc2, rfl⟩ : ∃ a n c, u2 = .slice a n c := (by obtain ⟨a, c, hv, _, _⟩ := hu2.form; exact ⟨a, _, c, hv⟩); have HU2 := Lib.hid (And.intro hw2 hu2.rec0); have hBo2 := Bl.trans hBd hbb2; obtain ⟨k0, k1⟩ := HC.out _ (Bl.trans HB6J.out hBo2); have lrk := HLT.out _ (Bl.trans HB6J.out hBo2); clear hu2 hbb2 hw2)))
      all_goals (
        have HW2 : Hid (l2.map prOf = ks) := Lib.hid (by rw [Wst.uniq HU2.out.1 HWL.out.1, ← HKS.out])
        have HE := Lib.hid (And.intro (HJ.out.2.2.trans (hBe.mono HJ.out.2.2.size)) (And.intro (blk_below HJ.out.1 hBe) (blk_below HJ.out.2.1 hBe)))
        go_wp2
        go_meet
        case rel => first
          | exact ⟨_, _, _, _, _, _, rfl, rfl, rfl, rfl, Lib.hid ⟨HE.out.1, HE.out.2.1, HE.out.2.2, HU1.out, by rw [← HW2.out]; exact HV2.out.2⟩⟩
          | exact ⟨_, _, _, _, _, _, rfl, rfl, rfl, rfl, Lib.hid ⟨HE.out.1, HE.out.2.1, HE.out.2.2, HV1.out, by rw [← HW2.out]; exact HU2.out.2⟩⟩)
    · have hfp : fpA rh rr x = ([], 0) := if_neg (by rw [← HF.out]; exact h0)
      have hfi : finA rh rr x = (0, 0) := if_neg (by rw [← HF.out]; exact h0)
      have hlp : lpsA rh rr x = [] := if_neg (by rw [← HF.out]; exact h0)
      have hwo : worA rh rr x = [] := if_neg (by rw [← HF.out]; exact h0)
      have h1 := HFV.out
      have h2 := HGV.out
      rw [hfp] at h1
      rw [hfi] at h2
      have e1 : fx = 0 ∧ fy = 0 := by
        have h := h1.1
        unfold frcV at h
        simp at h
        exact ⟨h.1.symm, h.2.symm⟩
      have e2 : gx = 0 ∧ gy = 0 := by
        have h := h2.1
        unfold frcV at h
        simp at h
        exact ⟨h.1.symm, h.2.symm⟩
      have hls : ls = [] := by rw [HLS.out, hlp]; rfl
      have hks : ks = [] := by
        have h := HWL.out.1.1
        rw [hwo] at h
        rw [HKS.out, List.Perm.eq_nil h]; rfl
      have HREL : Hid (fb = false ∧ gb = false ∧ Below wF.heap.size wF w0 ∧ w0.heap[wF.heap.size]? = some (.cells #[.int .i64 fx, .int .i64 fy] 39 (0, 0)) ∧ w0.heap[wF.heap.size + 1]? = some (.cells #[.int .i64 gx, .int .i64 gy] 39 (0, 0)) ∧ RecR TPr w0 0 (.slice none 0 0) ls ∧ RecR TPr w0 0 (.slice none 0 0) ks) := Lib.hid ⟨by rw [h1.2]; rfl, by rw [h2.2]; rfl, HW0.out.1, by rw [e1.1, e1.2]; exact HW0.out.2.1, by rw [e2.1, e2.2]; exact HW0.out.2.2, by rw [hls]; exact RecR.nil _ _, by rw [hks]; exact RecR.nil _ _⟩
      clear hfp hfi hlp hwo h1 h2 e1 e2 hls hks
      go_wp2
      go_meet
      case rel => exact ⟨none, 0, 0, none, 0, 0, rfl, rfl, by rw [HREL.out.1], by rw [HREL.out.2.1], Lib.hid HREL.out.2.2⟩
  case rest =>
    obtain ⟨a1, n1, cc1, a2, n2, cc2, rfl, rfl, rfl, rfl, HR⟩ := hcut
    generalize wc = wZ at *
    have hBZ := Bl.trans HBF.out HR.out.1
    have HBZ := Lib.hid hBZ
    have e1 := blk_below HXF.out.1 HR.out.1
    have e2 := blk_below HXF.out.2 HR.out.1
    have lE1 := blk_lt e1
    have lE2 := blk_lt e2
    have lP := blk_lt HR.out.2.1
    have lQ := blk_lt HR.out.2.2.1
    have p0 : wZ.cell? ⟨wA.heap.size, 0, none⟩ = some (.int .i64 fx) := blk_cell e1 0
    have p1 : wZ.cell? ⟨wA.heap.size, 1, none⟩ = some (.int .i64 fy) := blk_cell e1 1
    have p2 : wZ.cell? ⟨wC.heap.size, 0, none⟩ = some (.int .i64 gx) := blk_cell e2 0
    have p3 : wZ.cell? ⟨wC.heap.size, 1, none⟩ = some (.int .i64 gy) := blk_cell e2 1
    have p4 : wZ.cell? ⟨wF.heap.size, 0, none⟩ = some (.int .i64 fx) := blk_cell HR.out.2.1 0
    have p5 : wZ.cell? ⟨wF.heap.size, 1, none⟩ = some (.int .i64 fy) := blk_cell HR.out.2.1 1
    have p6 : wZ.cell? ⟨wF.heap.size + 1, 0, none⟩ = some (.int .i64 gx) := blk_cell HR.out.2.2.1 0
    have p7 : wZ.cell? ⟨wF.heap.size + 1, 1, none⟩ = some (.int .i64 gy) := blk_cell HR.out.2.2.1 1
    have hln : ls.length ≤ 1000000 := by
      rw [HLS.out, List.length_map]
      unfold lpsA
      split
      · have h1 := lpL_len (runS rh rr 345686400000 [] x)
        have h2 := (run_small (rh := rh) (rr := rr) (at' := 345686400000) (fltF_zero (by assumption)).2).1
        omega
      · exact Nat.zero_le _
    have hkn : ks.length ≤ 1000000 := by
      rw [HKS.out, List.length_map, HWL.out.1.1.length_eq]
      unfold worA
      split
      · have := HFC.out; omega
      · exact Nat.zero_le _
    have q1 := neqFr_no fx fy
    have q2 := neqFr_no gx gy
    have HEQ1 := EqualPr_any ls ls (.slice la ls.length lc) (.slice a1 n1 cc1) wZ hln hln (HRF.out.1.below HR.out.1) HR.out.2.2.2.1
    rw [decide_eq_true rfl] at HEQ1
    have HEQ1 := Lib.hid HEQ1
    have HEQ2 := Lib.hid fun U (hU : Below wZ.heap.size wZ U) => by
      have h := EqualPr_any ks ks (.slice ka ks.length kc) (.slice a2 n2 cc2) U hkn hkn ((HRF.out.2.below HR.out.1).below hU) (HR.out.2.2.2.2.below hU)
      rw [decide_eq_true rfl] at h
      exact h
    clear hBZ e1 e2 hln hkn
    go_wp2_with fail
    refine HEQ1.out.mono ?_
    rintro e wY ⟨rfl, hbY⟩
    have HBY := Lib.hid hbY
    have HEQ3 := Lib.hid (HEQ2.out wY hbY)
    clear hbY
    go_wp2_with fail
    refine HEQ3.out.mono ?_
    rintro e wX ⟨rfl, hbX⟩
    have HBX := Lib.hid (HBZ.out.trans ((HBY.out.trans (hbX.mono HBY.out.size)).mono HBZ.out.size))
    clear hbX
    have HRW := Lib.hid (HW6.out.below HBX.out)
    by_cases h0 : wkF ws m = 0
    · have hg := wkF_good h0
      have HCH := Lib.hid (ChooseE_any ws m (.slice wa ws.length wcap) wX hg.1 hg.2.1 hg.2.2 HWS.out HRW.out)
      have HCF := Lib.hid fun U (hU : Below wX.heap.size wX U) => ChooseF_any ws m (.slice wa ws.length wcap) U (by omega) HWS.out (HRW.out.below hU)
      have HCN := Lib.hid fun U (hU : Below wX.heap.size wX U) => Chosen_any ws m (.slice wa ws.length wcap) U hg.1 hg.2.1 hg.2.2 (HRW.out.below hU)
      rw [h0] at HCF
      clear hg h0
      go_wp2_with fail
      refine HCH.out.mono ?_
      rintro e wU ⟨⟨s, vr, rfl, hvr, hs⟩, hbU⟩
      obtain rfl : s = pickF ws m (2 ^ ws.length) := hs
      have HVR := Lib.hid (own_tn hvr).rec0
      have hbu2 := hbU
      have HCF2 := Lib.hid (HCF.out wU hbU)
      obtain ⟨S, hS⟩ : ∃ S, S = nats (setL (pickF ws m (2 ^ ws.length)) ws.length) := ⟨_, rfl⟩
      obtain ⟨V, hV⟩ : ∃ V, V = sumO (wkV ws) (setL (pickF ws m (2 ^ ws.length)) ws.length) := ⟨_, rfl⟩
      have hSl : S.length ≤ 1000000 := by
        rw [hS, nats_len]
        have h1 := setL_len (pickF ws m (2 ^ ws.length)) ws.length
        omega
      rw [← hS] at HVR HCN
      rw [← hV] at HCN ⊢
      obtain ⟨ra, rn, rc, rfl⟩ : ∃ a n c, vr = .slice a n c := by obtain ⟨a, c, hv, _, _⟩ := HVR.out.form; exact ⟨a, _, c, hv⟩
      have HBU := Lib.hid hbU
      clear hvr hbU hbu2 hS hV
      go_wp2_with fail
      refine HCF2.out.mono ?_
      rintro e wV ⟨rfl, hbV⟩
      have HBV := Lib.hid (Bl.trans HBU.out hbV)
      have HVR2 := Lib.hid (HVR.out.below hbV)
      have HCN2 := Lib.hid (HCN.out wV HBV.out)
      clear hbV
      go_wp2_with fail
      refine HCN2.out.mono ?_
      rintro e wT ⟨⟨vt, rfl, hvt⟩, hbT⟩
      have HVT := Lib.hid (own_tn hvt).rec0
      obtain ⟨ta, tn, tc, rfl⟩ : ∃ a n c, vt = .slice a n c := by obtain ⟨a, c, hv, _, _⟩ := HVT.out.form; exact ⟨a, _, c, hv⟩
      have HEN := EqN_any S S (.slice ra rn rc) (.slice ta tn tc) wT hSl hSl (HVR2.out.below hbT) HVT.out
      rw [decide_eq_true rfl] at HEN
      have HEN := Lib.hid HEN
      have HBT := Lib.hid (Bl.trans HBV.out hbT)
      clear hvt hbT
      go_wp2_with fail
      refine HEN.out.mono ?_
      rintro e wR ⟨rfl, hbR⟩
      have HBR := Lib.hid (Bl.trans HBT.out hbR)
      clear hbR
      go_wp2_with fail
      refine (reworked_any wR).mono ?_
      rintro e wS ⟨rfl, hbS⟩
      have HBS := Lib.hid (Bl.trans HBR.out hbS)
      have HFIN := Lib.hid (HB6.out.trans ((HBX.out.trans (HBS.out.mono HBX.out.size)).mono HB6.out.size))
      clear hbS
      go_wp2
      go_ret
      exact ⟨rfl, HFIN.out⟩
    · have HCH := Lib.hid (ChooseBad_any ws m (.slice wa ws.length wcap) wX (by omega) HWS.out HRW.out h0)
      have HCF := Lib.hid fun U (hU : Below wX.heap.size wX U) => ChooseF_any ws m (.slice wa ws.length wcap) U (by omega) HWS.out (HRW.out.below hU)
      have hne : (wkF ws m == 0) = false := by simpa using h0
      generalize wkF ws m = K at *
      go_wp2_with fail
      refine HCH.out.mono ?_
      rintro e wU ⟨rfl, hbU⟩
      have HBU := Lib.hid hbU
      have HCF2 := Lib.hid (HCF.out wU hbU)
      clear hbU
      go_wp2_with fail
      refine HCF2.out.mono ?_
      rintro e wV ⟨rfl, hbV⟩
      have HBV := Lib.hid (Bl.trans HBU.out hbV)
      clear hbV
      go_wp2_with fail
      refine (reworked_any wV).mono ?_
      rintro e wS ⟨rfl, hbS⟩
      have HBS := Lib.hid (Bl.trans HBV.out hbS)
      have HFIN := Lib.hid (HB6.out.trans ((HBX.out.trans (HBS.out.mono HBX.out.size)).mono HB6.out.size))
      clear hbS
      go_wp2
      go_ret
      exact ⟨rfl, HFIN.out⟩
end Go.Proofs.YtbkglhakhahfpaaGreatDoor
