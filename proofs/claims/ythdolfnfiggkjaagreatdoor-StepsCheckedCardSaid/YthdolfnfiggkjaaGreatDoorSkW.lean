/- The walk of the law StepsChecked: whatever the input: true. Condition: what lies in the library's variables. -/
import Derived.Test.YthdolfnfiggkjaaGreatDoorRfu
import Derived.Test.YthdolfnfiggkjaaGreatDoorRt
import Derived.Test.YthdolfnfiggkjaaGreatDoorRwk
import Derived.Test.YthdolfnfiggkjaaGreatDoorRrs
import Derived.Test.YthdolfnfiggkjaaGreatDoorSss
import Derived.Test.YthdolfnfiggkjaaGreatDoorEqs
import Derived.Test.YthdolfnfiggkjaaGreatDoorStart
namespace Go.Proofs.YthdolfnfiggkjaaGreatDoor
open Go.RowKit Go.Sort Go.Maps

theorem orF_flt (rh rr : Int) (x : List Stp) : orF [rulesF rh rr, stepsF x] = fltF rh rr x := by
  unfold fltF
  simp only [orF]
  by_cases h : rulesF rh rr = 0
  · by_cases h2 : stepsF x = 0
    · simp [h, h2]
    · simp [h, h2]
  · simp [h]
theorem bs_ne_empty {t : ByteArray} (h : bsOf t = []) : t = ⟨#[]⟩ := bsOf_inj h
theorem stepsRead_len (t : Bs) : (stepsRead t).1.length ≤ 5000 := by
  unfold stepsRead
  split
  · exact Nat.zero_le _
  · cases readS rdS 0 (splitL 10 t) with
    | error i => exact Nat.zero_le _
    | ok l =>
      show (if stepsF l = 0 then ((l, 0, 0) : List Stp × Int × Int) else ([], 0, stepsF l)).1.length ≤ 5000
      split
      · rename_i h; exact stepsF_len h
      · exact Nat.zero_le _
theorem EqualSt_self (l : List (Int × ByteArray × Int × ByteArray)) (v u : Value) (w : World) (hl : l.length ≤ 1000000) (rl : RecR TSt w 0 v l) (rm : RecR TSt w 0 u l) :
    Calls Tryz.prog 22 #[v, u] w fun e w' => e = .returned (.bool true) ∧ Below w.heap.size w w' := by
  have h := EqualSt_any l l v u w hl hl rl rm
  rw [decide_eq_true rfl] at h
  exact h
theorem EqN_self (l : List Int) (v u : Value) (w : World) (hl : l.length ≤ 1000000) (rl : RecR TN w 0 v l) (rm : RecR TN w 0 u l) :
    Calls Tryz.prog 15 #[v, u] w fun e w' => e = .returned (.bool true) ∧ Below w.heap.size w w' := by
  have h := EqN_any l l v u w hl hl rl rm
  rw [decide_eq_true rfl] at h
  exact h
theorem EqE_self (l : List Int) (v u : Value) (w : World) (hl : l.length ≤ 1000000) (rl : RecR TE w 0 v l) (rm : RecR TE w 0 u l) :
    Calls Tryz.prog 16 #[v, u] w fun e w' => e = .returned (.bool true) ∧ Below w.heap.size w w' := by
  have h := EqE_any l l v u w hl hl rl rm
  rw [decide_eq_true rfl] at h
  exact h
set_option maxHeartbeats 8000000 in
set_option maxRecDepth 100000 in
theorem StepsChecked_any (l : List Int) (v : Value) (w : World) (rl : Ints w 0 v l) (hl : ∀ x ∈ l, -9223372036854775808 ≤ x ∧ x ≤ 9223372036854775807) (hT : TxW w) :
    Calls Tryz.prog 3 #[v] w fun e w' => e = .returned (.bool true) ∧ Below w.heap.size w w' := by
  obtain ⟨va, cap, rfl, hc1, hc2⟩ := Ints.form rl
  have hs0 := Str.begin rl hl
  have hb0 := Bl.alloc (Below.refl w.heap.size w) (.cells #[.slice va l.length cap, .int .i64 0] 25)
  obtain ⟨hg1, hg2⟩ := hT.size
  have HT := Lib.hid hT
  clear rl hl hT
  go_enter Tryz.func3, Tryz.ntmps3
  go_wp2_with fail
  refine (RulesOf_any _ 0 _ hs0 (by omega)).mono ?_
  rintro e w1 ⟨rh, rr, rfl, hrh, hrr, hs1, hG1⟩
  have hb1 := Below.trans hb0 (Gr.below hG1 (Nat.le_refl _) hb0.size)
  have hz1 := hb1.size
  clear hs0 hb0 hG1
  go_wp2_with fail
  refine (StepList_any _ _ _ hs1 (by omega)).mono ?_
  rintro e w2 ⟨vx, x, rfl, hO2, hx24, hxok, hs2, hG2⟩
  have hb2 := Below.trans hb1 (Gr.below hG2 (Nat.le_refl _) hz1)
  have hz2 := hb2.size
  obtain ⟨xa, xcap, rfl, _, _⟩ := hO2.form
  obtain ⟨w3, hw3⟩ : ∃ w3, w3 = w2.alloc (.cells #[.int .i64 rh, .int .i64 rr] 27) := ⟨_, rfl⟩
  have hbA : Below w2.heap.size w2 w3 := by rw [hw3]; exact Bl.alloc (Below.refl _ _) _
  have HX3 := Lib.hid (show w3.heap[w2.heap.size]? = some (.cells #[.int .i64 rh, .int .i64 rr] 27 (0, 0)) by rw [hw3]; exact blk_new w2 _)
  have hz3 := hbA.size
  have HB3 := Lib.hid (Bl.trans hb2 hbA)
  have HO3 := Lib.hid (hO2.rec0.below hbA)
  have HS3 := Lib.hid (hs2.below hbA)
  have HZ := Lib.hid (StpOk.z hxok)
  obtain ⟨f1, hf1⟩ : ∃ f, f = rulesF rh rr := ⟨_, rfl⟩
  obtain ⟨f2, hf2⟩ : ∃ f, f = stepsF x := ⟨_, rfl⟩
  obtain ⟨F, hF⟩ : ∃ f, f = fltF rh rr x := ⟨_, rfl⟩
  have HFF : Hid (F = if f1 = 0 then f2 else f1) := Lib.hid (by rw [hF, hf1, hf2]; rfl)
  have HF := Lib.hid (And.intro hf1 (And.intro hf2 hF))
  have c0 : w3.cell? ⟨w2.heap.size, 0, none⟩ = some (.int .i64 rh) := blk_cell HX3.out 0
  have c1 : w3.cell? ⟨w2.heap.size, 1, none⟩ = some (.int .i64 rr) := blk_cell HX3.out 1
  have lx3 := blk_lt HX3.out
  clear hb1 hb2 hG2 hs1 hs2 hO2 hbA hxok hf1 hf2 hF
  go_wp2_with fail
  rw [← hw3]
  clear hw3
  have H1 := RRulesFault_any rh rr w3
  rw [← HF.out.1] at H1
  refine H1.mono ?_
  rintro e w4 ⟨rfl, hb4⟩
  have H2 := StepsFault_any x (.slice xa x.length xcap) w4 (by omega) (HO3.out.below hb4) HZ.out
  rw [← HF.out.2.1] at H2
  have H2 := Lib.hid H2
  clear H1 c0 c1
  go_wp2_with fail
  refine H2.out.mono ?_
  rintro e w5 ⟨rfl, hb5⟩
  have HB5 := Lib.hid (Bl.trans hb4 hb5)
  have c0 : w5.cell? ⟨w2.heap.size, 0, none⟩ = some (.int .i64 rh) := blk_cell (blk_below HX3.out HB5.out) 0
  have c1 : w5.cell? ⟨w2.heap.size, 1, none⟩ = some (.int .i64 rr) := blk_cell (blk_below HX3.out HB5.out) 1
  have H1 := CheckRules_any rh rr w5
  rw [← HF.out.1] at H1
  have H1 := Lib.hid H1
  clear hb4 hb5 H2
  go_wp2_with fail
  refine H1.out.mono ?_
  rintro e w6 ⟨rfl, hb6⟩
  have HB6 := Lib.hid (Below.trans HB5.out (hb6.mono HB5.out.size))
  have H2 := CheckSteps_any x (.slice xa x.length xcap) w6 (by omega) (HO3.out.below HB6.out) HZ.out
  rw [← HF.out.2.1] at H2
  have H2 := Lib.hid H2
  clear hb6 H1 c0 c1
  go_wp2_with fail
  refine H2.out.mono ?_
  rintro e w7 ⟨rfl, hb7⟩
  have HB7 := Lib.hid (Below.trans HB6.out (hb7.mono HB6.out.size))
  have c0 : w7.cell? ⟨w2.heap.size, 0, none⟩ = some (.int .i64 rh) := blk_cell (blk_below HX3.out HB7.out) 0
  have c1 : w7.cell? ⟨w2.heap.size, 1, none⟩ = some (.int .i64 rr) := blk_cell (blk_below HX3.out HB7.out) 1
  have lx7 := blk_lt (blk_below HX3.out HB7.out)
  have H3 := Refused_any rh rr x (.slice xa x.length xcap) w7 (by omega) (HO3.out.below HB7.out) HZ.out
  rw [← HF.out.2.2] at H3
  have H3 := Lib.hid H3
  clear hb7 H2
  go_wp2_with fail
  refine H3.out.mono ?_
  rintro e w8 ⟨ov, wv, rfl, ho8, hv8, hb8⟩
  obtain ⟨oa, on, oc, rfl⟩ : ∃ a n c, ov = .slice a n c := (by obtain ⟨a, c, h, _, _⟩ := ho8.form; exact ⟨a, _, c, h⟩)
  obtain ⟨ya, yn, yc, rfl⟩ : ∃ a n c, wv = .slice a n c := (by obtain ⟨a, c, h, _, _⟩ := hv8.form; exact ⟨a, _, c, h⟩)
  have HB8 := Lib.hid (Below.trans HB7.out (hb8.mono HB7.out.size))
  have HOW := Lib.hid (And.intro ho8.rec0 hv8.rec0)
  have HOR : Hid (∀ (U : World) (g : Nat), U.heap[g]? = some (.cells #[.int .i64 f1, .int .i64 f2] 31 (0, 0)) → Calls Tryz.prog 13 #[.slice (some ⟨g, 0, none⟩) 2 2] U fun e w' => e = .returned (.int .i64 F) ∧ w' = U) := Lib.hid fun U g hg => by
    have h := OrErrno_any [f1, f2] (.slice (some ⟨g, 0, none⟩) 2 2) U (by simp) (Ints.of_blk hg rfl rfl (Nat.le_refl _) (by omega) (Nat.zero_le _))
    rw [show orF [f1, f2] = F by rw [HF.out.1, HF.out.2.1, orF_flt, HF.out.2.2]] at h
    exact h
  clear ho8 hv8 hb8 H3 c0 c1
  go_wp2_with fail
  refine (HOR.out _ _ (blk_new w8 _)).mono ?_
  rintro e w9 ⟨rfl, rfl⟩
  obtain ⟨w9, hw9⟩ : ∃ w9, w9 = w8.alloc (.cells #[.int .i64 f1, .int .i64 f2] 31) := ⟨_, rfl⟩
  have hb9 : Below w8.heap.size w8 w9 := by rw [hw9]; exact Bl.alloc (Below.refl _ _) _
  have HB9 := Lib.hid (Below.trans HB8.out (hb9.mono HB8.out.size))
  have HOW9 := Lib.hid (And.intro (HOW.out.1.below hb9) (HOW.out.2.below hb9))
  have lx9 := blk_lt (blk_below HX3.out HB9.out)
  have c0 : w9.cell? ⟨w2.heap.size, 0, none⟩ = some (.int .i64 rh) := blk_cell (blk_below HX3.out HB9.out) 0
  have c1 : w9.cell? ⟨w2.heap.size, 1, none⟩ = some (.int .i64 rr) := blk_cell (blk_below HX3.out HB9.out) 1
  rw [← hw9]
  clear hb9 HOW HB8 HB7 HB6 HB5 HOR hw9
  obtain ⟨LR, hLR⟩ : ∃ L, L = rfsL rh rr x := ⟨_, rfl⟩
  rw [← hLR] at HOW9
  have HLR := Lib.hid hLR
  have hlr : LR.length ≤ 24 := by rw [hLR]; have := rfsL_len rh rr x; omega
  clear hLR
  by_cases h0 : F = 0
  case' pos =>
    subst h0
    have h1 : f1 = 0 ∧ f2 = 0 := by
      have h := HFF.out
      by_cases h3 : f1 = 0
      · rw [if_pos h3] at h; exact ⟨h3, h.symm⟩
      · rw [if_neg h3] at h; exact absurd h.symm h3
    obtain ⟨rfl, rfl⟩ := h1
    have HRS0 := RefusedSteps_any rh rr x (.slice xa x.length xcap) w9 (HO3.out.below HB9.out) HF.out.2.1.symm
    rw [show refL rh rr 0 [] x = LR by rw [HLR.out]; unfold rfsL; rw [if_pos HF.out.2.2.symm]] at HRS0
    have HRS := Lib.hid HRS0
    clear HRS0
    go_wp2_with fail
    refine HRS.out.mono ?_
    rintro e wA ⟨rv, re, rfl, hrv, hre, hbA⟩
    obtain ⟨ra, rn, rc, rfl⟩ : ∃ a n c, rv = .slice a n c := (by obtain ⟨a, c, h, _, _⟩ := hrv.form; exact ⟨a, _, c, h⟩)
    obtain ⟨ea, en, ec, rfl⟩ : ∃ a n c, re = .slice a n c := (by obtain ⟨a, c, h, _, _⟩ := hre.form; exact ⟨a, _, c, h⟩)
    have HBA := Lib.hid (Below.trans HB9.out (hbA.mono HB9.out.size))
    have HEN := Lib.hid (EqN_self (LR.map (·.1)) (.slice oa on oc) (.slice ra rn rc) wA (by rw [List.length_map]; omega) (HOW9.out.1.below hbA) hrv.rec0)
    have HEE := Lib.hid fun W (hW : Below wA.heap.size wA W) => EqE_self (LR.map (·.2)) (.slice ya yn yc) (.slice ea en ec) W (by rw [List.length_map]; omega) ((HOW9.out.2.below hbA).below hW) (hre.rec0.below hW)
    clear hrv hre hbA HRS
    go_wp2_with fail
    refine HEN.out.mono ?_
    rintro e wB ⟨rfl, hbB⟩
    have HC := Lib.hid (HEE.out wB hbB)
    have HBB := Lib.hid (Below.trans HBA.out (hbB.mono HBA.out.size))
    clear hbB HEE HEN
    go_wp2_with fail
    refine HC.out.mono ?_
    rintro e wC ⟨rfl, hbC⟩
    have HBC := Lib.hid (Below.trans HBB.out (hbC.mono HBB.out.size))
    have HTX0 := StText_any x (.slice xa x.length xcap) wC (HT.out.below (Bl.trans HB3.out HBC.out)) (by omega) (HO3.out.below HBC.out) HZ.out (fun h => by have := textS_len x (stepsF_W h); omega)
    rw [← HF.out.2.1] at HTX0
    have HTX := Lib.hid HTX0
    clear HTX0 hbC HC
    go_wp2_with fail
    refine HTX.out.mono ?_
    rintro e wD ⟨tx, rfl, htx, hbD⟩
    have HBD := Lib.hid (Below.trans HBC.out (hbD.mono HBC.out.size))
    have htl : bsOf tx = textL wrS x := by rw [htx]; unfold stTxt; rw [if_pos HF.out.2.1.symm]
    have HSL := Lib.hid (SLines_any x (.slice xa x.length xcap) wD (HT.out.below (Bl.trans HB3.out HBD.out)) (by omega) (HO3.out.below HBD.out) (stepsF_W HF.out.2.1.symm))
    have HTL := Lib.hid htl
    clear htx hbD htl HTX
    go_wp2_with fail
    refine HSL.out.mono ?_
    rintro e wE ⟨ty, rfl, hty, hbE⟩
    obtain rfl : ty = tx := bsOf_inj (hty.trans HTL.out.symm)
    have HBE := Lib.hid (Below.trans HBD.out (hbE.mono HBD.out.size))
    clear hty hbE HSL
  case' neg =>
    have hnil : LR = [] := by rw [HLR.out]; unfold rfsL; rw [if_neg (by rw [← HF.out.2.2]; exact h0)]
    subst hnil
    have HEN := Lib.hid (EqN_self [] (.slice oa on oc) (.slice none 0 0) w9 (by simp) HOW9.out.1 (RecR.nil _ _))
    have HEE := Lib.hid fun W (hW : Below w9.heap.size w9 W) => EqE_self [] (.slice ya yn yc) (.slice none 0 0) W (by simp) (HOW9.out.2.below hW) (RecR.nil _ _)
    go_wp2_with fail
    refine HEN.out.mono ?_
    rintro e wB ⟨rfl, hbB⟩
    have HC := Lib.hid (HEE.out wB hbB)
    have HBB := Lib.hid (Below.trans HB9.out (hbB.mono HB9.out.size))
    clear hbB HEE HEN
    go_wp2_with fail
    refine HC.out.mono ?_
    rintro e wC ⟨rfl, hbC⟩
    have HBC := Lib.hid (Below.trans HBB.out (hbC.mono HBB.out.size))
    have HTX0 := StText_any x (.slice xa x.length xcap) wC (HT.out.below (Bl.trans HB3.out HBC.out)) (by omega) (HO3.out.below HBC.out) HZ.out (fun h => by have := textS_len x (stepsF_W h); omega)
    rw [← HF.out.2.1] at HTX0
    have HTX := Lib.hid HTX0
    clear HTX0 hbC HC
    by_cases h2 : f2 = 0
    case' pos =>
      subst h2
      go_wp2_with fail
      refine HTX.out.mono ?_
      rintro e wD ⟨tx, rfl, htx, hbD⟩
      have HBD := Lib.hid (Below.trans HBC.out (hbD.mono HBC.out.size))
      have htl : bsOf tx = textL wrS x := by rw [htx]; unfold stTxt; rw [if_pos HF.out.2.1.symm]
      have HSL := Lib.hid (SLines_any x (.slice xa x.length xcap) wD (HT.out.below (Bl.trans HB3.out HBD.out)) (by omega) (HO3.out.below HBD.out) (stepsF_W HF.out.2.1.symm))
      have HTL := Lib.hid htl
      clear htx hbD htl HTX
      go_wp2_with fail
      refine HSL.out.mono ?_
      rintro e wE ⟨ty, rfl, hty, hbE⟩
      obtain rfl : ty = tx := bsOf_inj (hty.trans HTL.out.symm)
      have HBE := Lib.hid (Below.trans HBD.out (hbE.mono HBD.out.size))
      clear hty hbE HSL
    case' neg =>
      go_wp2_with fail
      refine HTX.out.mono ?_
      rintro e wE ⟨tx, rfl, htx, hbE⟩
      have HBE := Lib.hid (Below.trans HBC.out (hbE.mono HBC.out.size))
      have htl : tx = ⟨#[]⟩ := bs_ne_empty (by rw [htx]; unfold stTxt; rw [if_neg (by rw [← HF.out.2.1]; exact h2)])
      subst htl
      clear htx hbE HTX
  all_goals (
    have hBE := Bl.trans HB3.out HBE.out
    have hsE := HS3.out.below HBE.out
    have hzE := hBE.size
    have HST := Lib.hid (StepString_any w.heap.size _ wE hsE (HT.out.below hBE) hg1 hg2 (by omega))
    clear hsE
    go_wp2_with fail
    refine HST.out.mono ?_
    rintro e wF ⟨tt, rfl, hts, hsF, hGF⟩
    have hBF := Below.trans hBE (Gr.below hGF (Nat.le_refl _) hzE)
    have HR10 := StRead_any tt wF (HT.out.below hBF) (by omega)
    have HR20 := fun W (hW : Below wF.heap.size wF W) => RStRead_any tt W (HT.out.below (Bl.trans hBF hW)) (by omega)
    obtain ⟨Q, hQ⟩ : ∃ Q, Q = (stepsRead (bsOf tt)).1 := ⟨_, rfl⟩
    obtain ⟨i2, hi2⟩ : ∃ Q, Q = (stepsRead (bsOf tt)).2.1 := ⟨_, rfl⟩
    obtain ⟨g2, hg2⟩ : ∃ Q, Q = (stepsRead (bsOf tt)).2.2 := ⟨_, rfl⟩
    rw [← hQ, ← hi2, ← hg2] at HR10 HR20
    have hQl : Q.length ≤ 5000 := by rw [hQ]; exact stepsRead_len _
    have HR1 := Lib.hid HR10
    have HR2 := Lib.hid HR20
    have HBF := Lib.hid hBF
    clear hsF hGF hBF HR10 HR20 hQ hi2 hg2 HST hBE
    go_wp2_with fail
    refine HR1.out.mono ?_
    rintro e wG ⟨v1, rfl, hO1, hbG⟩
    obtain ⟨a1, n1, e1, rfl⟩ : ∃ a n c, v1 = .slice a n c := (by obtain ⟨a, c, h, _, _⟩ := hO1.form; exact ⟨a, _, c, h⟩)
    have HCG := Lib.hid (HR2.out wG hbG)
    have HO1 := Lib.hid hO1.rec0
    have HBG := Lib.hid (Bl.trans HBF.out hbG)
    clear hO1 hbG HR1 HR2
    go_wp2_with fail
    refine HCG.out.mono ?_
    rintro e wH ⟨v2, rfl, hO2, hbH⟩
    obtain ⟨a2, n2, e2, rfl⟩ : ∃ a n c, v2 = .slice a n c := (by obtain ⟨a, c, h, _, _⟩ := hO2.form; exact ⟨a, _, c, h⟩)
    have HEQ := Lib.hid (EqualSt_self Q (.slice a1 n1 e1) (.slice a2 n2 e2) wH (by omega) (HO1.out.below hbH) hO2.rec0)
    have HBH := Lib.hid (Bl.trans HBG.out hbH)
    clear hO2 hbH HCG
    go_wp2_with fail
    refine HEQ.out.mono ?_
    rintro e wI ⟨rfl, hbI⟩
    have HBI := Lib.hid (Bl.trans HBH.out hbI)
    clear hbI HEQ
    go_wp2_with fail
    refine (reworked_any wI).mono ?_
    rintro e wJ ⟨rfl, hbJ⟩
    have HBJ := Lib.hid (Bl.trans HBI.out hbJ)
    clear hbJ
    go_wp2
    go_ret
    exact ⟨rfl, HBJ.out⟩)
end Go.Proofs.YthdolfnfiggkjaaGreatDoor
