/- The walk of the law BoardsFollowed: whatever the input: true. No conditions. -/
import Derived.Test.YthdolfnfiggkjaaGreatDoorRbi
import Derived.Test.YthdolfnfiggkjaaGreatDoorRtm
import Derived.Test.YthdolfnfiggkjaaGreatDoorRt
import Derived.Test.YthdolfnfiggkjaaGreatDoorRwk
import Derived.Test.YthdolfnfiggkjaaGreatDoorStart
import Derived.Deep.RegionWith
namespace Go.Proofs.YthdolfnfiggkjaaGreatDoor
open Go.RowKit Go.Sort Go.Maps

set_option maxHeartbeats 1000000 in
theorem AClock_any (s : Nat) (c : Int) (w : World) (h : Str w s c) (hc : c ≤ 900000) :
    Calls Tryz.prog 25 #[.pointer (some ⟨s, 0, none⟩)] w fun e w' => ∃ r : Int, e = .returned (.int .i64 r) ∧ (-1 ≤ r ∧ r ≤ 345686400000) ∧ Str w' s (c + 2) ∧ w.grownBy w' (some s) := by
  have ls := h.lt
  go_enter Tryz.func25, Tryz.ntmps25
  go_wp2_with fail
  refine (Pick_any s c [-1, 345686400000, 345686399999] _ _ (h.alloc _) (by omega) (Ints.of_blk (blk_new _ _) rfl rfl (by simp) (by omega) ls) (by simp) (by simp)).mono ?_
  rintro e w1 ⟨a, rfl, ha, hS1, hG1⟩
  have ha1 : -1 ≤ a ∧ a ≤ 345686400000 := by simp only [List.mem_cons, List.not_mem_nil, or_false] at ha; omega
  have hG1' := Gr.trans (Gr.alloc (Gr.refl w (some s)) _) hG1
  clear hG1 ha
  go_wp2_with fail
  refine (Pick_any s (c + 1) [0, 1, 3, 8, 15, 30, 60, a] _ _ (hS1.alloc _) (by omega) (Ints.of_blk (blk_new _ _) rfl rfl (by simp) (by omega) hS1.lt) (by simp) (by simp)).mono ?_
  rintro e w2 ⟨b, rfl, hb, hS2, hG2⟩
  have hb1 : -1 ≤ b ∧ b ≤ 345686400000 := by simp only [List.mem_cons, List.not_mem_nil, or_false] at hb; omega
  have HF := Lib.hid (And.intro (hS2.mono (d := c + 2) (by omega)) (Gr.trans (Gr.alloc hG1' _) hG2))
  clear hG2 hG1' hb hS2 hS1
  go_wp2
  go_ret
  exact ⟨b, rfl, hb1, HF.out.1, HF.out.2⟩
theorem MomentFault_any (n : Int) (w : World) : Calls Tryz.prog 33 #[.int .i64 n] w fun e w' => e = .returned (.int .i64 (if momB n = true then 0 else 1)) ∧ w = w' := by
  have h : spanF n 0 345686399999 = if momB n = true then 0 else 1 := by
    unfold spanF momB inB
    by_cases h : 0 ≤ n ∧ n ≤ 345686399999
    · rw [if_pos h, if_pos (by simp [h.1, h.2])]
    · rw [if_neg h, if_neg (by simpa using h)]
  obtain ⟨q, hq⟩ : ∃ q, q = (if momB n = true then (0 : Int) else 1) := ⟨_, rfl⟩
  rw [← hq] at h ⊢
  clear hq
  go_enter Tryz.func33, Tryz.ntmps33
  go_wp2_with fail
  refine (SpanFault_any _ _ _ _).mono ?_
  rintro e w' ⟨rfl, rfl⟩
  rw [h]
  clear h
  go_wp2
  go_ret
  exact ⟨rfl, rfl⟩
theorem KeyFault_any (s : ByteArray) (w : World) (hs : s.size ≤ 140737488355328) : Calls Tryz.prog 32 #[.string s] w fun e w' => e = .returned (.int .i64 (if keyB s = true then 0 else 5)) ∧ Below w.heap.size w w' := by
  have H := Lib.hid (Key_any s w hs)
  generalize keyB s = k at *
  cases k
  all_goals (
    go_enter Tryz.func32, Tryz.ntmps32
    go_wp2_with fail
    refine H.out.mono ?_
    rintro e w' ⟨rfl, hb⟩
    go_wp2
    go_ret
    exact ⟨rfl, hb⟩)
theorem NoneFault_any (b : Bool) (w : World) : Calls Tryz.prog 37 #[.bool b] w fun e w' => e = .returned (.int .i64 (if b = true then 8 else 0)) ∧ w = w' := by
  cases b
  all_goals (
    go_enter Tryz.func37, Tryz.ntmps37
    go_wp2
    go_ret
    exact ⟨rfl, rfl⟩)
theorem when_any (b : Bool) (n : Int) (w : World) : Calls Tryz.prog 34 #[.bool b, .int .i64 n] w fun e w' => e = .returned (.int .i64 (if b = true then n else 0)) ∧ w = w' := by
  cases b
  all_goals (
    go_enter Tryz.func34, Tryz.ntmps34
    go_wp2
    go_ret
    exact ⟨rfl, rfl⟩)
theorem when_t (n : Int) (w : World) : Calls Tryz.prog 34 #[.bool true, .int .i64 n] w fun e w' => e = .returned (.int .i64 n) ∧ w = w' := when_any true n w
theorem when_f (n : Int) (w : World) : Calls Tryz.prog 34 #[.bool false, .int .i64 n] w fun e w' => e = .returned (.int .i64 0) ∧ w = w' := when_any false n w
theorem none_t (w : World) : Calls Tryz.prog 37 #[.bool true] w fun e w' => e = .returned (.int .i64 8) ∧ w = w' := NoneFault_any true w
theorem none_f (w : World) : Calls Tryz.prog 37 #[.bool false] w fun e w' => e = .returned (.int .i64 0) ∧ w = w' := NoneFault_any false w
theorem EqN_same (l : List Int) (v u : Value) (w : World) (hl : l.length ≤ 1000000) (rl : RecR TN w 0 v l) (rm : RecR TN w 0 u l) :
    Calls Tryz.prog 15 #[v, u] w fun e w' => e = .returned (.bool true) ∧ Below w.heap.size w w' := by
  have h := EqN_any l l v u w hl hl rl rm
  rw [decide_eq_true rfl] at h
  exact h
theorem inS_few {m : Sm Bd0} {n : Nat} (h : m.length ≤ n) (st : Int) : (inS m st).length ≤ n := by
  unfold inS
  rw [List.length_map]
  exact Nat.le_trans (List.length_filter_le _ _) h
theorem bsL_few (rh rr : Int) (l : List Stp) (at' st : Int) : ((bsL rh rr l at' st).map baOf).length ≤ 100000 := by
  rw [List.length_map]
  unfold bsL
  split
  · rename_i h
    have hm : mfltF rh rr l at' = 0 := by
      unfold bsF at h
      split at h
      · assumption
      · exact h
    exact inS_few (run_small (mfltF_zero hm).2.1).1 st
  · exact Nat.zero_le _
theorem waitL_few2 (rh rr : Int) (l : List Stp) (at' : Int) : ((waitL rh rr l at').map baOf).length ≤ 100000 := by
  rw [List.length_map]
  unfold waitL
  split
  · rename_i h
    rw [(sortW_perm _ _).length_eq]
    exact inS_few (run_small (mfltF_zero h).2.1).1 3
  · exact Nat.zero_le _
theorem hopL_few2 (rh rr : Int) (l : List Stp) (at' : Int) : ((hopL rh rr l at').map baOf).length ≤ 100000 := by
  rw [List.length_map]
  unfold hopL
  split
  · rename_i h
    exact Nat.le_trans (List.length_filter_le _ _) (inS_few (run_small (mfltF_zero h).2.1).1 3)
  · exact Nat.zero_le _
theorem cAt_few (rh rr : Int) (l : List Stp) (bs : ByteArray) (at' : Int) : (cAt rh rr l bs at').op.length ≤ 100000 := by
  unfold cAt
  split
  · rename_i h
    exact ((run_small (bfltF_zero h).2.1).get _).2.2.2.2.1
  · exact Nat.zero_le _
/-! the faults, as the law puts them together -/
theorem or_one (rh rr at' : Int) (l : List Stp) (b : ByteArray) : orF [fltF rh rr l, if keyB b = true then 0 else 5, if momB at' = true then 0 else 1] = bfltF rh rr l b at' := by
  unfold bfltF
  simp only [orF]
  by_cases h : fltF rh rr l = 0
  · cases keyB b <;> cases momB at' <;> simp [h]
  · simp [h]
theorem or_two (rh rr at' : Int) (l : List Stp) : orF [fltF rh rr l, if momB at' = true then 0 else 1] = mfltF rh rr l at' := by
  unfold mfltF
  simp only [orF]
  by_cases h : fltF rh rr l = 0
  · cases momB at' <;> simp [h]
  · simp [h]
theorem or_three (rh rr at' st : Int) (l : List Stp) : orF [mfltF rh rr l at', if (decide (st < 1) || decide (6 < st)) = true then 4 else 0] = bsF rh rr l at' st := by
  unfold bsF
  simp only [orF]
  by_cases h : mfltF rh rr l at' = 0
  · have e : (decide (st < 1) || decide (6 < st)) = !inB 1 st 6 := by
      unfold inB
      by_cases h1 : 1 ≤ st <;> by_cases h2 : st ≤ 6 <;> simp [h1, h2] <;> omega
    rw [e]
    cases inB 1 st 6 <;> simp [h]
  · simp [h]
theorem or_flt2 (rh rr : Int) (x : List Stp) : orF [rulesF rh rr, stepsF x] = fltF rh rr x := by
  unfold fltF
  simp only [orF]
  by_cases h : rulesF rh rr = 0
  · by_cases h2 : stepsF x = 0
    · simp [h, h2]
    · simp [h, h2]
  · simp [h]
set_option maxHeartbeats 8000000 in
set_option maxRecDepth 100000 in
theorem BoardsFollowed_any (l : List Int) (v : Value) (w : World) (rl : Ints w 0 v l) (hl : ∀ x ∈ l, -9223372036854775808 ≤ x ∧ x ≤ 9223372036854775807) :
    Calls Tryz.prog 4 #[v] w fun e w' => e = .returned (.bool true) ∧ Below w.heap.size w w' := by
  obtain ⟨va, cap, rfl, hc1, hc2⟩ := Ints.form rl
  have hs0 := Str.begin rl hl
  have hb0 := Bl.alloc (Below.refl w.heap.size w) (.cells #[.slice va l.length cap, .int .i64 0] 25)
  clear rl hl
  go_enter Tryz.func4, Tryz.ntmps4
  go_wp2_with fail
  refine (RulesOf_any _ 0 _ hs0 (by omega)).mono ?_
  rintro e w1 ⟨rh, rr, rfl, hrh, hrr, hs1, hG1⟩
  have hb1 := Below.trans hb0 (Gr.below hG1 (Nat.le_refl _) hb0.size)
  have hz1 := hb1.size
  clear hs0 hb0 hG1
  go_wp2_with fail
  refine (StepList_any _ _ _ hs1 (by omega)).mono ?_
  rintro e w2 ⟨vx, x, rfl, hO2, hx24, hxok, hs2, hG2⟩
  have hl1 := hs1.lt
  have hb2 := Below.trans hb1 (Gr.below hG2 (Nat.le_refl _) hz1)
  have hz2 := hb2.size
  obtain ⟨xa, xcap, rfl, _, _⟩ := hO2.form
  have HZ := Lib.hid (StpOk.z hxok)
  clear hb1 hG2 hs1 hxok
  go_wp2_with fail
  refine (Some_any _ _ [⟨#[117, 49]⟩, ⟨#[117, 50]⟩, ⟨#[117, 51]⟩, ⟨#[117, 57]⟩, ⟨#[]⟩] (.slice (some ⟨w2.heap.size, 0, none⟩) 5 5) _ (hs2.alloc _) (by omega) (RecR.of_blk (T := TS) (blk_new _ _) rfl rfl (by simp) (by omega) hs2.lt) (by simp) (by simp)).mono ?_
  rintro e w3 ⟨bd, rfl, hbd, hs3, hG3⟩
  have hbsz : bd.size ≤ 1000 := by
    simp only [List.mem_cons, List.not_mem_nil, or_false] at hbd
    rcases hbd with rfl | rfl | rfl | rfl | rfl
    all_goals decide
  have hG3' := Gr.trans (Gr.alloc (Gr.refl w2 (some w.heap.size)) _) hG3
  have hb3 := Below.trans hb2 (Gr.below hG3' (Nat.le_refl _) hz2)
  have hO3 := hO2.grown hG3' (by omega)
  have hz3 := hb3.size
  clear hb2 hG3 hG3' hs2 hO2 hbd
  go_wp2_with fail
  refine (AClock_any _ _ _ hs3 (by omega)).mono ?_
  rintro e w4 ⟨at', rfl, hat, hs4, hG4⟩
  have hb4 := Below.trans hb3 (Gr.below hG4 (Nat.le_refl _) hz3)
  have hO4 := hO3.grown hG4 (by omega)
  have hz4 := hb4.size
  clear hb3 hG4 hs3 hO3
  go_wp2_with fail
  refine (Odd_any _ _ 1 6 _ hs4 (by omega) (by omega) (by omega) (by omega)).mono ?_
  rintro e w5 ⟨st, rfl, hst, hs5, hG5⟩
  have hb5 := Below.trans hb4 (Gr.below hG5 (Nat.le_refl _) hz4)
  have hO5 := hO4.grown hG5 (by omega)
  obtain ⟨w6, hw6⟩ : ∃ w6, w6 = w5.alloc (.cells #[.int .i64 rh, .int .i64 rr] 27) := ⟨_, rfl⟩
  have hbA : Below w5.heap.size w5 w6 := by rw [hw6]; exact Bl.alloc (Below.refl _ _) _
  have HX6 := Lib.hid (show w6.heap[w5.heap.size]? = some (.cells #[.int .i64 rh, .int .i64 rr] 27 (0, 0)) by rw [hw6]; exact blk_new w5 _)
  have HB6 := Lib.hid (Bl.trans hb5 hbA)
  have HO6 := Lib.hid (hO5.rec0.below hbA)
  have lx6 := blk_lt HX6.out
  have HC := Lib.hid fun (W : World) (hW : Below w6.heap.size w6 W) => And.intro (show W.cell? ⟨w5.heap.size, 0, none⟩ = some (.int .i64 rh) from blk_cell (blk_below HX6.out hW) 0) (show W.cell? ⟨w5.heap.size, 1, none⟩ = some (.int .i64 rr) from blk_cell (blk_below HX6.out hW) 1)
  have HLT := Lib.hid fun (W : World) (hW : Below w6.heap.size w6 W) => show w5.heap.size < W.heap.size from blk_lt (blk_below HX6.out hW)
  obtain ⟨F, hF⟩ : ∃ f, f = fltF rh rr x := ⟨_, rfl⟩
  have HF := Lib.hid hF
  obtain ⟨c0, c1⟩ := HC.out w6 (Below.refl _ _)
  clear hb4 hG5 hs4 hO4 hb5 hs5 hO5 hF hbA hz1 hz2 hz3 hz4 hl1
  go_wp2_with fail
  rw [← hw6]
  clear hw6
  refine (RRulesFault_any rh rr w6).mono ?_
  rintro e w7 ⟨rfl, hb7⟩
  have H2 := Lib.hid (StepsFault_any x (.slice xa x.length xcap) w7 (by omega) (HO6.out.below hb7) HZ.out)
  clear c0 c1
  go_wp2_with fail
  refine H2.out.mono ?_
  rintro e w8 ⟨rfl, hb8⟩
  have H3 := OrErrno_any [rulesF rh rr, stepsF x] (.slice (some ⟨w8.heap.size, 0, none⟩) 2 2) _ (by simp) (Ints.of_blk (blk_new w8 (.cells #[.int .i64 (rulesF rh rr), .int .i64 (stepsF x)] 31)) rfl rfl (Nat.le_refl _) (by omega) (Nat.zero_le _))
  rw [or_flt2, ← HF.out] at H3
  have H3 := Lib.hid H3
  have hb8' := Bl.alloc (Bl.trans hb7 hb8) (.cells #[.int .i64 (rulesF rh rr), .int .i64 (stepsF x)] 31)
  obtain ⟨c0, c1⟩ := HC.out _ hb8'
  have lr := HLT.out _ hb8'
  have HAT := Lib.hid (At_any rh rr x bd at' (.slice xa x.length xcap) _ (by omega) (HO6.out.below hb8') HZ.out (by omega))
  clear H2 hb7
  obtain ⟨cb, hcb⟩ : ∃ cb, cb = cAt rh rr x bd at' := ⟨_, rfl⟩
  obtain ⟨one, hone⟩ : ∃ q, q = bfltF rh rr x bd at' := ⟨_, rfl⟩
  rw [← hcb, ← hone] at HAT
  have HCB := Lib.hid hcb
  have HONE := Lib.hid hone
  clear hcb hone
  go_wp2_with fail
  refine H3.out.mono ?_
  rintro e w9 ⟨rfl, rfl⟩
  obtain ⟨w9, hw9⟩ : ∃ w9, w9 = w8.alloc (.cells #[.int .i64 (rulesF rh rr), .int .i64 (stepsF x)] 31) := ⟨_, rfl⟩
  rw [← hw9] at hb8' c0 c1 lr HAT ⊢
  have HB9 := Lib.hid hb8'
  clear H3 hb8 hb8' hw9
  go_wp2_with fail
  refine HAT.out.mono ?_
  rintro e wA ⟨⟨cv, rfl, hcv, _⟩, hbA⟩
  obtain ⟨ca, cn, cc, rfl⟩ : ∃ a n c, cv = .slice a n c := by obtain ⟨a, c, hv, _, _⟩ := hcv.form; exact ⟨a, _, c, hv⟩
  obtain ⟨wB, hwB⟩ : ∃ wB, wB = wA.alloc (.cells #[.int .i64 cb.st, .int .i64 cb.si, .int .i64 cb.he, .slice ca cn cc] 58) := ⟨_, rfl⟩
  have hbAB : Below wA.heap.size wA wB := by rw [hwB]; exact Bl.alloc (Below.refl _ _) _
  have HXB := Lib.hid (show wB.heap[wA.heap.size]? = some (.cells #[.int .i64 cb.st, .int .i64 cb.si, .int .i64 cb.he, .slice ca cn cc] 58 (0, 0)) by rw [hwB]; exact blk_new wA _)
  have HRC := Lib.hid (hcv.rec0.below hbAB)
  have HBB := Lib.hid (Bl.trans HB9.out (Bl.trans hbA hbAB))
  clear c0 c1 lr
  obtain ⟨c0, c1⟩ := HC.out wA (Bl.trans HB9.out hbA)
  have lr := HLT.out wA (Bl.trans HB9.out hbA)
  have HBO := Boards_any rh rr x at' st (.slice xa x.length xcap) wB (by omega) (HO6.out.below HBB.out) HZ.out
  obtain ⟨three, hthree⟩ : ∃ q, q = bsF rh rr x at' st := ⟨_, rfl⟩
  rw [← hthree] at HBO
  have HTH := Lib.hid hthree
  have HBO := Lib.hid HBO
  clear hcv hbA hbAB HAT hthree
  unfold condV
  go_wp2_with fail
  rw [← hwB]
  clear hwB
  refine HBO.out.mono ?_
  rintro e wC ⟨⟨bv, rfl, hbv⟩, hbC⟩
  obtain ⟨ba, bn, bc, rfl⟩ : ∃ a n c, bv = .slice a n c := by obtain ⟨a, c, hv, _, _⟩ := hbv.form; exact ⟨a, _, c, hv⟩
  have HBC := Lib.hid (Bl.trans HBB.out hbC)
  have HRB := Lib.hid hbv.rec0
  have HCC := Lib.hid (And.intro (blk_below HXB.out hbC) (HRC.out.below hbC))
  clear c0 c1 lr
  obtain ⟨c0, c1⟩ := HC.out _ HBC.out
  have HWA := Waiting_any rh rr x at' (.slice xa x.length xcap) wC (by omega) (HO6.out.below HBC.out) HZ.out
  obtain ⟨two, htwo⟩ : ∃ q, q = mfltF rh rr x at' := ⟨_, rfl⟩
  rw [← htwo] at HWA
  have HTW := Lib.hid htwo
  have HWA := Lib.hid HWA
  have lr := HLT.out _ HBC.out
  clear hbv hbC HBO HRC HXB htwo HBB
  go_wp2_with fail
  refine HWA.out.mono ?_
  rintro e wD ⟨⟨wv, rfl, hwv⟩, hbD⟩
  obtain ⟨wwa, wwn, wwc, rfl⟩ : ∃ a n c, wv = .slice a n c := by obtain ⟨a, c, hv, _, _⟩ := hwv.form; exact ⟨a, _, c, hv⟩
  have HBD := Lib.hid (Bl.trans HBC.out hbD)
  have HRW := Lib.hid (And.intro (HRB.out.below hbD) hwv.rec0)
  have HCD := Lib.hid (And.intro (blk_below HCC.out.1 hbD) (HCC.out.2.below hbD))
  clear c0 c1 lr
  obtain ⟨c0, c1⟩ := HC.out _ HBD.out
  have lr := HLT.out _ HBD.out
  have HHO := Hopeless_any rh rr x at' (.slice xa x.length xcap) wD (by omega) (HO6.out.below HBD.out) HZ.out
  rw [← HTW.out] at HHO
  have HHO := Lib.hid HHO
  clear hwv hbD HWA HRB HCC HBC
  go_wp2_with fail
  refine HHO.out.mono ?_
  rintro e wE ⟨⟨hv, rfl, hhv⟩, hbE⟩
  obtain ⟨ha, hn, hc, rfl⟩ : ∃ a n c, hv = .slice a n c := by obtain ⟨a, c, hv, _, _⟩ := hhv.form; exact ⟨a, _, c, hv⟩
  have HBE := Lib.hid (Bl.trans HBD.out hbE)
  have HRH := Lib.hid (And.intro (HRW.out.1.below hbE) (And.intro (HRW.out.2.below hbE) hhv.rec0))
  have HCE := Lib.hid (And.intro (blk_below HCD.out.1 hbE) (HCD.out.2.below hbE))
  clear c0 c1 lr
  obtain ⟨c0, c1⟩ := HC.out _ HBE.out
  have lr := HLT.out _ HBE.out
  have HTI0 := Times_any rh rr x bd at' (.slice xa x.length xcap) wE (by omega) (HO6.out.below HBE.out) HZ.out (by omega)
  obtain ⟨four, hfour⟩ : ∃ q, q = timF rh rr x bd at' := ⟨_, rfl⟩
  rw [← hfour] at HTI0
  have HFO := Lib.hid hfour
  have HTI := Lib.hid HTI0
  clear hhv hbE HHO HRW HCD HBD HTI0 hfour
  go_wp2_with fail
  refine HTI.out.mono ?_
  rintro e wF ⟨tv, rfl, hbF, ht1, ht2⟩
  have htv : ∃ (ta : Option Addr) (tn tc : Nat), tv = .slice ta tn tc ∧ OwnR TN wF wE.heap.size (.slice ta tn tc) (if four = 0 then tmF bd at' (tmG rh rr bd at' tm0 x) else []) ∧ (if four = 0 then tmF bd at' (tmG rh rr bd at' tm0 x) else []).length ≤ 6 := by
    by_cases h : four = 0
    · obtain ⟨g, rfl, hs⟩ := ht2 h
      exact ⟨_, _, _, rfl, by rw [if_pos h]; exact hs.own, by rw [if_pos h]; exact Nat.le_of_eq hs.2.1⟩
    · exact ⟨none, 0, 0, ht1 h, by rw [if_neg h]; exact OwnR.nil _ _, by rw [if_neg h]; exact Nat.zero_le _⟩
  obtain ⟨ta, tn, tc, rfl, htv, htl⟩ := htv
  obtain ⟨TmL, hTL⟩ : ∃ L, L = (if four = 0 then tmF bd at' (tmG rh rr bd at' tm0 x) else []) := ⟨_, rfl⟩
  rw [← hTL] at htv htl
  have HTL := Lib.hid hTL
  have HTLL := Lib.hid htl
  clear htl
  have HBF := Lib.hid (Bl.trans HBE.out hbF)
  have HRT := Lib.hid (And.intro (HRH.out.1.below hbF) (And.intro (HRH.out.2.1.below hbF) (And.intro (HRH.out.2.2.below hbF) htv.rec0)))
  have HCF := Lib.hid (And.intro (blk_below HCE.out.1 hbF) (HCE.out.2.below hbF))
  clear c0 c1 lr
  obtain ⟨kf, hkf⟩ : ∃ q, q = (if keyB bd = true then (0 : Int) else 5) := ⟨_, rfl⟩
  obtain ⟨mf, hmf⟩ : ∃ q, q = (if momB at' = true then (0 : Int) else 1) := ⟨_, rfl⟩
  have HKF0 := KeyFault_any bd wF (by omega)
  rw [← hkf] at HKF0
  have HKF := Lib.hid HKF0
  have HMF0 := MomentFault_any at'
  rw [← hmf] at HMF0
  have HMF := Lib.hid HMF0
  have HOR1 : Hid (∀ (U : World) (g : Nat), U.heap[g]? = some (.cells #[.int .i64 F, .int .i64 kf, .int .i64 mf] 31 (0, 0)) → Calls Tryz.prog 13 #[.slice (some ⟨g, 0, none⟩) 3 3] U fun e w' => e = .returned (.int .i64 one) ∧ w' = U) := Lib.hid fun U g hg => by
    have h := OrErrno_any [F, kf, mf] (.slice (some ⟨g, 0, none⟩) 3 3) U (by simp) (Ints.of_blk hg rfl rfl (Nat.le_refl _) (by omega) (Nat.zero_le _))
    rw [show orF [F, kf, mf] = one by rw [HF.out, hkf, hmf, or_one, HONE.out]] at h
    exact h
  have HOR2 : Hid (∀ (U : World) (g : Nat), U.heap[g]? = some (.cells #[.int .i64 F, .int .i64 mf] 31 (0, 0)) → Calls Tryz.prog 13 #[.slice (some ⟨g, 0, none⟩) 2 2] U fun e w' => e = .returned (.int .i64 two) ∧ w' = U) := Lib.hid fun U g hg => by
    have h := OrErrno_any [F, mf] (.slice (some ⟨g, 0, none⟩) 2 2) U (by simp) (Ints.of_blk hg rfl rfl (Nat.le_refl _) (by omega) (Nat.zero_le _))
    rw [show orF [F, mf] = two by rw [HF.out, hmf, or_two, HTW.out]] at h
    exact h
  obtain ⟨tq, htq⟩ : ∃ q, q = (if (decide (st < 1) || decide (6 < st)) = true then (4 : Int) else 0) := ⟨_, rfl⟩
  have HTQ := Lib.hid htq
  have HOR3 : Hid (∀ (U : World) (g : Nat), U.heap[g]? = some (.cells #[.int .i64 two, .int .i64 tq] 31 (0, 0)) → Calls Tryz.prog 13 #[.slice (some ⟨g, 0, none⟩) 2 2] U fun e w' => e = .returned (.int .i64 three) ∧ w' = U) := Lib.hid fun U g hg => by
    have h := OrErrno_any [two, tq] (.slice (some ⟨g, 0, none⟩) 2 2) U (by simp) (Ints.of_blk hg rfl rfl (Nat.le_refl _) (by omega) (Nat.zero_le _))
    rw [show orF [two, tq] = three by rw [HTW.out, htq, or_three, HTH.out]] at h
    exact h
  clear htv hbF HTI HRH HCE HBE ht1 ht2 hTL HKF0 HMF0 hkf hmf htq
  go_wp2_with fail
  refine HKF.out.mono ?_
  rintro e wG ⟨rfl, hbG⟩
  go_wp2_with fail
  refine (HMF.out wG).mono ?_
  rintro e wG' ⟨rfl, rfl⟩
  go_wp2_with fail
  refine (HOR1.out _ _ (blk_new wG _)).mono ?_
  rintro e wG' ⟨rfl, rfl⟩
  go_wp2_with fail
  refine (HMF.out _).mono ?_
  rintro e wG' ⟨rfl, rfl⟩
  go_wp2_with fail
  refine (HOR2.out _ _ (blk_new' (wG.alloc (.cells #[.int .i64 F, .int .i64 kf, .int .i64 mf] 31)) (.cells #[.int .i64 F, .int .i64 mf] 31) (g := wG.heap.size + 1) (by simp))).mono ?_
  rintro e wG' ⟨rfl, rfl⟩
  have hGI := Bl.alloc (Bl.alloc (Below.refl wG.heap.size wG) (.cells #[.int .i64 F, .int .i64 kf, .int .i64 mf] 31)) (.cells #[.int .i64 F, .int .i64 mf] 31)
  have HFI := Lib.hid (Bl.trans hbG hGI)
  generalize (wG.alloc (.cells #[.int .i64 F, .int .i64 kf, .int .i64 mf] 31)).alloc (.cells #[.int .i64 F, .int .i64 mf] 31) = wI at *
  clear hGI hbG
  go_upto_region 10 with fail
  go_cut [22, 23] from 100 to 110 (fun v22 v23 wx => v22 = .int .i64 three ∧ v23 = .int .i64 one ∧ Hid (Below wI.heap.size wI wx))
  case first =>
    by_cases h1 : st < 1
    case' pos =>
      obtain rfl : tq = 4 := by rw [HTQ.out, decide_eq_true h1]; rfl
      have HWN := Lib.hid (when_t 4 wI)
    case' neg =>
      by_cases h2 : 6 < st
      case' pos =>
        obtain rfl : tq = 4 := by rw [HTQ.out, decide_eq_true h2, Bool.or_true]; rfl
        have HWN := Lib.hid (when_t 4 wI)
      case' neg =>
        obtain rfl : tq = 0 := by rw [HTQ.out, decide_eq_false h1, decide_eq_false h2]; rfl
        have HWN := Lib.hid (when_f 4 wI)
    all_goals (
      go_wp2_with fail
      refine HWN.out.mono ?_
      rintro e w' ⟨rfl, rfl⟩
      go_wp2_with fail
      refine (HOR3.out _ _ (blk_new wI _)).mono ?_
      rintro e w' ⟨rfl, rfl⟩
      go_wp2
      go_meet
      case rel => exact ⟨rfl, rfl, Lib.hid (Bl.alloc (Below.refl _ _) _)⟩)
  case rest =>
    obtain ⟨rfl, rfl, HBX⟩ := hcut
    have hFZ := Bl.trans HFI.out HBX.out
    have HBZ := Lib.hid (Bl.trans HBF.out hFZ)
    have HRZ := Lib.hid (And.intro (HRT.out.1.below hFZ) (And.intro (HRT.out.2.1.below hFZ) (And.intro (HRT.out.2.2.1.below hFZ) (HRT.out.2.2.2.below hFZ))))
    have HCZ := Lib.hid (And.intro (blk_below HCF.out.1 hFZ) (HCF.out.2.below hFZ))
    clear hFZ HBX HFI HBF HRT HCF HOR1 HOR2 HOR3 HKF HMF HTQ
    generalize wc = wZ at *
    go_upto_if 112 with fail
    have hbAW := Bl.alloc (Below.refl wZ.heap.size wZ) (.cells #[.int .i64 0, .int .i64 0, .int .i64 0, .slice none 0 0] 58)
    have hXW := blk_new wZ (.cells #[.int .i64 0, .int .i64 0, .int .i64 0, .slice none 0 0] 58)
    generalize wZ.alloc (.cells #[.int .i64 0, .int .i64 0, .int .i64 0, .slice none 0 0] 58) = w0 at *
    have HW0 := Lib.hid (And.intro hbAW hXW)
    clear hbAW hXW
    go_cut [23, 28, 29] from 112 to 128 (fun v23 v28 v29 wx => v23 = .int .i64 four ∧ ∃ (a : Option Addr) (n c : Nat) (qa : Option Addr) (qn qc : Nat), v28 = .slice a n c ∧ Hid (Below wZ.heap.size wZ wx ∧ wx.heap[wZ.heap.size]? = some (.cells #[.int .i64 cb.st, .int .i64 cb.si, .int .i64 cb.he, .slice qa qn qc] 58 (0, 0)) ∧ RecR TS wx 0 (.slice qa qn qc) (cb.op.keys.map baOf) ∧ RecR TN wx 0 (.slice a n c) TmL))
    case first =>
      by_cases h0 : one = 0
      · have HB0 := Lib.hid (bfltF_zero (HONE.out ▸ h0))
        have hcb : cb = ((runS rh rr at' [] x).get (bsOf bd)).getD newB := by rw [HCB.out]; exact cAt_right (HONE.out ▸ h0)
        have hTF := timF_right (rh := rh) (rr := rr) (l := x) (b := bd) (at' := at') (HONE.out ▸ h0)
        rw [← HFO.out] at hTF
        have HTF := Lib.hid hTF
        subst h0
        have hB0 := Bl.trans HBZ.out HW0.out.1
        obtain ⟨c0, c1⟩ := HC.out _ hB0
        have lr := HLT.out _ hB0
        have HCA0 := RConditionAt_any rh rr x bd at' (.slice xa x.length xcap) w0 (HO6.out.below hB0) HB0.out.2.1 hbsz
        rw [← hcb] at HCA0
        have HCA := Lib.hid HCA0
        clear HCA0 hcb hTF
        go_wp2_with fail
        refine HCA.out.mono ?_
        rintro e wJ ⟨⟨u, rfl, hu⟩, hbJ⟩
        obtain ⟨qa, qn, qc, rfl⟩ : ∃ a n c, u = .slice a n c := by obtain ⟨a, c, hv, _, _⟩ := hu.form; exact ⟨a, _, c, hv⟩
        have hC2 := blk_below HW0.out.2 hbJ
        have hB2 := Bl.trans HW0.out.1 hbJ
        have lw := blk_lt hC2
        have g0 := blk_free hC2 0
        have g1 := blk_free hC2 1
        have g2 := blk_free hC2 2
        have g3 := blk_free hC2 3
        have k0 : wJ.cell? ⟨wZ.heap.size, 0, none⟩ = some (.int .i64 0) := blk_cell hC2 0
        have k1 : wJ.cell? ⟨wZ.heap.size, 1, none⟩ = some (.int .i64 0) := blk_cell hC2 1
        have k2 : wJ.cell? ⟨wZ.heap.size, 2, none⟩ = some (.int .i64 0) := blk_cell hC2 2
        have k3 : wJ.cell? ⟨wZ.heap.size, 3, none⟩ = some (.slice none 0 0) := blk_cell hC2 3
        obtain ⟨wK, hwK⟩ : ∃ wK, wK = (((wJ.setCell ⟨wZ.heap.size, 0, none⟩ (.int .i64 cb.st)).setCell ⟨wZ.heap.size, 1, none⟩ (.int .i64 cb.si)).setCell ⟨wZ.heap.size, 2, none⟩ (.int .i64 cb.he)).setCell ⟨wZ.heap.size, 3, none⟩ (.slice qa qn qc) := ⟨_, rfl⟩
        have hXK : wK.heap[wZ.heap.size]? = some (.cells #[.int .i64 cb.st, .int .i64 cb.si, .int .i64 cb.he, .slice qa qn qc] 58 (0, 0)) := by rw [hwK]; exact blk_set (blk_set (blk_set (blk_set hC2 0 (.int .i64 cb.st)) 1 (.int .i64 cb.si)) 2 (.int .i64 cb.he)) 3 (.slice qa qn qc)
        have hbK : Below wZ.heap.size wZ wK := by rw [hwK]; exact Bl.set (Bl.set (Bl.set (Bl.set hB2 wZ.heap.size 0 (Nat.le_refl _) (.int .i64 cb.st)) wZ.heap.size 1 (Nat.le_refl _) (.int .i64 cb.si)) wZ.heap.size 2 (Nat.le_refl _) (.int .i64 cb.he)) wZ.heap.size 3 (Nat.le_refl _) (.slice qa qn qc)
        have hgX : wJ.grownBy wK (some wZ.heap.size) := by rw [hwK]; exact Gr.set (Gr.set (Gr.set (Gr.set (Gr.refl _ _) _ 0 (.inl rfl) _) _ 1 (.inl rfl) _) _ 2 (.inl rfl) _) _ 3 (.inl rfl) _
        have hu3 := hu.keepT (X := fun i => i = wZ.heap.size) (Kp.of_gr hgX rfl) fun i cur hi e => by
          subst e
          rw [hC2] at hi
          injection hi with hi
          injection hi with _ hi _
          exact absurd hi (by decide)
        have HK := Lib.hid (And.intro hXK (And.intro hbK hu3.rec0))
        have hBK := Bl.trans HBZ.out hbK
        have HTM0 := RTimes_any rh rr x bd at' (.slice xa x.length xcap) wK (HO6.out.below hBK) HB0.out.2.1 hbsz HB0.out.2.2.2
        obtain ⟨ib, hib⟩ : ∃ ib, ib = decide (0 ≤ (tmG rh rr bd at' tm0 x).last) := ⟨_, rfl⟩
        rw [← hib] at HTM0
        have HTM := Lib.hid HTM0
        have HIB := Lib.hid hib
        clear HTM0 hib
        have hBJ := Bl.trans HBZ.out hB2
        have HCK := Lib.hid (HC.out _ hBJ)
        have lrJ := HLT.out _ hBJ
        have hne : ¬ w5.heap.size = wZ.heap.size := by have := HLT.out _ HBZ.out; omega
        clear hu hu3 hXK hbK hgX hC2 hB2 hbJ hB0 hBK HCA hBJ
        clear c0 c1 lr
        obtain ⟨c0, c1⟩ := HCK.out
        unfold condV
        go_wp2_with fail
        rw [← hwK]
        clear hwK
        refine HTM.out.mono ?_
        rintro e wL ⟨r, rfl, hr, hbL⟩
        obtain ⟨ra, rn, rc, rfl⟩ : ∃ a n c, r = .slice a n c := by obtain ⟨a, c, hv, _, _⟩ := hr.form; exact ⟨a, _, c, hv⟩
        have hTLs : four = (if ib = true then 0 else 8) ∧ timL rh rr x bd at' = TmL := by
          rw [HTL.out, HTF.out, HIB.out]
          unfold timL
          by_cases hl : (tmG rh rr bd at' tm0 x).last < 0
          · simp [hl]
          · have hl2 : 0 ≤ (tmG rh rr bd at' tm0 x).last := by omega
            simp [hl, hl2]
        rw [hTLs.2] at hr
        have HL := Lib.hid (show Below wZ.heap.size wZ wL ∧ wL.heap[wZ.heap.size]? = some (.cells #[.int .i64 cb.st, .int .i64 cb.si, .int .i64 cb.he, .slice qa qn qc] 58 (0, 0)) ∧ RecR TS wL 0 (.slice qa qn qc) (cb.op.keys.map baOf) ∧ RecR TN wL 0 (.slice ra rn rc) TmL from
          ⟨HK.out.2.1.trans (hbL.mono HK.out.2.1.size), blk_below HK.out.1 hbL, HK.out.2.2.below hbL, hr.rec0⟩)
        have HFF := Lib.hid hTLs.1
        clear hr hbL hTLs HTM HK g0 g1 g2 g3 k0 k1 k2 k3
        cases ib
        · have HF8 : Hid (four = 8) := Lib.hid (by have := HFF.out; simpa using this)
          go_wp2_with fail
          refine (none_t wL).mono ?_
          rintro e w' ⟨rfl, rfl⟩
          go_wp2
          go_meet
          case rel => exact ⟨by rw [HF8.out], ra, rn, rc, qa, qn, qc, rfl, HL⟩
        · have HF8 : Hid (four = 0) := Lib.hid (by have := HFF.out; simpa using this)
          go_wp2_with fail
          refine (none_f wL).mono ?_
          rintro e w' ⟨rfl, rfl⟩
          go_wp2
          go_meet
          case rel => exact ⟨by rw [HF8.out], ra, rn, rc, qa, qn, qc, rfl, HL⟩
      · have hcb : cb = zeroB0 := by rw [HCB.out]; exact cAt_fault (HONE.out ▸ h0)
        have hfo : four = one := by rw [HFO.out, timF_fault (HONE.out ▸ h0), HONE.out]
        have htl : TmL = [] := by rw [HTL.out, if_neg (by rw [hfo]; exact h0)]
        have HREL : Hid (one = four ∧ ∃ (a : Option Addr) (n c : Nat) (qa : Option Addr) (qn qc : Nat), (Value.slice none 0 0) = .slice a n c ∧ Hid (Below wZ.heap.size wZ w0 ∧ w0.heap[wZ.heap.size]? = some (.cells #[.int .i64 cb.st, .int .i64 cb.si, .int .i64 cb.he, .slice qa qn qc] 58 (0, 0)) ∧ RecR TS w0 0 (.slice qa qn qc) (cb.op.keys.map baOf) ∧ RecR TN w0 0 (.slice a n c) TmL)) := Lib.hid (by
          rw [hcb, htl]
          exact ⟨hfo.symm, none, 0, 0, none, 0, 0, rfl, Lib.hid ⟨HW0.out.1, HW0.out.2, RecR.nil _ _, RecR.nil _ _⟩⟩)
        clear hcb hfo htl
        go_wp2
        go_meet
        case rel => exact ⟨by rw [HREL.out.1], HREL.out.2⟩
    case rest =>
      obtain ⟨rfl, ta2, tn2, tc2, qa, qn, qc, rfl, HW1⟩ := hcut
      generalize wc = w1' at *
      clear HW0
      go_upto_if 130 with fail
      have HB1 := Lib.hid (Bl.trans HBZ.out HW1.out.1)
      go_cut [26, 27] from 130 to 138 (fun v26 v27 wx => ∃ (a1 : Option Addr) (n1 c1 : Nat) (a2 : Option Addr) (n2 c2 : Nat), v26 = .slice a1 n1 c1 ∧ v27 = .slice a2 n2 c2 ∧ Hid (Below w1'.heap.size w1' wx ∧ RecR TS wx 0 (.slice a1 n1 c1) ((waitL rh rr x at').map baOf) ∧ RecR TS wx 0 (.slice a2 n2 c2) ((hopL rh rr x at').map baOf)))
      case first =>
        by_cases h0 : two = 0
        · have HM0 := Lib.hid (mfltF_zero (HTW.out ▸ h0))
          have hwl : waitL rh rr x at' = sortW (runS rh rr at' [] x) (inS (runS rh rr at' [] x) 3) := if_pos (HTW.out ▸ h0)
          have hhl : hopL rh rr x at' = (inS (runS rh rr at' [] x) 3).filter (hopK rh rr (runS rh rr at' [] x)) := if_pos (HTW.out ▸ h0)
          have HWT := Lib.hid fun U (hU : Below w1'.heap.size w1' U) => RWaitingAt_any rh rr x at' (.slice xa x.length xcap) U (HO6.out.below (Bl.trans HB1.out hU)) HM0.out.2.1 hx24
          have HHT := Lib.hid fun U (hU : Below w1'.heap.size w1' U) => RHopelessAt_any rh rr x at' (.slice xa x.length xcap) U (HO6.out.below (Bl.trans HB1.out hU)) HM0.out.2.1 HM0.out.1
          rw [← hwl] at HWT
          rw [← hhl] at HHT
          subst h0
          obtain ⟨c0, c1⟩ := HC.out _ HB1.out
          have lr := HLT.out _ HB1.out
          have hBd := Below.drew (Below.refl w1'.heap.size w1')
          clear hwl hhl
          go_wp2_with fail
          go_region_with (first
          | (go_at_call 38; first
          | (refine (HWT.out _ hBo2).mono ?_; rintro e wP ⟨⟨u1, rfl, hu1⟩, hbb1⟩; obtain ⟨ua1, un1, uc1, rfl⟩ : ∃ a n c, u1 = .slice a n c := (by obtain ⟨a, c, hv, _, _⟩ := hu1.form; exact ⟨a, _, c, hv⟩); have HU1 := Lib.hid hu1.rec0; have HV2 := Lib.hid (HU2.out.below hbb1); have hBe := Bl.trans hBo2 hbb1; clear hu1 hbb1)
          | (refine (HWT.out _ hBd).mono ?_; rintro e wP ⟨⟨u1, rfl, hu1⟩, hbb1⟩; obtain ⟨ua1, un1, uc1, rfl⟩ : ∃ a n c, u1 = .slice a n c := (by obtain ⟨a, c, hv, _, _⟩ := hu1.form; exact ⟨a, _, c, hv⟩); have HU1 := Lib.hid hu1.rec0; have hBo1 := Bl.trans hBd hbb1; obtain ⟨k0, k1⟩ := HC.out _ (Bl.trans HB1.out hBo1); have lrk := HLT.out _ (Bl.trans HB1.out hBo1); clear hu1 hbb1))
          | (go_at_call 39; first
          | (refine (HHT.out _ hBo1).mono ?_; rintro e wQ ⟨⟨u2, rfl, hu2⟩, hbb2⟩; obtain ⟨ua2, un2, uc2, rfl⟩ : ∃ a n c, u2 = .slice a n c := (by obtain ⟨a, c, hv, _, _⟩ := hu2.form; exact ⟨a, _, c, hv⟩); have HU2 := Lib.hid hu2.rec0; have HV1 := Lib.hid (HU1.out.below hbb2); have hBe := Bl.trans hBo1 hbb2; clear hu2 hbb2)
          | (refine (HHT.out _ hBd).mono ?_; rintro e wQ ⟨⟨u2, rfl, hu2⟩, hbb2⟩; obtain ⟨ua2, un2, uc2, rfl⟩ : ∃ a n c, u2 = .slice a n c := (by obtain ⟨a, c, hv, _, _⟩ := hu2.form; exact ⟨a, _, c, hv⟩); have HU2 := Lib.hid hu2.rec0; have hBo2 := Bl.trans hBd hbb2; obtain ⟨k0, k1⟩ := HC.out _ (Bl.trans HB1.out hBo2); have lrk := HLT.out _ (Bl.trans HB1.out hBo2); clear hu2 hbb2)))
          all_goals (
            go_wp2
            go_meet
            case rel => first
              | exact ⟨_, _, _, _, _, _, rfl, rfl, Lib.hid ⟨hBe, HU1.out, HV2.out⟩⟩
              | exact ⟨_, _, _, _, _, _, rfl, rfl, Lib.hid ⟨hBe, HV1.out, HU2.out⟩⟩)
        · have hwl : waitL rh rr x at' = [] := if_neg (by rw [← HTW.out]; exact h0)
          have hhl : hopL rh rr x at' = [] := if_neg (by rw [← HTW.out]; exact h0)
          have HREL : Hid (Below w1'.heap.size w1' w1' ∧ RecR TS w1' 0 (.slice none 0 0) ((waitL rh rr x at').map baOf) ∧ RecR TS w1' 0 (.slice none 0 0) ((hopL rh rr x at').map baOf)) := Lib.hid ⟨Below.refl _ _, by rw [hwl]; exact RecR.nil _ _, by rw [hhl]; exact RecR.nil _ _⟩
          clear hwl hhl
          go_wp2
          go_meet
          case rel => exact ⟨none, 0, 0, none, 0, 0, rfl, rfl, HREL⟩
      case rest =>
        obtain ⟨wa2, wn2, wc2, ha2, hn2, hc2', rfl, rfl, HW2⟩ := hcut
        generalize wc = w2' at *
        go_upto_if 140 with fail
        have HB2 := Lib.hid (Bl.trans HB1.out HW2.out.1)
        go_cut [25] from 140 to 145 (fun v25 wx => ∃ (a1 : Option Addr) (n1 c1 : Nat), v25 = .slice a1 n1 c1 ∧ Hid (Below w2'.heap.size w2' wx ∧ RecR TS wx 0 (.slice a1 n1 c1) ((bsL rh rr x at' st).map baOf)))
        case first =>
          by_cases h0 : three = 0
          · have hm : mfltF rh rr x at' = 0 := by
              have h := HTH.out
              rw [h0] at h
              unfold bsF at h
              split at h
              · assumption
              · exact h.symm
            have hbl : bsL rh rr x at' st = inS (runS rh rr at' [] x) st := if_pos (HTH.out ▸ h0)
            have HBI0 := RBoardsIn_any rh rr x at' st (.slice xa x.length xcap) w2' (HO6.out.below HB2.out) (mfltF_zero hm).2.1
            rw [← hbl] at HBI0
            have HBI := Lib.hid HBI0
            subst h0
            obtain ⟨c0, c1⟩ := HC.out _ HB2.out
            have lr := HLT.out _ HB2.out
            clear hm hbl HBI0
            go_wp2_with fail
            refine HBI.out.mono ?_
            rintro e wM ⟨⟨u, rfl, hu⟩, hbM⟩
            obtain ⟨ua, un, uc, rfl⟩ : ∃ a n c, u = .slice a n c := by obtain ⟨a, c, hv, _, _⟩ := hu.form; exact ⟨a, _, c, hv⟩
            have HREL := Lib.hid (And.intro hbM hu.rec0)
            clear hu hbM HBI
            go_wp2
            go_meet
            case rel => exact ⟨_, _, _, rfl, HREL⟩
          · have hbl : bsL rh rr x at' st = [] := if_neg (by rw [← HTH.out]; exact h0)
            have HREL : Hid (Below w2'.heap.size w2' w2' ∧ RecR TS w2' 0 (.slice none 0 0) ((bsL rh rr x at' st).map baOf)) := Lib.hid ⟨Below.refl _ _, by rw [hbl]; exact RecR.nil _ _⟩
            clear hbl
            go_wp2
            go_meet
            case rel => exact ⟨none, 0, 0, rfl, HREL⟩
        case rest =>
          obtain ⟨ba2, bn2, bc2, rfl, HW3⟩ := hcut
          generalize wc = w3' at *
          have HZ3 := Lib.hid (Bl.trans HW1.out.1 (Bl.trans HW2.out.1 HW3.out.1))
          have H13 := Lib.hid (Bl.trans HW2.out.1 HW3.out.1)
          have HB3 := Lib.hid (Bl.trans HB2.out HW3.out.1)
          have hXc := blk_below HCZ.out.1 HZ3.out
          have hXq := blk_below HW1.out.2.1 H13.out
          have c0 : w3'.cell? ⟨wA.heap.size, 0, none⟩ = some (.int .i64 cb.st) := blk_cell hXc 0
          have c1 : w3'.cell? ⟨wA.heap.size, 1, none⟩ = some (.int .i64 cb.si) := blk_cell hXc 1
          have c2 : w3'.cell? ⟨wA.heap.size, 2, none⟩ = some (.int .i64 cb.he) := blk_cell hXc 2
          have c3 : w3'.cell? ⟨wA.heap.size, 3, none⟩ = some (.slice ca cn cc) := blk_cell hXc 3
          have d0 : w3'.cell? ⟨wZ.heap.size, 0, none⟩ = some (.int .i64 cb.st) := blk_cell hXq 0
          have d1 : w3'.cell? ⟨wZ.heap.size, 1, none⟩ = some (.int .i64 cb.si) := blk_cell hXq 1
          have d2 : w3'.cell? ⟨wZ.heap.size, 2, none⟩ = some (.int .i64 cb.he) := blk_cell hXq 2
          have d3 : w3'.cell? ⟨wZ.heap.size, 3, none⟩ = some (.slice qa qn qc) := blk_cell hXq 3
          have HSC0 := SameC_any cb (.slice ca cn cc) (.slice qa qn qc) w3' (by rw [HCB.out]; exact cAt_few _ _ _ _ _) (HCZ.out.2.below HZ3.out) (HW1.out.2.2.1.below H13.out)
          unfold condV at HSC0
          have HSC := Lib.hid HSC0
          clear hXc hXq HSC0
          go_wp2_with fail
          refine HSC.out.mono ?_
          rintro e y1 ⟨rfl, hy1⟩
          have hy1' := Bl.trans HB3.out hy1
          have HE1 := Lib.hid (SEqual_any _ (.slice ba bn bc) (.slice ba2 bn2 bc2) y1 (bsL_few rh rr x at' st) ((HRZ.out.1.below HZ3.out).below hy1) (HW3.out.2.below hy1))
          have HY1 := Lib.hid hy1
          clear hy1 HSC c0 c1 c2 c3 d0 d1 d2 d3
          go_wp2_with fail
          refine HE1.out.mono ?_
          rintro e y2 ⟨rfl, hy2⟩
          have HY2 := Lib.hid (Bl.trans HY1.out hy2)
          have HE2 := Lib.hid (SEqual_any _ (.slice wwa wwn wwc) (.slice wa2 wn2 wc2) y2 (waitL_few2 rh rr x at') ((HRZ.out.2.1.below HZ3.out).below HY2.out) ((HW2.out.2.1.below HW3.out.1).below HY2.out))
          clear hy2 HE1
          go_wp2_with fail
          refine HE2.out.mono ?_
          rintro e y3 ⟨rfl, hy3⟩
          have HY3 := Lib.hid (Bl.trans HY2.out hy3)
          have HE3 := Lib.hid (SEqual_any _ (.slice ha hn hc) (.slice ha2 hn2 hc2') y3 (hopL_few2 rh rr x at') ((HRZ.out.2.2.1.below HZ3.out).below HY3.out) ((HW2.out.2.2.below HW3.out.1).below HY3.out))
          clear hy3 HE2
          go_wp2_with fail
          refine HE3.out.mono ?_
          rintro e y4 ⟨rfl, hy4⟩
          have HY4 := Lib.hid (Bl.trans HY3.out hy4)
          have HE4 := Lib.hid (EqN_same TmL (.slice ta tn tc) (.slice ta2 tn2 tc2) y4 (Nat.le_trans HTLL.out (by omega)) ((HRZ.out.2.2.2.below HZ3.out).below HY4.out) ((HW1.out.2.2.2.below H13.out).below HY4.out))
          clear hy4 HE3
          go_wp2_with fail
          refine HE4.out.mono ?_
          rintro e y5 ⟨rfl, hy5⟩
          have HY5 := Lib.hid (Bl.trans HY4.out hy5)
          clear hy5 HE4
          go_wp2_with fail
          refine (reworked_any y5).mono ?_
          rintro e y6 ⟨rfl, hy6⟩
          have HY6 := Lib.hid (Bl.trans HB6.out (Bl.trans HB3.out (Bl.trans HY5.out hy6)))
          clear hy6
          go_wp2
          go_ret
          exact ⟨rfl, HY6.out⟩
end Go.Proofs.YthdolfnfiggkjaaGreatDoor
