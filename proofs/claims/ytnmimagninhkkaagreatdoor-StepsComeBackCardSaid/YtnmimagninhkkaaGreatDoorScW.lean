/- The walk of the law StepsComeBack: whatever the input: true. Condition: what lies in the library's variables. -/
import Derived.Test.YtnmimagninhkkaaGreatDoorSss
import Derived.Test.YtnmimagninhkkaaGreatDoorSrd
import Derived.Test.YtnmimagninhkkaaGreatDoorSpo
import Derived.Test.YtnmimagninhkkaaGreatDoorReady2
import Derived.Test.YtnmimagninhkkaaGreatDoorStart
namespace Go.Proofs.YtnmimagninhkkaaGreatDoor
open Go.RowKit Go.Sort Go.Maps

set_option maxHeartbeats 4000000 in
set_option maxRecDepth 100000 in
theorem StepsComeBack_any (l : List Int) (v : Value) (w : World) (rl : Ints w 0 v l) (hl : ∀ x ∈ l, -9223372036854775808 ≤ x ∧ x ≤ 9223372036854775807) (hT : TxW w) :
    Calls Tryz.prog 9 #[v] w fun e w' => e = .returned (.bool true) ∧ Below w.heap.size w w' := by
  obtain ⟨va, cap, rfl, hc1, hc2⟩ := Ints.form rl
  have hs0 := Str.begin rl hl
  have hb0 := Bl.alloc (Below.refl w.heap.size w) (.cells #[.slice va l.length cap, .int .i64 0] 25)
  obtain ⟨hg1, hg2⟩ := hT.size
  have HT := Lib.hid hT
  clear rl hl hT
  go_enter Tryz.func9, Tryz.ntmps9
  go_wp2_with fail
  refine (RightSteps_any _ 0 _ hs0 (by omega)).mono ?_
  rintro e w1 ⟨vx, x, rfl, hO1, hx24, hxok, hx0, hs1, hG1⟩
  have hz0 := hb0.size
  have hb1 := Below.trans hb0 (Gr.below hG1 (Nat.le_refl _) hz0)
  have hz1 := hb1.size
  obtain ⟨xa, xcap, rfl, _, _⟩ := hO1.form
  have hxl : (textL wrS x).length ≤ 2664 := by
    have := textS_len x (stepsF_W hx0)
    omega
  have HTX0 := StText_any x (.slice xa x.length xcap) w1 (HT.out.below hb1) (by omega) hO1.rec0 (StpOk.z hxok) (fun _ => by omega)
  rw [hx0] at HTX0
  have HTX := Lib.hid HTX0
  have HRT := Lib.hid (stepsRead_text hx0 (by omega))
  have HPT : Hid (stTxt x = textL wrS x) := Lib.hid (by unfold stTxt; rw [if_pos hx0])
  have HO1 := Lib.hid hO1.rec0
  have HS1 := Lib.hid hs1
  have HB1 := Lib.hid hb1
  have HXL := Lib.hid hxl
  clear hb0 hG1 hO1 hs1 hb1 hx0 hs0 HTX0 hxok hxl
  go_wp2_with fail
  refine HTX.out.mono ?_
  rintro e w3 ⟨t, rfl, ht, hb3⟩
  have htl : bsOf t = textL wrS x := ht.trans HPT.out
  have hts : t.size ≤ 10000 := by
    rw [← bsOf_len, htl]
    have := HXL.out
    omega
  have hB3 := Bl.trans HB1.out hb3
  have hz3 := hB3.size
  have HRD0 := StRead_any t w3 (HT.out.below hB3) (by omega)
  rw [htl, HRT.out] at HRD0
  have HRD := Lib.hid HRD0
  have HS3 := Lib.hid (HS1.out.below hb3)
  have HO3 := Lib.hid (HO1.out.below hb3)
  clear ht hb3 htl HTX HRD0
  go_wp2_with fail
  refine HRD.out.mono ?_
  rintro e w4 ⟨vy, rfl, hOy, hb4⟩
  obtain ⟨ya, ycap, rfl, _, _⟩ := hOy.form
  have hB4 := Bl.trans hB3 hb4
  have hz4 := hB4.size
  have HEQ0 := EqualSt_any x x (.slice ya x.length ycap) (.slice xa x.length xcap) w4 (by omega) (by omega) hOy.rec0 (HO3.out.below hb4)
  rw [decide_eq_true (show x = x from rfl)] at HEQ0
  have HEQ := Lib.hid HEQ0
  have HS4 := Lib.hid (HS3.out.below hb4)
  clear hOy hb4 HEQ0 HRD HRT HPT HXL
  go_wp2_with fail
  refine HEQ.out.mono ?_
  rintro e w5 ⟨rfl, hb5⟩
  have hB5 := Bl.trans hB4 hb5
  have hz5 := hB5.size
  have HPS := Lib.hid (StepString_any w.heap.size _ w5 (HS4.out.below hb5) (HT.out.below hB5) hg1 hg2 (by omega))
  clear hb5 HEQ
  go_wp2_with fail
  refine HPS.out.mono ?_
  rintro e w6 ⟨t2, rfl, ht2, hs6, hG6⟩
  have hB6 := Below.trans hB5 (Gr.below hG6 (Nat.le_refl _) hz5)
  have hz6 := hB6.size
  have HRD := Lib.hid (StRead_any t2 w6 (HT.out.below hB6) (by omega))
  obtain ⟨f, hf⟩ : ∃ f, f = (stepsRead (bsOf t2)).2.2 := ⟨_, rfl⟩
  obtain ⟨i2, hi2⟩ : ∃ f, f = (stepsRead (bsOf t2)).2.1 := ⟨_, rfl⟩
  obtain ⟨Q, hQ⟩ : ∃ f, f = (stepsRead (bsOf t2)).1 := ⟨_, rfl⟩
  rw [← hf, ← hi2, ← hQ] at HRD
  have HF := Lib.hid (And.intro hf hQ)
  clear hf hi2 hQ hs6 hG6 HPS
  by_cases h0 : f = 0
  · subst h0
    obtain ⟨q1, q2, q3⟩ := text_stepsRead HF.out.1.symm
    rw [← HF.out.2] at q1 q2
    have q4 := stepsF_len q1
    have q5 : (textL wrS Q).length ≤ 200000 := by rw [q2]; exact q3
    have HPT : Hid (stTxt Q = bsOf t2) := Lib.hid (by unfold stTxt; rw [if_pos q1, q2])
    have HQ1 := Lib.hid (And.intro q1 q5)
    clear q1 q2 q3 q5
    go_wp2_with fail
    refine HRD.out.mono ?_
    rintro e w7 ⟨vx, rfl, hOx, hb7⟩
    obtain ⟨za, zcap, rfl, _, _⟩ := hOx.form
    have hB7 := Bl.trans hB6 hb7
    have hz7 := hB7.size
    have HTX0 := StText_any Q (.slice za Q.length zcap) w7 (HT.out.below hB7) (by omega) hOx.rec0 (fun s hs => by
      have h1 := stepsF_W HQ1.out.1 s hs
      have h2 := keyB_size h1.bd
      cases hn : namB s.kd with
      | true => have h3 := keyB_size (h1.co hn); omega
      | false => have h3 := h1.no hn; omega) (fun _ => HQ1.out.2)
    rw [HQ1.out.1] at HTX0
    have HTX := Lib.hid HTX0
    clear hOx hb7 HTX0
    go_wp2_with fail
    refine HTX.out.mono ?_
    rintro e w8 ⟨t3, rfl, ht3, hb8⟩
    obtain rfl := bsOf_inj (ht3.trans HPT.out)
    have hB8 := Bl.trans hB7 hb8
    clear ht3 hb8
    go_wp2_with fail
    refine (ready_any _).mono ?_
    rintro e w9 ⟨rfl, hb9⟩
    go_wp2
    go_ret
    exact ⟨rfl, Bl.trans hB8 hb9⟩
  · go_wp2_with fail
    refine HRD.out.mono ?_
    rintro e w7 ⟨vx, rfl, hOx, hb7⟩
    have hB7 := Bl.trans hB6 hb7
    clear hOx hb7
    go_wp2_with fail
    refine (ready_any _).mono ?_
    rintro e w9 ⟨rfl, hb9⟩
    go_wp2
    go_ret
    exact ⟨rfl, Bl.trans hB7 hb9⟩
end Go.Proofs.YtnmimagninhkkaaGreatDoor
