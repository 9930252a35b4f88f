/- Texts of the proof of a law, put together, part 10 of 46. Conditions: none beyond those that each theorem names. -/
import Derived.Test.YtilhonppgedoiaaGreatDoorFz9
namespace Go.Proofs.YtilhonppgedoiaaGreatDoor
open Go.RowKit Go.Sort
def fedV (x : Fed) : Value := .agg #[.int .i64 x.1, .int .i64 x.2.1, .string x.2.2.1, .string x.2.2.2.1, .int .i64 x.2.2.2.2.1, .string x.2.2.2.2.2]
theorem usesOf_at {k : Int} {a b c d : Bool} (h1 : 1 ≤ k) (h5 : k ≤ 5) (ha : uF k = a) (hb : uR k = b) (hc : uM k = c) (hd : uB k = d) (w : World) :
    Calls Tryz.prog 73 #[.int .i64 k] w fun e w' => e = .returned (.agg #[.bool a, .bool b, .bool c, .bool d]) ∧ Below w.heap.size w w' := by
  subst ha hb hc hd; exact usesOf_any k w h1 h5
theorem uses_at {k : Int} {a b c d : Bool} (h1 : 1 ≤ k) (h5 : k ≤ 5) (ha : uF k = a) (hb : uR k = b) (hc : uM k = c) (hd : uB k = d) (w : World) :
    Calls Tryz.prog 46 #[.int .i64 k] w fun e w' => e = .returned (.tuple #[.bool a, .bool b, .bool c, .bool d]) ∧ w = w' := by
  subst ha hb hc hd; exact uses_any k w h1 h5
theorem empty_facts {s : ByteArray} (h : s.toList.isEmpty = true) : s.toList = [] := List.isEmpty_iff.1 h
theorem full_facts {s : ByteArray} (h : s.toList.isEmpty = false) : ¬ s.toList = [] := fun e => by rw [e] at h; cases h
set_option maxHeartbeats 8000000 in
set_option maxRecDepth 100000 in
theorem formFault_any (at' k : Int) (fd rl : ByteArray) (mn : Int) (bd : ByteArray) (w : World) (h1 : 1 ≤ k) (h5 : k ≤ 5) :
    Calls Tryz.prog 97 #[.agg #[.int .i64 at', .int .i64 k, .string fd, .string rl, .int .i64 mn, .string bd]] w fun e w' => e = .returned (.int .i64 (if formB (at', k, fd, rl, mn, bd) = true then 0 else 3)) ∧ Below w.heap.size w w' := by
  have hX := blk_new w (.cells #[.int .i64 at', .int .i64 k, .string fd, .string rl, .int .i64 mn, .string bd] 37)
  have hb0 := Bl.alloc (Below.refl w.heap.size w) (.cells #[.int .i64 at', .int .i64 k, .string fd, .string rl, .int .i64 mn, .string bd] 37)
  have hk : k = 1 ∨ k = 2 ∨ k = 3 ∨ k = 4 ∨ k = 5 := by omega
  obtain ⟨w1, hw1⟩ : ∃ w1, w1 = w.alloc (.cells #[.int .i64 at', .int .i64 k, .string fd, .string rl, .int .i64 mn, .string bd] 37) := ⟨_, rfl⟩
  rw [← hw1] at hX hb0
  have HXC := Lib.hid (show ∀ W, Below w1.heap.size w1 W → W.cell? ⟨w.heap.size, 0, none⟩ = some (.int .i64 at') ∧ W.cell? ⟨w.heap.size, 1, none⟩ = some (.int .i64 k) ∧ W.cell? ⟨w.heap.size, 2, none⟩ = some (.string fd) ∧ W.cell? ⟨w.heap.size, 3, none⟩ = some (.string rl) ∧ W.cell? ⟨w.heap.size, 4, none⟩ = some (.int .i64 mn) ∧ W.cell? ⟨w.heap.size, 5, none⟩ = some (.string bd) from fun W hW => by
    have h := blk_below hX hW
    exact ⟨blk_cell h 0, blk_cell h 1, blk_cell h 2, blk_cell h 3, blk_cell h 4, blk_cell h 5⟩)
  have HB0 := Lib.hid hb0
  have HW := Lib.hid hw1
  obtain ⟨R, hF⟩ : ∃ R : Int, R = if formB (at', k, fd, rl, mn, bd) = true then 0 else 3 := ⟨_, rfl⟩
  rw [← hF]
  have HF := Lib.hid hF
  clear hX hb0 hF h1 h5 hw1
  rcases hk with rfl | rfl | rfl | rfl | rfl
  · by_cases hm : mn = 0
    · have hm1 : (mn == 0) = true := by simpa using hm
      have hm2 : decide (mn = 0) = true := by simpa using hm
      have HM := Lib.hid hm
      clear hm
      cases hebd : bd.toList.isEmpty
      · have hfbd := full_facts hebd
        have HFF : Hid (R = 3) := Lib.hid (by rw [HF.out]; unfold formB; simp only [show uF 1 = true from rfl, show uR 1 = true from rfl, show uM 1 = false from rfl, show uB 1 = false from rfl, hm2, hebd]; rfl)
        have HU := Lib.hid (usesOf_at (k := 1) (a := true) (b := true) (c := false) (d := false) (by omega) (by omega) rfl rfl rfl rfl)
        obtain ⟨x0, x1, x2, x3, x4, x5⟩ := HXC.out w1 (Below.refl _ _)
        go_enter Tryz.func97, Tryz.ntmps97
        go_wp2_with fail
        rw [← HW.out]
        refine (HU.out w1).mono ?_
        rintro e w2 ⟨rfl, hb2⟩
        have hb3 := Bl.alloc hb2 (.cells #[.bool true, .bool true, .bool false, .bool false] 123)
        obtain ⟨y0, y1, y2, y3, y4, y5⟩ := HXC.out _ hb3
        have HB3 := Lib.hid (Bl.trans HB0.out hb3)
        clear hb2 hb3
        go_wp2
        go_ret
        exact ⟨ret_int HFF.out.symm, HB3.out⟩
      · have hfbd := empty_facts hebd
        have HFF : Hid (R = 0) := Lib.hid (by rw [HF.out]; unfold formB; simp only [show uF 1 = true from rfl, show uR 1 = true from rfl, show uM 1 = false from rfl, show uB 1 = false from rfl, hm2, hebd]; rfl)
        have HU := Lib.hid (usesOf_at (k := 1) (a := true) (b := true) (c := false) (d := false) (by omega) (by omega) rfl rfl rfl rfl)
        obtain ⟨x0, x1, x2, x3, x4, x5⟩ := HXC.out w1 (Below.refl _ _)
        go_enter Tryz.func97, Tryz.ntmps97
        go_wp2_with fail
        rw [← HW.out]
        refine (HU.out w1).mono ?_
        rintro e w2 ⟨rfl, hb2⟩
        have hb3 := Bl.alloc hb2 (.cells #[.bool true, .bool true, .bool false, .bool false] 123)
        obtain ⟨y0, y1, y2, y3, y4, y5⟩ := HXC.out _ hb3
        have HB3 := Lib.hid (Bl.trans HB0.out hb3)
        clear hb2 hb3
        go_wp2
        go_ret
        exact ⟨ret_int HFF.out.symm, HB3.out⟩
    · have hm1 : (mn == 0) = false := by simpa using hm
      have hm2 : decide (mn = 0) = false := by simpa using hm
      have HFF : Hid (R = 3) := Lib.hid (by rw [HF.out]; unfold formB; simp only [show uF 1 = true from rfl, show uR 1 = true from rfl, show uM 1 = false from rfl, show uB 1 = false from rfl, hm2]; rfl)
      have HU := Lib.hid (usesOf_at (k := 1) (a := true) (b := true) (c := false) (d := false) (by omega) (by omega) rfl rfl rfl rfl)
      obtain ⟨x0, x1, x2, x3, x4, x5⟩ := HXC.out w1 (Below.refl _ _)
      go_enter Tryz.func97, Tryz.ntmps97
      go_wp2_with fail
      rw [← HW.out]
      refine (HU.out w1).mono ?_
      rintro e w2 ⟨rfl, hb2⟩
      have hb3 := Bl.alloc hb2 (.cells #[.bool true, .bool true, .bool false, .bool false] 123)
      obtain ⟨y0, y1, y2, y3, y4, y5⟩ := HXC.out _ hb3
      have HB3 := Lib.hid (Bl.trans HB0.out hb3)
      clear hb2 hb3
      go_wp2
      go_ret
      exact ⟨ret_int HFF.out.symm, HB3.out⟩
  · by_cases hm : mn = 0
    · have hm1 : (mn == 0) = true := by simpa using hm
      have hm2 : decide (mn = 0) = true := by simpa using hm
      have HM := Lib.hid hm
      clear hm
      cases hebd : bd.toList.isEmpty
      · have hfbd := full_facts hebd
        have HFF : Hid (R = 3) := Lib.hid (by rw [HF.out]; unfold formB; simp only [show uF 2 = true from rfl, show uR 2 = true from rfl, show uM 2 = false from rfl, show uB 2 = false from rfl, hm2, hebd]; rfl)
        have HU := Lib.hid (usesOf_at (k := 2) (a := true) (b := true) (c := false) (d := false) (by omega) (by omega) rfl rfl rfl rfl)
        obtain ⟨x0, x1, x2, x3, x4, x5⟩ := HXC.out w1 (Below.refl _ _)
        go_enter Tryz.func97, Tryz.ntmps97
        go_wp2_with fail
        rw [← HW.out]
        refine (HU.out w1).mono ?_
        rintro e w2 ⟨rfl, hb2⟩
        have hb3 := Bl.alloc hb2 (.cells #[.bool true, .bool true, .bool false, .bool false] 123)
        obtain ⟨y0, y1, y2, y3, y4, y5⟩ := HXC.out _ hb3
        have HB3 := Lib.hid (Bl.trans HB0.out hb3)
        clear hb2 hb3
        go_wp2
        go_ret
        exact ⟨ret_int HFF.out.symm, HB3.out⟩
      · have hfbd := empty_facts hebd
        have HFF : Hid (R = 0) := Lib.hid (by rw [HF.out]; unfold formB; simp only [show uF 2 = true from rfl, show uR 2 = true from rfl, show uM 2 = false from rfl, show uB 2 = false from rfl, hm2, hebd]; rfl)
        have HU := Lib.hid (usesOf_at (k := 2) (a := true) (b := true) (c := false) (d := false) (by omega) (by omega) rfl rfl rfl rfl)
        obtain ⟨x0, x1, x2, x3, x4, x5⟩ := HXC.out w1 (Below.refl _ _)
        go_enter Tryz.func97, Tryz.ntmps97
        go_wp2_with fail
        rw [← HW.out]
        refine (HU.out w1).mono ?_
        rintro e w2 ⟨rfl, hb2⟩
        have hb3 := Bl.alloc hb2 (.cells #[.bool true, .bool true, .bool false, .bool false] 123)
        obtain ⟨y0, y1, y2, y3, y4, y5⟩ := HXC.out _ hb3
        have HB3 := Lib.hid (Bl.trans HB0.out hb3)
        clear hb2 hb3
        go_wp2
        go_ret
        exact ⟨ret_int HFF.out.symm, HB3.out⟩
    · have hm1 : (mn == 0) = false := by simpa using hm
      have hm2 : decide (mn = 0) = false := by simpa using hm
      have HFF : Hid (R = 3) := Lib.hid (by rw [HF.out]; unfold formB; simp only [show uF 2 = true from rfl, show uR 2 = true from rfl, show uM 2 = false from rfl, show uB 2 = false from rfl, hm2]; rfl)
      have HU := Lib.hid (usesOf_at (k := 2) (a := true) (b := true) (c := false) (d := false) (by omega) (by omega) rfl rfl rfl rfl)
      obtain ⟨x0, x1, x2, x3, x4, x5⟩ := HXC.out w1 (Below.refl _ _)
      go_enter Tryz.func97, Tryz.ntmps97
      go_wp2_with fail
      rw [← HW.out]
      refine (HU.out w1).mono ?_
      rintro e w2 ⟨rfl, hb2⟩
      have hb3 := Bl.alloc hb2 (.cells #[.bool true, .bool true, .bool false, .bool false] 123)
      obtain ⟨y0, y1, y2, y3, y4, y5⟩ := HXC.out _ hb3
      have HB3 := Lib.hid (Bl.trans HB0.out hb3)
      clear hb2 hb3
      go_wp2
      go_ret
      exact ⟨ret_int HFF.out.symm, HB3.out⟩
  · cases herl : rl.toList.isEmpty
    · have hfrl := full_facts herl
      have HFF : Hid (R = 3) := Lib.hid (by rw [HF.out]; unfold formB; simp only [show uF 3 = true from rfl, show uR 3 = false from rfl, show uM 3 = false from rfl, show uB 3 = false from rfl, herl]; rfl)
      have HU := Lib.hid (usesOf_at (k := 3) (a := true) (b := false) (c := false) (d := false) (by omega) (by omega) rfl rfl rfl rfl)
      obtain ⟨x0, x1, x2, x3, x4, x5⟩ := HXC.out w1 (Below.refl _ _)
      go_enter Tryz.func97, Tryz.ntmps97
      go_wp2_with fail
      rw [← HW.out]
      refine (HU.out w1).mono ?_
      rintro e w2 ⟨rfl, hb2⟩
      have hb3 := Bl.alloc hb2 (.cells #[.bool true, .bool false, .bool false, .bool false] 123)
      obtain ⟨y0, y1, y2, y3, y4, y5⟩ := HXC.out _ hb3
      have HB3 := Lib.hid (Bl.trans HB0.out hb3)
      clear hb2 hb3
      go_wp2
      go_ret
      exact ⟨ret_int HFF.out.symm, HB3.out⟩
    · have hfrl := empty_facts herl
      by_cases hm : mn = 0
      · have hm1 : (mn == 0) = true := by simpa using hm
        have hm2 : decide (mn = 0) = true := by simpa using hm
        have HM := Lib.hid hm
        clear hm
        cases hebd : bd.toList.isEmpty
        · have hfbd := full_facts hebd
          have HFF : Hid (R = 3) := Lib.hid (by rw [HF.out]; unfold formB; simp only [show uF 3 = true from rfl, show uR 3 = false from rfl, show uM 3 = false from rfl, show uB 3 = false from rfl, herl, hm2, hebd]; rfl)
          have HU := Lib.hid (usesOf_at (k := 3) (a := true) (b := false) (c := false) (d := false) (by omega) (by omega) rfl rfl rfl rfl)
          obtain ⟨x0, x1, x2, x3, x4, x5⟩ := HXC.out w1 (Below.refl _ _)
          go_enter Tryz.func97, Tryz.ntmps97
          go_wp2_with fail
          rw [← HW.out]
          refine (HU.out w1).mono ?_
          rintro e w2 ⟨rfl, hb2⟩
          have hb3 := Bl.alloc hb2 (.cells #[.bool true, .bool false, .bool false, .bool false] 123)
          obtain ⟨y0, y1, y2, y3, y4, y5⟩ := HXC.out _ hb3
          have HB3 := Lib.hid (Bl.trans HB0.out hb3)
          clear hb2 hb3
          go_wp2
          go_ret
          exact ⟨ret_int HFF.out.symm, HB3.out⟩
        · have hfbd := empty_facts hebd
          have HFF : Hid (R = 0) := Lib.hid (by rw [HF.out]; unfold formB; simp only [show uF 3 = true from rfl, show uR 3 = false from rfl, show uM 3 = false from rfl, show uB 3 = false from rfl, herl, hm2, hebd]; rfl)
          have HU := Lib.hid (usesOf_at (k := 3) (a := true) (b := false) (c := false) (d := false) (by omega) (by omega) rfl rfl rfl rfl)
          obtain ⟨x0, x1, x2, x3, x4, x5⟩ := HXC.out w1 (Below.refl _ _)
          go_enter Tryz.func97, Tryz.ntmps97
          go_wp2_with fail
          rw [← HW.out]
          refine (HU.out w1).mono ?_
          rintro e w2 ⟨rfl, hb2⟩
          have hb3 := Bl.alloc hb2 (.cells #[.bool true, .bool false, .bool false, .bool false] 123)
          obtain ⟨y0, y1, y2, y3, y4, y5⟩ := HXC.out _ hb3
          have HB3 := Lib.hid (Bl.trans HB0.out hb3)
          clear hb2 hb3
          go_wp2
          go_ret
          exact ⟨ret_int HFF.out.symm, HB3.out⟩
      · have hm1 : (mn == 0) = false := by simpa using hm
        have hm2 : decide (mn = 0) = false := by simpa using hm
        have HFF : Hid (R = 3) := Lib.hid (by rw [HF.out]; unfold formB; simp only [show uF 3 = true from rfl, show uR 3 = false from rfl, show uM 3 = false from rfl, show uB 3 = false from rfl, herl, hm2]; rfl)
        have HU := Lib.hid (usesOf_at (k := 3) (a := true) (b := false) (c := false) (d := false) (by omega) (by omega) rfl rfl rfl rfl)
        obtain ⟨x0, x1, x2, x3, x4, x5⟩ := HXC.out w1 (Below.refl _ _)
        go_enter Tryz.func97, Tryz.ntmps97
        go_wp2_with fail
        rw [← HW.out]
        refine (HU.out w1).mono ?_
        rintro e w2 ⟨rfl, hb2⟩
        have hb3 := Bl.alloc hb2 (.cells #[.bool true, .bool false, .bool false, .bool false] 123)
        obtain ⟨y0, y1, y2, y3, y4, y5⟩ := HXC.out _ hb3
        have HB3 := Lib.hid (Bl.trans HB0.out hb3)
        clear hb2 hb3
        go_wp2
        go_ret
        exact ⟨ret_int HFF.out.symm, HB3.out⟩
  · cases herl : rl.toList.isEmpty
    · have hfrl := full_facts herl
      have HFF : Hid (R = 3) := Lib.hid (by rw [HF.out]; unfold formB; simp only [show uF 4 = true from rfl, show uR 4 = false from rfl, show uM 4 = true from rfl, show uB 4 = true from rfl, herl]; rfl)
      have HU := Lib.hid (usesOf_at (k := 4) (a := true) (b := false) (c := true) (d := true) (by omega) (by omega) rfl rfl rfl rfl)
      obtain ⟨x0, x1, x2, x3, x4, x5⟩ := HXC.out w1 (Below.refl _ _)
      go_enter Tryz.func97, Tryz.ntmps97
      go_wp2_with fail
      rw [← HW.out]
      refine (HU.out w1).mono ?_
      rintro e w2 ⟨rfl, hb2⟩
      have hb3 := Bl.alloc hb2 (.cells #[.bool true, .bool false, .bool true, .bool true] 123)
      obtain ⟨y0, y1, y2, y3, y4, y5⟩ := HXC.out _ hb3
      have HB3 := Lib.hid (Bl.trans HB0.out hb3)
      clear hb2 hb3
      go_wp2
      go_ret
      exact ⟨ret_int HFF.out.symm, HB3.out⟩
    · have hfrl := empty_facts herl
      have HFF : Hid (R = 0) := Lib.hid (by rw [HF.out]; unfold formB; simp only [show uF 4 = true from rfl, show uR 4 = false from rfl, show uM 4 = true from rfl, show uB 4 = true from rfl, herl]; rfl)
      have HU := Lib.hid (usesOf_at (k := 4) (a := true) (b := false) (c := true) (d := true) (by omega) (by omega) rfl rfl rfl rfl)
      obtain ⟨x0, x1, x2, x3, x4, x5⟩ := HXC.out w1 (Below.refl _ _)
      go_enter Tryz.func97, Tryz.ntmps97
      go_wp2_with fail
      rw [← HW.out]
      refine (HU.out w1).mono ?_
      rintro e w2 ⟨rfl, hb2⟩
      have hb3 := Bl.alloc hb2 (.cells #[.bool true, .bool false, .bool true, .bool true] 123)
      obtain ⟨y0, y1, y2, y3, y4, y5⟩ := HXC.out _ hb3
      have HB3 := Lib.hid (Bl.trans HB0.out hb3)
      clear hb2 hb3
      go_wp2
      go_ret
      exact ⟨ret_int HFF.out.symm, HB3.out⟩
  · cases hefd : fd.toList.isEmpty
    · have hffd := full_facts hefd
      have HFF : Hid (R = 3) := Lib.hid (by rw [HF.out]; unfold formB; simp only [show uF 5 = false from rfl, show uR 5 = true from rfl, show uM 5 = true from rfl, show uB 5 = false from rfl, hefd]; rfl)
      have HU := Lib.hid (usesOf_at (k := 5) (a := false) (b := true) (c := true) (d := false) (by omega) (by omega) rfl rfl rfl rfl)
      obtain ⟨x0, x1, x2, x3, x4, x5⟩ := HXC.out w1 (Below.refl _ _)
      go_enter Tryz.func97, Tryz.ntmps97
      go_wp2_with fail
      rw [← HW.out]
      refine (HU.out w1).mono ?_
      rintro e w2 ⟨rfl, hb2⟩
      have hb3 := Bl.alloc hb2 (.cells #[.bool false, .bool true, .bool true, .bool false] 123)
      obtain ⟨y0, y1, y2, y3, y4, y5⟩ := HXC.out _ hb3
      have HB3 := Lib.hid (Bl.trans HB0.out hb3)
      clear hb2 hb3
      go_wp2
      go_ret
      exact ⟨ret_int HFF.out.symm, HB3.out⟩
    · have hffd := empty_facts hefd
      cases hebd : bd.toList.isEmpty
      · have hfbd := full_facts hebd
        have HFF : Hid (R = 3) := Lib.hid (by rw [HF.out]; unfold formB; simp only [show uF 5 = false from rfl, show uR 5 = true from rfl, show uM 5 = true from rfl, show uB 5 = false from rfl, hefd, hebd]; rfl)
        have HU := Lib.hid (usesOf_at (k := 5) (a := false) (b := true) (c := true) (d := false) (by omega) (by omega) rfl rfl rfl rfl)
        obtain ⟨x0, x1, x2, x3, x4, x5⟩ := HXC.out w1 (Below.refl _ _)
        go_enter Tryz.func97, Tryz.ntmps97
        go_wp2_with fail
        rw [← HW.out]
        refine (HU.out w1).mono ?_
        rintro e w2 ⟨rfl, hb2⟩
        have hb3 := Bl.alloc hb2 (.cells #[.bool false, .bool true, .bool true, .bool false] 123)
        obtain ⟨y0, y1, y2, y3, y4, y5⟩ := HXC.out _ hb3
        have HB3 := Lib.hid (Bl.trans HB0.out hb3)
        clear hb2 hb3
        go_wp2
        go_ret
        exact ⟨ret_int HFF.out.symm, HB3.out⟩
      · have hfbd := empty_facts hebd
        have HFF : Hid (R = 0) := Lib.hid (by rw [HF.out]; unfold formB; simp only [show uF 5 = false from rfl, show uR 5 = true from rfl, show uM 5 = true from rfl, show uB 5 = false from rfl, hefd, hebd]; rfl)
        have HU := Lib.hid (usesOf_at (k := 5) (a := false) (b := true) (c := true) (d := false) (by omega) (by omega) rfl rfl rfl rfl)
        obtain ⟨x0, x1, x2, x3, x4, x5⟩ := HXC.out w1 (Below.refl _ _)
        go_enter Tryz.func97, Tryz.ntmps97
        go_wp2_with fail
        rw [← HW.out]
        refine (HU.out w1).mono ?_
        rintro e w2 ⟨rfl, hb2⟩
        have hb3 := Bl.alloc hb2 (.cells #[.bool false, .bool true, .bool true, .bool false] 123)
        obtain ⟨y0, y1, y2, y3, y4, y5⟩ := HXC.out _ hb3
        have HB3 := Lib.hid (Bl.trans HB0.out hb3)
        clear hb2 hb3
        go_wp2
        go_ret
        exact ⟨ret_int HFF.out.symm, HB3.out⟩
set_option maxHeartbeats 8000000 in
set_option maxRecDepth 100000 in
theorem feedForm_any (at' k : Int) (fd rl : ByteArray) (mn : Int) (bd : ByteArray) (w : World) (h1 : 1 ≤ k) (h5 : k ≤ 5) :
    Calls Tryz.prog 49 #[.agg #[.int .i64 at', .int .i64 k, .string fd, .string rl, .int .i64 mn, .string bd]] w fun e w' => e = .returned (.int .i64 (if formB (at', k, fd, rl, mn, bd) = true then 0 else 3)) ∧ Below w.heap.size w w' := by
  have hX := blk_new w (.cells #[.int .i64 at', .int .i64 k, .string fd, .string rl, .int .i64 mn, .string bd] 37)
  have hb0 := Bl.alloc (Below.refl w.heap.size w) (.cells #[.int .i64 at', .int .i64 k, .string fd, .string rl, .int .i64 mn, .string bd] 37)
  have hk : k = 1 ∨ k = 2 ∨ k = 3 ∨ k = 4 ∨ k = 5 := by omega
  obtain ⟨w1, hw1⟩ : ∃ w1, w1 = w.alloc (.cells #[.int .i64 at', .int .i64 k, .string fd, .string rl, .int .i64 mn, .string bd] 37) := ⟨_, rfl⟩
  rw [← hw1] at hX hb0
  have HXC := Lib.hid (show ∀ W, Below w1.heap.size w1 W → W.cell? ⟨w.heap.size, 0, none⟩ = some (.int .i64 at') ∧ W.cell? ⟨w.heap.size, 1, none⟩ = some (.int .i64 k) ∧ W.cell? ⟨w.heap.size, 2, none⟩ = some (.string fd) ∧ W.cell? ⟨w.heap.size, 3, none⟩ = some (.string rl) ∧ W.cell? ⟨w.heap.size, 4, none⟩ = some (.int .i64 mn) ∧ W.cell? ⟨w.heap.size, 5, none⟩ = some (.string bd) from fun W hW => by
    have h := blk_below hX hW
    exact ⟨blk_cell h 0, blk_cell h 1, blk_cell h 2, blk_cell h 3, blk_cell h 4, blk_cell h 5⟩)
  have HB0 := Lib.hid hb0
  have HW := Lib.hid hw1
  obtain ⟨R, hF⟩ : ∃ R : Int, R = if formB (at', k, fd, rl, mn, bd) = true then 0 else 3 := ⟨_, rfl⟩
  rw [← hF]
  have HF := Lib.hid hF
  clear hX hb0 hF h1 h5 hw1
  rcases hk with rfl | rfl | rfl | rfl | rfl
  · by_cases hm : mn = 0
    · have hm1 : (mn == 0) = true := by simpa using hm
      have hm2 : decide (mn = 0) = true := by simpa using hm
      have HM := Lib.hid hm
      clear hm
      cases hebd : bd.toList.isEmpty
      · have hfbd := full_facts hebd
        have HFF : Hid (R = 3) := Lib.hid (by rw [HF.out]; unfold formB; simp only [show uF 1 = true from rfl, show uR 1 = true from rfl, show uM 1 = false from rfl, show uB 1 = false from rfl, hm2, hebd]; rfl)
        have HU := Lib.hid (uses_at (k := 1) (a := true) (b := true) (c := false) (d := false) (by omega) (by omega) rfl rfl rfl rfl)
        obtain ⟨x0, x1, x2, x3, x4, x5⟩ := HXC.out w1 (Below.refl _ _)
        go_enter Tryz.func49, Tryz.ntmps49
        go_wp2_with fail
        rw [← HW.out]
        refine (HU.out w1).mono ?_
        rintro e w' ⟨rfl, rfl⟩
        go_wp2
        go_ret
        exact ⟨ret_int HFF.out.symm, HB0.out⟩
      · have hfbd := empty_facts hebd
        have HFF : Hid (R = 0) := Lib.hid (by rw [HF.out]; unfold formB; simp only [show uF 1 = true from rfl, show uR 1 = true from rfl, show uM 1 = false from rfl, show uB 1 = false from rfl, hm2, hebd]; rfl)
        have HU := Lib.hid (uses_at (k := 1) (a := true) (b := true) (c := false) (d := false) (by omega) (by omega) rfl rfl rfl rfl)
        obtain ⟨x0, x1, x2, x3, x4, x5⟩ := HXC.out w1 (Below.refl _ _)
        go_enter Tryz.func49, Tryz.ntmps49
        go_wp2_with fail
        rw [← HW.out]
        refine (HU.out w1).mono ?_
        rintro e w' ⟨rfl, rfl⟩
        go_wp2
        go_ret
        exact ⟨ret_int HFF.out.symm, HB0.out⟩
    · have hm1 : (mn == 0) = false := by simpa using hm
      have hm2 : decide (mn = 0) = false := by simpa using hm
      have HFF : Hid (R = 3) := Lib.hid (by rw [HF.out]; unfold formB; simp only [show uF 1 = true from rfl, show uR 1 = true from rfl, show uM 1 = false from rfl, show uB 1 = false from rfl, hm2]; rfl)
      have HU := Lib.hid (uses_at (k := 1) (a := true) (b := true) (c := false) (d := false) (by omega) (by omega) rfl rfl rfl rfl)
      obtain ⟨x0, x1, x2, x3, x4, x5⟩ := HXC.out w1 (Below.refl _ _)
      go_enter Tryz.func49, Tryz.ntmps49
      go_wp2_with fail
      rw [← HW.out]
      refine (HU.out w1).mono ?_
      rintro e w' ⟨rfl, rfl⟩
      go_wp2
      go_ret
      exact ⟨ret_int HFF.out.symm, HB0.out⟩
  · by_cases hm : mn = 0
    · have hm1 : (mn == 0) = true := by simpa using hm
      have hm2 : decide (mn = 0) = true := by simpa using hm
      have HM := Lib.hid hm
      clear hm
      cases hebd : bd.toList.isEmpty
      · have hfbd := full_facts hebd
        have HFF : Hid (R = 3) := Lib.hid (by rw [HF.out]; unfold formB; simp only [show uF 2 = true from rfl, show uR 2 = true from rfl, show uM 2 = false from rfl, show uB 2 = false from rfl, hm2, hebd]; rfl)
        have HU := Lib.hid (uses_at (k := 2) (a := true) (b := true) (c := false) (d := false) (by omega) (by omega) rfl rfl rfl rfl)
        obtain ⟨x0, x1, x2, x3, x4, x5⟩ := HXC.out w1 (Below.refl _ _)
        go_enter Tryz.func49, Tryz.ntmps49
        go_wp2_with fail
        rw [← HW.out]
        refine (HU.out w1).mono ?_
        rintro e w' ⟨rfl, rfl⟩
        go_wp2
        go_ret
        exact ⟨ret_int HFF.out.symm, HB0.out⟩
      · have hfbd := empty_facts hebd
        have HFF : Hid (R = 0) := Lib.hid (by rw [HF.out]; unfold formB; simp only [show uF 2 = true from rfl, show uR 2 = true from rfl, show uM 2 = false from rfl, show uB 2 = false from rfl, hm2, hebd]; rfl)
        have HU := Lib.hid (uses_at (k := 2) (a := true) (b := true) (c := false) (d := false) (by omega) (by omega) rfl rfl rfl rfl)
        obtain ⟨x0, x1, x2, x3, x4, x5⟩ := HXC.out w1 (Below.refl _ _)
        go_enter Tryz.func49, Tryz.ntmps49
        go_wp2_with fail
        rw [← HW.out]
        refine (HU.out w1).mono ?_
        rintro e w' ⟨rfl, rfl⟩
        go_wp2
        go_ret
        exact ⟨ret_int HFF.out.symm, HB0.out⟩
    · have hm1 : (mn == 0) = false := by simpa using hm
      have hm2 : decide (mn = 0) = false := by simpa using hm
      have HFF : Hid (R = 3) := Lib.hid (by rw [HF.out]; unfold formB; simp only [show uF 2 = true from rfl, show uR 2 = true from rfl, show uM 2 = false from rfl, show uB 2 = false from rfl, hm2]; rfl)
      have HU := Lib.hid (uses_at (k := 2) (a := true) (b := true) (c := false) (d := false) (by omega) (by omega) rfl rfl rfl rfl)
      obtain ⟨x0, x1, x2, x3, x4, x5⟩ := HXC.out w1 (Below.refl _ _)
      go_enter Tryz.func49, Tryz.ntmps49
      go_wp2_with fail
      rw [← HW.out]
      refine (HU.out w1).mono ?_
      rintro e w' ⟨rfl, rfl⟩
      go_wp2
      go_ret
      exact ⟨ret_int HFF.out.symm, HB0.out⟩
  · cases herl : rl.toList.isEmpty
    · have hfrl := full_facts herl
      have HFF : Hid (R = 3) := Lib.hid (by rw [HF.out]; unfold formB; simp only [show uF 3 = true from rfl, show uR 3 = false from rfl, show uM 3 = false from rfl, show uB 3 = false from rfl, herl]; rfl)
      have HU := Lib.hid (uses_at (k := 3) (a := true) (b := false) (c := false) (d := false) (by omega) (by omega) rfl rfl rfl rfl)
      obtain ⟨x0, x1, x2, x3, x4, x5⟩ := HXC.out w1 (Below.refl _ _)
      go_enter Tryz.func49, Tryz.ntmps49
      go_wp2_with fail
      rw [← HW.out]
      refine (HU.out w1).mono ?_
      rintro e w' ⟨rfl, rfl⟩
      go_wp2
      go_ret
      exact ⟨ret_int HFF.out.symm, HB0.out⟩
    · have hfrl := empty_facts herl
      by_cases hm : mn = 0
      · have hm1 : (mn == 0) = true := by simpa using hm
        have hm2 : decide (mn = 0) = true := by simpa using hm
        have HM := Lib.hid hm
        clear hm
        cases hebd : bd.toList.isEmpty
        · have hfbd := full_facts hebd
          have HFF : Hid (R = 3) := Lib.hid (by rw [HF.out]; unfold formB; simp only [show uF 3 = true from rfl, show uR 3 = false from rfl, show uM 3 = false from rfl, show uB 3 = false from rfl, herl, hm2, hebd]; rfl)
          have HU := Lib.hid (uses_at (k := 3) (a := true) (b := false) (c := false) (d := false) (by omega) (by omega) rfl rfl rfl rfl)
          obtain ⟨x0, x1, x2, x3, x4, x5⟩ := HXC.out w1 (Below.refl _ _)
          go_enter Tryz.func49, Tryz.ntmps49
          go_wp2_with fail
          rw [← HW.out]
          refine (HU.out w1).mono ?_
          rintro e w' ⟨rfl, rfl⟩
          go_wp2
          go_ret
          exact ⟨ret_int HFF.out.symm, HB0.out⟩
        · have hfbd := empty_facts hebd
          have HFF : Hid (R = 0) := Lib.hid (by rw [HF.out]; unfold formB; simp only [show uF 3 = true from rfl, show uR 3 = false from rfl, show uM 3 = false from rfl, show uB 3 = false from rfl, herl, hm2, hebd]; rfl)
          have HU := Lib.hid (uses_at (k := 3) (a := true) (b := false) (c := false) (d := false) (by omega) (by omega) rfl rfl rfl rfl)
          obtain ⟨x0, x1, x2, x3, x4, x5⟩ := HXC.out w1 (Below.refl _ _)
          go_enter Tryz.func49, Tryz.ntmps49
          go_wp2_with fail
          rw [← HW.out]
          refine (HU.out w1).mono ?_
          rintro e w' ⟨rfl, rfl⟩
          go_wp2
          go_ret
          exact ⟨ret_int HFF.out.symm, HB0.out⟩
      · have hm1 : (mn == 0) = false := by simpa using hm
        have hm2 : decide (mn = 0) = false := by simpa using hm
        have HFF : Hid (R = 3) := Lib.hid (by rw [HF.out]; unfold formB; simp only [show uF 3 = true from rfl, show uR 3 = false from rfl, show uM 3 = false from rfl, show uB 3 = false from rfl, herl, hm2]; rfl)
        have HU := Lib.hid (uses_at (k := 3) (a := true) (b := false) (c := false) (d := false) (by omega) (by omega) rfl rfl rfl rfl)
        obtain ⟨x0, x1, x2, x3, x4, x5⟩ := HXC.out w1 (Below.refl _ _)
        go_enter Tryz.func49, Tryz.ntmps49
        go_wp2_with fail
        rw [← HW.out]
        refine (HU.out w1).mono ?_
        rintro e w' ⟨rfl, rfl⟩
        go_wp2
        go_ret
        exact ⟨ret_int HFF.out.symm, HB0.out⟩
  · cases herl : rl.toList.isEmpty
    · have hfrl := full_facts herl
      have HFF : Hid (R = 3) := Lib.hid (by rw [HF.out]; unfold formB; simp only [show uF 4 = true from rfl, show uR 4 = false from rfl, show uM 4 = true from rfl, show uB 4 = true from rfl, herl]; rfl)
      have HU := Lib.hid (uses_at (k := 4) (a := true) (b := false) (c := true) (d := true) (by omega) (by omega) rfl rfl rfl rfl)
      obtain ⟨x0, x1, x2, x3, x4, x5⟩ := HXC.out w1 (Below.refl _ _)
      go_enter Tryz.func49, Tryz.ntmps49
      go_wp2_with fail
      rw [← HW.out]
      refine (HU.out w1).mono ?_
      rintro e w' ⟨rfl, rfl⟩
      go_wp2
      go_ret
      exact ⟨ret_int HFF.out.symm, HB0.out⟩
    · have hfrl := empty_facts herl
      have HFF : Hid (R = 0) := Lib.hid (by rw [HF.out]; unfold formB; simp only [show uF 4 = true from rfl, show uR 4 = false from rfl, show uM 4 = true from rfl, show uB 4 = true from rfl, herl]; rfl)
      have HU := Lib.hid (uses_at (k := 4) (a := true) (b := false) (c := true) (d := true) (by omega) (by omega) rfl rfl rfl rfl)
      obtain ⟨x0, x1, x2, x3, x4, x5⟩ := HXC.out w1 (Below.refl _ _)
      go_enter Tryz.func49, Tryz.ntmps49
      go_wp2_with fail
      rw [← HW.out]
      refine (HU.out w1).mono ?_
      rintro e w' ⟨rfl, rfl⟩
      go_wp2
      go_ret
      exact ⟨ret_int HFF.out.symm, HB0.out⟩
  · cases hefd : fd.toList.isEmpty
    · have hffd := full_facts hefd
      have HFF : Hid (R = 3) := Lib.hid (by rw [HF.out]; unfold formB; simp only [show uF 5 = false from rfl, show uR 5 = true from rfl, show uM 5 = true from rfl, show uB 5 = false from rfl, hefd]; rfl)
      have HU := Lib.hid (uses_at (k := 5) (a := false) (b := true) (c := true) (d := false) (by omega) (by omega) rfl rfl rfl rfl)
      obtain ⟨x0, x1, x2, x3, x4, x5⟩ := HXC.out w1 (Below.refl _ _)
      go_enter Tryz.func49, Tryz.ntmps49
      go_wp2_with fail
      rw [← HW.out]
      refine (HU.out w1).mono ?_
      rintro e w' ⟨rfl, rfl⟩
      go_wp2
      go_ret
      exact ⟨ret_int HFF.out.symm, HB0.out⟩
    · have hffd := empty_facts hefd
      cases hebd : bd.toList.isEmpty
      · have hfbd := full_facts hebd
        have HFF : Hid (R = 3) := Lib.hid (by rw [HF.out]; unfold formB; simp only [show uF 5 = false from rfl, show uR 5 = true from rfl, show uM 5 = true from rfl, show uB 5 = false from rfl, hefd, hebd]; rfl)
        have HU := Lib.hid (uses_at (k := 5) (a := false) (b := true) (c := true) (d := false) (by omega) (by omega) rfl rfl rfl rfl)
        obtain ⟨x0, x1, x2, x3, x4, x5⟩ := HXC.out w1 (Below.refl _ _)
        go_enter Tryz.func49, Tryz.ntmps49
        go_wp2_with fail
        rw [← HW.out]
        refine (HU.out w1).mono ?_
        rintro e w' ⟨rfl, rfl⟩
        go_wp2
        go_ret
        exact ⟨ret_int HFF.out.symm, HB0.out⟩
      · have hfbd := empty_facts hebd
        have HFF : Hid (R = 0) := Lib.hid (by rw [HF.out]; unfold formB; simp only [show uF 5 = false from rfl, show uR 5 = true from rfl, show uM 5 = true from rfl, show uB 5 = false from rfl, hefd, hebd]; rfl)
        have HU := Lib.hid (uses_at (k := 5) (a := false) (b := true) (c := true) (d := false) (by omega) (by omega) rfl rfl rfl rfl)
        obtain ⟨x0, x1, x2, x3, x4, x5⟩ := HXC.out w1 (Below.refl _ _)
        go_enter Tryz.func49, Tryz.ntmps49
        go_wp2_with fail
        rw [← HW.out]
        refine (HU.out w1).mono ?_
        rintro e w' ⟨rfl, rfl⟩
        go_wp2
        go_ret
        exact ⟨ret_int HFF.out.symm, HB0.out⟩
end Go.Proofs.YtilhonppgedoiaaGreatDoor
