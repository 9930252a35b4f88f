/- Faults of rules, steps, boards and moments of package rework. Conditions: at most 10^6 steps, strings of at most 2^47 bytes. -/
import Derived.Test.YtnmimagninhkkaaGreatDoorRst
namespace Go.Proofs.YtnmimagninhkkaaGreatDoor
open Go.RowKit Go.Sort

def fltF (rh rr : Int) (l : List Stp) : Int := if rulesF rh rr = 0 then stepsF l else rulesF rh rr
def mfltF (rh rr : Int) (l : List Stp) (at' : Int) : Int := if fltF rh rr l = 0 then (if momB at' = true then 0 else 1) else fltF rh rr l
def bfltF (rh rr : Int) (l : List Stp) (b : ByteArray) (at' : Int) : Int := if fltF rh rr l = 0 then (if keyB b = true then (if momB at' = true then 0 else 1) else 5) else fltF rh rr l
set_option maxHeartbeats 1000000 in
theorem fault_any (rh rr : Int) (l : List Stp) (v : Value) (w : World) (hl : l.length ≤ 1000000) (rl : RecR TSt w 0 v l) (hz : StpZ l) :
    Calls Tryz.prog 135 #[.agg #[.int .i64 rh, .int .i64 rr], v] w fun e w' => e = .returned (.int .i64 (fltF rh rr l)) ∧ Below w.heap.size w w' := by
  have HCR := Lib.hid (CheckRules_any rh rr)
  have HCS := Lib.hid fun W (hW : Below w.heap.size w W) => CheckSteps_any l v W hl (rl.below hW) hz
  have hA := Bl.alloc (Below.refl w.heap.size w) (.cells #[.int .i64 rh, .int .i64 rr] 27)
  have hX := blk_new w (.cells #[.int .i64 rh, .int .i64 rr] 27)
  obtain ⟨R, hR⟩ : ∃ R, R = rulesF rh rr := ⟨_, rfl⟩
  have HV : Hid (fltF rh rr l = if R = 0 then stepsF l else R) := Lib.hid (by rw [hR]; rfl)
  rw [← hR] at HCR
  clear hR rl
  by_cases h0 : R = 0
  · have HV0 : Hid (fltF rh rr l = stepsF l) := Lib.hid (by rw [HV.out, if_pos h0])
    subst h0
    go_enter Tryz.func135, Tryz.ntmps135
    go_wp2_with fail
    refine (HCR.out _).mono ?_
    rintro e w1 ⟨rfl, hb1⟩
    have hB1 := Bl.trans hA hb1
    clear hb1
    go_wp2_with fail
    refine (HCS.out _ hB1).mono ?_
    rintro e w2 ⟨rfl, hb2⟩
    go_wp2
    go_ret
    exact ⟨ret_int HV0.out.symm, Bl.trans hB1 hb2⟩
  · have HV0 : Hid (fltF rh rr l = R) := Lib.hid (by rw [HV.out, if_neg h0])
    go_enter Tryz.func135, Tryz.ntmps135
    go_wp2_with fail
    refine (HCR.out _).mono ?_
    rintro e w1 ⟨rfl, hb1⟩
    go_wp2
    go_ret
    exact ⟨ret_int HV0.out.symm, Bl.trans hA hb1⟩
set_option maxHeartbeats 1000000 in
theorem boardFault_any (rh rr : Int) (l : List Stp) (b : ByteArray) (at' : Int) (v : Value) (w : World) (hl : l.length ≤ 1000000) (rl : RecR TSt w 0 v l) (hz : StpZ l) (hb : b.size ≤ 140737488355328) :
    Calls Tryz.prog 85 #[.agg #[.int .i64 rh, .int .i64 rr], v, .string b, .int .i64 at'] w fun e w' => e = .returned (.int .i64 (bfltF rh rr l b at')) ∧ Below w.heap.size w w' := by
  have HF := Lib.hid fun W (hW : Below w.heap.size w W) => fault_any rh rr l v W hl (rl.below hW) hz
  have HK := Lib.hid fun W => IsKey_any b W hb
  have HM : Hid (∀ W, Calls Tryz.prog 173 #[.int .i64 at'] W fun e w' => e = .returned (.bool (momB at')) ∧ W = w') := Lib.hid (IsMoment_any at')
  have hA := Bl.alloc (Below.refl w.heap.size w) (.cells #[.int .i64 rh, .int .i64 rr] 27)
  have hX := blk_new w (.cells #[.int .i64 rh, .int .i64 rr] 27)
  obtain ⟨R, hR⟩ : ∃ R, R = fltF rh rr l := ⟨_, rfl⟩
  have HV : Hid (bfltF rh rr l b at' = if R = 0 then (if keyB b = true then (if momB at' = true then 0 else 1) else 5) else R) := Lib.hid (by rw [hR]; rfl)
  rw [← hR] at HF
  clear hR rl
  by_cases h0 : R = 0
  · subst h0
    go_enter Tryz.func85, Tryz.ntmps85
    go_wp2_with fail
    refine (HF.out _ hA).mono ?_
    rintro e w1 ⟨rfl, hb1⟩
    have hB1 := Bl.trans hA hb1
    clear hb1
    go_wp2_with fail
    refine (HK.out _).mono ?_
    rintro e w2 ⟨rfl, hb2⟩
    have hB2 := Bl.trans hB1 hb2
    clear hb2
    cases hk : keyB b
    · have HR : Hid (bfltF rh rr l b at' = 5) := Lib.hid (by rw [HV.out, hk]; rfl)
      go_wp2
      go_ret
      exact ⟨ret_int HR.out.symm, hB2⟩
    · go_wp2_with fail
      refine (HM.out _).mono ?_
      rintro e w' ⟨rfl, rfl⟩
      cases hm : momB at'
      · have HR : Hid (bfltF rh rr l b at' = 1) := Lib.hid (by rw [HV.out, hk, hm]; rfl)
        go_wp2
        go_ret
        exact ⟨ret_int HR.out.symm, hB2⟩
      · have HR : Hid (bfltF rh rr l b at' = 0) := Lib.hid (by rw [HV.out, hk, hm]; rfl)
        go_wp2
        go_ret
        exact ⟨ret_int HR.out.symm, hB2⟩
  · have HR : Hid (bfltF rh rr l b at' = R) := Lib.hid (by rw [HV.out, if_neg h0])
    go_enter Tryz.func85, Tryz.ntmps85
    go_wp2_with fail
    refine (HF.out _ hA).mono ?_
    rintro e w1 ⟨rfl, hb1⟩
    go_wp2
    go_ret
    exact ⟨ret_int HR.out.symm, Bl.trans hA hb1⟩
set_option maxHeartbeats 1000000 in
theorem rMomentFault_any (rh rr : Int) (l : List Stp) (at' : Int) (v : Value) (w : World) (hl : l.length ≤ 1000000) (rl : RecR TSt w 0 v l) (hz : StpZ l) :
    Calls Tryz.prog 91 #[.agg #[.int .i64 rh, .int .i64 rr], v, .int .i64 at'] w fun e w' => e = .returned (.int .i64 (mfltF rh rr l at')) ∧ Below w.heap.size w w' := by
  have HF := Lib.hid fun W (hW : Below w.heap.size w W) => fault_any rh rr l v W hl (rl.below hW) hz
  have HM : Hid (∀ W, Calls Tryz.prog 173 #[.int .i64 at'] W fun e w' => e = .returned (.bool (momB at')) ∧ W = w') := Lib.hid (IsMoment_any at')
  have hA := Bl.alloc (Below.refl w.heap.size w) (.cells #[.int .i64 rh, .int .i64 rr] 27)
  have hX := blk_new w (.cells #[.int .i64 rh, .int .i64 rr] 27)
  obtain ⟨R, hR⟩ : ∃ R, R = fltF rh rr l := ⟨_, rfl⟩
  have HV : Hid (mfltF rh rr l at' = if R = 0 then (if momB at' = true then 0 else 1) else R) := Lib.hid (by rw [hR]; rfl)
  rw [← hR] at HF
  clear hR rl
  by_cases h0 : R = 0
  · subst h0
    go_enter Tryz.func91, Tryz.ntmps91
    go_wp2_with fail
    refine (HF.out _ hA).mono ?_
    rintro e w1 ⟨rfl, hb1⟩
    have hB1 := Bl.trans hA hb1
    clear hb1
    go_wp2_with fail
    refine (HM.out _).mono ?_
    rintro e w' ⟨rfl, rfl⟩
    cases hm : momB at'
    · have HR : Hid (mfltF rh rr l at' = 1) := Lib.hid (by rw [HV.out, hm]; rfl)
      go_wp2
      go_ret
      exact ⟨ret_int HR.out.symm, hB1⟩
    · have HR : Hid (mfltF rh rr l at' = 0) := Lib.hid (by rw [HV.out, hm]; rfl)
      go_wp2
      go_ret
      exact ⟨ret_int HR.out.symm, hB1⟩
  · have HR : Hid (mfltF rh rr l at' = R) := Lib.hid (by rw [HV.out, if_neg h0])
    go_enter Tryz.func91, Tryz.ntmps91
    go_wp2_with fail
    refine (HF.out _ hA).mono ?_
    rintro e w1 ⟨rfl, hb1⟩
    go_wp2
    go_ret
    exact ⟨ret_int HR.out.symm, Bl.trans hA hb1⟩
end Go.Proofs.YtnmimagninhkkaaGreatDoor
