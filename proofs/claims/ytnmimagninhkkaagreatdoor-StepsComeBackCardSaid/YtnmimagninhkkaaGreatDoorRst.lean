/- RightSteps, RightRules of the random stream; faults of rules and steps. Conditions: the stream's count below 8*10^5. -/
import Derived.Test.YtnmimagninhkkaaGreatDoorStc
namespace Go.Proofs.YtnmimagninhkkaaGreatDoor
open Go.RowKit Go.Sort

theorem StpOk.z {l : List Stp} (h : ∀ x ∈ l, StpOk x) : StpZ l := fun s hs => ⟨Nat.le_trans (h s hs).1 (by decide), Nat.le_trans (h s hs).2.1 (by decide)⟩
set_option maxHeartbeats 4000000 in
theorem RightSteps_any (s : Nat) (c : Int) (w : World) (h : Str w s c) (hc : c ≤ 800000) :
    Calls Tryz.prog 14 #[.pointer (some ⟨s, 0, none⟩)] w fun e w' => ∃ v l, e = .returned v ∧ OwnR TSt w' w.heap.size v l ∧ l.length ≤ 24 ∧ (∀ x ∈ l, StpOk x) ∧ stepsF l = 0 ∧ Str w' s (c + 40000) ∧ w.grownBy w' (some s) := by
  have ls := h.lt
  go_enter Tryz.func14, Tryz.ntmps14
  go_wp2_with fail
  go_loopw [4] (fun i wr => ∃ k : Nat, k ≤ 6 ∧ i = .int .i64 k ∧ Str wr s (c + 6000 * k) ∧ w.grownBy wr (some s)) (fun i _ => 6 - (intOf i).toNat)
  case atStart => exact ⟨0, by omega, rfl, h.mono (by omega), Gr.refl _ _⟩
  case round =>
    obtain ⟨k, hk, rfl, hS, hG⟩ := hrel
    have hz := hG.size
    by_cases hlt : k < 6
    · have hwk : IntKind.i64.wrap ((k : Int) + 1) = ((k + 1 : Nat) : Int) := by rw [IntWalk.i64_in _ (by omega)]; omega
      go_wp2_with fail
      refine (StepList_any s _ wr hS (by omega)).mono ?_
      rintro e w2 ⟨v, l, rfl, hO, hl, hok, hS2, hG2⟩
      have HSF := Lib.hid (StepsFault_any l v w2 (by omega) hO.rec0 (StpOk.z hok))
      obtain ⟨F, hF⟩ : ∃ F, F = stepsF l := ⟨_, rfl⟩
      rw [← hF] at HSF
      have HO := Lib.hid (And.intro (OwnR.base hO hz) (And.intro hl (And.intro hok hF)))
      have hG2' := Gr.trans hG hG2
      clear hO hok hF hG2 hG hl
      by_cases h0 : F = 0
      · subst h0
        go_wp2_with fail
        refine HSF.out.mono ?_
        rintro e w3 ⟨rfl, hb3⟩
        have HF := Lib.hid (And.intro (HO.out.1.below hb3) (And.intro ((hS2.below hb3).mono (d := c + 40000) (by omega)) (Gr.trans hG2' (Gr.of_below hb3 (some s)))))
        clear hb3 hS2 hG2' hS
        go_wp2
        go_ret
        exact ⟨_, l, rfl, HF.out.1, HO.out.2.1, HO.out.2.2.1, HO.out.2.2.2.symm, HF.out.2.1, HF.out.2.2⟩
      · go_wp2_with fail
        refine HSF.out.mono ?_
        rintro e w3 ⟨rfl, hb3⟩
        have HF := Lib.hid (And.intro ((hS2.below hb3).mono (d := c + 6000 * ((k + 1 : Nat) : Int)) (by omega)) (Gr.trans hG2' (Gr.of_below hb3 (some s))))
        clear hb3 hS2 hG2' hS
        go_wp2
        go_roundw
        case rel => exact ⟨k + 1, by omega, by go_num, HF.out.1, HF.out.2⟩
        case measure => simp [intOf]; omega
    · obtain rfl : k = 6 := by omega
      have HF := Lib.hid (And.intro (hS.mono (d := c + 40000) (by omega)) hG)
      clear hS hG
      go_wp2
      go_ret
      exact ⟨_, [], rfl, OwnR.nil _ _, by simp, by simp, rfl, HF.out.1, HF.out.2⟩
set_option maxHeartbeats 4000000 in
theorem RightRules_any (s : Nat) (c : Int) (w : World) (h : Str w s c) (hc : c ≤ 900000) :
    Calls Tryz.prog 13 #[.pointer (some ⟨s, 0, none⟩)] w fun e w' => ∃ rh rr : Int, e = .returned (.agg #[.int .i64 rh, .int .i64 rr]) ∧ 1 ≤ rh ∧ rh ≤ 10 ∧ 1 ≤ rr ∧ rr ≤ 3 ∧ Str w' s (c + 2) ∧ w.grownBy w' (some s) := by
  have ls := h.lt
  go_enter Tryz.func13, Tryz.ntmps13
  go_wp2_with fail
  refine (Pick_any s c [1, 2, 3, 5, 10] _ _ ((h.alloc _).alloc _) (by omega) (Ints.of_blk (blk_new' (w.alloc _) _ (by simp)) rfl rfl (by simp) (by omega) (by omega)) (by simp) (by simp)).mono ?_
  rintro e w1 ⟨rh, rfl, hx, hS1, hG1⟩
  have hx1 : 1 ≤ rh ∧ rh ≤ 10 := by simp only [List.mem_cons, List.not_mem_nil, or_false] at hx; omega
  have hb1 := Gr.blk hG1 (blk_old (blk_new w _) _) (by omega)
  have hz1 := hG1.size
  simp at hz1
  have hG1' := Gr.trans (Gr.alloc (Gr.alloc (Gr.refl w (some s)) _) _) hG1
  clear hG1 hx
  go_wp2_with fail
  refine (Pick_any s (c + 1) [1, 2, 3] _ _ (hS1.alloc _) (by omega) (Ints.of_blk (blk_new _ _) rfl rfl (by simp) (by omega) hS1.lt) (by simp) (by simp)).mono ?_
  rintro e w2 ⟨rr, rfl, hy, hS2, hG2⟩
  have hy1 : 1 ≤ rr ∧ rr ≤ 3 := by simp only [List.mem_cons, List.not_mem_nil, or_false] at hy; omega
  have hb2 := Gr.blk hG2 (blk_old hb1 _) (by omega)
  have hG2' := Gr.trans (Gr.alloc hG1' _) hG2
  have r0 := blk_cell hb2 0
  have r1 := blk_cell hb2 1
  have f0 := blk_free hb2 0
  have f1 := blk_free hb2 1
  simp at r0 r1
  have hb4 := blk_set (blk_set hb2 0 (.int .i64 rh)) 1 (.int .i64 rr)
  have HF := Lib.hid (And.intro ((hS2.belowB (B := w.heap.size) (Bl.set (Bl.set (Below.refl _ _) w.heap.size 0 (Nat.le_refl _) (.int .i64 rh)) w.heap.size 1 (Nat.le_refl _) (.int .i64 rr)) ls).mono (d := c + 2) (by omega)) (Gr.set (Gr.set hG2' w.heap.size 0 (.inr (Nat.le_refl _)) (.int .i64 rh)) w.heap.size 1 (.inr (Nat.le_refl _)) (.int .i64 rr)))
  clear hG2 hG1' hb1 hy hS2 hG2'
  go_wp2
  have k0 := blk_cell hb4 0
  have k1 := blk_cell hb4 1
  simp at k0 k1
  refine bodyPost_ret (v := .agg #[.int .i64 rh, .int .i64 rr]) (by simp [results, Tryz.results13, go_sem, k0, k1]) rfl ⟨rh, rr, rfl, hx1.1, hx1.2, hy1.1, hy1.2, HF.out.1, HF.out.2⟩
/-- what is wrong with rules. -/
def rulesF (rh rr : Int) : Int := if inB 0 rh 100 = true ∧ inB 0 rr 100 = true then 0 else 1
set_option maxHeartbeats 1000000 in
theorem CheckRules_any (rh rr : Int) (w : World) : Calls Tryz.prog 61 #[.agg #[.int .i64 rh, .int .i64 rr]] w fun e w' => e = .returned (.int .i64 (rulesF rh rr)) ∧ Below w.heap.size w w' := by
  have HO1 := Lib.hid (Outside_any rh 0 100)
  have HO2 := Lib.hid (Outside_any rr 0 100)
  have hb := Bl.alloc (Below.refl w.heap.size w) (.cells #[.int .i64 rh, .int .i64 rr] 27)
  cases h1 : inB 0 rh 100
  · have HR : Hid (rulesF rh rr = 1) := Lib.hid (by unfold rulesF; rw [h1]; rfl)
    rw [h1] at HO1
    go_enter Tryz.func61, Tryz.ntmps61
    go_wp2_with fail
    refine (HO1.out _).mono ?_
    rintro e w' ⟨rfl, rfl⟩
    go_wp2
    go_ret
    exact ⟨ret_int HR.out.symm, hb⟩
  · rw [h1] at HO1
    cases h2 : inB 0 rr 100
    all_goals
      have HR : Hid (rulesF rh rr = if inB 0 rr 100 = true then 0 else 1) := Lib.hid (by unfold rulesF; rw [h1]; simp)
      rw [h2] at HO2 HR
      go_enter Tryz.func61, Tryz.ntmps61
      go_wp2_with fail
      refine (HO1.out _).mono ?_
      rintro e w' ⟨rfl, rfl⟩
      go_wp2_with fail
      refine (HO2.out _).mono ?_
      rintro e w' ⟨rfl, rfl⟩
      go_wp2
      go_ret
      exact ⟨ret_int (by rw [HR.out]; rfl), hb⟩
end Go.Proofs.YtnmimagninhkkaaGreatDoor
