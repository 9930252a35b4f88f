/- slices.Equal of errors and of ints. Conditions: at most 10^6 of them. · reworked: package rework solders. No conditions. · The reference's RefusedSteps. Conditions: right steps. · The reference's RulesFault. No conditions. · Stream.RulesOf: some rules. Conditions: a stream within its bounds. -/
import Derived.Test.YtbkglhakhahfpaaGreatDoorRs
import Derived.Deep.RegionWith
import Derived.Test.YtbkglhakhahfpaaGreatDoorSpan
import Derived.Test.YtbkglhakhahfpaaGreatDoorFault
import Derived.Test.YtbkglhakhahfpaaGreatDoorTmp
namespace Go.Proofs.YtbkglhakhahfpaaGreatDoor
open Go.RowKit Go.Sort Go.Maps

theorem num_at {T : Rty Int} (hf : T.f = fun n => [.int .i64 n]) (hk : T.k = 1) {w : World} {lo : Nat} {a : Option Addr} {n cap : Nat} {l : List Int} (hT : T.Ok) (h : RecR T w lo (.slice a n cap) l) {k : Nat} {x : Int} (hx : l[k]? = some x) :
    ∃ b o, a = some ⟨b, o, none⟩ ∧ b < w.heap.size ∧ w.cell? ⟨b, o + k, none⟩ = some (.int .i64 x) := by
  obtain ⟨b, o, rfl, _, h2, h3⟩ := h.at hT.len hx hT.pos
  refine ⟨b, o, rfl, h2, ?_⟩
  have := h3 0 (.int .i64 x) (by rw [hf]; rfl)
  rw [hk, Nat.mul_one, Nat.add_zero] at this
  exact this
theorem EqN_any (l m : List Int) (v u : Value) (w : World) (hl : l.length ≤ 1000000) (hm : m.length ≤ 1000000) (rl : RecR TN w 0 v l) (rm : RecR TN w 0 u m) :
    Calls Tryz.prog 27 #[v, u] w fun e w' => e = .returned (.bool (decide (l = m))) ∧ Below w.heap.size w w' := by
  obtain ⟨a1, c1, rfl, _, _⟩ := rl.form
  obtain ⟨a2, c2, rfl, _, _⟩ := rm.form
  by_cases hlen : l.length = m.length
  · by_cases h0 : l = []
    · subst h0
      have hm0 : m = [] := List.eq_nil_of_length_eq_zero (by rw [← hlen]; rfl)
      subst hm0
      refine (Tryz.slices_Equal_int_empty a1 a2 c1 0 c2 w (by omega)).mono ?_
      rintro e w' ⟨rfl, rfl⟩
      exact ⟨rfl, Below.refl _ _⟩
    · have hp := List.length_pos_iff.2 h0
      obtain ⟨b1, o1, rfl, _, _⟩ := num_at (T := TN) rfl rfl TN.ok rl (k := 0) (x := l[0]) (List.getElem?_eq_getElem hp)
      obtain ⟨b2, o2, rfl, _, _⟩ := num_at (T := TN) rfl rfl TN.ok rm (k := 0) (x := m[0]) (List.getElem?_eq_getElem (by omega))
      refine (Tryz.slices_Equal_int b1 o1 l.length c1 b2 o2 m.length c2 l m w (Nat.le_refl _) (Nat.le_refl _) (by omega) (by omega) (fun j hj => ?_) (fun j hj => ?_)).mono ?_
      · obtain ⟨b, o, e, _, hc⟩ := num_at (T := TN) rfl rfl TN.ok rl (k := j) (x := l[j]) (List.getElem?_eq_getElem hj)
        injection e with e; injection e with e1 e2 _; subst e1 e2
        rw [hc]; simp [List.getD_eq_getElem?_getD, List.getElem?_eq_getElem hj]
      · obtain ⟨b, o, e, _, hc⟩ := num_at (T := TN) rfl rfl TN.ok rm (k := j) (x := m[j]) (List.getElem?_eq_getElem hj)
        injection e with e; injection e with e1 e2 _; subst e1 e2
        rw [hc]; simp [List.getD_eq_getElem?_getD, List.getElem?_eq_getElem hj]
      · rintro e w' ⟨rfl, q, rfl⟩
        refine ⟨?_, ⟨rfl, rfl, rfl, Nat.le_refl _, fun _ _ => rfl⟩⟩
        rw [List.take_length, List.take_length]
        congr 2
        by_cases h : l = m
        · rw [decide_eq_true h, beq_iff_eq]; exact h
        · rw [decide_eq_false h, beq_eq_false_iff_ne]; exact h
  · refine (Tryz.slices_Equal_int_lens a1 a2 l.length c1 m.length c2 w hlen).mono ?_
    rintro e w' ⟨rfl, rfl⟩
    exact ⟨by rw [decide_eq_false (fun h => hlen (by rw [h]))], Below.refl _ _⟩
end Go.Proofs.YtbkglhakhahfpaaGreatDoor
namespace Go.Proofs.YtbkglhakhahfpaaGreatDoor
open Go.RowKit Go.Sort Go.Maps

def oneS : List Stp := [(3, ⟨#[117]⟩, 1, ⟨#[]⟩)]
theorem cAt_one : cAt 1 0 oneS ⟨#[117]⟩ 3 = ⟨2, 3, 1, [], [], 0⟩ ∧ bfltF 1 0 oneS ⟨#[117]⟩ 3 = 0 := by
  constructor <;> rfl
set_option maxHeartbeats 4000000 in
set_option maxRecDepth 100000 in
theorem reworked_any (w : World) : Calls Tryz.prog 25 #[] w fun e w' => e = .returned (.bool true) ∧ Below w.heap.size w w' := by
  obtain ⟨w0, hw0⟩ : ∃ w0, w0 = w.alloc (.cells #[.int .i64 3, .string ⟨#[117]⟩, .int .i64 1, .string ⟨#[]⟩] 133) := ⟨_, rfl⟩
  have hA : Below w.heap.size w w0 := by rw [hw0]; exact Bl.alloc (Below.refl _ _) _
  have hR : RecR TSt w0 0 (.slice (some ⟨w.heap.size, 0, none⟩) 1 1) oneS := by
    rw [hw0]
    exact RecR.of_blk (T := TSt) (blk_new w _) rfl rfl (by decide) (by decide) (Nat.zero_le _)
  have HAT0 := At_any 1 0 oneS ⟨#[117]⟩ 3 (.slice (some ⟨w.heap.size, 0, none⟩) 1 1) w0 (by decide) hR (by intro s hs; rw [List.mem_singleton.1 hs]; decide) (by decide)
  rw [cAt_one.1, cAt_one.2] at HAT0
  have HAT := Lib.hid HAT0
  have HA := Lib.hid hA
  clear HAT0 hR hA
  go_enter Tryz.func25, Tryz.ntmps25
  go_wp2_with fail
  rw [← hw0]
  clear hw0
  refine HAT.out.mono ?_
  rintro e w1 ⟨⟨v, rfl, hC, _⟩, hb⟩
  obtain ⟨a1, n1, c1, rfl⟩ : ∃ a n c, v = .slice a n c := (by obtain ⟨a, c, h, _, _⟩ := hC.form; exact ⟨a, _, c, h⟩)
  have HB := Lib.hid (Bl.trans HA.out hb)
  clear hC hb
  unfold condV
  go_wp2
  go_ret
  exact ⟨rfl, Bl.alloc HB.out _⟩
end Go.Proofs.YtbkglhakhahfpaaGreatDoor
namespace Go.Proofs.YtbkglhakhahfpaaGreatDoor
open Go.RowKit Go.Sort Go.Maps

set_option maxHeartbeats 4000000 in
theorem RefusedSteps_any (rh rr : Int) (l : List Stp) (v : Value) (w : World) (rl : RecR TSt w 0 v l) (hl : stepsF l = 0) :
    Calls Tryz.prog 187 #[.agg #[.int .i64 rh, .int .i64 rr], v] w fun e w' => ∃ ov wv, e = .returned (.tuple #[ov, wv]) ∧ OwnR TN w' w.heap.size ov ((refL rh rr 0 [] l).map (·.1)) ∧ OwnR TE w' w.heap.size wv ((refL rh rr 0 [] l).map (·.2)) ∧ Below w.heap.size w w' := by
  have hA := Bl.alloc (Below.refl w.heap.size w) (.cells #[.int .i64 rh, .int .i64 rr] 27)
  have hz := hA.size
  have hu : refU rh rr 345686400000 0 [] l = refL rh rr 0 [] l := refU_L l 0 [] fun s hs => by
    have := ((stepsF_right hl).2.1 s hs).a1
    omega
  have HC0 := RShopAt_any rh rr 345686400000 l v _ (rl.below hA) hl
  rw [hu] at HC0
  have HC := Lib.hid HC0
  have HA := Lib.hid hA
  clear HC0 hu hA rl hl
  go_enter Tryz.func187, Tryz.ntmps187
  go_wp2_with fail
  refine HC.out.mono ?_
  rintro e w2 ⟨S, ov, wv, rfl, _, ho, hw, _, hb⟩
  have HF := Lib.hid (And.intro (ho.base hz) (And.intro (hw.base hz) (Bl.trans HA.out hb)))
  clear ho hw hb
  go_wp2
  go_ret2
  exact ⟨ov, wv, rfl, HF.out.1, HF.out.2.1, HF.out.2.2⟩
theorem rulesF_or (rh rr : Int) : orF [spanF rh 0 100, spanF rr 0 100] = rulesF rh rr := by
  unfold rulesF inB
  have e1 : spanF rh 0 100 = if decide (0 ≤ rh) && decide (rh ≤ 100) then 0 else 1 := by
    unfold spanF
    by_cases h : 0 ≤ rh ∧ rh ≤ 100
    · rw [if_pos h, if_pos (by simp [h.1, h.2])]
    · rw [if_neg h, if_neg (by simpa using h)]
  have e2 : spanF rr 0 100 = if decide (0 ≤ rr) && decide (rr ≤ 100) then 0 else 1 := by
    unfold spanF
    by_cases h : 0 ≤ rr ∧ rr ≤ 100
    · rw [if_pos h, if_pos (by simp [h.1, h.2])]
    · rw [if_neg h, if_neg (by simpa using h)]
  rw [e1, e2]
  generalize (decide (0 ≤ rh) && decide (rh ≤ 100)) = a
  generalize (decide (0 ≤ rr) && decide (rr ≤ 100)) = b
  cases a <;> cases b <;> rfl
set_option maxHeartbeats 4000000 in
theorem RRulesFault_any (rh rr : Int) (w : World) : Calls Tryz.prog 12 #[.agg #[.int .i64 rh, .int .i64 rr]] w fun e w' => e = .returned (.int .i64 (rulesF rh rr)) ∧ Below w.heap.size w w' := by
  have HOR : Hid (∀ (U : World) (g : Nat), U.heap[g]? = some (.cells #[.int .i64 (spanF rh 0 100), .int .i64 (spanF rr 0 100)] 34 (0, 0)) → Calls Tryz.prog 11 #[.slice (some ⟨g, 0, none⟩) 2 2] U fun e w' => e = .returned (.int .i64 (rulesF rh rr)) ∧ U = w') := Lib.hid fun U g hg => by
    rw [← rulesF_or]
    exact (OrErrno_any [spanF rh 0 100, spanF rr 0 100] (.slice (some ⟨g, 0, none⟩) 2 2) U (by simp) (Ints.of_blk hg rfl rfl (Nat.le_refl _) (by omega) (Nat.zero_le _))).mono fun e w' ⟨h1, h2⟩ => ⟨h1, h2.symm⟩
  obtain ⟨w0, hw0⟩ : ∃ w0, w0 = w.alloc (.cells #[.int .i64 rh, .int .i64 rr] 27) := ⟨_, rfl⟩
  have hA : Below w.heap.size w w0 := by rw [hw0]; exact Bl.alloc (Below.refl _ _) _
  have hX : w0.heap[w.heap.size]? = some (.cells #[.int .i64 rh, .int .i64 rr] 27 (0, 0)) := by rw [hw0]; exact blk_new w _
  have c0 : w0.cell? ⟨w.heap.size, 0, none⟩ = some (.int .i64 rh) := blk_cell hX 0
  have c1 : w0.cell? ⟨w.heap.size, 1, none⟩ = some (.int .i64 rr) := blk_cell hX 1
  have lX := blk_lt hX
  have HA := Lib.hid hA
  clear hX hA
  go_enter Tryz.func12, Tryz.ntmps12
  go_wp2
  rw [← hw0]
  clear hw0
  go_region_with (first
    | (go_at_call 72; refine (SpanFault_any _ _ _ _).mono ?_; rintro e w' ⟨rfl, rfl⟩)
    | (go_at_call 11; refine (HOR.out _ _ (by first | exact blk_new _ _ | exact blk_new w0.drew _ | exact blk_new w0 _)).mono ?_; rintro e w' ⟨rfl, rfl⟩))
  all_goals (
    go_wp2
    go_ret
    exact ⟨rfl, by first | exact Bl.alloc (Below.drew HA.out) _ | exact Below.drew (Bl.alloc HA.out _)⟩)
set_option maxHeartbeats 4000000 in
set_option maxRecDepth 100000 in
theorem RulesOf_any (s : Nat) (c : Int) (w : World) (h : Str w s c) (hc : c ≤ 900000) :
    Calls Tryz.prog 7 #[.pointer (some ⟨s, 0, none⟩)] w fun e w' => ∃ rh rr : Int, e = .returned (.agg #[.int .i64 rh, .int .i64 rr]) ∧ (-1099511627777 ≤ rh ∧ rh ≤ 1099511627777) ∧ (-1099511627777 ≤ rr ∧ rr ≤ 1099511627777) ∧ Str w' s (c + 7) ∧ w.grownBy w' (some s) := by
  have ls := h.lt
  go_enter Tryz.func7, Tryz.ntmps7
  go_wp2_with fail
  refine (Pick_any s c [1, 2, 3, 5, 5, 10, 0] _ _ ((h.alloc _).alloc _) (by omega) (Ints.of_blk (blk_new' (w.alloc _) _ (by simp)) rfl rfl (by simp) (by omega) (by omega)) (by simp) (by simp)).mono ?_
  rintro e w1 ⟨rh, rfl, hx, hS1, hG1⟩
  have hx1 : 0 ≤ rh ∧ rh ≤ 10 := by simp only [List.mem_cons, List.not_mem_nil, or_false] at hx; omega
  have hb1 := Gr.blk hG1 (blk_old (blk_new w _) _) (by omega)
  have hz1 := hG1.size
  simp at hz1
  have hG1' := Gr.trans (Gr.alloc (Gr.alloc (Gr.refl w (some s)) _) _) hG1
  clear hG1 hx
  go_wp2_with fail
  refine (Pick_any s (c + 1) [1, 1, 2, 3, 0] _ _ (hS1.alloc _) (by omega) (Ints.of_blk (blk_new _ _) rfl rfl (by simp) (by omega) hS1.lt) (by simp) (by simp)).mono ?_
  rintro e w2 ⟨rr, rfl, hy, hS2, hG2⟩
  have hy1 : 0 ≤ rr ∧ rr ≤ 3 := by simp only [List.mem_cons, List.not_mem_nil, or_false] at hy; omega
  have hb2 := Gr.blk hG2 (blk_old hb1 _) (by omega)
  have hG2' := Gr.trans (Gr.alloc hG1' _) hG2
  have hz2 := hG2'.size
  have hl2 := blk_lt hb2
  obtain ⟨W3, hW3⟩ : ∃ W3, W3 = w2.alloc (.cells #[.int .i64 rh, .int .i64 rr] 27) := ⟨_, rfl⟩
  have hX3 : W3.heap[w2.heap.size]? = some (.cells #[.int .i64 rh, .int .i64 rr] 27 (0, 0)) := by rw [hW3]; exact blk_new w2 _
  have hb3 : W3.heap[w.heap.size]? = some (.cells #[.int .i64 0, .int .i64 0] 27 (0, 0)) := by rw [hW3]; exact blk_old hb2 _
  have hS3 : Str W3 s (c + 1 + 1) := by rw [hW3]; exact hS2.alloc _
  have hG3 : w.grownBy W3 (some s) := by rw [hW3]; exact Gr.alloc hG2' _
  clear hG2 hG1' hb1 hy hS2 hG2' hS1
  go_wp2_with fail
  rw [← hW3]
  clear hW3
  refine (Flip_any s (c + 1 + 1) 25 W3 hS3 (by omega) (by omega)).mono ?_
  rintro e w4 ⟨r, rfl, hS4, hG4⟩
  have hX4 := Gr.blk hG4 hX3 (by omega)
  have hb4 := Gr.blk hG4 hb3 (by omega)
  have hG4' := Gr.trans hG3 hG4
  clear hG3 hG4 hS3 hX3 hb3 hb2
  cases r
  · have x0 : w4.cell? ⟨w2.heap.size, 0, none⟩ = some (.int .i64 rh) := blk_cell hX4 0
    have x1 : w4.cell? ⟨w2.heap.size, 1, none⟩ = some (.int .i64 rr) := blk_cell hX4 1
    have k0 := blk_cell hb4 0
    have k1 := blk_cell hb4 1
    have f0 := blk_free hb4 0
    have f1 := blk_free hb4 1
    simp at k0 k1
    have hZ := blk_set (blk_set hb4 0 (.int .i64 rh)) 1 (.int .i64 rr)
    have HF := Lib.hid (And.intro ((hS4.belowB (B := w.heap.size) (Bl.set (Bl.set (Below.refl _ _) w.heap.size 0 (Nat.le_refl _) (.int .i64 rh)) w.heap.size 1 (Nat.le_refl _) (.int .i64 rr)) ls).mono (d := c + 7) (by omega)) (Gr.set (Gr.set hG4' w.heap.size 0 (.inr (Nat.le_refl _)) (.int .i64 rh)) w.heap.size 1 (.inr (Nat.le_refl _)) (.int .i64 rr)))
    clear hS4 hG4' hX4 hb4
    go_wp2
    have r0 := blk_cell hZ 0
    have r1 := blk_cell hZ 1
    simp at r0 r1
    refine bodyPost_ret (v := .agg #[.int .i64 rh, .int .i64 rr]) (by simp [results, Tryz.results7, go_sem, r0, r1]) rfl ⟨rh, rr, rfl, by omega, by omega, HF.out.1, HF.out.2⟩
  · go_wp2_with fail
    refine (Odd_any s (c + 1 + 1 + 1) 0 100 w4 hS4 (by omega) (by omega) (by omega) (by omega)).mono ?_
    rintro e w5 ⟨qa, rfl, hqa, hS5, hG5⟩
    have hX5 := Gr.blk hG5 hX4 (by omega)
    have hb5 := Gr.blk hG5 hb4 (by omega)
    have hG5' := Gr.trans hG4' hG5
    clear hG5 hG4' hS4 hX4 hb4
    go_wp2_with fail
    refine (Odd_any s (c + 1 + 1 + 1 + 2) 0 100 w5 hS5 (by omega) (by omega) (by omega) (by omega)).mono ?_
    rintro e w6 ⟨qb, rfl, hqb, hS6, hG6⟩
    have hX6 := Gr.blk hG6 hX5 (by omega)
    have hb6 := Gr.blk hG6 hb5 (by omega)
    have hG6' := Gr.trans hG5' hG6
    clear hG6 hG5' hS5 hX5 hb5
    have hne : w.heap.size ≠ w2.heap.size := by omega
    have hX8 := blk_set (blk_set hX6 0 (.int .i64 qa)) 1 (.int .i64 qb)
    have hb7 : (w6.setCell ⟨w2.heap.size, 0, none⟩ (.int .i64 qa)).heap[w.heap.size]? = _ := (Below.heap_setCell w6 ⟨w2.heap.size, 0, none⟩ (.int .i64 qa) w.heap.size hne).trans hb6
    have hb8 : ((w6.setCell ⟨w2.heap.size, 0, none⟩ (.int .i64 qa)).setCell ⟨w2.heap.size, 1, none⟩ (.int .i64 qb)).heap[w.heap.size]? = _ := (Below.heap_setCell _ ⟨w2.heap.size, 1, none⟩ (.int .i64 qb) w.heap.size hne).trans hb7
    have x0 := blk_cell hX6 0
    have x1 := blk_cell hX6 1
    have y0 := blk_free hX6 0
    have y1 := blk_free hX6 1
    have z0 := blk_cell hX8 0
    have z1 := blk_cell hX8 1
    have k0 := blk_cell hb8 0
    have k1 := blk_cell hb8 1
    have f0 := blk_free hb8 0
    have f1 := blk_free hb8 1
    have m0 := blk_cell (blk_set hX6 0 (.int .i64 qa)) 1
    have m1 := blk_free (blk_set hX6 0 (.int .i64 qa)) 1
    simp at x0 x1 z0 z1 k0 k1 m0
    have hZ := blk_set (blk_set hb8 0 (.int .i64 qa)) 1 (.int .i64 qb)
    have hSW : Str (((w6.setCell ⟨w2.heap.size, 0, none⟩ (.int .i64 qa)).setCell ⟨w2.heap.size, 1, none⟩ (.int .i64 qb)).setCell ⟨w.heap.size, 0, none⟩ (.int .i64 qa) |>.setCell ⟨w.heap.size, 1, none⟩ (.int .i64 qb)) s (c + 7) := (hS6.belowB (B := w.heap.size) (Bl.set (Bl.set (Bl.set (Bl.set (Below.refl _ _) w2.heap.size 0 hz2 (.int .i64 qa)) w2.heap.size 1 hz2 (.int .i64 qb)) w.heap.size 0 (Nat.le_refl _) (.int .i64 qa)) w.heap.size 1 (Nat.le_refl _) (.int .i64 qb)) ls).mono (d := c + 7) (by omega)
    have HF := Lib.hid (And.intro hSW (Gr.set (Gr.set (Gr.set (Gr.set hG6' w2.heap.size 0 (.inr hz2) (.int .i64 qa)) w2.heap.size 1 (.inr hz2) (.int .i64 qb)) w.heap.size 0 (.inr (Nat.le_refl _)) (.int .i64 qa)) w.heap.size 1 (.inr (Nat.le_refl _)) (.int .i64 qb)))
    clear hS6 hG6' hX6 hb6 hb7 hb8 hX8 hSW
    go_wp2
    have r0 := blk_cell hZ 0
    have r1 := blk_cell hZ 1
    simp at r0 r1
    refine bodyPost_ret (v := .agg #[.int .i64 qa, .int .i64 qb]) (by simp [results, Tryz.results7, go_sem, r0, r1]) rfl ⟨qa, qb, rfl, hqa, hqb, HF.out.1, HF.out.2⟩
end Go.Proofs.YtbkglhakhahfpaaGreatDoor
