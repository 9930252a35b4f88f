/- Steps of the random stream: ABoard, AStep. Conditions: the stream's count below 10^6. -/
import Derived.Test.YtnmimagninhkkaaGreatDoorBd
import Derived.Test.YtnmimagninhkkaaGreatDoorInvS
namespace Go.Proofs.YtnmimagninhkkaaGreatDoor
open Go.RowKit Go.Sort

/-- a step whose strings are short and whose numbers are small. -/
def StpOk (s : Stp) : Prop := s.bd.size ≤ 5 ∧ s.co.size ≤ 5 ∧ -1099511627777 ≤ s.at ∧ s.at ≤ 1099511627777 ∧ -1099511627777 ≤ s.kd ∧ s.kd ≤ 1099511627777
theorem mem_small {l : List ByteArray} {n : Nat} (h : (l.all fun x => decide (x.size ≤ n)) = true) {r : ByteArray} (hr : r ∈ l) : r.size ≤ n := by
  have := List.all_eq_true.1 h r hr
  simpa using this
set_option maxHeartbeats 1000000 in
theorem ABoard_any (s : Nat) (c : Int) (w : World) (h : Str w s c) (hc : c ≤ 999990) :
    Calls Tryz.prog 184 #[.pointer (some ⟨s, 0, none⟩)] w fun e w' => ∃ r : ByteArray, e = .returned (.string r) ∧ r.size ≤ 5 ∧ Str w' s (c + 1) ∧ w.grownBy w' (some s) := by
  have ls := h.lt
  go_enter Tryz.func184, Tryz.ntmps184
  go_wp2_with fail
  refine (Some_any s c [⟨#[117, 49]⟩, ⟨#[117, 49]⟩, ⟨#[117, 50]⟩, ⟨#[117, 51]⟩] _ _ (h.alloc _) (by omega) (RecR.of_blk (T := TS) (blk_new _ _) rfl rfl (by simp) (by omega) ls) (by simp) (by simp)).mono ?_
  rintro e w1 ⟨r, rfl, hr, hS1, hG1⟩
  have hr1 := mem_small (n := 5) (by decide) hr
  have hg := Gr.trans (Gr.alloc (Gr.refl w (some s)) _) hG1
  clear hr
  go_wp2
  go_ret
  exact ⟨r, rfl, hr1, hS1, hg⟩
set_option maxHeartbeats 4000000 in
theorem AStep_any (s : Nat) (c : Int) (w : World) (h : Str w s c) (hc : c ≤ 999980) :
    Calls Tryz.prog 104 #[.pointer (some ⟨s, 0, none⟩)] w fun e w' => ∃ (b co : ByteArray) (kd : Int), e = .returned (stpV (0, b, kd, co)) ∧ b.size ≤ 5 ∧ co.size ≤ 5 ∧ 1 ≤ kd ∧ kd ≤ 6 ∧ Str w' s (c + 3) ∧ w.grownBy w' (some s) := by
  have ls := h.lt
  go_enter Tryz.func104, Tryz.ntmps104
  go_wp2_with fail
  refine (ABoard_any s c _ (h.alloc _) (by omega)).mono ?_
  rintro e w1 ⟨b, rfl, hb, hS1, hG1⟩
  have hR1 := Gr.blk hG1 (blk_new w _) (by omega)
  have hz1 := hG1.size
  simp at hz1
  have hG1' := Gr.trans (Gr.alloc (Gr.refl w (some s)) _) hG1
  clear hG1
  go_wp2_with fail
  refine (Pick_any s (c + 1) [1, 1, 2, 2, 2, 3, 4, 4, 4, 5, 6, 6] _ _ (hS1.alloc _) (by omega) (Ints.of_blk (blk_new _ _) rfl rfl (by simp) (by omega) hS1.lt) (by simp) (by simp)).mono ?_
  rintro e w2 ⟨kd, rfl, hk, hS2, hG2⟩
  have hR2 := Gr.blk hG2 (blk_old hR1 _) (by omega)
  have hz2 := hG2.size
  simp at hz2
  have hG2' := Gr.trans (Gr.alloc hG1' _) hG2
  have hkk : kd = 1 ∨ kd = 2 ∨ kd = 3 ∨ kd = 4 ∨ kd = 5 ∨ kd = 6 := by simp only [List.mem_cons, List.not_mem_nil, or_false] at hk; omega
  clear hG2 hG1' hR1 hk
  rcases hkk with rfl | rfl | rfl | rfl | rfl | rfl
  case' inr.inl =>
    go_wp2_with fail
    refine (Some_any s (c + 1 + 1) [⟨#[114, 55]⟩, ⟨#[114, 55]⟩, ⟨#[99, 49]⟩, ⟨#[117, 57]⟩] _ _ ((hS2.alloc _).alloc _) (by omega) (RecR.of_blk (T := TS) (blk_new' _ _ (by simp)) rfl rfl (by simp) (by omega) (by have := hS2.lt; omega)) (by simp) (by simp)).mono ?_
    rintro e w3 ⟨co, rfl, hco, hS3, hG3⟩
    have hc10 := mem_small (n := 5) (by decide) hco
    have hP3 := Gr.blk hG3 (blk_old (blk_new w2 _) _) (by have := hS2.lt; omega)
    have hR3 := Gr.blk hG3 (blk_old (blk_old hR2 _) _) (by omega)
    have hG3' := Gr.trans (Gr.alloc (Gr.alloc hG2' _) _) hG3
    have hP4 := blk_set hP3 3 (.string co)
    have f3 := blk_free hP3 3
    have q3 := blk_cell hP3 3
    have hR4 : (w3.setCell ⟨w2.heap.size, 3, none⟩ (.string co)).heap[w.heap.size]? = _ := (Below.heap_setCell w3 ⟨w2.heap.size, 3, none⟩ (.string co) w.heap.size (by show w.heap.size ≠ w2.heap.size; omega)).trans hR3
    have k0 := blk_cell hP4 0
    have k1 := blk_cell hP4 1
    have k2 := blk_cell hP4 2
    have k3 := blk_cell hP4 3
    have r0 := blk_cell hR4 0
    have r1 := blk_cell hR4 1
    have r2 := blk_cell hR4 2
    have r3 := blk_cell hR4 3
    have g0 := blk_free hR4 0
    have g1 := blk_free hR4 1
    have g2 := blk_free hR4 2
    have g3 := blk_free hR4 3
    simp at k0 k1 k2 k3 r0 r1 r2 r3 q3
    clear hG3 hco
    go_wp2
    have hb6 := blk_set (blk_set (blk_set (blk_set hR4 0 (.int .i64 0)) 1 (.string b)) 2 (.int .i64 2)) 3 (.string co)
    have m0 := blk_cell hb6 0
    have m1 := blk_cell hb6 1
    have m2 := blk_cell hb6 2
    have m3 := blk_cell hb6 3
    refine bodyPost_ret (v := stpV (0, b, 2, co)) (by simp [results, Tryz.results104, go_sem, stpV, m0, m1, m2, m3]) rfl ⟨b, co, 2, rfl, hb, hc10, by omega, by omega, ?_, ?_⟩
    · exact ((hS3.belowB (B := w.heap.size) (Bl.set (Bl.set (Bl.set (Bl.set (Bl.set (Below.refl _ _) _ _ (by omega) _) _ _ (by omega) _) _ _ (by omega) _) _ _ (by omega) _) _ _ (by omega) _) ls)).mono (by omega)
    · exact Gr.set (Gr.set (Gr.set (Gr.set (Gr.set hG3' _ _ (.inr (by omega)) _) _ _ (.inr (by omega)) _) _ _ (.inr (by omega)) _) _ _ (.inr (by omega)) _) _ _ (.inr (by omega)) _
  case' inr.inr.inr.inl =>
    go_wp2_with fail
    refine (Some_any s (c + 1 + 1) [⟨#[114, 55]⟩, ⟨#[114, 55]⟩, ⟨#[99, 49]⟩, ⟨#[117, 57]⟩] _ _ ((hS2.alloc _).alloc _) (by omega) (RecR.of_blk (T := TS) (blk_new' _ _ (by simp)) rfl rfl (by simp) (by omega) (by have := hS2.lt; omega)) (by simp) (by simp)).mono ?_
    rintro e w3 ⟨co, rfl, hco, hS3, hG3⟩
    have hc10 := mem_small (n := 5) (by decide) hco
    have hP3 := Gr.blk hG3 (blk_old (blk_new w2 _) _) (by have := hS2.lt; omega)
    have hR3 := Gr.blk hG3 (blk_old (blk_old hR2 _) _) (by omega)
    have hG3' := Gr.trans (Gr.alloc (Gr.alloc hG2' _) _) hG3
    have hP4 := blk_set hP3 3 (.string co)
    have f3 := blk_free hP3 3
    have q3 := blk_cell hP3 3
    have hR4 : (w3.setCell ⟨w2.heap.size, 3, none⟩ (.string co)).heap[w.heap.size]? = _ := (Below.heap_setCell w3 ⟨w2.heap.size, 3, none⟩ (.string co) w.heap.size (by show w.heap.size ≠ w2.heap.size; omega)).trans hR3
    have k0 := blk_cell hP4 0
    have k1 := blk_cell hP4 1
    have k2 := blk_cell hP4 2
    have k3 := blk_cell hP4 3
    have r0 := blk_cell hR4 0
    have r1 := blk_cell hR4 1
    have r2 := blk_cell hR4 2
    have r3 := blk_cell hR4 3
    have g0 := blk_free hR4 0
    have g1 := blk_free hR4 1
    have g2 := blk_free hR4 2
    have g3 := blk_free hR4 3
    simp at k0 k1 k2 k3 r0 r1 r2 r3 q3
    clear hG3 hco
    go_wp2
    have hb6 := blk_set (blk_set (blk_set (blk_set hR4 0 (.int .i64 0)) 1 (.string b)) 2 (.int .i64 4)) 3 (.string co)
    have m0 := blk_cell hb6 0
    have m1 := blk_cell hb6 1
    have m2 := blk_cell hb6 2
    have m3 := blk_cell hb6 3
    refine bodyPost_ret (v := stpV (0, b, 4, co)) (by simp [results, Tryz.results104, go_sem, stpV, m0, m1, m2, m3]) rfl ⟨b, co, 4, rfl, hb, hc10, by omega, by omega, ?_, ?_⟩
    · exact ((hS3.belowB (B := w.heap.size) (Bl.set (Bl.set (Bl.set (Bl.set (Bl.set (Below.refl _ _) _ _ (by omega) _) _ _ (by omega) _) _ _ (by omega) _) _ _ (by omega) _) _ _ (by omega) _) ls)).mono (by omega)
    · exact Gr.set (Gr.set (Gr.set (Gr.set (Gr.set hG3' _ _ (.inr (by omega)) _) _ _ (.inr (by omega)) _) _ _ (.inr (by omega)) _) _ _ (.inr (by omega)) _) _ _ (.inr (by omega)) _
  · have lR := blk_lt hR2
    have r0 := blk_cell hR2 0
    have r1 := blk_cell hR2 1
    have r2 := blk_cell hR2 2
    have r3 := blk_cell hR2 3
    have g0 := blk_free hR2 0
    have g1 := blk_free hR2 1
    have g2 := blk_free hR2 2
    have g3 := blk_free hR2 3
    simp at r0 r1 r2 r3
    go_wp2
    have hb6 := blk_old (blk_set (blk_set (blk_set (blk_set hR2 0 (.int .i64 0)) 1 (.string b)) 2 (.int .i64 1)) 3 (.string (⟨#[]⟩ : ByteArray))) (.cells #[.int .i64 0, .string b, .int .i64 1, .string (⟨#[]⟩ : ByteArray)] 34)
    have hS6 := ((hS2.belowB (B := w.heap.size) (Bl.set (Bl.set (Bl.set (Bl.set (Below.refl _ _) w.heap.size 0 (Nat.le_refl _) (.int .i64 0)) w.heap.size 1 (Nat.le_refl _) (.string b)) w.heap.size 2 (Nat.le_refl _) (.int .i64 1)) w.heap.size 3 (Nat.le_refl _) (.string (⟨#[]⟩ : ByteArray))) ls)).alloc (.cells #[.int .i64 0, .string b, .int .i64 1, .string (⟨#[]⟩ : ByteArray)] 34)
    have hg6 := Gr.alloc (Gr.set (Gr.set (Gr.set (Gr.set hG2' w.heap.size 0 (.inr (Nat.le_refl _)) (.int .i64 0)) w.heap.size 1 (.inr (Nat.le_refl _)) (.string b)) w.heap.size 2 (.inr (Nat.le_refl _)) (.int .i64 1)) w.heap.size 3 (.inr (Nat.le_refl _)) (.string (⟨#[]⟩ : ByteArray))) (.cells #[.int .i64 0, .string b, .int .i64 1, .string (⟨#[]⟩ : ByteArray)] 34)
    generalize (((((w2.setCell ⟨w.heap.size, 0, none⟩ (.int .i64 0)).setCell ⟨w.heap.size, 1, none⟩ (.string b)).setCell ⟨w.heap.size, 2, none⟩ (.int .i64 1)).setCell ⟨w.heap.size, 3, none⟩ (.string (⟨#[]⟩ : ByteArray))).alloc (.cells #[.int .i64 0, .string b, .int .i64 1, .string (⟨#[]⟩ : ByteArray)] 34)) = w6 at *
    have m0 := blk_cell hb6 0
    have m1 := blk_cell hb6 1
    have m2 := blk_cell hb6 2
    have m3 := blk_cell hb6 3
    simp at m0 m1 m2 m3
    refine bodyPost_ret (v := stpV (0, b, 1, (⟨#[]⟩ : ByteArray))) (by simp [results, Tryz.results104, go_sem, stpV, m0, m1, m2, m3]) rfl ⟨b, (⟨#[]⟩ : ByteArray), 1, rfl, hb, by show 0 ≤ 5; omega, by omega, by omega, hS6.mono (by omega), hg6⟩
  · have lR := blk_lt hR2
    have r0 := blk_cell hR2 0
    have r1 := blk_cell hR2 1
    have r2 := blk_cell hR2 2
    have r3 := blk_cell hR2 3
    have g0 := blk_free hR2 0
    have g1 := blk_free hR2 1
    have g2 := blk_free hR2 2
    have g3 := blk_free hR2 3
    simp at r0 r1 r2 r3
    go_wp2
    have hb6 := blk_old (blk_set (blk_set (blk_set (blk_set hR2 0 (.int .i64 0)) 1 (.string b)) 2 (.int .i64 3)) 3 (.string (⟨#[]⟩ : ByteArray))) (.cells #[.int .i64 0, .string b, .int .i64 3, .string (⟨#[]⟩ : ByteArray)] 34)
    have hS6 := ((hS2.belowB (B := w.heap.size) (Bl.set (Bl.set (Bl.set (Bl.set (Below.refl _ _) w.heap.size 0 (Nat.le_refl _) (.int .i64 0)) w.heap.size 1 (Nat.le_refl _) (.string b)) w.heap.size 2 (Nat.le_refl _) (.int .i64 3)) w.heap.size 3 (Nat.le_refl _) (.string (⟨#[]⟩ : ByteArray))) ls)).alloc (.cells #[.int .i64 0, .string b, .int .i64 3, .string (⟨#[]⟩ : ByteArray)] 34)
    have hg6 := Gr.alloc (Gr.set (Gr.set (Gr.set (Gr.set hG2' w.heap.size 0 (.inr (Nat.le_refl _)) (.int .i64 0)) w.heap.size 1 (.inr (Nat.le_refl _)) (.string b)) w.heap.size 2 (.inr (Nat.le_refl _)) (.int .i64 3)) w.heap.size 3 (.inr (Nat.le_refl _)) (.string (⟨#[]⟩ : ByteArray))) (.cells #[.int .i64 0, .string b, .int .i64 3, .string (⟨#[]⟩ : ByteArray)] 34)
    generalize (((((w2.setCell ⟨w.heap.size, 0, none⟩ (.int .i64 0)).setCell ⟨w.heap.size, 1, none⟩ (.string b)).setCell ⟨w.heap.size, 2, none⟩ (.int .i64 3)).setCell ⟨w.heap.size, 3, none⟩ (.string (⟨#[]⟩ : ByteArray))).alloc (.cells #[.int .i64 0, .string b, .int .i64 3, .string (⟨#[]⟩ : ByteArray)] 34)) = w6 at *
    have m0 := blk_cell hb6 0
    have m1 := blk_cell hb6 1
    have m2 := blk_cell hb6 2
    have m3 := blk_cell hb6 3
    simp at m0 m1 m2 m3
    refine bodyPost_ret (v := stpV (0, b, 3, (⟨#[]⟩ : ByteArray))) (by simp [results, Tryz.results104, go_sem, stpV, m0, m1, m2, m3]) rfl ⟨b, (⟨#[]⟩ : ByteArray), 3, rfl, hb, by show 0 ≤ 5; omega, by omega, by omega, hS6.mono (by omega), hg6⟩
  · have lR := blk_lt hR2
    have r0 := blk_cell hR2 0
    have r1 := blk_cell hR2 1
    have r2 := blk_cell hR2 2
    have r3 := blk_cell hR2 3
    have g0 := blk_free hR2 0
    have g1 := blk_free hR2 1
    have g2 := blk_free hR2 2
    have g3 := blk_free hR2 3
    simp at r0 r1 r2 r3
    go_wp2
    have hb6 := blk_old (blk_set (blk_set (blk_set (blk_set hR2 0 (.int .i64 0)) 1 (.string b)) 2 (.int .i64 5)) 3 (.string (⟨#[]⟩ : ByteArray))) (.cells #[.int .i64 0, .string b, .int .i64 5, .string (⟨#[]⟩ : ByteArray)] 34)
    have hS6 := ((hS2.belowB (B := w.heap.size) (Bl.set (Bl.set (Bl.set (Bl.set (Below.refl _ _) w.heap.size 0 (Nat.le_refl _) (.int .i64 0)) w.heap.size 1 (Nat.le_refl _) (.string b)) w.heap.size 2 (Nat.le_refl _) (.int .i64 5)) w.heap.size 3 (Nat.le_refl _) (.string (⟨#[]⟩ : ByteArray))) ls)).alloc (.cells #[.int .i64 0, .string b, .int .i64 5, .string (⟨#[]⟩ : ByteArray)] 34)
    have hg6 := Gr.alloc (Gr.set (Gr.set (Gr.set (Gr.set hG2' w.heap.size 0 (.inr (Nat.le_refl _)) (.int .i64 0)) w.heap.size 1 (.inr (Nat.le_refl _)) (.string b)) w.heap.size 2 (.inr (Nat.le_refl _)) (.int .i64 5)) w.heap.size 3 (.inr (Nat.le_refl _)) (.string (⟨#[]⟩ : ByteArray))) (.cells #[.int .i64 0, .string b, .int .i64 5, .string (⟨#[]⟩ : ByteArray)] 34)
    generalize (((((w2.setCell ⟨w.heap.size, 0, none⟩ (.int .i64 0)).setCell ⟨w.heap.size, 1, none⟩ (.string b)).setCell ⟨w.heap.size, 2, none⟩ (.int .i64 5)).setCell ⟨w.heap.size, 3, none⟩ (.string (⟨#[]⟩ : ByteArray))).alloc (.cells #[.int .i64 0, .string b, .int .i64 5, .string (⟨#[]⟩ : ByteArray)] 34)) = w6 at *
    have m0 := blk_cell hb6 0
    have m1 := blk_cell hb6 1
    have m2 := blk_cell hb6 2
    have m3 := blk_cell hb6 3
    simp at m0 m1 m2 m3
    refine bodyPost_ret (v := stpV (0, b, 5, (⟨#[]⟩ : ByteArray))) (by simp [results, Tryz.results104, go_sem, stpV, m0, m1, m2, m3]) rfl ⟨b, (⟨#[]⟩ : ByteArray), 5, rfl, hb, by show 0 ≤ 5; omega, by omega, by omega, hS6.mono (by omega), hg6⟩
  · have lR := blk_lt hR2
    have r0 := blk_cell hR2 0
    have r1 := blk_cell hR2 1
    have r2 := blk_cell hR2 2
    have r3 := blk_cell hR2 3
    have g0 := blk_free hR2 0
    have g1 := blk_free hR2 1
    have g2 := blk_free hR2 2
    have g3 := blk_free hR2 3
    simp at r0 r1 r2 r3
    go_wp2
    have hb6 := blk_old (blk_set (blk_set (blk_set (blk_set hR2 0 (.int .i64 0)) 1 (.string b)) 2 (.int .i64 6)) 3 (.string (⟨#[]⟩ : ByteArray))) (.cells #[.int .i64 0, .string b, .int .i64 6, .string (⟨#[]⟩ : ByteArray)] 34)
    have hS6 := ((hS2.belowB (B := w.heap.size) (Bl.set (Bl.set (Bl.set (Bl.set (Below.refl _ _) w.heap.size 0 (Nat.le_refl _) (.int .i64 0)) w.heap.size 1 (Nat.le_refl _) (.string b)) w.heap.size 2 (Nat.le_refl _) (.int .i64 6)) w.heap.size 3 (Nat.le_refl _) (.string (⟨#[]⟩ : ByteArray))) ls)).alloc (.cells #[.int .i64 0, .string b, .int .i64 6, .string (⟨#[]⟩ : ByteArray)] 34)
    have hg6 := Gr.alloc (Gr.set (Gr.set (Gr.set (Gr.set hG2' w.heap.size 0 (.inr (Nat.le_refl _)) (.int .i64 0)) w.heap.size 1 (.inr (Nat.le_refl _)) (.string b)) w.heap.size 2 (.inr (Nat.le_refl _)) (.int .i64 6)) w.heap.size 3 (.inr (Nat.le_refl _)) (.string (⟨#[]⟩ : ByteArray))) (.cells #[.int .i64 0, .string b, .int .i64 6, .string (⟨#[]⟩ : ByteArray)] 34)
    generalize (((((w2.setCell ⟨w.heap.size, 0, none⟩ (.int .i64 0)).setCell ⟨w.heap.size, 1, none⟩ (.string b)).setCell ⟨w.heap.size, 2, none⟩ (.int .i64 6)).setCell ⟨w.heap.size, 3, none⟩ (.string (⟨#[]⟩ : ByteArray))).alloc (.cells #[.int .i64 0, .string b, .int .i64 6, .string (⟨#[]⟩ : ByteArray)] 34)) = w6 at *
    have m0 := blk_cell hb6 0
    have m1 := blk_cell hb6 1
    have m2 := blk_cell hb6 2
    have m3 := blk_cell hb6 3
    simp at m0 m1 m2 m3
    refine bodyPost_ret (v := stpV (0, b, 6, (⟨#[]⟩ : ByteArray))) (by simp [results, Tryz.results104, go_sem, stpV, m0, m1, m2, m3]) rfl ⟨b, (⟨#[]⟩ : ByteArray), 6, rfl, hb, by show 0 ≤ 5; omega, by omega, by omega, hS6.mono (by omega), hg6⟩
end Go.Proofs.YtnmimagninhkkaaGreatDoor
