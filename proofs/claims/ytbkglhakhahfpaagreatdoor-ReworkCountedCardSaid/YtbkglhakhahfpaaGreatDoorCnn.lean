/- The steps that a stream gives: their names are of a few. The walk of StepList once more; printed by gen_stn.py. No conditions beyond the stream's. · Few components fail: their names are of a few. No conditions. -/
import Derived.Test.YtbkglhakhahfpaaGreatDoorStl
import Derived.Test.YtbkglhakhahfpaaGreatDoorWof
namespace Go.Proofs.YtbkglhakhahfpaaGreatDoor
open Go.RowKit Go.Sort

def NS : List ByteArray := [⟨#[]⟩, ⟨#[117, 49]⟩, ⟨#[117, 50]⟩, ⟨#[117, 51]⟩, ⟨#[114, 55]⟩, ⟨#[99, 49]⟩, ⟨#[117, 57]⟩, ⟨#[82]⟩]
abbrev NmOk (c : ByteArray) : Prop := c ∈ NS
def VN : Value → World → Prop := fun v _ => ∃ s : ByteArray, v = .string s ∧ NmOk s
def VLN (B1 k : Nat) : Value → World → Prop := fun v w => ∃ l : List ByteArray, (∃ b, v = .slice (some ⟨b, 0, none⟩) k k) ∧ l.length = k ∧ RecR TS w B1 v l ∧ ∀ x ∈ l, NmOk x
theorem VLN.stab {B1 k : Nat} {v : Value} {w w' : World} (h : VLN B1 k v w) (hr : RR B1 w w') : VLN B1 k v w' := by
  obtain ⟨l, h1, h2, h3, h4⟩ := h
  exact ⟨l, h1, h2, Rd.keep h3 hr.2 hr.1, h4⟩
def StpNm (s : Stp) : Prop := NmOk s.bd ∧ NmOk s.co ∧ -1099511627777 ≤ s.at ∧ s.at ≤ 1099511627777 ∧ -1099511627777 ≤ s.kd ∧ s.kd ≤ 1099511627777
theorem nm_lit {c : ByteArray} (h : (NS.any fun y => decide (y = c)) = true) : NmOk c := by
  obtain ⟨y, hy, he⟩ := List.any_eq_true.1 h
  rw [← of_decide_eq_true he]; exact hy
theorem mem_nm {l : List ByteArray} (h : (l.all fun x => NS.any fun y => decide (y = x)) = true) {r : ByteArray} (hr : r ∈ l) : NmOk r := nm_lit (List.all_eq_true.1 h r hr)
set_option maxHeartbeats 1000000 in
theorem ABoardN_any (s : Nat) (c : Int) (w : World) (h : Str w s c) (hc : c ≤ 999990) :
    Calls Tryz.prog 170 #[.pointer (some ⟨s, 0, none⟩)] w fun e w' => ∃ r : ByteArray, e = .returned (.string r) ∧ NmOk r ∧ Str w' s (c + 1) ∧ w.grownBy w' (some s) := by
  have ls := h.lt
  go_enter Tryz.func170, Tryz.ntmps170
  go_wp2_with fail
  refine (Some_any s c [⟨#[117, 49]⟩, ⟨#[117, 49]⟩, ⟨#[117, 50]⟩, ⟨#[117, 51]⟩] _ _ (h.alloc _) (by omega) (RecR.of_blk (T := TS) (blk_new _ _) rfl rfl (by simp) (by omega) ls) (by simp) (by simp)).mono ?_
  rintro e w1 ⟨r, rfl, hr, hS1, hG1⟩
  have hr1 := mem_nm (by decide) hr
  have hg := Gr.trans (Gr.alloc (Gr.refl w (some s)) _) hG1
  clear hr
  go_wp2
  go_ret
  exact ⟨r, rfl, hr1, hS1, hg⟩
set_option maxHeartbeats 4000000 in
theorem AStepN_any (s : Nat) (c : Int) (w : World) (h : Str w s c) (hc : c ≤ 999980) :
    Calls Tryz.prog 85 #[.pointer (some ⟨s, 0, none⟩)] w fun e w' => ∃ (b co : ByteArray) (kd : Int), e = .returned (stpV (0, b, kd, co)) ∧ NmOk b ∧ NmOk co ∧ 1 ≤ kd ∧ kd ≤ 6 ∧ Str w' s (c + 3) ∧ w.grownBy w' (some s) := by
  have ls := h.lt
  go_enter Tryz.func85, Tryz.ntmps85
  go_wp2_with fail
  refine (ABoardN_any s c _ (h.alloc _) (by omega)).mono ?_
  rintro e w1 ⟨b, rfl, hb, hS1, hG1⟩
  have hR1 := Gr.blk hG1 (blk_new w _) (by omega)
  have hz1 := hG1.size
  simp at hz1
  have hG1' := Gr.trans (Gr.alloc (Gr.refl w (some s)) _) hG1
  clear hG1
  go_wp2_with fail
  refine (Pick_any s (c + 1) [1, 1, 2, 2, 2, 3, 4, 4, 4, 5, 6, 6] _ _ (hS1.alloc _) (by omega) (Ints.of_blk (blk_new _ _) rfl rfl (by simp) (by omega) hS1.lt) (by simp) (by simp)).mono ?_
  rintro e w2 ⟨kd, rfl, hk, hS2, hG2⟩
  have hR2 := Gr.blk hG2 (blk_old hR1 _) (by omega)
  have hz2 := hG2.size
  simp at hz2
  have hG2' := Gr.trans (Gr.alloc hG1' _) hG2
  have hkk : kd = 1 ∨ kd = 2 ∨ kd = 3 ∨ kd = 4 ∨ kd = 5 ∨ kd = 6 := by simp only [List.mem_cons, List.not_mem_nil, or_false] at hk; omega
  clear hG2 hG1' hR1 hk
  rcases hkk with rfl | rfl | rfl | rfl | rfl | rfl
  case' inr.inl =>
    go_wp2_with fail
    refine (Some_any s (c + 1 + 1) [⟨#[114, 55]⟩, ⟨#[114, 55]⟩, ⟨#[99, 49]⟩, ⟨#[117, 57]⟩] _ _ ((hS2.alloc _).alloc _) (by omega) (RecR.of_blk (T := TS) (blk_new' _ _ (by simp)) rfl rfl (by simp) (by omega) (by have := hS2.lt; omega)) (by simp) (by simp)).mono ?_
    rintro e w3 ⟨co, rfl, hco, hS3, hG3⟩
    have hc10 := mem_nm (by decide) hco
    have hP3 := Gr.blk hG3 (blk_old (blk_new w2 _) _) (by have := hS2.lt; omega)
    have hR3 := Gr.blk hG3 (blk_old (blk_old hR2 _) _) (by omega)
    have hG3' := Gr.trans (Gr.alloc (Gr.alloc hG2' _) _) hG3
    have hP4 := blk_set hP3 3 (.string co)
    have f3 := blk_free hP3 3
    have q3 := blk_cell hP3 3
    have hR4 : (w3.setCell ⟨w2.heap.size, 3, none⟩ (.string co)).heap[w.heap.size]? = _ := (Below.heap_setCell w3 ⟨w2.heap.size, 3, none⟩ (.string co) w.heap.size (by show w.heap.size ≠ w2.heap.size; omega)).trans hR3
    have k0 := blk_cell hP4 0
    have k1 := blk_cell hP4 1
    have k2 := blk_cell hP4 2
    have k3 := blk_cell hP4 3
    have r0 := blk_cell hR4 0
    have r1 := blk_cell hR4 1
    have r2 := blk_cell hR4 2
    have r3 := blk_cell hR4 3
    have g0 := blk_free hR4 0
    have g1 := blk_free hR4 1
    have g2 := blk_free hR4 2
    have g3 := blk_free hR4 3
    simp at k0 k1 k2 k3 r0 r1 r2 r3 q3
    clear hG3 hco
    go_wp2
    have hb6 := blk_set (blk_set (blk_set (blk_set hR4 0 (.int .i64 0)) 1 (.string b)) 2 (.int .i64 2)) 3 (.string co)
    have m0 := blk_cell hb6 0
    have m1 := blk_cell hb6 1
    have m2 := blk_cell hb6 2
    have m3 := blk_cell hb6 3
    refine bodyPost_ret (v := stpV (0, b, 2, co)) (by simp [results, Tryz.results85, go_sem, stpV, m0, m1, m2, m3]) rfl ⟨b, co, 2, rfl, hb, hc10, by omega, by omega, ?_, ?_⟩
    · exact ((hS3.belowB (B := w.heap.size) (Bl.set (Bl.set (Bl.set (Bl.set (Bl.set (Below.refl _ _) _ _ (by omega) _) _ _ (by omega) _) _ _ (by omega) _) _ _ (by omega) _) _ _ (by omega) _) ls)).mono (by omega)
    · exact Gr.set (Gr.set (Gr.set (Gr.set (Gr.set hG3' _ _ (.inr (by omega)) _) _ _ (.inr (by omega)) _) _ _ (.inr (by omega)) _) _ _ (.inr (by omega)) _) _ _ (.inr (by omega)) _
  case' inr.inr.inr.inl =>
    go_wp2_with fail
    refine (Some_any s (c + 1 + 1) [⟨#[114, 55]⟩, ⟨#[114, 55]⟩, ⟨#[99, 49]⟩, ⟨#[117, 57]⟩] _ _ ((hS2.alloc _).alloc _) (by omega) (RecR.of_blk (T := TS) (blk_new' _ _ (by simp)) rfl rfl (by simp) (by omega) (by have := hS2.lt; omega)) (by simp) (by simp)).mono ?_
    rintro e w3 ⟨co, rfl, hco, hS3, hG3⟩
    have hc10 := mem_nm (by decide) hco
    have hP3 := Gr.blk hG3 (blk_old (blk_new w2 _) _) (by have := hS2.lt; omega)
    have hR3 := Gr.blk hG3 (blk_old (blk_old hR2 _) _) (by omega)
    have hG3' := Gr.trans (Gr.alloc (Gr.alloc hG2' _) _) hG3
    have hP4 := blk_set hP3 3 (.string co)
    have f3 := blk_free hP3 3
    have q3 := blk_cell hP3 3
    have hR4 : (w3.setCell ⟨w2.heap.size, 3, none⟩ (.string co)).heap[w.heap.size]? = _ := (Below.heap_setCell w3 ⟨w2.heap.size, 3, none⟩ (.string co) w.heap.size (by show w.heap.size ≠ w2.heap.size; omega)).trans hR3
    have k0 := blk_cell hP4 0
    have k1 := blk_cell hP4 1
    have k2 := blk_cell hP4 2
    have k3 := blk_cell hP4 3
    have r0 := blk_cell hR4 0
    have r1 := blk_cell hR4 1
    have r2 := blk_cell hR4 2
    have r3 := blk_cell hR4 3
    have g0 := blk_free hR4 0
    have g1 := blk_free hR4 1
    have g2 := blk_free hR4 2
    have g3 := blk_free hR4 3
    simp at k0 k1 k2 k3 r0 r1 r2 r3 q3
    clear hG3 hco
    go_wp2
    have hb6 := blk_set (blk_set (blk_set (blk_set hR4 0 (.int .i64 0)) 1 (.string b)) 2 (.int .i64 4)) 3 (.string co)
    have m0 := blk_cell hb6 0
    have m1 := blk_cell hb6 1
    have m2 := blk_cell hb6 2
    have m3 := blk_cell hb6 3
    refine bodyPost_ret (v := stpV (0, b, 4, co)) (by simp [results, Tryz.results85, go_sem, stpV, m0, m1, m2, m3]) rfl ⟨b, co, 4, rfl, hb, hc10, by omega, by omega, ?_, ?_⟩
    · exact ((hS3.belowB (B := w.heap.size) (Bl.set (Bl.set (Bl.set (Bl.set (Bl.set (Below.refl _ _) _ _ (by omega) _) _ _ (by omega) _) _ _ (by omega) _) _ _ (by omega) _) _ _ (by omega) _) ls)).mono (by omega)
    · exact Gr.set (Gr.set (Gr.set (Gr.set (Gr.set hG3' _ _ (.inr (by omega)) _) _ _ (.inr (by omega)) _) _ _ (.inr (by omega)) _) _ _ (.inr (by omega)) _) _ _ (.inr (by omega)) _
  · have lR := blk_lt hR2
    have r0 := blk_cell hR2 0
    have r1 := blk_cell hR2 1
    have r2 := blk_cell hR2 2
    have r3 := blk_cell hR2 3
    have g0 := blk_free hR2 0
    have g1 := blk_free hR2 1
    have g2 := blk_free hR2 2
    have g3 := blk_free hR2 3
    simp at r0 r1 r2 r3
    go_wp2
    have hb6 := blk_old (blk_set (blk_set (blk_set (blk_set hR2 0 (.int .i64 0)) 1 (.string b)) 2 (.int .i64 1)) 3 (.string (⟨#[]⟩ : ByteArray))) (.cells #[.int .i64 0, .string b, .int .i64 1, .string (⟨#[]⟩ : ByteArray)] 133)
    have hS6 := ((hS2.belowB (B := w.heap.size) (Bl.set (Bl.set (Bl.set (Bl.set (Below.refl _ _) w.heap.size 0 (Nat.le_refl _) (.int .i64 0)) w.heap.size 1 (Nat.le_refl _) (.string b)) w.heap.size 2 (Nat.le_refl _) (.int .i64 1)) w.heap.size 3 (Nat.le_refl _) (.string (⟨#[]⟩ : ByteArray))) ls)).alloc (.cells #[.int .i64 0, .string b, .int .i64 1, .string (⟨#[]⟩ : ByteArray)] 133)
    have hg6 := Gr.alloc (Gr.set (Gr.set (Gr.set (Gr.set hG2' w.heap.size 0 (.inr (Nat.le_refl _)) (.int .i64 0)) w.heap.size 1 (.inr (Nat.le_refl _)) (.string b)) w.heap.size 2 (.inr (Nat.le_refl _)) (.int .i64 1)) w.heap.size 3 (.inr (Nat.le_refl _)) (.string (⟨#[]⟩ : ByteArray))) (.cells #[.int .i64 0, .string b, .int .i64 1, .string (⟨#[]⟩ : ByteArray)] 133)
    generalize (((((w2.setCell ⟨w.heap.size, 0, none⟩ (.int .i64 0)).setCell ⟨w.heap.size, 1, none⟩ (.string b)).setCell ⟨w.heap.size, 2, none⟩ (.int .i64 1)).setCell ⟨w.heap.size, 3, none⟩ (.string (⟨#[]⟩ : ByteArray))).alloc (.cells #[.int .i64 0, .string b, .int .i64 1, .string (⟨#[]⟩ : ByteArray)] 133)) = w6 at *
    have m0 := blk_cell hb6 0
    have m1 := blk_cell hb6 1
    have m2 := blk_cell hb6 2
    have m3 := blk_cell hb6 3
    simp at m0 m1 m2 m3
    refine bodyPost_ret (v := stpV (0, b, 1, (⟨#[]⟩ : ByteArray))) (by simp [results, Tryz.results85, go_sem, stpV, m0, m1, m2, m3]) rfl ⟨b, (⟨#[]⟩ : ByteArray), 1, rfl, hb, nm_lit (by decide), by omega, by omega, hS6.mono (by omega), hg6⟩
  · have lR := blk_lt hR2
    have r0 := blk_cell hR2 0
    have r1 := blk_cell hR2 1
    have r2 := blk_cell hR2 2
    have r3 := blk_cell hR2 3
    have g0 := blk_free hR2 0
    have g1 := blk_free hR2 1
    have g2 := blk_free hR2 2
    have g3 := blk_free hR2 3
    simp at r0 r1 r2 r3
    go_wp2
    have hb6 := blk_old (blk_set (blk_set (blk_set (blk_set hR2 0 (.int .i64 0)) 1 (.string b)) 2 (.int .i64 3)) 3 (.string (⟨#[]⟩ : ByteArray))) (.cells #[.int .i64 0, .string b, .int .i64 3, .string (⟨#[]⟩ : ByteArray)] 133)
    have hS6 := ((hS2.belowB (B := w.heap.size) (Bl.set (Bl.set (Bl.set (Bl.set (Below.refl _ _) w.heap.size 0 (Nat.le_refl _) (.int .i64 0)) w.heap.size 1 (Nat.le_refl _) (.string b)) w.heap.size 2 (Nat.le_refl _) (.int .i64 3)) w.heap.size 3 (Nat.le_refl _) (.string (⟨#[]⟩ : ByteArray))) ls)).alloc (.cells #[.int .i64 0, .string b, .int .i64 3, .string (⟨#[]⟩ : ByteArray)] 133)
    have hg6 := Gr.alloc (Gr.set (Gr.set (Gr.set (Gr.set hG2' w.heap.size 0 (.inr (Nat.le_refl _)) (.int .i64 0)) w.heap.size 1 (.inr (Nat.le_refl _)) (.string b)) w.heap.size 2 (.inr (Nat.le_refl _)) (.int .i64 3)) w.heap.size 3 (.inr (Nat.le_refl _)) (.string (⟨#[]⟩ : ByteArray))) (.cells #[.int .i64 0, .string b, .int .i64 3, .string (⟨#[]⟩ : ByteArray)] 133)
    generalize (((((w2.setCell ⟨w.heap.size, 0, none⟩ (.int .i64 0)).setCell ⟨w.heap.size, 1, none⟩ (.string b)).setCell ⟨w.heap.size, 2, none⟩ (.int .i64 3)).setCell ⟨w.heap.size, 3, none⟩ (.string (⟨#[]⟩ : ByteArray))).alloc (.cells #[.int .i64 0, .string b, .int .i64 3, .string (⟨#[]⟩ : ByteArray)] 133)) = w6 at *
    have m0 := blk_cell hb6 0
    have m1 := blk_cell hb6 1
    have m2 := blk_cell hb6 2
    have m3 := blk_cell hb6 3
    simp at m0 m1 m2 m3
    refine bodyPost_ret (v := stpV (0, b, 3, (⟨#[]⟩ : ByteArray))) (by simp [results, Tryz.results85, go_sem, stpV, m0, m1, m2, m3]) rfl ⟨b, (⟨#[]⟩ : ByteArray), 3, rfl, hb, nm_lit (by decide), by omega, by omega, hS6.mono (by omega), hg6⟩
  · have lR := blk_lt hR2
    have r0 := blk_cell hR2 0
    have r1 := blk_cell hR2 1
    have r2 := blk_cell hR2 2
    have r3 := blk_cell hR2 3
    have g0 := blk_free hR2 0
    have g1 := blk_free hR2 1
    have g2 := blk_free hR2 2
    have g3 := blk_free hR2 3
    simp at r0 r1 r2 r3
    go_wp2
    have hb6 := blk_old (blk_set (blk_set (blk_set (blk_set hR2 0 (.int .i64 0)) 1 (.string b)) 2 (.int .i64 5)) 3 (.string (⟨#[]⟩ : ByteArray))) (.cells #[.int .i64 0, .string b, .int .i64 5, .string (⟨#[]⟩ : ByteArray)] 133)
    have hS6 := ((hS2.belowB (B := w.heap.size) (Bl.set (Bl.set (Bl.set (Bl.set (Below.refl _ _) w.heap.size 0 (Nat.le_refl _) (.int .i64 0)) w.heap.size 1 (Nat.le_refl _) (.string b)) w.heap.size 2 (Nat.le_refl _) (.int .i64 5)) w.heap.size 3 (Nat.le_refl _) (.string (⟨#[]⟩ : ByteArray))) ls)).alloc (.cells #[.int .i64 0, .string b, .int .i64 5, .string (⟨#[]⟩ : ByteArray)] 133)
    have hg6 := Gr.alloc (Gr.set (Gr.set (Gr.set (Gr.set hG2' w.heap.size 0 (.inr (Nat.le_refl _)) (.int .i64 0)) w.heap.size 1 (.inr (Nat.le_refl _)) (.string b)) w.heap.size 2 (.inr (Nat.le_refl _)) (.int .i64 5)) w.heap.size 3 (.inr (Nat.le_refl _)) (.string (⟨#[]⟩ : ByteArray))) (.cells #[.int .i64 0, .string b, .int .i64 5, .string (⟨#[]⟩ : ByteArray)] 133)
    generalize (((((w2.setCell ⟨w.heap.size, 0, none⟩ (.int .i64 0)).setCell ⟨w.heap.size, 1, none⟩ (.string b)).setCell ⟨w.heap.size, 2, none⟩ (.int .i64 5)).setCell ⟨w.heap.size, 3, none⟩ (.string (⟨#[]⟩ : ByteArray))).alloc (.cells #[.int .i64 0, .string b, .int .i64 5, .string (⟨#[]⟩ : ByteArray)] 133)) = w6 at *
    have m0 := blk_cell hb6 0
    have m1 := blk_cell hb6 1
    have m2 := blk_cell hb6 2
    have m3 := blk_cell hb6 3
    simp at m0 m1 m2 m3
    refine bodyPost_ret (v := stpV (0, b, 5, (⟨#[]⟩ : ByteArray))) (by simp [results, Tryz.results85, go_sem, stpV, m0, m1, m2, m3]) rfl ⟨b, (⟨#[]⟩ : ByteArray), 5, rfl, hb, nm_lit (by decide), by omega, by omega, hS6.mono (by omega), hg6⟩
  · have lR := blk_lt hR2
    have r0 := blk_cell hR2 0
    have r1 := blk_cell hR2 1
    have r2 := blk_cell hR2 2
    have r3 := blk_cell hR2 3
    have g0 := blk_free hR2 0
    have g1 := blk_free hR2 1
    have g2 := blk_free hR2 2
    have g3 := blk_free hR2 3
    simp at r0 r1 r2 r3
    go_wp2
    have hb6 := blk_old (blk_set (blk_set (blk_set (blk_set hR2 0 (.int .i64 0)) 1 (.string b)) 2 (.int .i64 6)) 3 (.string (⟨#[]⟩ : ByteArray))) (.cells #[.int .i64 0, .string b, .int .i64 6, .string (⟨#[]⟩ : ByteArray)] 133)
    have hS6 := ((hS2.belowB (B := w.heap.size) (Bl.set (Bl.set (Bl.set (Bl.set (Below.refl _ _) w.heap.size 0 (Nat.le_refl _) (.int .i64 0)) w.heap.size 1 (Nat.le_refl _) (.string b)) w.heap.size 2 (Nat.le_refl _) (.int .i64 6)) w.heap.size 3 (Nat.le_refl _) (.string (⟨#[]⟩ : ByteArray))) ls)).alloc (.cells #[.int .i64 0, .string b, .int .i64 6, .string (⟨#[]⟩ : ByteArray)] 133)
    have hg6 := Gr.alloc (Gr.set (Gr.set (Gr.set (Gr.set hG2' w.heap.size 0 (.inr (Nat.le_refl _)) (.int .i64 0)) w.heap.size 1 (.inr (Nat.le_refl _)) (.string b)) w.heap.size 2 (.inr (Nat.le_refl _)) (.int .i64 6)) w.heap.size 3 (.inr (Nat.le_refl _)) (.string (⟨#[]⟩ : ByteArray))) (.cells #[.int .i64 0, .string b, .int .i64 6, .string (⟨#[]⟩ : ByteArray)] 133)
    generalize (((((w2.setCell ⟨w.heap.size, 0, none⟩ (.int .i64 0)).setCell ⟨w.heap.size, 1, none⟩ (.string b)).setCell ⟨w.heap.size, 2, none⟩ (.int .i64 6)).setCell ⟨w.heap.size, 3, none⟩ (.string (⟨#[]⟩ : ByteArray))).alloc (.cells #[.int .i64 0, .string b, .int .i64 6, .string (⟨#[]⟩ : ByteArray)] 133)) = w6 at *
    have m0 := blk_cell hb6 0
    have m1 := blk_cell hb6 1
    have m2 := blk_cell hb6 2
    have m3 := blk_cell hb6 3
    simp at m0 m1 m2 m3
    refine bodyPost_ret (v := stpV (0, b, 6, (⟨#[]⟩ : ByteArray))) (by simp [results, Tryz.results85, go_sem, stpV, m0, m1, m2, m3]) rfl ⟨b, (⟨#[]⟩ : ByteArray), 6, rfl, hb, nm_lit (by decide), by omega, by omega, hS6.mono (by omega), hg6⟩
end Go.Proofs.YtbkglhakhahfpaaGreatDoor
namespace Go.Proofs.YtbkglhakhahfpaaGreatDoor
open Go.RowKit Go.Sort

set_option maxHeartbeats 4000000 in
set_option maxRecDepth 100000 in
theorem StepListN_any (s : Nat) (c : Int) (w : World) (h : Str w s c) (hc : c ≤ 900000) :
    Calls Tryz.prog 8 #[.pointer (some ⟨s, 0, none⟩)] w fun e w' => ∃ v l, e = .returned v ∧ OwnR TSt w' w.heap.size v l ∧ l.length ≤ 24 ∧ (∀ x ∈ l, StpNm x) ∧ Str w' s (c + 6000) ∧ w.grownBy w' (some s) := by
  have ls := h.lt
  go_enter Tryz.func8, Tryz.ntmps8
  go_wp2_with fail
  refine (Range_any s c 0 24 w h (by omega) (by omega) (by omega) (by omega) (by omega)).mono ?_
  rintro e w1 ⟨n, rfl, ⟨hn0, hn1, _⟩, hS1, hG1⟩
  have hn2 := hn1 (by omega)
  clear hn1
  obtain ⟨n, rfl⟩ := Int.eq_ofNat_of_zero_le hn0
  go_wp2_with fail
  go_loopw [3, 4, 9] (fun av v i wr => ∃ (k : Nat) (at' : Int) (l : List Stp), k ≤ n ∧ i = .int .i64 k ∧ av = .int .i64 at' ∧ 0 ≤ at' ∧ at' ≤ 20 * k ∧ OwnR TSt wr w.heap.size v l ∧ Hid (l.length = k) ∧ (∀ x ∈ l, StpNm x) ∧ Str wr s (c + 1 + 200 * k) ∧ w.grownBy wr (some s)) (fun _ _ i _ => n - (intOf i).toNat)
  case atStart => exact ⟨0, 0, [], Nat.zero_le _, rfl, rfl, by omega, by omega, OwnR.nil _ _, Lib.hid rfl, by simp, hS1.mono (by omega), hG1⟩
  case round =>
    obtain ⟨k, at', l, hk, rfl, rfl, ha0, ha1, hO, hl, hB, hS, hG⟩ := hrel
    have hz0 := hG.size
    obtain ⟨oa, ocap, rfl, _, _⟩ := hO.form
    by_cases hlt : k < n
    · go_wp2_with fail
      refine (AStepN_any s _ wr hS (by omega)).mono ?_
      rintro e w2 ⟨b, co, kd, rfl, hb, hco, hk1, hk6, hS2, hG2⟩
      have hO2 := hO.grown hG2 ls
      have hG2' := Gr.trans hG hG2
      have hz2 := hG2'.size
      have HNO : ∀ g, (Value.slice oa l.length ocap).ownBlock = some g → g ≠ w2.heap.size := fun g e => by
        have := (World.ownsRow.lt hO2 g e).2
        omega
      clear hO hG2 hS
      unfold stpV
      go_wp2_with fail
      refine (Flip_any s _ 4 _ (hS2.alloc _) (by omega) (by omega)).mono ?_
      rintro e w3 ⟨r, rfl, hS3, hG3⟩
      have hX3 := Gr.blk hG3 (blk_new w2 _) (by omega)
      have hO3 := (hO2.alloc (.cells #[.int .i64 0, .string b, .int .i64 kd, .string co] 133)).grown hG3 ls
      have hG3' := Gr.trans (Gr.alloc hG2' _) hG3
      have hz3 := hG3.size
      simp at hz3
      clear hO2 hG2' hG3 hS2
      obtain ⟨X, hX⟩ : ∃ X, X = w2.heap.size := ⟨_, rfl⟩
      rw [← hX] at hX3 hz3 hz2 HNO
      have HXX := Lib.hid hX
      rw [← hX]
      clear hX
      cases r
      case' true =>
        have hX3' : ∃ (b co : ByteArray) (kd : Int), w3.heap[X]? = some (.cells #[.int .i64 0, .string b, .int .i64 kd, .string co] 133 (0, 0)) ∧ NmOk b ∧ NmOk co ∧ 1 ≤ kd ∧ kd ≤ 6 := ⟨b, co, kd, hX3, hb, hco, hk1, hk6⟩
        have HK : OwnK (fun W => (∃ (b co : ByteArray) (kd : Int), W.heap[X]? = some (.cells #[.int .i64 0, .string b, .int .i64 kd, .string co] 133 (0, 0)) ∧ NmOk b ∧ NmOk co ∧ 1 ≤ kd ∧ kd ≤ 6) ∧ OwnR TSt W w.heap.size (.slice oa l.length ocap) l) s := ⟨fun W W' h hb => ⟨(by obtain ⟨b, co, kd, h1, h2⟩ := h.1; exact ⟨b, co, kd, blk_below h1 hb, h2⟩), h.2.below hb⟩, fun W W' h hg => ⟨(by obtain ⟨b, co, kd, h1, h2⟩ := h.1; exact ⟨b, co, kd, Gr.blk hg h1 (by omega), h2⟩), h.2.grown hg ls⟩⟩
        go_wp2
        refine wp_region_inv (by kernel_rfl) [15, 16, 17, 18, 19, 20] (RB (fun W => (∃ (b co : ByteArray) (kd : Int), W.heap[X]? = some (.cells #[.int .i64 0, .string b, .int .i64 kd, .string co] 133 (0, 0)) ∧ NmOk b ∧ NmOk co ∧ 1 ≤ kd ∧ kd ≤ 6) ∧ OwnR TSt W w.heap.size (.slice oa l.length ocap) l) w s w3.heap.size (c + 1 + 200 * k + 110)) (RR w3.heap.size)
          (fun i => [VE (.pointer (some ⟨X, 1, none⟩)), VN, VE (.pointer (some ⟨s, 0, none⟩)), VLI w3.heap.size 1 3 3, VI 1 3, fun v _ => ∃ (b : ByteArray) (kd : Int), v = .agg #[.int .i64 0, .string b, .int .i64 kd, .string ⟨#[]⟩] ∧ NmOk b ∧ 1 ≤ kd ∧ kd ≤ 6].getD i VT) (by kernel_rfl) (by kernel_rfl) (fun u u' W hu h => h.mono hu) ?_ ?_ ?_ ?_ ?_
        · exact ⟨(hS3.drew).mono (by show _ ≤ c + 1 + 200 * k + 110 - 10 * ((7 : Nat) : Int); omega), ⟨hX3', hO3⟩, Nat.le_refl _, ⟨hG3'.os, hG3'.tape, hG3'.output, hG3'.size, hG3'.block⟩⟩
        · intro u W W' i v hB hR hV
          exact match i, hV with
            | 0, h => h
            | 1, h => h
            | 2, h => h
            | 3, h => VLI.stab h hR
            | 4, h => h
            | 5, h => h
            | (n + 6), _ => trivial
        · intro i o v W ho hd
          match i, ho with
            | 0, ho => (obtain rfl := Option.some.inj ho; cases hd)
            | 1, ho => (obtain rfl := Option.some.inj ho; cases hd)
            | 2, ho => (obtain rfl := Option.some.inj ho; cases hd)
            | 3, ho => (obtain rfl := Option.some.inj ho; cases hd)
            | 4, ho => (obtain rfl := Option.some.inj ho; cases hd)
            | 5, ho => (obtain rfl := Option.some.inj ho; cases hd)
            | (n + 6), _ => trivial
        · intro i o u f W ho hi hB hdep
          have hi' : i = 0 ∨ i = 1 ∨ i = 2 ∨ i = 3 ∨ i = 4 ∨ i = 5 ∨ i = 6 := by
            have : i < 7 := hi
            omega
          rcases hi' with rfl | rfl | rfl | rfl | rfl | rfl | rfl
          · refine iv_val ho (by obtain rfl := Option.some.inj ho; rfl) (.pointer (some ⟨X, 1, none⟩)) W ?_ (hB.below HK (Below.refl _ _)) (RR.refl _ _) rfl
            intro q hq
            obtain rfl := Option.some.inj ho
            have e5 := hq.tmp 5
            simp at e5
            simp [execOp, hq.const, e5, go_sem]
          · have d0 : f 15 = .pointer (some ⟨X, 1, none⟩) := hdep ⟨0, .data⟩ (by obtain rfl := Option.some.inj ho; simp) rfl
            obtain ⟨b', co', kd', hx, hb1, hb2⟩ := hB.own.1
            have y1 := blk_cell hx 1
            simp at y1
            refine iv_val ho (by obtain rfl := Option.some.inj ho; rfl) (.string b') W ?_ (hB.below HK (Below.refl _ _)) (RR.refl _ _) ⟨b', rfl, hb1⟩
            intro q hq
            obtain rfl := Option.some.inj ho
            have e15 := hq.tmp 15
            simp at e15
            simp [execOp, hq.const, e15, go_sem, d0, y1]
          · refine iv_val ho (by obtain rfl := Option.some.inj ho; rfl) (.pointer (some ⟨s, 0, none⟩)) W ?_ (hB.below HK (Below.refl _ _)) (RR.refl _ _) rfl
            intro q hq
            obtain rfl := Option.some.inj ho
            have e0 := hq.tmp 0
            simp at e0
            simp [execOp, hq.const, e0, go_sem]
          · refine iv_val ho (by obtain rfl := Option.some.inj ho; rfl) (.slice (some ⟨W.heap.size, 0, none⟩) 3 3) (W.alloc (.cells #[.int .i64 1, .int .i64 1, .int .i64 3] 3)) ?_ (hB.below HK (Bl.alloc (Below.refl _ _) _)) (RR.of_below (Bl.alloc (Below.refl _ _) _)) ⟨[1, 1, 3], ⟨_, rfl⟩, rfl, Ints.of_blk (blk_new _ _) rfl rfl (by simp) (by omega) hB.size, by decide⟩
            intro q hq
            obtain rfl := Option.some.inj ho
            simp [execOp, hq.const, go_sem]
          · have d2 : f 17 = .pointer (some ⟨s, 0, none⟩) := hdep ⟨2, .data⟩ (by obtain rfl := Option.some.inj ho; simp) rfl
            obtain ⟨li, ⟨bi, d3⟩, hli, hri, hbi⟩ : VLI w3.heap.size 1 3 3 (f 18) W := hdep ⟨3, .data⟩ (by obtain rfl := Option.some.inj ho; simp) rfl
            refine iv_call ho (by obtain rfl := Option.some.inj ho; rfl) 10 #[.tmp 17, .tmp 18] _ (by obtain rfl := Option.some.inj ho; rfl) (enters_of Tryz.func10 (by kernel_rfl) rfl) #[.pointer (some ⟨s, 0, none⟩), f 18] (by intro q hq; have e17 := hq.tmp 17; have e18 := hq.tmp 18; simp at e17 e18; simp [e17, e18, d2]) _ (Pick_any s _ li (f 18) W hB.str (by omega) (Rd.mono hri (by omega)) (by omega) (by omega)) ?_
            rintro e W' ⟨r, rfl, hr, hs', hg'⟩
            exact ⟨_, rfl, hB.call HK hs' (by omega) hg', RR.of_gr hg' (by omega), ⟨r, rfl, hbi r hr⟩⟩
          · obtain ⟨b', d1, hb1⟩ : VN (f 16) W := hdep ⟨1, .data⟩ (by obtain rfl := Option.some.inj ho; simp) rfl
            obtain ⟨kq, d4, hk41, hk42⟩ : VI 1 3 (f 19) W := hdep ⟨4, .data⟩ (by obtain rfl := Option.some.inj ho; simp) rfl
            refine iv_val ho (by obtain rfl := Option.some.inj ho; rfl) (.agg #[.int .i64 0, .string b', .int .i64 kq, .string (⟨#[]⟩ : ByteArray)]) W ?_ (hB.below HK (Below.refl _ _)) (RR.refl _ _) ⟨b', kq, rfl, hb1, hk41, by omega⟩
            intro q hq
            obtain rfl := Option.some.inj ho
            have e16 := hq.tmp 16
            have e19 := hq.tmp 19
            simp at e16 e19
            simp [execOp, hq.const, e16, e19, go_sem, d1, d4]
          · obtain ⟨b', kq, d5, hb1, hk1', hk2'⟩ : ∃ (b : ByteArray) (kd : Int), f 20 = .agg #[.int .i64 0, .string b, .int .i64 kd, .string ⟨#[]⟩] ∧ NmOk b ∧ 1 ≤ kd ∧ kd ≤ 6 := hdep ⟨5, .data⟩ (by obtain rfl := Option.some.inj ho; simp) rfl
            obtain ⟨b0, co0, kd0, hx, hx1, hx2⟩ := hB.own.1
            have y0 := blk_cell hx 0
            have y1 := blk_cell hx 1
            have y2 := blk_cell hx 2
            have y3 := blk_cell hx 3
            have g0 := blk_free hx 0
            have g1 := blk_free hx 1
            have g2 := blk_free hx 2
            have g3 := blk_free hx 3
            simp at y0 y1 y2 y3
            have hXw : w.heap.size ≤ X := by omega
            have hXs : X < w3.heap.size := by omega
            refine iv_skip ho (by obtain rfl := Option.some.inj ho; rfl) (by obtain rfl := Option.some.inj ho; rfl) ((((W.setCell ⟨X, 0, none⟩ (.int .i64 0)).setCell ⟨X, 1, none⟩ (.string b')).setCell ⟨X, 2, none⟩ (.int .i64 kq)).setCell ⟨X, 3, none⟩ (.string (⟨#[]⟩ : ByteArray))) ?_ ?_ ?_ trivial
            · intro q hq
              obtain rfl := Option.some.inj ho
              have e5 := hq.tmp 5
              have e20 := hq.tmp 20
              simp at e5 e20
              simp [execOp, e5, e20, d5, go_sem, y0, y1, y2, y3, g0, g1, g2, g3]
            · refine ⟨((hB.str.belowB (B := w.heap.size) (Bl.set (Bl.set (Bl.set (Bl.set (Below.refl _ _) _ _ hXw _) _ _ hXw _) _ _ hXw _) _ _ hXw _) ls)).mono (by omega), ⟨⟨b', ⟨#[]⟩, kq, blk_set (blk_set (blk_set (blk_set hx 0 (.int .i64 0)) 1 (.string b')) 2 (.int .i64 kq)) 3 (.string (⟨#[]⟩ : ByteArray)), hb1, nm_lit (by decide), hk1', hk2'⟩, ?_⟩, by simpa using hB.size, Gr.set (Gr.set (Gr.set (Gr.set hB.gr _ _ (.inr hXw) _) _ _ (.inr hXw) _) _ _ (.inr hXw) _) _ _ (.inr hXw) _⟩
              have hne : ∀ k, ¬ k = X → ((((W.setCell ⟨X, 0, none⟩ (.int .i64 0)).setCell ⟨X, 1, none⟩ (.string b')).setCell ⟨X, 2, none⟩ (.int .i64 kq)).setCell ⟨X, 3, none⟩ (.string (⟨#[]⟩ : ByteArray))).heap[k]? = W.heap[k]? := fun k hk => by
                rw [Below.heap_setCell _ _ _ _ hk, Below.heap_setCell _ _ _ _ hk, Below.heap_setCell _ _ _ _ hk, Below.heap_setCell _ _ _ _ hk]
              exact own_off hB.own.2 hne HNO
            · refine ⟨by simp, fun i h1 h2 => ?_⟩
              rw [Below.heap_setCell _ _ _ _ (by show i ≠ X; omega), Below.heap_setCell _ _ _ _ (by show i ≠ X; omega), Below.heap_setCell _ _ _ _ (by show i ≠ X; omega), Below.heap_setCell _ _ _ _ (by show i ≠ X; omega)]
        intro f w3 hB hV
        unfold putsA
        simp only [List.mapIdx_toArray, List.mapIdx_cons, List.mapIdx_nil, List.contains_cons]
        simp
        clear hX3 hO3 hS3 hG3' hX3' hb hco hk1 hk6 hV HK
        obtain ⟨hS3, ⟨⟨b, co, kd, hX3, hb, hco, hk1, hk6⟩, hO3⟩, _, hG3'⟩ := hB
        have hS3 := hS3.mono (d := c + 1 + 200 * k + 110) (by omega)
        have hz3 := blk_lt hX3
      case' false =>
        have hS3 := hS3.mono (d := c + 1 + 200 * k + 110) (by omega)
        have hz3 := blk_lt hX3
      all_goals (
        have x1 : w3.cell? ⟨X, 1, none⟩ = some (.string b) := blk_cell hX3 1
        have x2 : w3.cell? ⟨X, 2, none⟩ = some (.int .i64 kd) := blk_cell hX3 2
        have hX5 := hX3
        have hS5 := hS3.mono (d := c + 1 + 200 * k + 120) (by omega)
        have hO5 := hO3
        have hG5 := hG3'
        have hz5 := hz3
        by_cases h5 : kd = 5
        case' pos =>
          subst h5
          go_wp2_with fail
          refine (Flip_any s _ 4 w3 hS3 (by omega) (by omega)).mono ?_
          rintro e w5 ⟨fl, rfl, hS4, hG4⟩
          have hX5 := Gr.blk hG4 hX3 (by omega)
          have hO5 := hO3.grown hG4 ls
          have hG5 := Gr.trans hG3' hG4
          have hS5 := hS4.mono (d := c + 1 + 200 * k + 120) (by omega)
          have hz5 := blk_lt hX5
          clear hS4 hG4
          cases fl
        case' neg =>
          have h5b : (kd == 5) = false := by simpa using h5
          obtain ⟨w6, hw6⟩ : ∃ w6, w6 = w3 := ⟨_, rfl⟩
          rw [← hw6] at hX5 hO5 hS5 hG5
          go_wp2_with fail
          rw [← hw6]
          have hk61 := hk1
          have hk66 := hk6
          have hco6 := hco
          have HSZ : Hid (w6.heap.size = w6.heap.size) := Lib.hid rfl
        case' true =>
          obtain ⟨w6, hw6⟩ : ∃ w6, w6 = w5 := ⟨_, rfl⟩
          rw [← hw6] at hX5 hO5 hS5 hG5
          go_wp2_with fail
          rw [← hw6]
          obtain ⟨kd, hkd⟩ : ∃ kd : Int, kd = 5 := ⟨_, rfl⟩
          rw [← hkd] at hX5
          have hk61 : 1 ≤ kd := by omega
          have hk66 : kd ≤ 6 := by omega
          have hco6 := hco
          clear hkd
          have HSZ : Hid (w6.heap.size = w6.heap.size) := Lib.hid rfl
        case' false =>
          have y0 := blk_cell hX5 0
          have y1 := blk_cell hX5 1
          have y2 := blk_cell hX5 2
          have y3 := blk_cell hX5 3
          have g0 := blk_free hX5 0
          have g1 := blk_free hX5 1
          have g2 := blk_free hX5 2
          have g3 := blk_free hX5 3
          simp at y0 y1 y2 y3
          obtain ⟨w6, hw6⟩ : ∃ w6, w6 = (((w5.setCell ⟨X, 0, none⟩ (.int .i64 0)).setCell ⟨X, 1, none⟩ (.string b)).setCell ⟨X, 2, none⟩ (.int .i64 1)).setCell ⟨X, 3, none⟩ (.string (⟨#[]⟩ : ByteArray)) := ⟨_, rfl⟩
          have hXw : w.heap.size ≤ X := by omega
          have hX6 : w6.heap[X]? = some (.cells #[.int .i64 0, .string b, .int .i64 1, .string (⟨#[]⟩ : ByteArray)] 133 (0, 0)) := by rw [hw6]; exact blk_set (blk_set (blk_set (blk_set hX5 0 (.int .i64 0)) 1 (.string b)) 2 (.int .i64 1)) 3 (.string (⟨#[]⟩ : ByteArray))
          have hS6 : Str w6 s (c + 1 + 200 * k + 120) := by rw [hw6]; exact hS5.belowB (B := w.heap.size) (Bl.set (Bl.set (Bl.set (Bl.set (Below.refl _ _) _ _ hXw _) _ _ hXw _) _ _ hXw _) _ _ hXw _) ls
          have hG6 : w.grownBy w6 (some s) := by rw [hw6]; exact Gr.set (Gr.set (Gr.set (Gr.set hG5 _ _ (.inr hXw) _) _ _ (.inr hXw) _) _ _ (.inr hXw) _) _ _ (.inr hXw) _
          have hO6 : OwnR TSt w6 w.heap.size (.slice oa l.length ocap) l := by
            refine own_off hO5 (fun k hk => ?_) HNO
            rw [hw6, Below.heap_setCell _ _ _ _ hk, Below.heap_setCell _ _ _ _ hk, Below.heap_setCell _ _ _ _ hk, Below.heap_setCell _ _ _ _ hk]
          clear hX5 hO5 hS5 hG5
          have hX5 := hX6
          have hO5 := hO6
          have hS5 := hS6
          have hG5 := hG6
          clear hX6 hO6 hS6 hG6
          go_wp2_with fail
          rw [← hw6]
          have HSZ : Hid (w5.heap.size = w6.heap.size) := Lib.hid (by rw [hw6]; simp)
          obtain ⟨co, hcoe⟩ : ∃ co : ByteArray, co = ⟨#[]⟩ := ⟨_, rfl⟩
          obtain ⟨kd, hkd⟩ : ∃ kd : Int, kd = 1 := ⟨_, rfl⟩
          rw [← hcoe, ← hkd] at hX5
          have hk61 : 1 ≤ kd := by omega
          have hk66 : kd ≤ 6 := by omega
          have hco6 : NmOk co := by rw [hcoe]; exact nm_lit (by decide)
          clear hkd hcoe
        all_goals (
          have hz6 := blk_lt hX5
          refine (Pick_any s _ [0, 1, 1, 5, 20] _ _ (hS5.alloc _) (by omega) (Ints.of_blk (blk_new' _ _ HSZ.out) rfl rfl (by simp) (by omega) (by have := HSZ.out; omega)) (by simp) (by simp)).mono ?_
          rintro e w7 ⟨d, rfl, hd, hS7, hG7⟩
          have hd1 : 0 ≤ d ∧ d ≤ 20 := by simp only [List.mem_cons, List.not_mem_nil, or_false] at hd; omega
          have hX7 := Gr.blk hG7 (blk_old hX5 _) (by omega)
          have hO7 := (hO5.alloc (.cells #[.int .i64 0, .int .i64 1, .int .i64 1, .int .i64 5, .int .i64 20] 3)).grown hG7 ls
          have hG7' := Gr.trans (Gr.alloc hG5 _) hG7
          clear hd hX5 hO5 hS5 hG5 hG7 hX3 hO3 hS3 hG3'
          have hw1 : IntKind.i64.wrap (at' + d) = at' + d := IntWalk.i64_in _ (by omega)
          have hwk : IntKind.i64.wrap ((k : Int) + 1) = ((k + 1 : Nat) : Int) := by rw [IntWalk.i64_in _ (by omega)]; omega
          have y0 := blk_cell hX7 0
          have g0 := blk_free hX7 0
          have hX8 := blk_set hX7 0 (.int .i64 (at' + d))
          have z0 := blk_cell hX8 0
          have z1 := blk_cell hX8 1
          have z2 := blk_cell hX8 2
          have z3 := blk_cell hX8 3
          simp at y0 z0 z1 z2 z3
          have hz7 := blk_lt hX7
          have hXw : w.heap.size ≤ X := by omega
          have hO8 : OwnR TSt (w7.setCell ⟨X, 0, none⟩ (.int .i64 (at' + d))) w.heap.size (.slice oa l.length ocap) l := own_off hO7 (fun k hk => Below.heap_setCell _ _ _ _ hk) HNO
          have hS8 : Str (w7.setCell ⟨X, 0, none⟩ (.int .i64 (at' + d))) s _ := hS7.belowB (B := w.heap.size) (Bl.set (Below.refl _ _) _ _ hXw _) ls
          have hG8 : w.grownBy (w7.setCell ⟨X, 0, none⟩ (.int .i64 (at' + d))) (some s) := Gr.set hG7' _ _ (.inr hXw) _
          clear hX7 hO7 hS7 hG7'
          have hll : l.length ≤ 1000000 := by rw [hl.out]; omega
          have hzz : w.heap.size ≤ w7.heap.size := by omega
          have HNEW : Hid (∀ x ∈ l ++ [((at' + d, b, kd, co) : Stp)], StpNm x) := Lib.hid (by
            intro x hx
            rcases List.mem_append.1 hx with h | h
            · exact hB x h
            · rw [List.mem_singleton] at h
              subst h
              exact ⟨hb, hco6, by show -1099511627777 ≤ at' + d; omega, by show at' + d ≤ 1099511627777; omega, by show -1099511627777 ≤ kd; omega, by show kd ≤ 1099511627777; omega⟩)
          go_wp2_with (at_builtin; refine wp_app_rec TSt.ok rfl _ _ rfl w.heap.size _ l rfl (hO8.alloc _) w7.heap.size 1 (at' + d, b, kd, co) rfl (blk_new' _ _ (by simp)) rfl hll (by simp; omega) ?_)
          intro v9 w9 hO9 hA9 hb9
          have hS9 := (hS8.alloc (.cells #[.int .i64 (at' + d), .string b, .int .i64 kd, .string co] 133)).belowB hb9 ls
          have hG9 := Gr.app (Gr.alloc hG8 (.cells #[.int .i64 (at' + d), .string b, .int .i64 kd, .string co] 133)) (hO8.alloc _) hA9 (Nat.le_refl _)
          have HF := Lib.hid (And.intro hO9 (And.intro (hS9.mono (d := c + 1 + 200 * ((k + 1 : Nat) : Int)) (by omega)) hG9))
          clear hO9 hS9 hG9 hA9 hb9 hS8 hG8 hO8
          go_wp2
          go_roundw
          case rel => exact ⟨k + 1, at' + d, l ++ [(at' + d, b, kd, co)], by omega, by go_num, rfl, by omega, by omega, HF.out.1, Lib.hid (by rw [List.length_append, hl.out]; rfl), HNEW.out, HF.out.2.1, HF.out.2.2⟩
          case measure => simp [intOf]; omega))
    · obtain rfl : k = n := by omega
      have hO9 := hO
      have HL := Lib.hid (And.intro hO (And.intro hl.out (And.intro hB (And.intro (hS.mono (d := c + 6000) (by omega)) hG))))
      by_cases h0 : l.length = 0
      · obtain rfl := List.eq_nil_of_length_eq_zero h0
        clear hO hO9 hS hB
        go_wp2
        go_ret
        exact ⟨_, [], rfl, HL.out.1, by simp, by simp, HL.out.2.2.2.1, HL.out.2.2.2.2⟩
      · have h0' : (0 : Int) < (l.length : Int) := by omega
        have hlpos : l ≠ [] := fun e => h0 (by rw [e]; rfl)
        obtain ⟨go, cap, cur, hoa, hgo, hgb, hcl, _⟩ := hO.blk hlpos
        injection hoa with hoa1 _ hoa2
        subst hoa1 hoa2
        clear hgb
        have hl24 : l.length ≤ 24 := by have := hl.out; omega
        go_wp2_with fail
        refine (Flip_any s _ 12 wr hS (by omega) (by omega)).mono ?_
        rintro e w8 ⟨fl, rfl, hS8, hG8⟩
        have hO8 := hO.grown hG8 ls
        have hG8' := Gr.trans hG hG8
        clear hO hO9 hS hG8
        cases fl
        · have HF := Lib.hid (And.intro hO8 (And.intro (hS8.mono (d := c + 6000) (by omega)) hG8'))
          clear hO8 hS8 hG8'
          go_wp2
          go_ret
          exact ⟨_, l, rfl, HF.out.1, by omega, hB, HF.out.2.1, HF.out.2.2⟩
        · go_wp2_with fail
          refine (Next_any s _ l.length w8 hS8 (by omega) (by omega)).mono ?_
          rintro e w9 ⟨j, rfl, ⟨hj0, hj1, _⟩, hS9, hG9⟩
          have hj2 := hj1 (by omega)
          clear hj1
          obtain ⟨j, rfl⟩ := Int.eq_ofNat_of_zero_le hj0
          have hO9 := hO8.grown hG9 ls
          have hG9' := Gr.trans hG8' hG9
          have hgo9 : go < w9.heap.size := by
            have := (World.ownsRow.lt hO9 go rfl).2
            exact this
          have hjn : j < l.length := by omega
          have hS9' := hS9.mono (d := c + 5000 + 300) (by omega)
          clear hO8 hS8 hG8' hG9 hS9
          have HK : OwnK (fun W => ∃ l' : List Stp, OwnR TSt W w.heap.size (.slice (some ⟨go, 0, none⟩) l.length ocap) l' ∧ l'.length = l.length ∧ ∀ x ∈ l', StpNm x) s := ⟨fun W W' h hb => (by obtain ⟨l', h1, h2⟩ := h; exact ⟨l', h1.below hb, h2⟩), fun W W' h hg => (by obtain ⟨l', h1, h2⟩ := h; exact ⟨l', h1.grown hg ls, h2⟩)⟩
          go_wp2
          refine wp_region_inv (by kernel_rfl) [57, 58, 59, 60, 61, 62, 63, 64, 65, 66, 67, 68, 69, 70, 71, 72, 73, 74, 75, 76, 77, 78, 79, 80, 81, 82, 83, 84, 85, 86, 87, 88, 89, 90, 91, 92, 93, 94, 95] (RB (fun W => ∃ l' : List Stp, OwnR TSt W w.heap.size (.slice (some ⟨go, 0, none⟩) l.length ocap) l' ∧ l'.length = l.length ∧ ∀ x ∈ l', StpNm x) w s (w9.heap.size) (c + 5000 + 900)) (RR (w9.heap.size)) (fun i => [VE (.pointer (some ⟨go, j * 4, none⟩)), VE (.pointer (some ⟨go, j * 4, none⟩)), VE (.pointer (some ⟨go, j * 4, none⟩)), VE (.pointer (some ⟨go, j * 4, none⟩)), VE (.pointer (some ⟨s, 0, none⟩)), VE (.pointer (some ⟨go, j * 4, none⟩)), VE (.pointer (some ⟨go, j * 4, none⟩)), VE (.pointer (some ⟨go, j * 4, none⟩)), VI (-1099511627777) 1099511627777, VLI (w9.heap.size) (-1099511627777) 1099511627777 3, VI (-1099511627777) 1099511627777, VE (.pointer (some ⟨s, 0, none⟩)), VE (.pointer (some ⟨go, j * 4, none⟩)), VE (.pointer (some ⟨go, j * 4, none⟩)), VE (.pointer (some ⟨go, j * 4 + 1, none⟩)), VN, VE (.pointer (some ⟨go, j * 4, none⟩)), VE (.pointer (some ⟨go, j * 4, none⟩)), VE (.pointer (some ⟨go, j * 4 + 1, none⟩)), VN, VLN (w9.heap.size) 3, VN, VE (.pointer (some ⟨s, 0, none⟩)), VI (-1099511627777) 1099511627777, VE (.pointer (some ⟨s, 0, none⟩)), VE (.pointer (some ⟨go, j * 4, none⟩)), VE (.pointer (some ⟨go, j * 4, none⟩)), VE (.pointer (some ⟨go, j * 4 + 3, none⟩)), VN, VLN (w9.heap.size) 3, VN, VE (.pointer (some ⟨go, j * 4, none⟩)), VE (.pointer (some ⟨go, j * 4, none⟩)), VT, VE (.pointer (some ⟨go, j * 4, none⟩)), VE (.pointer (some ⟨go, j * 4 + 1, none⟩)), VT, VE (.pointer (some ⟨go, j * 4, none⟩)), VE (.pointer (some ⟨go, j * 4 + 2, none⟩)), VT, VE (.pointer (some ⟨go, j * 4, none⟩)), VE (.pointer (some ⟨go, j * 4 + 3, none⟩)), VT].getD i VT) (by kernel_rfl) (by kernel_rfl) (fun u u' W hu h => h.mono hu) ?_ ?_ ?_ ?_ ?_
          · exact ⟨(hS9'.drew).mono (by show _ ≤ (c + 5000 + 900) - 10 * ((43 : Nat) : Int); omega), ⟨l, hO9, rfl, hB⟩, Nat.le_refl _, ⟨hG9'.os, hG9'.tape, hG9'.output, hG9'.size, hG9'.block⟩⟩
          · intro u W W' i v hB hR hV
            exact match i, hV with
              | 0, h => h
              | 1, h => h
              | 2, h => h
              | 3, h => h
              | 4, h => h
              | 5, h => h
              | 6, h => h
              | 7, h => h
              | 8, h => h
              | 9, h => VLI.stab h hR
              | 10, h => h
              | 11, h => h
              | 12, h => h
              | 13, h => h
              | 14, h => h
              | 15, h => h
              | 16, h => h
              | 17, h => h
              | 18, h => h
              | 19, h => h
              | 20, h => VLN.stab h hR
              | 21, h => h
              | 22, h => h
              | 23, h => h
              | 24, h => h
              | 25, h => h
              | 26, h => h
              | 27, h => h
              | 28, h => h
              | 29, h => VLN.stab h hR
              | 30, h => h
              | 31, h => h
              | 32, h => h
              | 33, h => h
              | 34, h => h
              | 35, h => h
              | 36, h => h
              | 37, h => h
              | 38, h => h
              | 39, h => h
              | 40, h => h
              | 41, h => h
              | 42, h => h
              | (_ + 43), _ => trivial
          · intro i o v W ho hd
            match i, ho with
              | 0, ho => (obtain rfl := Option.some.inj ho; cases hd)
              | 1, ho => (obtain rfl := Option.some.inj ho; cases hd)
              | 2, ho => (obtain rfl := Option.some.inj ho; cases hd)
              | 3, ho => (obtain rfl := Option.some.inj ho; cases hd)
              | 4, ho => (obtain rfl := Option.some.inj ho; cases hd)
              | 5, ho => (obtain rfl := Option.some.inj ho; cases hd)
              | 6, ho => (obtain rfl := Option.some.inj ho; cases hd)
              | 7, ho => (obtain rfl := Option.some.inj ho; cases hd)
              | 8, ho => (obtain rfl := Option.some.inj ho; cases hd)
              | 9, ho => (obtain rfl := Option.some.inj ho; cases hd)
              | 10, ho => (obtain rfl := Option.some.inj ho; cases hd)
              | 11, ho => (obtain rfl := Option.some.inj ho; cases hd)
              | 12, ho => (obtain rfl := Option.some.inj ho; cases hd)
              | 13, ho => (obtain rfl := Option.some.inj ho; cases hd)
              | 14, ho => (obtain rfl := Option.some.inj ho; cases hd)
              | 15, ho => (obtain rfl := Option.some.inj ho; cases hd)
              | 16, ho => (obtain rfl := Option.some.inj ho; cases hd)
              | 17, ho => (obtain rfl := Option.some.inj ho; cases hd)
              | 18, ho => (obtain rfl := Option.some.inj ho; cases hd)
              | 19, ho => (obtain rfl := Option.some.inj ho; cases hd)
              | 20, ho => (obtain rfl := Option.some.inj ho; cases hd)
              | 21, ho => (obtain rfl := Option.some.inj ho; cases hd)
              | 22, ho => (obtain rfl := Option.some.inj ho; cases hd)
              | 23, ho => (obtain rfl := Option.some.inj ho; cases hd)
              | 24, ho => (obtain rfl := Option.some.inj ho; cases hd)
              | 25, ho => (obtain rfl := Option.some.inj ho; cases hd)
              | 26, ho => (obtain rfl := Option.some.inj ho; cases hd)
              | 27, ho => (obtain rfl := Option.some.inj ho; cases hd)
              | 28, ho => (obtain rfl := Option.some.inj ho; cases hd)
              | 29, ho => (obtain rfl := Option.some.inj ho; cases hd)
              | 30, ho => (obtain rfl := Option.some.inj ho; cases hd)
              | 31, ho => (obtain rfl := Option.some.inj ho; cases hd)
              | 32, ho => (obtain rfl := Option.some.inj ho; cases hd)
              | 33, ho => trivial
              | 34, ho => (obtain rfl := Option.some.inj ho; cases hd)
              | 35, ho => (obtain rfl := Option.some.inj ho; cases hd)
              | 36, ho => trivial
              | 37, ho => (obtain rfl := Option.some.inj ho; cases hd)
              | 38, ho => (obtain rfl := Option.some.inj ho; cases hd)
              | 39, ho => trivial
              | 40, ho => (obtain rfl := Option.some.inj ho; cases hd)
              | 41, ho => (obtain rfl := Option.some.inj ho; cases hd)
              | 42, ho => trivial
              | (_ + 43), _ => trivial
          · intro i o u f W ho hi hB hdep
            have hi' : i = 0 ∨ i = 1 ∨ i = 2 ∨ i = 3 ∨ i = 4 ∨ i = 5 ∨ i = 6 ∨ i = 7 ∨ i = 8 ∨ i = 9 ∨ i = 10 ∨ i = 11 ∨ i = 12 ∨ i = 13 ∨ i = 14 ∨ i = 15 ∨ i = 16 ∨ i = 17 ∨ i = 18 ∨ i = 19 ∨ i = 20 ∨ i = 21 ∨ i = 22 ∨ i = 23 ∨ i = 24 ∨ i = 25 ∨ i = 26 ∨ i = 27 ∨ i = 28 ∨ i = 29 ∨ i = 30 ∨ i = 31 ∨ i = 32 ∨ i = 33 ∨ i = 34 ∨ i = 35 ∨ i = 36 ∨ i = 37 ∨ i = 38 ∨ i = 39 ∨ i = 40 ∨ i = 41 ∨ i = 42 := by
              have : i < 43 := hi
              omega
            rcases hi' with rfl | rfl | rfl | rfl | rfl | rfl | rfl | rfl | rfl | rfl | rfl | rfl | rfl | rfl | rfl | rfl | rfl | rfl | rfl | rfl | rfl | rfl | rfl | rfl | rfl | rfl | rfl | rfl | rfl | rfl | rfl | rfl | rfl | rfl | rfl | rfl | rfl | rfl | rfl | rfl | rfl | rfl | rfl
            · refine iv_val ho (by obtain rfl := Option.some.inj ho; rfl) (.pointer (some ⟨go, j * 4, none⟩)) W ?_ (hB.below HK (Below.refl _ _)) (RR.refl _ _) rfl
              · intro q hq
                obtain rfl := Option.some.inj ho
                have e6 := hq.tmp 6
                simp at e6
                simp [execOp, hq.const, e6, go_sem]
            · refine iv_val ho (by obtain rfl := Option.some.inj ho; rfl) (.pointer (some ⟨go, j * 4, none⟩)) W ?_ (hB.below HK (Below.refl _ _)) (RR.refl _ _) rfl
              · intro q hq
                obtain rfl := Option.some.inj ho
                have e6 := hq.tmp 6
                simp at e6
                simp [execOp, hq.const, e6, go_sem]
            · refine iv_val ho (by obtain rfl := Option.some.inj ho; rfl) (.pointer (some ⟨go, j * 4, none⟩)) W ?_ (hB.below HK (Below.refl _ _)) (RR.refl _ _) rfl
              · intro q hq
                obtain rfl := Option.some.inj ho
                have e6 := hq.tmp 6
                simp at e6
                simp [execOp, hq.const, e6, go_sem]
            · refine iv_val ho (by obtain rfl := Option.some.inj ho; rfl) (.pointer (some ⟨go, j * 4, none⟩)) W ?_ (hB.below HK (Below.refl _ _)) (RR.refl _ _) rfl
              · intro q hq
                obtain rfl := Option.some.inj ho
                have e6 := hq.tmp 6
                simp at e6
                simp [execOp, hq.const, e6, go_sem]
            · refine iv_val ho (by obtain rfl := Option.some.inj ho; rfl) (.pointer (some ⟨s, 0, none⟩)) W ?_ (hB.below HK (Below.refl _ _)) (RR.refl _ _) rfl
              · intro q hq
                obtain rfl := Option.some.inj ho
                have e0 := hq.tmp 0
                simp at e0
                simp [execOp, hq.const, e0, go_sem]
            · refine iv_val ho (by obtain rfl := Option.some.inj ho; rfl) (.pointer (some ⟨go, j * 4, none⟩)) W ?_ (hB.below HK (Below.refl _ _)) (RR.refl _ _) rfl
              · intro q hq
                obtain rfl := Option.some.inj ho
                have e6 := hq.tmp 6
                simp at e6
                simp [execOp, hq.const, e6, go_sem]
            · have d62 : f 62 = .pointer (some ⟨go, j * 4, none⟩) := hdep ⟨5, .data⟩ (by obtain rfl := Option.some.inj ho; simp) rfl
              refine iv_val ho (by obtain rfl := Option.some.inj ho; rfl) (.pointer (some ⟨go, j * 4, none⟩)) W ?_ (hB.below HK (Below.refl _ _)) (RR.refl _ _) rfl
              · intro q hq
                obtain rfl := Option.some.inj ho
                have e62 := hq.tmp 62
                simp at e62
                simp [execOp, hq.const, e62, d62, go_sem]
            · have d63 : f 63 = .pointer (some ⟨go, j * 4, none⟩) := hdep ⟨6, .data⟩ (by obtain rfl := Option.some.inj ho; simp) rfl
              refine iv_val ho (by obtain rfl := Option.some.inj ho; rfl) (.pointer (some ⟨go, j * 4, none⟩)) W ?_ (hB.below HK (Below.refl _ _)) (RR.refl _ _) rfl
              · intro q hq
                obtain rfl := Option.some.inj ho
                have e63 := hq.tmp 63
                simp at e63
                simp [execOp, hq.const, e63, d63, go_sem]
            · have d64 : f 64 = .pointer (some ⟨go, j * 4, none⟩) := hdep ⟨7, .data⟩ (by obtain rfl := Option.some.inj ho; simp) rfl
              obtain ⟨l', hO', hn', hOk'⟩ := hB.own
              obtain ⟨x0, hx0⟩ : ∃ x, l'[j]? = some x := ⟨_, List.getElem?_eq_getElem (by omega)⟩
              have hok0 := hOk' _ (List.mem_of_getElem? hx0)
              have y0 : W.cell? ⟨go, j * 4, none⟩ = some (.int .i64 x0.1) := (OwnR.cellf TSt.ok hO' hn'.symm hx0 (fo := 0) rfl).1
              refine iv_val ho (by obtain rfl := Option.some.inj ho; rfl) (.int .i64 x0.1) W ?_ (hB.below HK (Below.refl _ _)) (RR.refl _ _) ⟨_, rfl, hok0.2.2.1, hok0.2.2.2.1⟩
              · intro q hq
                obtain rfl := Option.some.inj ho
                have e64 := hq.tmp 64
                simp at e64
                simp [execOp, hq.const, e64, d64, go_sem, y0]
            · obtain ⟨x65, d65, p65, r65⟩ : VI (-1099511627777) 1099511627777 (f 65) W := hdep ⟨8, .data⟩ (by obtain rfl := Option.some.inj ho; simp) rfl
              refine iv_val ho (by obtain rfl := Option.some.inj ho; rfl) (.slice (some ⟨W.heap.size, 0, none⟩) 3 3) (W.alloc (.cells #[.int .i64 x65, .int .i64 (-1 : Int), .int .i64 (0 : Int)] 3)) ?_ (hB.below HK (Bl.alloc (Below.refl _ _) _)) (RR.of_below (Bl.alloc (Below.refl _ _) _)) ⟨[x65, (-1 : Int), (0 : Int)], ⟨_, rfl⟩, rfl, Ints.of_blk (blk_new _ _) rfl rfl (by simp) (by omega) hB.size, ?_⟩
              · intro q hq
                obtain rfl := Option.some.inj ho
                have e65 := hq.tmp 65
                simp at e65
                simp [execOp, hq.const, e65, d65, go_sem]
              · intro x hx
                simp only [List.mem_cons, List.not_mem_nil, or_false] at hx
                rcases hx with rfl | rfl | rfl
                all_goals omega
            · have d61 : f 61 = .pointer (some ⟨s, 0, none⟩) := hdep ⟨4, .data⟩ (by obtain rfl := Option.some.inj ho; simp) rfl
              obtain ⟨li, ⟨bi, d66⟩, hli, hri, hbi⟩ : VLI (w9.heap.size) (-1099511627777) 1099511627777 3 (f 66) W := hdep ⟨9, .data⟩ (by obtain rfl := Option.some.inj ho; simp) rfl
              refine iv_call ho (by obtain rfl := Option.some.inj ho; rfl) 10 #[.tmp 61, .tmp 66] _ (by obtain rfl := Option.some.inj ho; rfl) (enters_of Tryz.func10 (by kernel_rfl) rfl) #[.pointer (some ⟨s, 0, none⟩), f 66] (by intro q hq; have e61 := hq.tmp 61; simp at e61; have e66 := hq.tmp 66; simp at e66; simp [hq.const, e61, e66, d61]) _ (Pick_any s _ li (f 66) W hB.str (by omega) (Rd.mono hri (by omega)) (by omega) (by omega)) ?_
              rintro e W' ⟨r, rfl, hr, hs', hg'⟩
              exact ⟨_, rfl, hB.call HK hs' (by omega) hg', RR.of_gr hg' (by omega), ⟨r, rfl, hbi r hr⟩⟩
            · refine iv_val ho (by obtain rfl := Option.some.inj ho; rfl) (.pointer (some ⟨s, 0, none⟩)) W ?_ (hB.below HK (Below.refl _ _)) (RR.refl _ _) rfl
              · intro q hq
                obtain rfl := Option.some.inj ho
                have e0 := hq.tmp 0
                simp at e0
                simp [execOp, hq.const, e0, go_sem]
            · refine iv_val ho (by obtain rfl := Option.some.inj ho; rfl) (.pointer (some ⟨go, j * 4, none⟩)) W ?_ (hB.below HK (Below.refl _ _)) (RR.refl _ _) rfl
              · intro q hq
                obtain rfl := Option.some.inj ho
                have e6 := hq.tmp 6
                simp at e6
                simp [execOp, hq.const, e6, go_sem]
            · have d69 : f 69 = .pointer (some ⟨go, j * 4, none⟩) := hdep ⟨12, .data⟩ (by obtain rfl := Option.some.inj ho; simp) rfl
              refine iv_val ho (by obtain rfl := Option.some.inj ho; rfl) (.pointer (some ⟨go, j * 4, none⟩)) W ?_ (hB.below HK (Below.refl _ _)) (RR.refl _ _) rfl
              · intro q hq
                obtain rfl := Option.some.inj ho
                have e69 := hq.tmp 69
                simp at e69
                simp [execOp, hq.const, e69, d69, go_sem]
            · have d70 : f 70 = .pointer (some ⟨go, j * 4, none⟩) := hdep ⟨13, .data⟩ (by obtain rfl := Option.some.inj ho; simp) rfl
              refine iv_val ho (by obtain rfl := Option.some.inj ho; rfl) (.pointer (some ⟨go, j * 4 + 1, none⟩)) W ?_ (hB.below HK (Below.refl _ _)) (RR.refl _ _) rfl
              · intro q hq
                obtain rfl := Option.some.inj ho
                have e70 := hq.tmp 70
                simp at e70
                simp [execOp, hq.const, e70, d70, go_sem]
            · have d71 : f 71 = .pointer (some ⟨go, j * 4 + 1, none⟩) := hdep ⟨14, .data⟩ (by obtain rfl := Option.some.inj ho; simp) rfl
              obtain ⟨l', hO', hn', hOk'⟩ := hB.own
              obtain ⟨x0, hx0⟩ : ∃ x, l'[j]? = some x := ⟨_, List.getElem?_eq_getElem (by omega)⟩
              have hok0 := hOk' _ (List.mem_of_getElem? hx0)
              have y0 : W.cell? ⟨go, j * 4 + 1, none⟩ = some (.string x0.2.1) := (OwnR.cellf TSt.ok hO' hn'.symm hx0 (fo := 1) rfl).1
              refine iv_val ho (by obtain rfl := Option.some.inj ho; rfl) (.string x0.2.1) W ?_ (hB.below HK (Below.refl _ _)) (RR.refl _ _) ⟨_, rfl, hok0.1⟩
              · intro q hq
                obtain rfl := Option.some.inj ho
                have e71 := hq.tmp 71
                simp at e71
                simp [execOp, hq.const, e71, d71, go_sem, y0]
            · refine iv_val ho (by obtain rfl := Option.some.inj ho; rfl) (.pointer (some ⟨go, j * 4, none⟩)) W ?_ (hB.below HK (Below.refl _ _)) (RR.refl _ _) rfl
              · intro q hq
                obtain rfl := Option.some.inj ho
                have e6 := hq.tmp 6
                simp at e6
                simp [execOp, hq.const, e6, go_sem]
            · have d73 : f 73 = .pointer (some ⟨go, j * 4, none⟩) := hdep ⟨16, .data⟩ (by obtain rfl := Option.some.inj ho; simp) rfl
              refine iv_val ho (by obtain rfl := Option.some.inj ho; rfl) (.pointer (some ⟨go, j * 4, none⟩)) W ?_ (hB.below HK (Below.refl _ _)) (RR.refl _ _) rfl
              · intro q hq
                obtain rfl := Option.some.inj ho
                have e73 := hq.tmp 73
                simp at e73
                simp [execOp, hq.const, e73, d73, go_sem]
            · have d74 : f 74 = .pointer (some ⟨go, j * 4, none⟩) := hdep ⟨17, .data⟩ (by obtain rfl := Option.some.inj ho; simp) rfl
              refine iv_val ho (by obtain rfl := Option.some.inj ho; rfl) (.pointer (some ⟨go, j * 4 + 1, none⟩)) W ?_ (hB.below HK (Below.refl _ _)) (RR.refl _ _) rfl
              · intro q hq
                obtain rfl := Option.some.inj ho
                have e74 := hq.tmp 74
                simp at e74
                simp [execOp, hq.const, e74, d74, go_sem]
            · have d75 : f 75 = .pointer (some ⟨go, j * 4 + 1, none⟩) := hdep ⟨18, .data⟩ (by obtain rfl := Option.some.inj ho; simp) rfl
              obtain ⟨l', hO', hn', hOk'⟩ := hB.own
              obtain ⟨x0, hx0⟩ : ∃ x, l'[j]? = some x := ⟨_, List.getElem?_eq_getElem (by omega)⟩
              have hok0 := hOk' _ (List.mem_of_getElem? hx0)
              have y0 : W.cell? ⟨go, j * 4 + 1, none⟩ = some (.string x0.2.1) := (OwnR.cellf TSt.ok hO' hn'.symm hx0 (fo := 1) rfl).1
              refine iv_val ho (by obtain rfl := Option.some.inj ho; rfl) (.string x0.2.1) W ?_ (hB.below HK (Below.refl _ _)) (RR.refl _ _) ⟨_, rfl, hok0.1⟩
              · intro q hq
                obtain rfl := Option.some.inj ho
                have e75 := hq.tmp 75
                simp at e75
                simp [execOp, hq.const, e75, d75, go_sem, y0]
            · obtain ⟨x72, d72, p72⟩ : VN (f 72) W := hdep ⟨15, .data⟩ (by obtain rfl := Option.some.inj ho; simp) rfl
              obtain ⟨x76, d76, p76⟩ : VN (f 76) W := hdep ⟨19, .data⟩ (by obtain rfl := Option.some.inj ho; simp) rfl
              refine iv_val ho (by obtain rfl := Option.some.inj ho; rfl) (.slice (some ⟨W.heap.size, 0, none⟩) 3 3) (W.alloc (.cells #[.string x72, .string x76, .string (⟨#[]⟩ : ByteArray)] 9)) ?_ (hB.below HK (Bl.alloc (Below.refl _ _) _)) (RR.of_below (Bl.alloc (Below.refl _ _) _)) ⟨[x72, x76, (⟨#[]⟩ : ByteArray)], ⟨_, rfl⟩, rfl, RecR.of_blk (T := TS) (blk_new _ _) rfl rfl (by simp) (by omega) hB.size, ?_⟩
              · intro q hq
                obtain rfl := Option.some.inj ho
                have e72 := hq.tmp 72
                have e76 := hq.tmp 76
                simp at e72 e76
                simp [execOp, hq.const, e72, e76, d72, d76, go_sem]
              · intro x hx
                simp only [List.mem_cons, List.not_mem_nil, or_false] at hx
                rcases hx with rfl | rfl | rfl
                all_goals (first | assumption | exact nm_lit (by decide))
            · have d68 : f 68 = .pointer (some ⟨s, 0, none⟩) := hdep ⟨11, .data⟩ (by obtain rfl := Option.some.inj ho; simp) rfl
              obtain ⟨li, ⟨bi, d77⟩, hli, hri, hbi⟩ : VLN (w9.heap.size) 3 (f 77) W := hdep ⟨20, .data⟩ (by obtain rfl := Option.some.inj ho; simp) rfl
              refine iv_call ho (by obtain rfl := Option.some.inj ho; rfl) 58 #[.tmp 68, .tmp 77] _ (by obtain rfl := Option.some.inj ho; rfl) (enters_of Tryz.func58 (by kernel_rfl) rfl) #[.pointer (some ⟨s, 0, none⟩), f 77] (by intro q hq; have e68 := hq.tmp 68; simp at e68; have e77 := hq.tmp 77; simp at e77; simp [hq.const, e68, e77, d68]) _ (Some_any s _ li (f 77) W hB.str (by omega) (Rd.mono hri (by omega)) (by omega) (by omega)) ?_
              rintro e W' ⟨r, rfl, hr, hs', hg'⟩
              exact ⟨_, rfl, hB.call HK hs' (by omega) hg', RR.of_gr hg' (by omega), ⟨r, rfl, hbi r hr⟩⟩
            · refine iv_val ho (by obtain rfl := Option.some.inj ho; rfl) (.pointer (some ⟨s, 0, none⟩)) W ?_ (hB.below HK (Below.refl _ _)) (RR.refl _ _) rfl
              · intro q hq
                obtain rfl := Option.some.inj ho
                have e0 := hq.tmp 0
                simp at e0
                simp [execOp, hq.const, e0, go_sem]
            · have d79 : f 79 = .pointer (some ⟨s, 0, none⟩) := hdep ⟨22, .data⟩ (by obtain rfl := Option.some.inj ho; simp) rfl
              refine iv_call ho (by obtain rfl := Option.some.inj ho; rfl) 83 #[.tmp 79, .const (.int .i64 (1)), .const (.int .i64 (6))] _ (by obtain rfl := Option.some.inj ho; rfl) (enters_of Tryz.func83 (by kernel_rfl) rfl) #[.pointer (some ⟨s, 0, none⟩), .int .i64 (1), .int .i64 (6)] (by intro q hq; have e79 := hq.tmp 79; simp at e79; simp [hq.const, e79, d79]) _ (Odd_any s _ (1) (6) W hB.str (by omega) (by omega) (by omega) (by omega)) ?_
              rintro e W' ⟨r, rfl, hr, hs', hg'⟩
              exact ⟨_, rfl, hB.call HK hs' (by omega) hg', RR.of_gr hg' (by omega), ⟨r, rfl, by omega, by omega⟩⟩
            · refine iv_val ho (by obtain rfl := Option.some.inj ho; rfl) (.pointer (some ⟨s, 0, none⟩)) W ?_ (hB.below HK (Below.refl _ _)) (RR.refl _ _) rfl
              · intro q hq
                obtain rfl := Option.some.inj ho
                have e0 := hq.tmp 0
                simp at e0
                simp [execOp, hq.const, e0, go_sem]
            · refine iv_val ho (by obtain rfl := Option.some.inj ho; rfl) (.pointer (some ⟨go, j * 4, none⟩)) W ?_ (hB.below HK (Below.refl _ _)) (RR.refl _ _) rfl
              · intro q hq
                obtain rfl := Option.some.inj ho
                have e6 := hq.tmp 6
                simp at e6
                simp [execOp, hq.const, e6, go_sem]
            · have d82 : f 82 = .pointer (some ⟨go, j * 4, none⟩) := hdep ⟨25, .data⟩ (by obtain rfl := Option.some.inj ho; simp) rfl
              refine iv_val ho (by obtain rfl := Option.some.inj ho; rfl) (.pointer (some ⟨go, j * 4, none⟩)) W ?_ (hB.below HK (Below.refl _ _)) (RR.refl _ _) rfl
              · intro q hq
                obtain rfl := Option.some.inj ho
                have e82 := hq.tmp 82
                simp at e82
                simp [execOp, hq.const, e82, d82, go_sem]
            · have d83 : f 83 = .pointer (some ⟨go, j * 4, none⟩) := hdep ⟨26, .data⟩ (by obtain rfl := Option.some.inj ho; simp) rfl
              refine iv_val ho (by obtain rfl := Option.some.inj ho; rfl) (.pointer (some ⟨go, j * 4 + 3, none⟩)) W ?_ (hB.below HK (Below.refl _ _)) (RR.refl _ _) rfl
              · intro q hq
                obtain rfl := Option.some.inj ho
                have e83 := hq.tmp 83
                simp at e83
                simp [execOp, hq.const, e83, d83, go_sem]
            · have d84 : f 84 = .pointer (some ⟨go, j * 4 + 3, none⟩) := hdep ⟨27, .data⟩ (by obtain rfl := Option.some.inj ho; simp) rfl
              obtain ⟨l', hO', hn', hOk'⟩ := hB.own
              obtain ⟨x0, hx0⟩ : ∃ x, l'[j]? = some x := ⟨_, List.getElem?_eq_getElem (by omega)⟩
              have hok0 := hOk' _ (List.mem_of_getElem? hx0)
              have y0 : W.cell? ⟨go, j * 4 + 3, none⟩ = some (.string x0.2.2.2) := (OwnR.cellf TSt.ok hO' hn'.symm hx0 (fo := 3) rfl).1
              refine iv_val ho (by obtain rfl := Option.some.inj ho; rfl) (.string x0.2.2.2) W ?_ (hB.below HK (Below.refl _ _)) (RR.refl _ _) ⟨_, rfl, hok0.2.1⟩
              · intro q hq
                obtain rfl := Option.some.inj ho
                have e84 := hq.tmp 84
                simp at e84
                simp [execOp, hq.const, e84, d84, go_sem, y0]
            · obtain ⟨x85, d85, p85⟩ : VN (f 85) W := hdep ⟨28, .data⟩ (by obtain rfl := Option.some.inj ho; simp) rfl
              refine iv_val ho (by obtain rfl := Option.some.inj ho; rfl) (.slice (some ⟨W.heap.size, 0, none⟩) 3 3) (W.alloc (.cells #[.string x85, .string (⟨#[114, 55]⟩ : ByteArray), .string (⟨#[82]⟩ : ByteArray)] 9)) ?_ (hB.below HK (Bl.alloc (Below.refl _ _) _)) (RR.of_below (Bl.alloc (Below.refl _ _) _)) ⟨[x85, (⟨#[114, 55]⟩ : ByteArray), (⟨#[82]⟩ : ByteArray)], ⟨_, rfl⟩, rfl, RecR.of_blk (T := TS) (blk_new _ _) rfl rfl (by simp) (by omega) hB.size, ?_⟩
              · intro q hq
                obtain rfl := Option.some.inj ho
                have e85 := hq.tmp 85
                simp at e85
                simp [execOp, hq.const, e85, d85, go_sem]
              · intro x hx
                simp only [List.mem_cons, List.not_mem_nil, or_false] at hx
                rcases hx with rfl | rfl | rfl
                all_goals (first | assumption | exact nm_lit (by decide))
            · have d81 : f 81 = .pointer (some ⟨s, 0, none⟩) := hdep ⟨24, .data⟩ (by obtain rfl := Option.some.inj ho; simp) rfl
              obtain ⟨li, ⟨bi, d86⟩, hli, hri, hbi⟩ : VLN (w9.heap.size) 3 (f 86) W := hdep ⟨29, .data⟩ (by obtain rfl := Option.some.inj ho; simp) rfl
              refine iv_call ho (by obtain rfl := Option.some.inj ho; rfl) 58 #[.tmp 81, .tmp 86] _ (by obtain rfl := Option.some.inj ho; rfl) (enters_of Tryz.func58 (by kernel_rfl) rfl) #[.pointer (some ⟨s, 0, none⟩), f 86] (by intro q hq; have e81 := hq.tmp 81; simp at e81; have e86 := hq.tmp 86; simp at e86; simp [hq.const, e81, e86, d81]) _ (Some_any s _ li (f 86) W hB.str (by omega) (Rd.mono hri (by omega)) (by omega) (by omega)) ?_
              rintro e W' ⟨r, rfl, hr, hs', hg'⟩
              exact ⟨_, rfl, hB.call HK hs' (by omega) hg', RR.of_gr hg' (by omega), ⟨r, rfl, hbi r hr⟩⟩
            · have d57 : f 57 = .pointer (some ⟨go, j * 4, none⟩) := hdep ⟨0, .data⟩ (by obtain rfl := Option.some.inj ho; simp) rfl
              refine iv_val ho (by obtain rfl := Option.some.inj ho; rfl) (.pointer (some ⟨go, j * 4, none⟩)) W ?_ (hB.below HK (Below.refl _ _)) (RR.refl _ _) rfl
              · intro q hq
                obtain rfl := Option.some.inj ho
                have e57 := hq.tmp 57
                simp at e57
                simp [execOp, hq.const, e57, d57, go_sem]
            · have d88 : f 88 = .pointer (some ⟨go, j * 4, none⟩) := hdep ⟨31, .data⟩ (by obtain rfl := Option.some.inj ho; simp) rfl
              refine iv_val ho (by obtain rfl := Option.some.inj ho; rfl) (.pointer (some ⟨go, j * 4, none⟩)) W ?_ (hB.below HK (Below.refl _ _)) (RR.refl _ _) rfl
              · intro q hq
                obtain rfl := Option.some.inj ho
                have e88 := hq.tmp 88
                simp at e88
                simp [execOp, hq.const, e88, d88, go_sem]
            · have d89 : f 89 = .pointer (some ⟨go, j * 4, none⟩) := hdep ⟨32, .data⟩ (by obtain rfl := Option.some.inj ho; simp) rfl
              obtain ⟨x67, d67, p67, r67⟩ : VI (-1099511627777) 1099511627777 (f 67) W := hdep ⟨10, .data⟩ (by obtain rfl := Option.some.inj ho; simp) rfl
              obtain ⟨l', hO', hn', hOk'⟩ := hB.own
              obtain ⟨x0, hx0⟩ : ∃ x, l'[j]? = some x := ⟨_, List.getElem?_eq_getElem (by omega)⟩
              have hok0 := hOk' _ (List.mem_of_getElem? hx0)
              obtain ⟨y0, g0⟩ := OwnR.cellf TSt.ok hO' hn'.symm hx0 (fo := 0) rfl
              replace y0 : W.cell? ⟨go, j * 4, none⟩ = some (.int .i64 x0.1) := y0
              replace g0 : W.frozen? ⟨go, j * 4, none⟩ = false := g0
              have hO2 : OwnR TSt (W.setCell ⟨go, j * 4, none⟩ (.int .i64 x67)) w.heap.size (.slice (some ⟨go, 0, none⟩) l.length ocap) (l'.set j ((x67, x0.2))) := OwnR.setf TSt.ok hO' hn'.symm hx0 (fo := 0) (by decide) rfl
              refine iv_skip ho (by obtain rfl := Option.some.inj ho; rfl) (by obtain rfl := Option.some.inj ho; rfl) (W.setCell ⟨go, j * 4, none⟩ (.int .i64 x67)) ?_ (hB.store (by omega) ls ⟨_, hO2, by rw [List.length_set]; exact hn', ?_⟩) ⟨by simp, fun i h1 h2 => ?_⟩ trivial
              · intro q hq
                obtain rfl := Option.some.inj ho
                have e67 := hq.tmp 67
                have e89 := hq.tmp 89
                simp at e67 e89
                simp [execOp, hq.const, e67, e89, d67, d89, go_sem, y0, g0]
              · intro x hx
                rcases List.mem_or_eq_of_mem_set hx with h | rfl
                · exact hOk' x h
                · exact ⟨hok0.1, hok0.2.1, p67, r67, hok0.2.2.2.2.1, hok0.2.2.2.2.2⟩
              · exact Below.heap_setCell _ _ _ _ (by show i ≠ go; omega)
            · have d58 : f 58 = .pointer (some ⟨go, j * 4, none⟩) := hdep ⟨1, .data⟩ (by obtain rfl := Option.some.inj ho; simp) rfl
              refine iv_val ho (by obtain rfl := Option.some.inj ho; rfl) (.pointer (some ⟨go, j * 4, none⟩)) W ?_ (hB.below HK (Below.refl _ _)) (RR.refl _ _) rfl
              · intro q hq
                obtain rfl := Option.some.inj ho
                have e58 := hq.tmp 58
                simp at e58
                simp [execOp, hq.const, e58, d58, go_sem]
            · have d90 : f 90 = .pointer (some ⟨go, j * 4, none⟩) := hdep ⟨34, .data⟩ (by obtain rfl := Option.some.inj ho; simp) rfl
              refine iv_val ho (by obtain rfl := Option.some.inj ho; rfl) (.pointer (some ⟨go, j * 4 + 1, none⟩)) W ?_ (hB.below HK (Below.refl _ _)) (RR.refl _ _) rfl
              · intro q hq
                obtain rfl := Option.some.inj ho
                have e90 := hq.tmp 90
                simp at e90
                simp [execOp, hq.const, e90, d90, go_sem]
            · have d91 : f 91 = .pointer (some ⟨go, j * 4 + 1, none⟩) := hdep ⟨35, .data⟩ (by obtain rfl := Option.some.inj ho; simp) rfl
              obtain ⟨x78, d78, p78⟩ : VN (f 78) W := hdep ⟨21, .data⟩ (by obtain rfl := Option.some.inj ho; simp) rfl
              obtain ⟨l', hO', hn', hOk'⟩ := hB.own
              obtain ⟨x0, hx0⟩ : ∃ x, l'[j]? = some x := ⟨_, List.getElem?_eq_getElem (by omega)⟩
              have hok0 := hOk' _ (List.mem_of_getElem? hx0)
              obtain ⟨y0, g0⟩ := OwnR.cellf TSt.ok hO' hn'.symm hx0 (fo := 1) rfl
              replace y0 : W.cell? ⟨go, j * 4 + 1, none⟩ = some (.string x0.2.1) := y0
              replace g0 : W.frozen? ⟨go, j * 4 + 1, none⟩ = false := g0
              have hO2 : OwnR TSt (W.setCell ⟨go, j * 4 + 1, none⟩ (.string x78)) w.heap.size (.slice (some ⟨go, 0, none⟩) l.length ocap) (l'.set j ((x0.1, x78, x0.2.2))) := OwnR.setf TSt.ok hO' hn'.symm hx0 (fo := 1) (by decide) rfl
              refine iv_skip ho (by obtain rfl := Option.some.inj ho; rfl) (by obtain rfl := Option.some.inj ho; rfl) (W.setCell ⟨go, j * 4 + 1, none⟩ (.string x78)) ?_ (hB.store (by omega) ls ⟨_, hO2, by rw [List.length_set]; exact hn', ?_⟩) ⟨by simp, fun i h1 h2 => ?_⟩ trivial
              · intro q hq
                obtain rfl := Option.some.inj ho
                have e78 := hq.tmp 78
                have e91 := hq.tmp 91
                simp at e78 e91
                simp [execOp, hq.const, e78, e91, d78, d91, go_sem, y0, g0]
              · intro x hx
                rcases List.mem_or_eq_of_mem_set hx with h | rfl
                · exact hOk' x h
                · exact ⟨p78, hok0.2⟩
              · exact Below.heap_setCell _ _ _ _ (by show i ≠ go; omega)
            · have d59 : f 59 = .pointer (some ⟨go, j * 4, none⟩) := hdep ⟨2, .data⟩ (by obtain rfl := Option.some.inj ho; simp) rfl
              refine iv_val ho (by obtain rfl := Option.some.inj ho; rfl) (.pointer (some ⟨go, j * 4, none⟩)) W ?_ (hB.below HK (Below.refl _ _)) (RR.refl _ _) rfl
              · intro q hq
                obtain rfl := Option.some.inj ho
                have e59 := hq.tmp 59
                simp at e59
                simp [execOp, hq.const, e59, d59, go_sem]
            · have d92 : f 92 = .pointer (some ⟨go, j * 4, none⟩) := hdep ⟨37, .data⟩ (by obtain rfl := Option.some.inj ho; simp) rfl
              refine iv_val ho (by obtain rfl := Option.some.inj ho; rfl) (.pointer (some ⟨go, j * 4 + 2, none⟩)) W ?_ (hB.below HK (Below.refl _ _)) (RR.refl _ _) rfl
              · intro q hq
                obtain rfl := Option.some.inj ho
                have e92 := hq.tmp 92
                simp at e92
                simp [execOp, hq.const, e92, d92, go_sem]
            · have d93 : f 93 = .pointer (some ⟨go, j * 4 + 2, none⟩) := hdep ⟨38, .data⟩ (by obtain rfl := Option.some.inj ho; simp) rfl
              obtain ⟨x80, d80, p80, r80⟩ : VI (-1099511627777) 1099511627777 (f 80) W := hdep ⟨23, .data⟩ (by obtain rfl := Option.some.inj ho; simp) rfl
              obtain ⟨l', hO', hn', hOk'⟩ := hB.own
              obtain ⟨x0, hx0⟩ : ∃ x, l'[j]? = some x := ⟨_, List.getElem?_eq_getElem (by omega)⟩
              have hok0 := hOk' _ (List.mem_of_getElem? hx0)
              obtain ⟨y0, g0⟩ := OwnR.cellf TSt.ok hO' hn'.symm hx0 (fo := 2) rfl
              replace y0 : W.cell? ⟨go, j * 4 + 2, none⟩ = some (.int .i64 x0.2.2.1) := y0
              replace g0 : W.frozen? ⟨go, j * 4 + 2, none⟩ = false := g0
              have hO2 : OwnR TSt (W.setCell ⟨go, j * 4 + 2, none⟩ (.int .i64 x80)) w.heap.size (.slice (some ⟨go, 0, none⟩) l.length ocap) (l'.set j ((x0.1, x0.2.1, x80, x0.2.2.2))) := OwnR.setf TSt.ok hO' hn'.symm hx0 (fo := 2) (by decide) rfl
              refine iv_skip ho (by obtain rfl := Option.some.inj ho; rfl) (by obtain rfl := Option.some.inj ho; rfl) (W.setCell ⟨go, j * 4 + 2, none⟩ (.int .i64 x80)) ?_ (hB.store (by omega) ls ⟨_, hO2, by rw [List.length_set]; exact hn', ?_⟩) ⟨by simp, fun i h1 h2 => ?_⟩ trivial
              · intro q hq
                obtain rfl := Option.some.inj ho
                have e80 := hq.tmp 80
                have e93 := hq.tmp 93
                simp at e80 e93
                simp [execOp, hq.const, e80, e93, d80, d93, go_sem, y0, g0]
              · intro x hx
                rcases List.mem_or_eq_of_mem_set hx with h | rfl
                · exact hOk' x h
                · exact ⟨hok0.1, hok0.2.1, hok0.2.2.1, hok0.2.2.2.1, p80, r80⟩
              · exact Below.heap_setCell _ _ _ _ (by show i ≠ go; omega)
            · have d60 : f 60 = .pointer (some ⟨go, j * 4, none⟩) := hdep ⟨3, .data⟩ (by obtain rfl := Option.some.inj ho; simp) rfl
              refine iv_val ho (by obtain rfl := Option.some.inj ho; rfl) (.pointer (some ⟨go, j * 4, none⟩)) W ?_ (hB.below HK (Below.refl _ _)) (RR.refl _ _) rfl
              · intro q hq
                obtain rfl := Option.some.inj ho
                have e60 := hq.tmp 60
                simp at e60
                simp [execOp, hq.const, e60, d60, go_sem]
            · have d94 : f 94 = .pointer (some ⟨go, j * 4, none⟩) := hdep ⟨40, .data⟩ (by obtain rfl := Option.some.inj ho; simp) rfl
              refine iv_val ho (by obtain rfl := Option.some.inj ho; rfl) (.pointer (some ⟨go, j * 4 + 3, none⟩)) W ?_ (hB.below HK (Below.refl _ _)) (RR.refl _ _) rfl
              · intro q hq
                obtain rfl := Option.some.inj ho
                have e94 := hq.tmp 94
                simp at e94
                simp [execOp, hq.const, e94, d94, go_sem]
            · have d95 : f 95 = .pointer (some ⟨go, j * 4 + 3, none⟩) := hdep ⟨41, .data⟩ (by obtain rfl := Option.some.inj ho; simp) rfl
              obtain ⟨x87, d87, p87⟩ : VN (f 87) W := hdep ⟨30, .data⟩ (by obtain rfl := Option.some.inj ho; simp) rfl
              obtain ⟨l', hO', hn', hOk'⟩ := hB.own
              obtain ⟨x0, hx0⟩ : ∃ x, l'[j]? = some x := ⟨_, List.getElem?_eq_getElem (by omega)⟩
              have hok0 := hOk' _ (List.mem_of_getElem? hx0)
              obtain ⟨y0, g0⟩ := OwnR.cellf TSt.ok hO' hn'.symm hx0 (fo := 3) rfl
              replace y0 : W.cell? ⟨go, j * 4 + 3, none⟩ = some (.string x0.2.2.2) := y0
              replace g0 : W.frozen? ⟨go, j * 4 + 3, none⟩ = false := g0
              have hO2 : OwnR TSt (W.setCell ⟨go, j * 4 + 3, none⟩ (.string x87)) w.heap.size (.slice (some ⟨go, 0, none⟩) l.length ocap) (l'.set j ((x0.1, x0.2.1, x0.2.2.1, x87))) := OwnR.setf TSt.ok hO' hn'.symm hx0 (fo := 3) (by decide) rfl
              refine iv_skip ho (by obtain rfl := Option.some.inj ho; rfl) (by obtain rfl := Option.some.inj ho; rfl) (W.setCell ⟨go, j * 4 + 3, none⟩ (.string x87)) ?_ (hB.store (by omega) ls ⟨_, hO2, by rw [List.length_set]; exact hn', ?_⟩) ⟨by simp, fun i h1 h2 => ?_⟩ trivial
              · intro q hq
                obtain rfl := Option.some.inj ho
                have e87 := hq.tmp 87
                have e95 := hq.tmp 95
                simp at e87 e95
                simp [execOp, hq.const, e87, e95, d87, d95, go_sem, y0, g0]
              · intro x hx
                rcases List.mem_or_eq_of_mem_set hx with h | rfl
                · exact hOk' x h
                · exact ⟨hok0.1, p87, hok0.2.2⟩
              · exact Below.heap_setCell _ _ _ _ (by show i ≠ go; omega)
          intro f wz hB' hV
          unfold putsA
          simp only [List.mapIdx_toArray, List.mapIdx_cons, List.mapIdx_nil, List.contains_cons]
          simp
          clear hV HK hO9 hS9' hG9'
          obtain ⟨hSz, ⟨lz, hOz, hnz, hokz⟩, _, hGz⟩ := hB'
          have HF := Lib.hid (And.intro hOz (And.intro hokz (And.intro (hSz.mono (d := c + 6000) (by omega)) hGz)))
          have hlz : lz.length ≤ 24 := by omega
          clear hOz hSz hGz hokz
          go_wp2
          go_ret
          exact ⟨_, lz, rfl, HF.out.1, hlz, HF.out.2.1, HF.out.2.2.1, HF.out.2.2.2⟩
end Go.Proofs.YtbkglhakhahfpaaGreatDoor
namespace Go.Proofs.YtbkglhakhahfpaaGreatDoor
open Go.RowKit Go.Sort Go.Maps

theorem StpNm.ok {s : Stp} (h : StpNm s) : StpOk s := by
  have hs : ∀ x ∈ NS, x.size ≤ 5 := by
    intro x hx
    exact mem_small (n := 5) (by decide) hx
  exact ⟨hs _ h.1, hs _ h.2.1, h.2.2⟩
theorem cntL_keys {P : Bs → Prop} : ∀ (l : List Stp) (q : Sm Int), (∀ p ∈ q, P p.1) → (∀ s ∈ l, P s.co.data.toList) → ∀ p ∈ cntL q l, P p.1
  | [], _, hq, _ => hq
  | s :: l, q, hq, hl => by
    refine cntL_keys l (cntS q s) (fun p hp => ?_) fun t ht => hl t (List.mem_cons_of_mem _ ht)
    unfold cntS at hp
    split at hp
    · rcases Sm.put_mem.1 hp with rfl | ⟨hp, _⟩
      · exact hl s (List.mem_cons_self ..)
      · exact hq p hp
    · exact hq p hp
theorem few_components (rh rr : Int) (l : List Stp) (h : ∀ s ∈ l, StpNm s) : (cntL [] (accL rh rr [] l)).length ≤ 19 := by
  have hk := cntL_keys (P := fun k => k ∈ NS.map fun x => x.data.toList) (accL rh rr [] l) [] (fun p hp => by cases hp) (fun s hs => List.mem_map_of_mem (h s (accL_mem l [] s hs)).2.1)
  have hok := (cntL_ok (accL rh rr [] l) [] 0 CntOk.nil).1
  have hn := Sm.keys_nodup hok
  have := List.Nodup.length_le_of_subset hn (l₂ := NS.map fun x => x.data.toList) fun k hk' => by
    obtain ⟨p, hp, rfl⟩ := List.mem_map.1 hk'
    exact hk p hp
  rw [keys_len, List.length_map] at this
  exact Nat.le_trans this (by decide)
end Go.Proofs.YtbkglhakhahfpaaGreatDoor
