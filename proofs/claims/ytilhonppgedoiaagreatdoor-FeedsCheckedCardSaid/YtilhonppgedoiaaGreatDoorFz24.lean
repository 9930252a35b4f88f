/- Texts of the proof of a law, put together, part 24 of 46. Conditions: none beyond those that each theorem names. -/
import Derived.Test.YtilhonppgedoiaaGreatDoorFz5
import Derived.Test.YtilhonppgedoiaaGreatDoorFz9
import Derived.Test.YtilhonppgedoiaaGreatDoorFz10
import Derived.Test.YtilhonppgedoiaaGreatDoorFz11
namespace Go.Proofs.YtilhonppgedoiaaGreatDoor
open Go.RowKit Go.Sort
theorem mem_smallR {l : List ByteArray} {n : Nat} (h : (l.all fun x => decide (x.size ≤ n)) = true) {r : ByteArray} (hr : r ∈ l) : r.size ≤ n := by
  have := List.all_eq_true.1 h r hr
  simpa using this
/-- the boards that events have. -/
def BdOk (b : ByteArray) : Prop := b = ⟨#[]⟩ ∨ b = ⟨#[117, 49]⟩ ∨ b = ⟨#[117, 50]⟩ ∨ b = ⟨#[117, 51]⟩
theorem bdOk_nil : BdOk ⟨#[]⟩ := .inl rfl
theorem bdOk_u1 : BdOk ⟨#[117, 49]⟩ := .inr (.inl rfl)
theorem BdOk.size {b : ByteArray} (h : BdOk b) : b.size ≤ 5 := by
  rcases h with rfl | rfl | rfl | rfl <;> decide
theorem bdOk_mem {b : ByteArray} (h : b ∈ ([⟨#[117, 49]⟩, ⟨#[117, 49]⟩, ⟨#[117, 50]⟩, ⟨#[117, 51]⟩] : List ByteArray)) : BdOk b := by
  simp only [List.mem_cons, List.not_mem_nil, or_false] at h
  rcases h with rfl | rfl | rfl | rfl
  · exact .inr (.inl rfl)
  · exact .inr (.inl rfl)
  · exact .inr (.inr (.inl rfl))
  · exact .inr (.inr (.inr rfl))
/-- an event whose strings are short and whose numbers are small. -/
def FedOk (x : Fed) : Prop := (-1099511627777 ≤ x.1 ∧ x.1 ≤ 1099511627777) ∧ (-1099511627777 ≤ x.2.1 ∧ x.2.1 ≤ 1099511627777) ∧ x.2.2.1.size ≤ 5 ∧ x.2.2.2.1.size ≤ 5 ∧ (-1099511627777 ≤ x.2.2.2.2.1 ∧ x.2.2.2.2.1 ≤ 1099511627777) ∧ BdOk x.2.2.2.2.2
theorem fedOk_mk {k : Int} {f r : ByteArray} {m : Int} {b : ByteArray} (hk : 1 ≤ k ∧ k ≤ 5) (hf : f.size ≤ 5) (hr : r.size ≤ 5) (hm : 0 ≤ m ∧ m ≤ 10) (hb : BdOk b) : FedOk (0, k, f, r, m, b) :=
  ⟨⟨by show (-1099511627777 : Int) ≤ 0; decide, by show (0 : Int) ≤ 1099511627777; decide⟩, ⟨by show (-1099511627777 : Int) ≤ k; omega, by show k ≤ 1099511627777; omega⟩, hf, hr, ⟨by show (-1099511627777 : Int) ≤ m; omega, by show m ≤ 1099511627777; omega⟩, hb⟩
set_option maxHeartbeats 1000000 in
theorem AFeeder_any (s : Nat) (c : Int) (w : World) (h : Str w s c) (hc : c ≤ 999990) :
    Calls Tryz.prog 86 #[.pointer (some ⟨s, 0, none⟩)] w fun e w' => ∃ r : ByteArray, e = .returned (.string r) ∧ r.size ≤ 5 ∧ Str w' s (c + 1) ∧ w.grownBy w' (some s) := by
  have ls := h.lt
  go_enter Tryz.func86, Tryz.ntmps86
  go_wp2_with fail
  refine (Some_any s c [⟨#[102, 49]⟩, ⟨#[102, 49]⟩, ⟨#[102, 49]⟩, ⟨#[102, 50]⟩] _ _ (h.alloc _) (by omega) (RecR.of_blk (T := TS) (blk_new _ _) rfl rfl (by simp) (by omega) ls) (by simp) (by simp)).mono ?_
  rintro e w1 ⟨r, rfl, hr, hS1, hG1⟩
  have hr1 := mem_smallR (n := 5) (by decide) hr
  have hg := Gr.trans (Gr.alloc (Gr.refl w (some s)) _) hG1
  clear hr
  go_wp2
  go_ret
  exact ⟨r, rfl, hr1, hS1, hg⟩
set_option maxHeartbeats 1000000 in
theorem ABoardR_any (s : Nat) (c : Int) (w : World) (h : Str w s c) (hc : c ≤ 999990) :
    Calls Tryz.prog 87 #[.pointer (some ⟨s, 0, none⟩)] w fun e w' => ∃ r : ByteArray, e = .returned (.string r) ∧ BdOk r ∧ Str w' s (c + 1) ∧ w.grownBy w' (some s) := by
  have ls := h.lt
  go_enter Tryz.func87, Tryz.ntmps87
  go_wp2_with fail
  refine (Some_any s c [⟨#[117, 49]⟩, ⟨#[117, 49]⟩, ⟨#[117, 50]⟩, ⟨#[117, 51]⟩] _ _ (h.alloc _) (by omega) (RecR.of_blk (T := TS) (blk_new _ _) rfl rfl (by simp) (by omega) ls) (by simp) (by simp)).mono ?_
  rintro e w1 ⟨r, rfl, hr, hS1, hG1⟩
  have hr1 := bdOk_mem hr
  have hg := Gr.trans (Gr.alloc (Gr.refl w (some s)) _) hG1
  clear hr
  go_wp2
  go_ret
  exact ⟨r, rfl, hr1, hS1, hg⟩
set_option maxHeartbeats 8000000 in
set_option maxRecDepth 100000 in
theorem AFeed_any (s : Nat) (c : Int) (w : World) (h : Str w s c) (hc : c ≤ 999900) :
    Calls Tryz.prog 45 #[.pointer (some ⟨s, 0, none⟩)] w fun e w' => ∃ x : Fed, e = .returned (fedV x) ∧ FedOk x ∧ Str w' s (c + 8) ∧ w.grownBy w' (some s) := by
  have ls := h.lt
  go_enter Tryz.func45, Tryz.ntmps45
  go_wp2_with fail
  refine (Some_any s c [⟨#[114, 49]⟩, ⟨#[114, 50]⟩, ⟨#[114, 51]⟩, ⟨#[114, 52]⟩] _ _ ((h.alloc _).alloc _) (by omega) (RecR.of_blk (T := TS) (blk_new' _ _ (by simp)) rfl rfl (by simp) (by omega) (by omega)) (by simp) (by simp)).mono ?_
  rintro e w1 ⟨r, rfl, hr, hS1, hG1⟩
  have hr1 := mem_smallR (n := 5) (by decide) hr
  have hR1 := Gr.blk hG1 (blk_old (blk_new w _) _) (by omega)
  have hz1 := hG1.size
  simp at hz1
  have hG1' := Gr.trans (Gr.alloc (Gr.alloc (Gr.refl w (some s)) _) _) hG1
  clear hG1 hr
  go_wp2_with fail
  refine (Next_any s (c + 1) 8 _ hS1 (by omega) (by omega)).mono ?_
  rintro e w2 ⟨v, rfl, ⟨hv0, hv1, _⟩, hS2, hG2⟩
  have hv := hv1 (by omega)
  have hR2 := Gr.blk hG2 hR1 (by omega)
  have hz2 := hG2.size
  have hG2' := Gr.trans hG1' hG2
  have hvv : v = 0 ∨ v = 1 ∨ v = 2 ∨ v = 3 ∨ v = 4 ∨ v = 5 ∨ v = 6 ∨ v = 7 := by omega
  clear hG2 hG1' hR1 hv0 hv1 hv hS1
  rcases hvv with rfl | rfl | rfl | rfl | rfl | rfl | rfl | rfl
  · go_wp2_with fail
    refine (AFeeder_any s _ _ hS2 (by omega)).mono ?_
    rintro e w3 ⟨f, rfl, hf, hS3, hG3⟩
    have hR3 := Gr.blk hG3 hR2 (by omega)
    have hz3 := hG3.size
    have hG3' := Gr.trans hG2' hG3
    clear hG3 hG2' hR2 hS2
    have r0 := blk_cell hR3 0
    have r1 := blk_cell hR3 1
    have r2 := blk_cell hR3 2
    have r3 := blk_cell hR3 3
    have r4 := blk_cell hR3 4
    have r5 := blk_cell hR3 5
    have g0 := blk_free hR3 0
    have g1 := blk_free hR3 1
    have g2 := blk_free hR3 2
    have g3 := blk_free hR3 3
    have g4 := blk_free hR3 4
    have g5 := blk_free hR3 5
    simp at r0 r1 r2 r3 r4 r5
    go_wp2
    have hb6 := (blk_set (blk_set (blk_set (blk_set (blk_set (blk_set hR3 0 (.int .i64 0)) 1 (.int .i64 1)) 2 (.string f)) 3 (.string r)) 4 (.int .i64 0)) 5 (.string ⟨#[]⟩))
    have m0 := blk_cell hb6 0
    have m1 := blk_cell hb6 1
    have m2 := blk_cell hb6 2
    have m3 := blk_cell hb6 3
    have m4 := blk_cell hb6 4
    have m5 := blk_cell hb6 5
    refine bodyPost_ret (v := fedV (0, 1, f, r, 0, ⟨#[]⟩)) (by simp [results, Tryz.results45, go_sem, fedV, m0, m1, m2, m3, m4, m5]) rfl ⟨(0, 1, f, r, 0, ⟨#[]⟩), rfl, fedOk_mk (by decide) hf hr1 (by decide) bdOk_nil, ?_, ?_⟩
    · exact (hS3.belowB (B := w.heap.size) (Bl.set (Bl.set (Bl.set (Bl.set (Bl.set (Bl.set (Below.refl _ _) _ _ (by omega) _) _ _ (by omega) _) _ _ (by omega) _) _ _ (by omega) _) _ _ (by omega) _) _ _ (by omega) _) ls).mono (by omega)
    · exact (Gr.set (Gr.set (Gr.set (Gr.set (Gr.set (Gr.set hG3' _ _ (.inr (by omega)) _) _ _ (.inr (by omega)) _) _ _ (.inr (by omega)) _) _ _ (.inr (by omega)) _) _ _ (.inr (by omega)) _) _ _ (.inr (by omega)) _)
  · go_wp2_with fail
    refine (AFeeder_any s _ _ hS2 (by omega)).mono ?_
    rintro e w3 ⟨f, rfl, hf, hS3, hG3⟩
    have hR3 := Gr.blk hG3 hR2 (by omega)
    have hz3 := hG3.size
    have hG3' := Gr.trans hG2' hG3
    clear hG3 hG2' hR2 hS2
    have r0 := blk_cell hR3 0
    have r1 := blk_cell hR3 1
    have r2 := blk_cell hR3 2
    have r3 := blk_cell hR3 3
    have r4 := blk_cell hR3 4
    have r5 := blk_cell hR3 5
    have g0 := blk_free hR3 0
    have g1 := blk_free hR3 1
    have g2 := blk_free hR3 2
    have g3 := blk_free hR3 3
    have g4 := blk_free hR3 4
    have g5 := blk_free hR3 5
    simp at r0 r1 r2 r3 r4 r5
    go_wp2
    have hb6 := (blk_set (blk_set (blk_set (blk_set (blk_set (blk_set hR3 0 (.int .i64 0)) 1 (.int .i64 1)) 2 (.string f)) 3 (.string r)) 4 (.int .i64 0)) 5 (.string ⟨#[]⟩))
    have m0 := blk_cell hb6 0
    have m1 := blk_cell hb6 1
    have m2 := blk_cell hb6 2
    have m3 := blk_cell hb6 3
    have m4 := blk_cell hb6 4
    have m5 := blk_cell hb6 5
    refine bodyPost_ret (v := fedV (0, 1, f, r, 0, ⟨#[]⟩)) (by simp [results, Tryz.results45, go_sem, fedV, m0, m1, m2, m3, m4, m5]) rfl ⟨(0, 1, f, r, 0, ⟨#[]⟩), rfl, fedOk_mk (by decide) hf hr1 (by decide) bdOk_nil, ?_, ?_⟩
    · exact (hS3.belowB (B := w.heap.size) (Bl.set (Bl.set (Bl.set (Bl.set (Bl.set (Bl.set (Below.refl _ _) _ _ (by omega) _) _ _ (by omega) _) _ _ (by omega) _) _ _ (by omega) _) _ _ (by omega) _) _ _ (by omega) _) ls).mono (by omega)
    · exact (Gr.set (Gr.set (Gr.set (Gr.set (Gr.set (Gr.set hG3' _ _ (.inr (by omega)) _) _ _ (.inr (by omega)) _) _ _ (.inr (by omega)) _) _ _ (.inr (by omega)) _) _ _ (.inr (by omega)) _) _ _ (.inr (by omega)) _)
  · go_wp2_with fail
    refine (AFeeder_any s _ _ hS2 (by omega)).mono ?_
    rintro e w3 ⟨f, rfl, hf, hS3, hG3⟩
    have hR3 := Gr.blk hG3 hR2 (by omega)
    have hz3 := hG3.size
    have hG3' := Gr.trans hG2' hG3
    clear hG3 hG2' hR2 hS2
    have r0 := blk_cell hR3 0
    have r1 := blk_cell hR3 1
    have r2 := blk_cell hR3 2
    have r3 := blk_cell hR3 3
    have r4 := blk_cell hR3 4
    have r5 := blk_cell hR3 5
    have g0 := blk_free hR3 0
    have g1 := blk_free hR3 1
    have g2 := blk_free hR3 2
    have g3 := blk_free hR3 3
    have g4 := blk_free hR3 4
    have g5 := blk_free hR3 5
    simp at r0 r1 r2 r3 r4 r5
    go_wp2
    have hb6 := (blk_set (blk_set (blk_set (blk_set (blk_set (blk_set hR3 0 (.int .i64 0)) 1 (.int .i64 2)) 2 (.string f)) 3 (.string r)) 4 (.int .i64 0)) 5 (.string ⟨#[]⟩))
    have m0 := blk_cell hb6 0
    have m1 := blk_cell hb6 1
    have m2 := blk_cell hb6 2
    have m3 := blk_cell hb6 3
    have m4 := blk_cell hb6 4
    have m5 := blk_cell hb6 5
    refine bodyPost_ret (v := fedV (0, 2, f, r, 0, ⟨#[]⟩)) (by simp [results, Tryz.results45, go_sem, fedV, m0, m1, m2, m3, m4, m5]) rfl ⟨(0, 2, f, r, 0, ⟨#[]⟩), rfl, fedOk_mk (by decide) hf hr1 (by decide) bdOk_nil, ?_, ?_⟩
    · exact (hS3.belowB (B := w.heap.size) (Bl.set (Bl.set (Bl.set (Bl.set (Bl.set (Bl.set (Below.refl _ _) _ _ (by omega) _) _ _ (by omega) _) _ _ (by omega) _) _ _ (by omega) _) _ _ (by omega) _) _ _ (by omega) _) ls).mono (by omega)
    · exact (Gr.set (Gr.set (Gr.set (Gr.set (Gr.set (Gr.set hG3' _ _ (.inr (by omega)) _) _ _ (.inr (by omega)) _) _ _ (.inr (by omega)) _) _ _ (.inr (by omega)) _) _ _ (.inr (by omega)) _) _ _ (.inr (by omega)) _)
  · go_wp2_with fail
    refine (AFeeder_any s _ _ hS2 (by omega)).mono ?_
    rintro e w3 ⟨f, rfl, hf, hS3, hG3⟩
    have hR3 := Gr.blk hG3 hR2 (by omega)
    have hz3 := hG3.size
    have hG3' := Gr.trans hG2' hG3
    clear hG3 hG2' hR2 hS2
    have r0 := blk_cell hR3 0
    have r1 := blk_cell hR3 1
    have r2 := blk_cell hR3 2
    have r3 := blk_cell hR3 3
    have r4 := blk_cell hR3 4
    have r5 := blk_cell hR3 5
    have g0 := blk_free hR3 0
    have g1 := blk_free hR3 1
    have g2 := blk_free hR3 2
    have g3 := blk_free hR3 3
    have g4 := blk_free hR3 4
    have g5 := blk_free hR3 5
    simp at r0 r1 r2 r3 r4 r5
    go_wp2
    have hb6 := (blk_set (blk_set (blk_set (blk_set (blk_set (blk_set hR3 0 (.int .i64 0)) 1 (.int .i64 2)) 2 (.string f)) 3 (.string r)) 4 (.int .i64 0)) 5 (.string ⟨#[]⟩))
    have m0 := blk_cell hb6 0
    have m1 := blk_cell hb6 1
    have m2 := blk_cell hb6 2
    have m3 := blk_cell hb6 3
    have m4 := blk_cell hb6 4
    have m5 := blk_cell hb6 5
    refine bodyPost_ret (v := fedV (0, 2, f, r, 0, ⟨#[]⟩)) (by simp [results, Tryz.results45, go_sem, fedV, m0, m1, m2, m3, m4, m5]) rfl ⟨(0, 2, f, r, 0, ⟨#[]⟩), rfl, fedOk_mk (by decide) hf hr1 (by decide) bdOk_nil, ?_, ?_⟩
    · exact (hS3.belowB (B := w.heap.size) (Bl.set (Bl.set (Bl.set (Bl.set (Bl.set (Bl.set (Below.refl _ _) _ _ (by omega) _) _ _ (by omega) _) _ _ (by omega) _) _ _ (by omega) _) _ _ (by omega) _) _ _ (by omega) _) ls).mono (by omega)
    · exact (Gr.set (Gr.set (Gr.set (Gr.set (Gr.set (Gr.set hG3' _ _ (.inr (by omega)) _) _ _ (.inr (by omega)) _) _ _ (.inr (by omega)) _) _ _ (.inr (by omega)) _) _ _ (.inr (by omega)) _) _ _ (.inr (by omega)) _)
  · go_wp2_with fail
    refine (Flip_any s _ 2 _ hS2 (by omega) (by omega)).mono ?_
    rintro e w3 ⟨q, rfl, hS3, hG3⟩
    have hR3 := Gr.blk hG3 hR2 (by omega)
    have hz3 := hG3.size
    have hG3' := Gr.trans hG2' hG3
    clear hG3 hG2' hR2 hS2
    cases q
    · go_wp2_with fail
      refine (Pick_any s _ [0, 1, 4, 10] _ _ (hS3.alloc _) (by omega) (Ints.of_blk (blk_new _ _) rfl rfl (by simp) (by omega) hS3.lt) (by simp) (by simp)).mono ?_
      rintro e w4 ⟨m, rfl, hm, hS4, hG4⟩
      have hm1 : 0 ≤ m ∧ m ≤ 10 := by
        simp only [List.mem_cons, List.not_mem_nil, or_false] at hm
        omega
      have hR4 := Gr.blk hG4 (blk_old hR3 _) (by omega)
      have hz4 := hG4.size
      simp at hz4
      have hG4' := Gr.trans (Gr.alloc hG3' _) hG4
      clear hG4 hG3' hR3 hS3 hm
      have r0 := blk_cell hR4 0
      have r1 := blk_cell hR4 1
      have r2 := blk_cell hR4 2
      have r3 := blk_cell hR4 3
      have r4 := blk_cell hR4 4
      have r5 := blk_cell hR4 5
      have g0 := blk_free hR4 0
      have g1 := blk_free hR4 1
      have g2 := blk_free hR4 2
      have g3 := blk_free hR4 3
      have g4 := blk_free hR4 4
      have g5 := blk_free hR4 5
      simp at r0 r1 r2 r3 r4 r5
      go_wp2
      have hb6 := (blk_set (blk_set (blk_set (blk_set (blk_set (blk_set hR4 0 (.int .i64 0)) 1 (.int .i64 5)) 2 (.string ⟨#[]⟩)) 3 (.string r)) 4 (.int .i64 m)) 5 (.string ⟨#[]⟩))
      have m0 := blk_cell hb6 0
      have m1 := blk_cell hb6 1
      have m2 := blk_cell hb6 2
      have m3 := blk_cell hb6 3
      have m4 := blk_cell hb6 4
      have m5 := blk_cell hb6 5
      refine bodyPost_ret (v := fedV (0, 5, ⟨#[]⟩, r, m, ⟨#[]⟩)) (by simp [results, Tryz.results45, go_sem, fedV, m0, m1, m2, m3, m4, m5]) rfl ⟨(0, 5, ⟨#[]⟩, r, m, ⟨#[]⟩), rfl, fedOk_mk (by decide) (by decide) hr1 hm1 bdOk_nil, ?_, ?_⟩
      · exact (hS4.belowB (B := w.heap.size) (Bl.set (Bl.set (Bl.set (Bl.set (Bl.set (Bl.set (Below.refl _ _) _ _ (by omega) _) _ _ (by omega) _) _ _ (by omega) _) _ _ (by omega) _) _ _ (by omega) _) _ _ (by omega) _) ls).mono (by omega)
      · exact (Gr.set (Gr.set (Gr.set (Gr.set (Gr.set (Gr.set hG4' _ _ (.inr (by omega)) _) _ _ (.inr (by omega)) _) _ _ (.inr (by omega)) _) _ _ (.inr (by omega)) _) _ _ (.inr (by omega)) _) _ _ (.inr (by omega)) _)
    · go_wp2_with fail
      refine (AFeeder_any s _ _ hS3 (by omega)).mono ?_
      rintro e w4 ⟨f, rfl, hf, hS4, hG4⟩
      have hR4 := Gr.blk hG4 hR3 (by omega)
      have hz4 := hG4.size
      have hG4' := Gr.trans hG3' hG4
      clear hG4 hG3' hR3 hS3
      have r0 := blk_cell hR4 0
      have r1 := blk_cell hR4 1
      have r2 := blk_cell hR4 2
      have r3 := blk_cell hR4 3
      have r4 := blk_cell hR4 4
      have r5 := blk_cell hR4 5
      have g0 := blk_free hR4 0
      have g1 := blk_free hR4 1
      have g2 := blk_free hR4 2
      have g3 := blk_free hR4 3
      have g4 := blk_free hR4 4
      have g5 := blk_free hR4 5
      simp at r0 r1 r2 r3 r4 r5
      go_wp2
      have hb6 := (blk_set (blk_set (blk_set (blk_set (blk_set (blk_set hR4 0 (.int .i64 0)) 1 (.int .i64 3)) 2 (.string f)) 3 (.string ⟨#[]⟩)) 4 (.int .i64 0)) 5 (.string ⟨#[]⟩))
      have m0 := blk_cell hb6 0
      have m1 := blk_cell hb6 1
      have m2 := blk_cell hb6 2
      have m3 := blk_cell hb6 3
      have m4 := blk_cell hb6 4
      have m5 := blk_cell hb6 5
      refine bodyPost_ret (v := fedV (0, 3, f, ⟨#[]⟩, 0, ⟨#[]⟩)) (by simp [results, Tryz.results45, go_sem, fedV, m0, m1, m2, m3, m4, m5]) rfl ⟨(0, 3, f, ⟨#[]⟩, 0, ⟨#[]⟩), rfl, fedOk_mk (by decide) hf (by decide) (by decide) bdOk_nil, ?_, ?_⟩
      · exact (hS4.belowB (B := w.heap.size) (Bl.set (Bl.set (Bl.set (Bl.set (Bl.set (Bl.set (Below.refl _ _) _ _ (by omega) _) _ _ (by omega) _) _ _ (by omega) _) _ _ (by omega) _) _ _ (by omega) _) _ _ (by omega) _) ls).mono (by omega)
      · exact (Gr.set (Gr.set (Gr.set (Gr.set (Gr.set (Gr.set hG4' _ _ (.inr (by omega)) _) _ _ (.inr (by omega)) _) _ _ (.inr (by omega)) _) _ _ (.inr (by omega)) _) _ _ (.inr (by omega)) _) _ _ (.inr (by omega)) _)
  · go_wp2_with fail
    refine (AFeeder_any s _ _ hS2 (by omega)).mono ?_
    rintro e w3 ⟨f, rfl, hf, hS3, hG3⟩
    have hR3 := Gr.blk hG3 hR2 (by omega)
    have hz3 := hG3.size
    have hG3' := Gr.trans hG2' hG3
    clear hG3 hG2' hR2 hS2
    go_wp2_with fail
    refine (Pick_any s _ [1, 2, 3, 5, 8] _ _ (hS3.alloc _) (by omega) (Ints.of_blk (blk_new _ _) rfl rfl (by simp) (by omega) hS3.lt) (by simp) (by simp)).mono ?_
    rintro e w4 ⟨m, rfl, hm, hS4, hG4⟩
    have hm1 : 0 ≤ m ∧ m ≤ 10 := by
      simp only [List.mem_cons, List.not_mem_nil, or_false] at hm
      omega
    have hR4 := Gr.blk hG4 (blk_old hR3 _) (by omega)
    have hz4 := hG4.size
    simp at hz4
    have hG4' := Gr.trans (Gr.alloc hG3' _) hG4
    clear hG4 hG3' hR3 hS3 hm
    go_wp2_with fail
    refine (ABoardR_any s _ _ hS4 (by omega)).mono ?_
    rintro e w5 ⟨b, rfl, hb, hS5, hG5⟩
    have hR5 := Gr.blk hG5 hR4 (by omega)
    have hz5 := hG5.size
    have hG5' := Gr.trans hG4' hG5
    clear hG5 hG4' hR4 hS4
    have r0 := blk_cell hR5 0
    have r1 := blk_cell hR5 1
    have r2 := blk_cell hR5 2
    have r3 := blk_cell hR5 3
    have r4 := blk_cell hR5 4
    have r5 := blk_cell hR5 5
    have g0 := blk_free hR5 0
    have g1 := blk_free hR5 1
    have g2 := blk_free hR5 2
    have g3 := blk_free hR5 3
    have g4 := blk_free hR5 4
    have g5 := blk_free hR5 5
    simp at r0 r1 r2 r3 r4 r5
    go_wp2
    have hb6 := (blk_set (blk_set (blk_set (blk_set (blk_set (blk_set hR5 0 (.int .i64 0)) 1 (.int .i64 4)) 2 (.string f)) 3 (.string ⟨#[]⟩)) 4 (.int .i64 m)) 5 (.string b))
    have m0 := blk_cell hb6 0
    have m1 := blk_cell hb6 1
    have m2 := blk_cell hb6 2
    have m3 := blk_cell hb6 3
    have m4 := blk_cell hb6 4
    have m5 := blk_cell hb6 5
    refine bodyPost_ret (v := fedV (0, 4, f, ⟨#[]⟩, m, b)) (by simp [results, Tryz.results45, go_sem, fedV, m0, m1, m2, m3, m4, m5]) rfl ⟨(0, 4, f, ⟨#[]⟩, m, b), rfl, fedOk_mk (by decide) hf (by decide) hm1 hb, ?_, ?_⟩
    · exact (hS5.belowB (B := w.heap.size) (Bl.set (Bl.set (Bl.set (Bl.set (Bl.set (Bl.set (Below.refl _ _) _ _ (by omega) _) _ _ (by omega) _) _ _ (by omega) _) _ _ (by omega) _) _ _ (by omega) _) _ _ (by omega) _) ls).mono (by omega)
    · exact (Gr.set (Gr.set (Gr.set (Gr.set (Gr.set (Gr.set hG5' _ _ (.inr (by omega)) _) _ _ (.inr (by omega)) _) _ _ (.inr (by omega)) _) _ _ (.inr (by omega)) _) _ _ (.inr (by omega)) _) _ _ (.inr (by omega)) _)
  · go_wp2_with fail
    refine (AFeeder_any s _ _ hS2 (by omega)).mono ?_
    rintro e w3 ⟨f, rfl, hf, hS3, hG3⟩
    have hR3 := Gr.blk hG3 hR2 (by omega)
    have hz3 := hG3.size
    have hG3' := Gr.trans hG2' hG3
    clear hG3 hG2' hR2 hS2
    go_wp2_with fail
    refine (Pick_any s _ [1, 2, 3, 5, 8] _ _ (hS3.alloc _) (by omega) (Ints.of_blk (blk_new _ _) rfl rfl (by simp) (by omega) hS3.lt) (by simp) (by simp)).mono ?_
    rintro e w4 ⟨m, rfl, hm, hS4, hG4⟩
    have hm1 : 0 ≤ m ∧ m ≤ 10 := by
      simp only [List.mem_cons, List.not_mem_nil, or_false] at hm
      omega
    have hR4 := Gr.blk hG4 (blk_old hR3 _) (by omega)
    have hz4 := hG4.size
    simp at hz4
    have hG4' := Gr.trans (Gr.alloc hG3' _) hG4
    clear hG4 hG3' hR3 hS3 hm
    go_wp2_with fail
    refine (ABoardR_any s _ _ hS4 (by omega)).mono ?_
    rintro e w5 ⟨b, rfl, hb, hS5, hG5⟩
    have hR5 := Gr.blk hG5 hR4 (by omega)
    have hz5 := hG5.size
    have hG5' := Gr.trans hG4' hG5
    clear hG5 hG4' hR4 hS4
    have r0 := blk_cell hR5 0
    have r1 := blk_cell hR5 1
    have r2 := blk_cell hR5 2
    have r3 := blk_cell hR5 3
    have r4 := blk_cell hR5 4
    have r5 := blk_cell hR5 5
    have g0 := blk_free hR5 0
    have g1 := blk_free hR5 1
    have g2 := blk_free hR5 2
    have g3 := blk_free hR5 3
    have g4 := blk_free hR5 4
    have g5 := blk_free hR5 5
    simp at r0 r1 r2 r3 r4 r5
    go_wp2
    have hb6 := (blk_set (blk_set (blk_set (blk_set (blk_set (blk_set hR5 0 (.int .i64 0)) 1 (.int .i64 4)) 2 (.string f)) 3 (.string ⟨#[]⟩)) 4 (.int .i64 m)) 5 (.string b))
    have m0 := blk_cell hb6 0
    have m1 := blk_cell hb6 1
    have m2 := blk_cell hb6 2
    have m3 := blk_cell hb6 3
    have m4 := blk_cell hb6 4
    have m5 := blk_cell hb6 5
    refine bodyPost_ret (v := fedV (0, 4, f, ⟨#[]⟩, m, b)) (by simp [results, Tryz.results45, go_sem, fedV, m0, m1, m2, m3, m4, m5]) rfl ⟨(0, 4, f, ⟨#[]⟩, m, b), rfl, fedOk_mk (by decide) hf (by decide) hm1 hb, ?_, ?_⟩
    · exact (hS5.belowB (B := w.heap.size) (Bl.set (Bl.set (Bl.set (Bl.set (Bl.set (Bl.set (Below.refl _ _) _ _ (by omega) _) _ _ (by omega) _) _ _ (by omega) _) _ _ (by omega) _) _ _ (by omega) _) _ _ (by omega) _) ls).mono (by omega)
    · exact (Gr.set (Gr.set (Gr.set (Gr.set (Gr.set (Gr.set hG5' _ _ (.inr (by omega)) _) _ _ (.inr (by omega)) _) _ _ (.inr (by omega)) _) _ _ (.inr (by omega)) _) _ _ (.inr (by omega)) _) _ _ (.inr (by omega)) _)
  · go_wp2_with fail
    refine (AFeeder_any s _ _ hS2 (by omega)).mono ?_
    rintro e w3 ⟨f, rfl, hf, hS3, hG3⟩
    have hR3 := Gr.blk hG3 hR2 (by omega)
    have hz3 := hG3.size
    have hG3' := Gr.trans hG2' hG3
    clear hG3 hG2' hR2 hS2
    go_wp2_with fail
    refine (Pick_any s _ [1, 2, 3, 5, 8] _ _ (hS3.alloc _) (by omega) (Ints.of_blk (blk_new _ _) rfl rfl (by simp) (by omega) hS3.lt) (by simp) (by simp)).mono ?_
    rintro e w4 ⟨m, rfl, hm, hS4, hG4⟩
    have hm1 : 0 ≤ m ∧ m ≤ 10 := by
      simp only [List.mem_cons, List.not_mem_nil, or_false] at hm
      omega
    have hR4 := Gr.blk hG4 (blk_old hR3 _) (by omega)
    have hz4 := hG4.size
    simp at hz4
    have hG4' := Gr.trans (Gr.alloc hG3' _) hG4
    clear hG4 hG3' hR3 hS3 hm
    go_wp2_with fail
    refine (ABoardR_any s _ _ hS4 (by omega)).mono ?_
    rintro e w5 ⟨b, rfl, hb, hS5, hG5⟩
    have hR5 := Gr.blk hG5 hR4 (by omega)
    have hz5 := hG5.size
    have hG5' := Gr.trans hG4' hG5
    clear hG5 hG4' hR4 hS4
    have r0 := blk_cell hR5 0
    have r1 := blk_cell hR5 1
    have r2 := blk_cell hR5 2
    have r3 := blk_cell hR5 3
    have r4 := blk_cell hR5 4
    have r5 := blk_cell hR5 5
    have g0 := blk_free hR5 0
    have g1 := blk_free hR5 1
    have g2 := blk_free hR5 2
    have g3 := blk_free hR5 3
    have g4 := blk_free hR5 4
    have g5 := blk_free hR5 5
    simp at r0 r1 r2 r3 r4 r5
    go_wp2
    have hb6 := (blk_set (blk_set (blk_set (blk_set (blk_set (blk_set hR5 0 (.int .i64 0)) 1 (.int .i64 4)) 2 (.string f)) 3 (.string ⟨#[]⟩)) 4 (.int .i64 m)) 5 (.string b))
    have m0 := blk_cell hb6 0
    have m1 := blk_cell hb6 1
    have m2 := blk_cell hb6 2
    have m3 := blk_cell hb6 3
    have m4 := blk_cell hb6 4
    have m5 := blk_cell hb6 5
    refine bodyPost_ret (v := fedV (0, 4, f, ⟨#[]⟩, m, b)) (by simp [results, Tryz.results45, go_sem, fedV, m0, m1, m2, m3, m4, m5]) rfl ⟨(0, 4, f, ⟨#[]⟩, m, b), rfl, fedOk_mk (by decide) hf (by decide) hm1 hb, ?_, ?_⟩
    · exact (hS5.belowB (B := w.heap.size) (Bl.set (Bl.set (Bl.set (Bl.set (Bl.set (Bl.set (Below.refl _ _) _ _ (by omega) _) _ _ (by omega) _) _ _ (by omega) _) _ _ (by omega) _) _ _ (by omega) _) _ _ (by omega) _) ls).mono (by omega)
    · exact (Gr.set (Gr.set (Gr.set (Gr.set (Gr.set (Gr.set hG5' _ _ (.inr (by omega)) _) _ _ (.inr (by omega)) _) _ _ (.inr (by omega)) _) _ _ (.inr (by omega)) _) _ _ (.inr (by omega)) _) _ _ (.inr (by omega)) _)
end Go.Proofs.YtilhonppgedoiaaGreatDoor
namespace Go.Proofs.YtilhonppgedoiaaGreatDoor
open Go.RowKit Go.Sort
theorem NoneFaultR_any (b : Bool) (w : World) : Calls Tryz.prog 177 #[.bool b] w fun e w' => e = .returned (.int .i64 (if b = true then 8 else 0)) ∧ w = w' := by
  cases b
  all_goals (
    go_enter Tryz.func177, Tryz.ntmps177
    go_wp2
    go_ret
    exact ⟨rfl, rfl⟩)
end Go.Proofs.YtilhonppgedoiaaGreatDoor
