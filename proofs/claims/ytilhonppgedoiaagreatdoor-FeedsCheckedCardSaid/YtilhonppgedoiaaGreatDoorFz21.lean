/- Texts of the proof of a law, put together, part 21 of 46. Conditions: none beyond those that each theorem names. -/
import Derived.Test.YtilhonppgedoiaaGreatDoorFz20
namespace Go.Proofs.YtilhonppgedoiaaGreatDoor
open Go.RowKit Go.Sort Go.Maps
theorem IndexKF_any (kb : Nat) (y : ByteArray) (U : World) (h : RecR TS U 0 (.slice (some ⟨kb, 0, none⟩) 6 6) kwFB) :
    Calls Tryz.prog 118 #[.slice (some ⟨kb, 0, none⟩) 6 6, .string y] U fun e w' => e = .returned (.int .i64 (Lib.idxOfS kwFB y)) ∧ U = w' := by
  have := Tryz.slices_Index_string kb 0 6 6 kwFB y U (Nat.le_refl _) (by decide) (str_cells h)
  rw [show kwFB.take 6 = kwFB from rfl] at this
  exact this.mono fun e w' ⟨h1, h2⟩ => ⟨h1, h2.symm⟩
theorem tks_small {s : Tks} (h : ∀ x ∈ s.1, x.size ≤ 1000000) : (hdT s).size ≤ 1000000 ∧ ∀ x ∈ (nxT s).1, x.size ≤ 1000000 := by
  obtain ⟨l, b⟩ := s
  cases l with
  | nil => exact ⟨by show (0 : Nat) ≤ _; omega, fun x hx => by cases hx⟩
  | cons y r => exact ⟨h y (List.mem_cons_self ..), fun x hx => h x (List.mem_cons_of_mem _ hx)⟩
theorem fwA_small {u : Bool} {s : Tks} (h : ∀ x ∈ s.1, x.size ≤ 1000000) : ∀ x ∈ (fwA u s).2.1, x.size ≤ 1000000 := by
  unfold fwA
  split
  · exact (tks_small h).2
  · exact h
set_option maxHeartbeats 16000000 in
set_option maxRecDepth 100000 in
theorem FdFrom_any (m : Nat) (v : Value) (ws : List ByteArray) (w : World) (hm : m ≤ 15) (rl : RecR TS w 0 v ws) (hl : ws.length ≤ 1000001) (hs : ∀ x ∈ ws, x.size ≤ 1000000) :
    Calls Tryz.prog 78 #[v, .int .i64 (m : Int)] w fun e w' => ∃ f : Fed, e = .returned (.tuple #[fedV f, .bool (frFd m (ws.map bsOf)).isSome]) ∧ (∀ p, frFd m (ws.map bsOf) = some p → f = (0, p)) ∧ Below w.heap.size w w' := by
  obtain ⟨a, cap, rfl, hc1, hc2⟩ := rl.form
  obtain ⟨w2, hw2⟩ : ∃ w2, w2 = (w.alloc (.cells #[.slice a ws.length cap] 63)).alloc (.cells #[.int .i64 0, .int .i64 0, .string ⟨#[]⟩, .string ⟨#[]⟩, .int .i64 0, .string ⟨#[]⟩] 37) := ⟨_, rfl⟩
  have hBw : w2.heap[w.heap.size]? = some (.cells #[.slice a ws.length cap] 63 (0, 0)) := by rw [hw2]; exact blk_old (blk_new w _) _
  have hBr : w2.heap[w.heap.size + 1]? = some (.cells #[.int .i64 0, .int .i64 0, .string ⟨#[]⟩, .string ⟨#[]⟩, .int .i64 0, .string ⟨#[]⟩] 37 (0, 0)) := by rw [hw2]; exact blk_new' _ _ (by simp)
  have hA : Below w.heap.size w w2 := by rw [hw2]; exact Bl.alloc (Bl.alloc (Below.refl _ _) _) _
  have RL := Lib.hid rl
  have hsz2 : w2.heap.size = w.heap.size + 2 := by rw [hw2]; simp
  have cB : w2.cell? ⟨w.heap.size, 0, none⟩ = some (.slice a ws.length cap) := blk_cell hBw 0
  have HSZ2 := Lib.hid hsz2
  have HW2 := Lib.hid hw2
  clear rl hsz2 hw2
  by_cases h0 : ws = []
  · subst h0
    have HFA := Lib.hid hA
    have r0 : w2.cell? ⟨w.heap.size + 1, 0, none⟩ = some (.int .i64 0) := blk_cell hBr 0
    have r1 : w2.cell? ⟨w.heap.size + 1, 1, none⟩ = some (.int .i64 0) := blk_cell hBr 1
    have r2 : w2.cell? ⟨w.heap.size + 1, 2, none⟩ = some (.string ⟨#[]⟩) := blk_cell hBr 2
    have r3 : w2.cell? ⟨w.heap.size + 1, 3, none⟩ = some (.string ⟨#[]⟩) := blk_cell hBr 3
    have r4 : w2.cell? ⟨w.heap.size + 1, 4, none⟩ = some (.int .i64 0) := blk_cell hBr 4
    have r5 : w2.cell? ⟨w.heap.size + 1, 5, none⟩ = some (.string ⟨#[]⟩) := blk_cell hBr 5
    clear hBw hBr hA
    go_enter Tryz.func78, Tryz.ntmps78
    go_wp2
    have hw2 := HW2.out
    change w2 = (w.alloc (.cells #[.slice a 0 cap] 63)).alloc (.cells #[.int .i64 0, .int .i64 0, .string ⟨#[]⟩, .string ⟨#[]⟩, .int .i64 0, .string ⟨#[]⟩] 37) at hw2
    rw [← hw2]
    refine bodyPost_ret (v := .tuple #[.agg #[.int .i64 0, .int .i64 0, .string ⟨#[]⟩, .string ⟨#[]⟩, .int .i64 0, .string ⟨#[]⟩], .bool false]) (by simp [results, Tryz.results78, go_sem, r0, r1, r2, r3, r4, r5]) rfl ?_
    exact ⟨(0, 0, ⟨#[]⟩, ⟨#[]⟩, 0, ⟨#[]⟩), rfl, fun p hp => (by simp [frFd] at hp), HFA.out⟩
  obtain ⟨x, r, rfl⟩ : ∃ x r, ws = x :: r := by
    cases ws with
    | nil => exact absurd rfl h0
    | cons x r => exact ⟨x, r, rfl⟩
  obtain ⟨b, o, hab, _, hbb, c0⟩ := str_at RL.out (k := 0) (x := x) rfl
  subst hab
  rw [Nat.add_zero] at c0
  obtain ⟨ki, hki⟩ : ∃ ki, ki = Lib.idxOfS kwFB x := ⟨_, rfl⟩
  obtain ⟨ib, hib⟩ : ∃ ib, ib = inB 1 ki 5 := ⟨_, rfl⟩
  have hib2 : ib = true ↔ (1 ≤ ki ∧ ki ≤ 5) := by rw [hib]; unfold inB; simp
  have HIK : Hid (∀ U : World, Calls Tryz.prog 96 #[.int .i64 ki] U fun e w' => e = .returned (.bool ib) ∧ U = w') := Lib.hid fun U => by rw [hib]; exact IsKindR_any ki U
  have HKW : Hid (∀ U : World, Calls Tryz.prog 72 #[] U fun e w' => ∃ kb : Nat, e = .returned (.slice (some ⟨kb, 0, none⟩) 6 6) ∧ Hid (RecR TS w' 0 (.slice (some ⟨kb, 0, none⟩) 6 6) kwFB) ∧ Below U.heap.size U w') := Lib.hid fun U => by
    refine (kindWordsF_any U).mono ?_
    rintro e w' ⟨rfl, hO, hb⟩
    exact ⟨_, rfl, Lib.hid hO.rec0, hb⟩
  have HIX : Hid (∀ (kb : Nat) (U : World), RecR TS U 0 (.slice (some ⟨kb, 0, none⟩) 6 6) kwFB → Calls Tryz.prog 118 #[.slice (some ⟨kb, 0, none⟩) 6 6, .string x] U fun e w' => e = .returned (.int .i64 ki) ∧ U = w') := Lib.hid fun kb U h => by rw [hki]; exact IndexKF_any kb x U h
  have HBAD : Hid (ib = false → (frFd m ((x :: r).map bsOf)).isSome = false ∧ ∀ p, frFd m ((x :: r).map bsOf) ≠ some p) := Lib.hid fun h => by
    have h2 : ∀ p, frFd m ((x :: r).map bsOf) ≠ some p := fun p hp => by
      obtain ⟨e1, e2, e3⟩ := frFd_kind (x := x) (r := r.map bsOf) hp
      rw [← hki] at e1
      rw [hib2.2 ⟨by omega, by omega⟩] at h
      cases h
    refine ⟨?_, h2⟩
    cases hf : frFd m ((x :: r).map bsOf) with
    | none => rfl
    | some p => exact absurd hf (h2 p)
  have HGOOD : Hid (ib = true → (frFd m ((x :: r).map bsOf)).isSome = fwOk m ki r ∧ ∀ p, frFd m ((x :: r).map bsOf) = some p → (fwE m ki r).1 = (0, p)) := Lib.hid fun h => fw_law (hib2.1 h) ((idxF_at (hib2.1 h)).1 hki.symm) r
  have HKI := Lib.hid hib2
  have hsr : ∀ y ∈ r, y.size ≤ 1000000 := fun y hy => hs y (List.mem_cons_of_mem _ hy)
  have HSR := Lib.hid hsr
  obtain ⟨n, hnl⟩ : ∃ n, n = (x :: r).length := ⟨_, rfl⟩
  have HNR : Hid (n = r.length + 1) := Lib.hid hnl
  rw [← hnl] at hBw cB hc1 RL HW2 ⊢
  have hlt : ¬ (n : Int) = 0 := by rw [HNR.out]; omega
  have hi0 : 0 < n := by rw [HNR.out]; omega
  have hidx0 : (0 : Int) < (n : Int) := by omega
  have hidx1 : (1 : Int) ≤ (n : Int) := by omega
  have d0 : w2.cell? ⟨b, o, none⟩ = some (.string x) := ((bcell hA).1 b o hbb).trans c0
  have lb2 : b < w2.heap.size := Nat.lt_of_lt_of_le hbb hA.size
  have lw2 : w.heap.size < w2.heap.size := blk_lt hBw
  have HBW := Lib.hid hBw
  have HBR := Lib.hid hBr
  have HAA := Lib.hid hA
  clear hki hib hib2 hsr hs hnl hl h0 c0 hBw hBr hA
  go_enter Tryz.func78, Tryz.ntmps78
  go_upto_region 3 with fail
  rw [← HW2.out]
  go_cut [6] from 12 to 21 (fun v6 wx => ∃ A : Nat, v6 = .pointer (some ⟨A, 0, none⟩) ∧ Hid (wx.heap[A]? = some (.cells #[.int .i64 0, .int .i64 ki, .string ⟨#[]⟩, .string ⟨#[]⟩, .int .i64 0, .string ⟨#[]⟩] 37 (0, 0)) ∧ Below w2.heap.size w2 wx ∧ w.heap.size + 1 < A))
  case first =>
    go_region_law (first
      | (refine step_goN rfl 72 #[] _ rfl (enters_of Tryz.func72 (by kernel_rfl) rfl) #[] (by simp [Act.put]) _ (by have hh := HKW.out; exact hh _) ?_; rintro e w3 ⟨kb, rfl, HK, hb3⟩; refine ⟨_, rfl, ?_⟩; have hbU : Below w2.heap.size w2 w3 := (by first | exact Bl.trans (Below.drew (Below.refl _ _)) hb3 | exact Bl.trans (Bl.alloc (Below.drew (Below.refl _ _)) _) hb3); have dd := (hbU.cell (p := ⟨b, o, none⟩) lb2).trans d0; have dB := (hbU.cell (p := ⟨w.heap.size, 0, none⟩) lw2).trans cB; have lb3 : b < w3.heap.size := Nat.lt_of_lt_of_le lb2 hbU.size; have lw3 : w.heap.size < w3.heap.size := Nat.lt_of_lt_of_le lw2 hbU.size; have HBU := Lib.hid hbU; (first | (have hP0 : w3.heap[w2.heap.size]? = some (.cells #[.int .i64 0, .int .i64 0, .string ⟨#[]⟩, .string ⟨#[]⟩, .int .i64 0, .string ⟨#[]⟩] 37 (0, 0)) := blk_below (blk_new w2.drew (.cells #[.int .i64 0, .int .i64 0, .string ⟨#[]⟩, .string ⟨#[]⟩, .int .i64 0, .string ⟨#[]⟩] 37)) hb3; have r0 : w3.cell? ⟨w2.heap.size, 0, none⟩ = some (.int .i64 0) := blk_cell hP0 0; have f0 := blk_free hP0 0; have r1 : w3.cell? ⟨w2.heap.size, 1, none⟩ = some (.int .i64 0) := blk_cell hP0 1; have f1 := blk_free hP0 1; have r2 : w3.cell? ⟨w2.heap.size, 2, none⟩ = some (.string ⟨#[]⟩) := blk_cell hP0 2; have f2 := blk_free hP0 2; have r3 : w3.cell? ⟨w2.heap.size, 3, none⟩ = some (.string ⟨#[]⟩) := blk_cell hP0 3; have f3 := blk_free hP0 3; have r4 : w3.cell? ⟨w2.heap.size, 4, none⟩ = some (.int .i64 0) := blk_cell hP0 4; have f4 := blk_free hP0 4; have r5 : w3.cell? ⟨w2.heap.size, 5, none⟩ = some (.string ⟨#[]⟩) := blk_cell hP0 5; have f5 := blk_free hP0 5; have HP0 := Lib.hid hP0; clear hP0) | skip); clear hb3 hbU)
      | (refine step_goN rfl 118 #[.tmp 16, .tmp 19] _ rfl (enters_of Tryz.func118 (by kernel_rfl) rfl) #[.slice (some ⟨kb, 0, none⟩) 6 6, .string x] (by simp [Act.eval]) _ (by have hh := HIX.out kb; first | exact hh _ HK.out | exact hh _ (HK.out.alloc _)) ?_; rintro e w4 ⟨rfl, rfl⟩; refine ⟨_, rfl, ?_⟩; (first
        | (have hq := HP0.out; obtain ⟨W, hW⟩ : ∃ W, ((((((w3.setCell ⟨w2.heap.size, 0, none⟩ (.int .i64 0)).setCell ⟨w2.heap.size, 1, none⟩ (.int .i64 ki)).setCell ⟨w2.heap.size, 2, none⟩ (.string ⟨#[]⟩)).setCell ⟨w2.heap.size, 3, none⟩ (.string ⟨#[]⟩)).setCell ⟨w2.heap.size, 4, none⟩ (.int .i64 0)).setCell ⟨w2.heap.size, 5, none⟩ (.string ⟨#[]⟩)) = W := ⟨_, rfl⟩; obtain ⟨A, hA⟩ : ∃ A, w2.heap.size = A := ⟨_, rfl⟩; have HWX : Hid (W.heap[A]? = some (.cells #[.int .i64 0, .int .i64 ki, .string ⟨#[]⟩, .string ⟨#[]⟩, .int .i64 0, .string ⟨#[]⟩] 37 (0, 0))) := Lib.hid (by rw [← hW, ← hA]; exact (blk_set (blk_set (blk_set (blk_set (blk_set (blk_set hq 0 (.int .i64 0)) 1 (.int .i64 ki)) 2 (.string ⟨#[]⟩)) 3 (.string ⟨#[]⟩)) 4 (.int .i64 0)) 5 (.string ⟨#[]⟩))); have HWB : Hid (Below w2.heap.size w2 W) := Lib.hid (by rw [← hW]; exact (Bl.set (Bl.set (Bl.set (Bl.set (Bl.set (Bl.set HBU.out _ 0 (Nat.le_refl _) (.int .i64 0)) _ 1 (Nat.le_refl _) (.int .i64 ki)) _ 2 (Nat.le_refl _) (.string ⟨#[]⟩)) _ 3 (Nat.le_refl _) (.string ⟨#[]⟩)) _ 4 (Nat.le_refl _) (.int .i64 0)) _ 5 (Nat.le_refl _) (.string ⟨#[]⟩))); have HW := Lib.hid hW; have HA := Lib.hid hA; have HAR0 : Hid (w.heap.size + 1 < A) := Lib.hid (by have := HSZ2.out; omega); clear hW hA hq)
        | (obtain ⟨W, hW⟩ : ∃ W, w3.alloc (.cells #[.int .i64 0, .int .i64 ki, .string ⟨#[]⟩, .string ⟨#[]⟩, .int .i64 0, .string ⟨#[]⟩] 37) = W := ⟨_, rfl⟩; obtain ⟨A, hA⟩ : ∃ A, w3.heap.size = A := ⟨_, rfl⟩; have HWX : Hid (W.heap[A]? = some (.cells #[.int .i64 0, .int .i64 ki, .string ⟨#[]⟩, .string ⟨#[]⟩, .int .i64 0, .string ⟨#[]⟩] 37 (0, 0))) := Lib.hid (by rw [← hW, ← hA]; exact blk_new _ _); have HWB : Hid (Below w2.heap.size w2 W) := Lib.hid (by rw [← hW]; exact Bl.alloc HBU.out _); have HW := Lib.hid hW; have HA := Lib.hid hA; have hzz := HBU.out.size; have HAR0 : Hid (w.heap.size + 1 < A) := Lib.hid (by have := HSZ2.out; omega); clear hW hA hzz))))
    all_goals (
      rw [HW.out, HA.out]
      have HF : Hid (W.heap[A]? = some (.cells #[.int .i64 0, .int .i64 ki, .string ⟨#[]⟩, .string ⟨#[]⟩, .int .i64 0, .string ⟨#[]⟩] 37 (0, 0)) ∧ Below w2.heap.size w2 W ∧ w.heap.size + 1 < A) := Lib.hid ⟨HWX.out, HWB.out, HAR0.out⟩
      go_wp2
      go_meet
      case rel => exact ⟨A, rfl, HF⟩)
  case rest =>
  obtain ⟨A, rfl, HF⟩ := hcut
  obtain ⟨W, rfl⟩ : ∃ W : World, W = wc := ⟨_, rfl⟩
  have hWA := HF.out.1
  have hWW := blk_below HBW.out HF.out.2.1
  have hWR := blk_below HBR.out HF.out.2.1
  have lA : A < W.heap.size := blk_lt hWA
  have g0 : W.cell? ⟨A, 0, none⟩ = some (.int .i64 0) := blk_cell hWA 0
  have g1 : W.cell? ⟨A, 1, none⟩ = some (.int .i64 ki) := blk_cell hWA 1
  have g2 : W.cell? ⟨A, 2, none⟩ = some (.string ⟨#[]⟩) := blk_cell hWA 2
  have g3 : W.cell? ⟨A, 3, none⟩ = some (.string ⟨#[]⟩) := blk_cell hWA 3
  have g4 : W.cell? ⟨A, 4, none⟩ = some (.int .i64 0) := blk_cell hWA 4
  have g5 : W.cell? ⟨A, 5, none⟩ = some (.string ⟨#[]⟩) := blk_cell hWA 5
  have k0 : W.cell? ⟨w.heap.size + 1, 0, none⟩ = some (.int .i64 0) := blk_cell hWR 0
  have k1 : W.cell? ⟨w.heap.size + 1, 1, none⟩ = some (.int .i64 0) := blk_cell hWR 1
  have k2 : W.cell? ⟨w.heap.size + 1, 2, none⟩ = some (.string ⟨#[]⟩) := blk_cell hWR 2
  have k3 : W.cell? ⟨w.heap.size + 1, 3, none⟩ = some (.string ⟨#[]⟩) := blk_cell hWR 3
  have k4 : W.cell? ⟨w.heap.size + 1, 4, none⟩ = some (.int .i64 0) := blk_cell hWR 4
  have k5 : W.cell? ⟨w.heap.size + 1, 5, none⟩ = some (.string ⟨#[]⟩) := blk_cell hWR 5
  have q0 := blk_free hWR 0
  have q1 := blk_free hWR 1
  have q2 := blk_free hWR 2
  have q3 := blk_free hWR 3
  have q4 := blk_free hWR 4
  have q5 := blk_free hWR 5
  have cW : W.cell? ⟨w.heap.size, 0, none⟩ = some (.slice (some ⟨b, o, none⟩) n cap) := blk_cell hWW 0
  have fW := blk_free hWW 0
  have HWB := Lib.hid (Bl.trans HAA.out HF.out.2.1)
  have HWA := Lib.hid hWA
  have HWW := Lib.hid hWW
  have HWR := Lib.hid hWR
  have HLA := Lib.hid HF.out.2.2
  clear hWA hWW hWR HF d0 cB HKW HIX HBW HBR HAA HW2
  go_wp2_with fail
  refine (HIK.out _).mono ?_
  rintro e w5 ⟨rfl, rfl⟩
  cases ib
  · have HR := Lib.hid (HBAD.out rfl)
    have hZ := (blk_set (blk_set (blk_set (blk_set (blk_set (blk_set HWR.out 0 (.int .i64 0)) 1 (.int .i64 0)) 2 (.string ⟨#[]⟩)) 3 (.string ⟨#[]⟩)) 4 (.int .i64 0)) 5 (.string ⟨#[]⟩))
    have hbZ := (Bl.set (Bl.set (Bl.set (Bl.set (Bl.set (Bl.set HWB.out (w.heap.size + 1) 0 (Nat.le_succ _) (.int .i64 0)) (w.heap.size + 1) 1 (Nat.le_succ _) (.int .i64 0)) (w.heap.size + 1) 2 (Nat.le_succ _) (.string ⟨#[]⟩)) (w.heap.size + 1) 3 (Nat.le_succ _) (.string ⟨#[]⟩)) (w.heap.size + 1) 4 (Nat.le_succ _) (.int .i64 0)) (w.heap.size + 1) 5 (Nat.le_succ _) (.string ⟨#[]⟩))
    have HZ := Lib.hid (And.intro hZ hbZ)
    clear hZ hbZ HGOOD HBAD g0 g1 g2 g3 g4 g5
    go_wp2
    obtain ⟨hZ, hbZ⟩ := HZ.out
    generalize ((((((W.setCell ⟨w.heap.size + 1, 0, none⟩ (.int .i64 0)).setCell ⟨w.heap.size + 1, 1, none⟩ (.int .i64 0)).setCell ⟨w.heap.size + 1, 2, none⟩ (.string ⟨#[]⟩)).setCell ⟨w.heap.size + 1, 3, none⟩ (.string ⟨#[]⟩)).setCell ⟨w.heap.size + 1, 4, none⟩ (.int .i64 0)).setCell ⟨w.heap.size + 1, 5, none⟩ (.string ⟨#[]⟩)) = w9 at *
    have r0 : w9.cell? ⟨w.heap.size + 1, 0, none⟩ = some (.int .i64 0) := blk_cell hZ 0
    have r1 : w9.cell? ⟨w.heap.size + 1, 1, none⟩ = some (.int .i64 0) := blk_cell hZ 1
    have r2 : w9.cell? ⟨w.heap.size + 1, 2, none⟩ = some (.string ⟨#[]⟩) := blk_cell hZ 2
    have r3 : w9.cell? ⟨w.heap.size + 1, 3, none⟩ = some (.string ⟨#[]⟩) := blk_cell hZ 3
    have r4 : w9.cell? ⟨w.heap.size + 1, 4, none⟩ = some (.int .i64 0) := blk_cell hZ 4
    have r5 : w9.cell? ⟨w.heap.size + 1, 5, none⟩ = some (.string ⟨#[]⟩) := blk_cell hZ 5
    refine bodyPost_ret (v := .tuple #[.agg #[.int .i64 0, .int .i64 0, .string ⟨#[]⟩, .string ⟨#[]⟩, .int .i64 0, .string ⟨#[]⟩], .bool false]) (by simp [results, Tryz.results78, go_sem, r0, r1, r2, r3, r4, r5]) rfl ?_
    exact ⟨(0, 0, ⟨#[]⟩, ⟨#[]⟩, 0, ⟨#[]⟩), by rw [HR.out.1] <;> rfl, fun p hp => absurd hp (HR.out.2 p), hbZ⟩
  have hk15 : 1 ≤ ki ∧ ki ≤ 5 := HKI.out.1 rfl
  have HG := Lib.hid (HGOOD.out rfl)
  clear HGOOD HBAD HKI HIK k0 k1 k2 k3 k4 k5 q0 q1 q2 q3 q4 q5
  have HRT := Lib.hid fun (a' : Option Addr) (c : Nat) (h2 : r ≠ [] → a' = some ⟨b, o + 1, none⟩) (h3 : r.length ≤ c) (h4 : c ≤ 9223372036854775807) => strs_tail RL.out a' h2 c h3 h4
  have HQ2 := Lib.hid fun (v' : Value) (hv : RecR TS w 0 v' r) => (show ∃ v'', RecR TS w 0 v'' r ∧ ((W.setCell ⟨w.heap.size, 0, none⟩ v').alloc (.cells #[.bool true] 4)).heap[w.heap.size]? = some (.cells #[v''] 63 (0, 0)) ∧ ((W.setCell ⟨w.heap.size, 0, none⟩ v').alloc (.cells #[.bool true] 4)).heap[w.heap.size + 1]? = some (.cells #[.int .i64 0, .int .i64 0, .string ⟨#[]⟩, .string ⟨#[]⟩, .int .i64 0, .string ⟨#[]⟩] 37 (0, 0)) ∧ ((W.setCell ⟨w.heap.size, 0, none⟩ v').alloc (.cells #[.bool true] 4)).heap[A]? = some (.cells #[.int .i64 0, .int .i64 ki, .string ⟨#[]⟩, .string ⟨#[]⟩, .int .i64 0, .string ⟨#[]⟩] 37 (0, 0)) ∧ Below w.heap.size w ((W.setCell ⟨w.heap.size, 0, none⟩ v').alloc (.cells #[.bool true] 4)) ∧ ((W.setCell ⟨w.heap.size, 0, none⟩ v').alloc (.cells #[.bool true] 4)).heap[W.heap.size]? = some (.cells #[.bool true] 4 (0, 0)) from ⟨v', hv, blk_old (blk_set HWW.out 0 v') _, blk_old (blk_far HWR.out _ 0 v' (by omega)) _, blk_old (blk_far HWA.out _ 0 v' (by have := HLA.out; omega)) _, Bl.alloc (Bl.set HWB.out _ 0 (Nat.le_refl _) v') _, blk_new' _ _ (by simp)⟩)
  go_upto_region 9 with fail
  have HREL := Lib.hid (HQ2.out _ (HRT.out (if cap = 1 then some ⟨b, o, none⟩ else some ⟨b, o + 1, none⟩) (cap - 1) (fun h => by have h1 := HNR.out; have h2 := List.length_pos_iff.2 h; exact if_neg (by omega)) (by have h1 := HNR.out; omega) (by omega)))
  have e4 : r.length = n - 1 := by rw [HNR.out]; rfl
  rw [e4] at HREL
  generalize (if cap = 1 then some (⟨b, o, none⟩ : Addr) else some ⟨b, o + 1, none⟩) = ad at *
  generalize (W.setCell ⟨w.heap.size, 0, none⟩ _).alloc (.cells #[.bool true] 4) = w6' at *
  obtain ⟨v', h61, h62, h63, h64, h65, hBf⟩ := HREL.out
  obtain ⟨Bf, hBfe⟩ : ∃ B, B = W.heap.size := ⟨_, rfl⟩
  rw [← hBfe] at lA hBf ⊢
  have HBF := Lib.hid hBfe
  obtain ⟨uf, huf⟩ : ∃ q, q = uF ki := ⟨_, rfl⟩
  obtain ⟨ur, hur⟩ : ∃ q, q = uR ki := ⟨_, rfl⟩
  obtain ⟨um, hum⟩ : ∃ q, q = uM ki := ⟨_, rfl⟩
  obtain ⟨ub, hub⟩ : ∃ q, q = uB ki := ⟨_, rfl⟩
  have HUS : Hid (∀ W, Calls Tryz.prog 73 #[.int .i64 ki] W fun e w' => e = .returned (.agg #[.bool uf, .bool ur, .bool um, .bool ub]) ∧ Below W.heap.size W w') := Lib.hid (fun W => usesOf_at hk15.1 hk15.2 huf.symm hur.symm hum.symm hub.symm W)
  have HFW : Hid (fwE m ki r = ((0, ki, (fwA uf (r, true)).1, (fwA ur (fwA uf (r, true)).2).1, (fwN m um (fwA ur (fwA uf (r, true)).2).2).1, (fwA ub (fwN m um (fwA ur (fwA uf (r, true)).2).2).2).1), (fwA ub (fwN m um (fwA ur (fwA uf (r, true)).2).2).2).2)) := Lib.hid (by rw [huf, hur, hum, hub]; rfl)
  have lA6' : A < w6'.heap.size := blk_lt h64
  have a1 : w6'.cell? ⟨A, 1, none⟩ = some (.int .i64 ki) := blk_cell h64 1
  have HH6 := Lib.hid (And.intro h61 (And.intro h62 (And.intro h63 (And.intro h64 (And.intro h65 hBf)))))
  clear h61 h62 h63 h64 h65 hBf hBfe huf hur hum hub g0 g1 g2 g3 g4 g5 cW fW HWW HWR HWA HWB HRT HQ2 HREL e4
  go_wp2_with fail
  refine (HUS.out w6').mono ?_
  rintro e w7 ⟨rfl, hb7⟩
  obtain ⟨w8, hw8⟩ : ∃ w8, w8 = w7.alloc (.cells #[.bool uf, .bool ur, .bool um, .bool ub] 123) := ⟨_, rfl⟩
  have hU8 : w8.heap[w7.heap.size]? = some (.cells #[.bool uf, .bool ur, .bool um, .bool ub] 123 (0, 0)) := by rw [hw8]; exact blk_new _ _
  have hb8 : Below w6'.heap.size w6' w8 := by rw [hw8]; exact Bl.alloc hb7 _
  have HO : Hid (FwO w w.heap.size (w.heap.size + 1) A Bf w7.heap.size) := Lib.hid ⟨Nat.le_refl _, by omega, HLA.out, by omega, Nat.lt_of_lt_of_le (blk_lt HH6.out.2.2.2.2.2) hb7.size⟩
  obtain ⟨s0, hs0⟩ : ∃ s0 : Tks, s0 = (r, true) := ⟨_, rfl⟩
  have HM0 : Hid (FwM w w.heap.size (w.heap.size + 1) A Bf w7.heap.size uf ur um ub (0, ki, ⟨#[]⟩, ⟨#[]⟩, 0, ⟨#[]⟩) s0 w8) := Lib.hid (by
    rw [hs0]
    exact ⟨Bl.trans HH6.out.2.2.2.2.1 hb8, ⟨v', HH6.out.1, blk_below HH6.out.2.1 hb8⟩, blk_below HH6.out.2.2.1 hb8, blk_below HH6.out.2.2.2.1 hb8, blk_below HH6.out.2.2.2.2.2 hb8, hU8⟩)
  have HS0 : Hid (∀ x ∈ s0.1, x.size ≤ 1000000) := Lib.hid (by rw [hs0]; exact HSR.out)
  rw [← hs0] at HFW
  have HS00 := Lib.hid hs0
  have HW8 := Lib.hid hw8
  have u0 : w8.cell? ⟨w7.heap.size, 0, none⟩ = some (.bool uf) := blk_cell HM0.out.us 0
  have lU8 : w7.heap.size < w8.heap.size := blk_lt HM0.out.us
  clear hs0 hU8 hb8 hb7 HH6 HSR a1 hw8 lA6'
  go_upto_region 10 with fail
  rw [← HW8.out]
  generalize w7.heap.size = U at *
  go_upto_if 34 with fail
  obtain ⟨q1, hq1⟩ : ∃ q, q = fwA uf s0 := ⟨_, rfl⟩
  have HQ1 := Lib.hid hq1
  clear hq1
  go_cut [] from 34 to 37 (fun wx => Hid (FwM w w.heap.size (w.heap.size + 1) A Bf U uf ur um ub (0, ki, q1.1, ⟨#[]⟩, 0, ⟨#[]⟩) q1.2 wx))
  case first =>
    cases uf
    · have HREL : Hid (FwM w w.heap.size (w.heap.size + 1) A Bf U false ur um ub (0, ki, q1.1, ⟨#[]⟩, 0, ⟨#[]⟩) q1.2 w8) := Lib.hid (by rw [show q1 = (⟨#[]⟩, s0) from HQ1.out]; exact HM0.out)
      go_wp2
      go_meet
      case rel => exact HREL
    · go_wp2_with fail
      refine (take_any HO.out HM0.out).mono ?_
      rintro e y1 ⟨rfl, hM9⟩
      have z0 := blk_cell hM9.fa 2
      have zf := blk_free hM9.fa 2
      simp at z0
      have HREL : Hid (FwM w w.heap.size (w.heap.size + 1) A Bf U true ur um ub (0, ki, q1.1, ⟨#[]⟩, 0, ⟨#[]⟩) q1.2 (y1.setCell ⟨A, 2, none⟩ (.string (hdT s0)))) := Lib.hid (by rw [show q1 = (hdT s0, nxT s0) from HQ1.out]; exact hM9.put HO.out rfl)
      clear hM9
      go_wp2
      go_meet
      case rel => exact HREL
  case rest =>
  generalize wc = x1 at *
  have HM1 := hcut
  have u1 : x1.cell? ⟨U, 1, none⟩ = some (.bool ur) := blk_cell HM1.out.us 1
  have lU1 : U < x1.heap.size := blk_lt HM1.out.us
  have HS1 : Hid (∀ x ∈ q1.2.1, x.size ≤ 1000000) := Lib.hid (by rw [HQ1.out]; exact fwA_small HS0.out)
  clear HM0
  go_upto_if 39 with fail
  obtain ⟨q2, hq2⟩ : ∃ q, q = fwA ur q1.2 := ⟨_, rfl⟩
  have HQ2 := Lib.hid hq2
  clear hq2
  go_cut [] from 39 to 42 (fun wx => Hid (FwM w w.heap.size (w.heap.size + 1) A Bf U uf ur um ub (0, ki, q1.1, q2.1, 0, ⟨#[]⟩) q2.2 wx))
  case first =>
    cases ur
    · have HREL : Hid (FwM w w.heap.size (w.heap.size + 1) A Bf U uf false um ub (0, ki, q1.1, q2.1, 0, ⟨#[]⟩) q2.2 x1) := Lib.hid (by rw [show q2 = (⟨#[]⟩, q1.2) from HQ2.out]; exact HM1.out)
      go_wp2
      go_meet
      case rel => exact HREL
    · go_wp2_with fail
      refine (take_any HO.out HM1.out).mono ?_
      rintro e y1 ⟨rfl, hM9⟩
      have z1 := blk_cell hM9.fa 3
      have zf := blk_free hM9.fa 3
      simp at z1
      have HREL : Hid (FwM w w.heap.size (w.heap.size + 1) A Bf U uf true um ub (0, ki, q1.1, q2.1, 0, ⟨#[]⟩) q2.2 (y1.setCell ⟨A, 3, none⟩ (.string (hdT q1.2)))) := Lib.hid (by rw [show q2 = (hdT q1.2, nxT q1.2) from HQ2.out]; exact hM9.put HO.out rfl)
      clear hM9
      go_wp2
      go_meet
      case rel => exact HREL
  case rest =>
  generalize wc = x2 at *
  have HM2 := hcut
  have u2 : x2.cell? ⟨U, 2, none⟩ = some (.bool um) := blk_cell HM2.out.us 2
  have lU2 : U < x2.heap.size := blk_lt HM2.out.us
  have HS2 : Hid (∀ x ∈ q2.2.1, x.size ≤ 1000000) := Lib.hid (by rw [HQ2.out]; exact fwA_small HS1.out)
  clear HM1
  go_upto_if 44 with fail
  obtain ⟨q3, hq3⟩ : ∃ q, q = fwN m um q2.2 := ⟨_, rfl⟩
  have HQ3 := Lib.hid hq3
  clear hq3
  go_cut [10, 11] from 44 to 57 (fun v10 v11 wx => Hid (FwM w w.heap.size (w.heap.size + 1) A Bf U uf ur um ub (0, ki, q1.1, q2.1, q3.1, ⟨#[]⟩) q3.2 wx))
  case first =>
    cases um
    · have HREL : Hid (FwM w w.heap.size (w.heap.size + 1) A Bf U uf ur false ub (0, ki, q1.1, q2.1, q3.1, ⟨#[]⟩) q3.2 x2) := Lib.hid (by rw [show q3 = (0, q2.2) from HQ3.out]; exact HM2.out)
      go_wp2
      go_meet
      case rel => exact HREL
    · go_wp2_with fail
      refine (take_any HO.out HM2.out).mono ?_
      rintro e y1 ⟨rfl, hM9⟩
      obtain ⟨nv, hnv⟩ : ∃ n, n = (numT m (bsOf (hdT q2.2))).getD 0 := ⟨_, rfl⟩
      obtain ⟨ok, hok⟩ : ∃ n, n = (numT m (bsOf (hdT q2.2))).isSome := ⟨_, rfl⟩
      have HNU : Hid (∀ W, Calls Tryz.prog 77 #[.string (hdT q2.2), .int .i64 (m : Int)] W fun e w' => e = .returned (.tuple #[.int .i64 nv, .bool ok]) ∧ Below W.heap.size W w') := Lib.hid fun W => by rw [hnv, hok]; exact Number_any (hdT q2.2) m W (by have := (tks_small HS2.out).1; omega) hm
      have HN2 := Lib.hid (And.intro hnv hok)
      have HM9 := Lib.hid hM9
      clear hM9 hnv hok
      go_wp2_with fail
      refine (HNU.out y1).mono ?_
      rintro e y2 ⟨rfl, hb9⟩
      have hM9 := HM9.out.below hb9
      clear hb9 HM9 HNU
      obtain ⟨t9, ht9⟩ : ∃ t, t = nxT q2.2 := ⟨_, rfl⟩
      rw [← ht9] at hM9
      obtain ⟨l9, b9⟩ := t9
      have hne : A ≠ Bf := by have := HO.out.h3; omega
      have z4 := blk_cell hM9.fa 4
      have zf := blk_free hM9.fa 4
      have z5 := blk_cell hM9.bf 0
      have hbf2 := blk_far hM9.bf A 4 (.int .i64 nv) (Ne.symm hne)
      have z6 := blk_cell hbf2 0
      have z7 := blk_free hbf2 0
      simp at z4 z5 z6
      have HM9 := Lib.hid hM9
      have HT9 : Hid ((l9, b9) = nxT q2.2) := Lib.hid ht9
      have HQ9 : Hid (∀ c, c = (b9 && ok) → FwM w w.heap.size (w.heap.size + 1) A Bf U uf ur true ub (0, ki, q1.1, q2.1, q3.1, ⟨#[]⟩) q3.2 ((y2.setCell ⟨A, 4, none⟩ (.int .i64 nv)).setCell ⟨Bf, 0, none⟩ (.bool c))) := Lib.hid fun c hc => by
        have e1 : q3 = (nv, ((nxT q2.2).1, (nxT q2.2).2 && ok)) := by rw [HN2.out.1, HN2.out.2]; exact HQ3.out
        rw [e1, ← HT9.out, hc]
        exact (HM9.out.put (f' := (0, ki, q1.1, q2.1, nv, ⟨#[]⟩)) HO.out rfl).fine HO.out _
      clear hM9 hbf2 ht9 hne
      cases b9
      · have HREL := Lib.hid (HQ9.out false rfl)
        go_wp2
        go_meet
        case rel => exact HREL
      · have HREL := Lib.hid (HQ9.out ok (by simp))
        go_wp2
        go_meet
        case rel => exact HREL
  case rest =>
  generalize wc = x3 at *
  have HM3 := hcut
  have u3 : x3.cell? ⟨U, 3, none⟩ = some (.bool ub) := blk_cell HM3.out.us 3
  have lU3 : U < x3.heap.size := blk_lt HM3.out.us
  clear HM2
  go_upto_if 59 with fail
  obtain ⟨q4, hq4⟩ : ∃ q, q = fwA ub q3.2 := ⟨_, rfl⟩
  have HQ4 := Lib.hid hq4
  clear hq4
  go_cut [] from 59 to 62 (fun wx => Hid (FwM w w.heap.size (w.heap.size + 1) A Bf U uf ur um ub (0, ki, q1.1, q2.1, q3.1, q4.1) q4.2 wx))
  case first =>
    cases ub
    · have HREL : Hid (FwM w w.heap.size (w.heap.size + 1) A Bf U uf ur um false (0, ki, q1.1, q2.1, q3.1, q4.1) q4.2 x3) := Lib.hid (by rw [show q4 = (⟨#[]⟩, q3.2) from HQ4.out]; exact HM3.out)
      go_wp2
      go_meet
      case rel => exact HREL
    · go_wp2_with fail
      refine (take_any HO.out HM3.out).mono ?_
      rintro e y1 ⟨rfl, hM9⟩
      have z3 := blk_cell hM9.fa 5
      have zf := blk_free hM9.fa 5
      simp at z3
      have HREL : Hid (FwM w w.heap.size (w.heap.size + 1) A Bf U uf ur um true (0, ki, q1.1, q2.1, q3.1, q4.1) q4.2 (y1.setCell ⟨A, 5, none⟩ (.string (hdT q3.2)))) := Lib.hid (by rw [show q4 = (hdT q3.2, nxT q3.2) from HQ4.out]; exact hM9.put HO.out rfl)
      clear hM9
      go_wp2
      go_meet
      case rel => exact HREL
  case rest =>
  generalize wc = x4 at *
  have HM4 := hcut
  clear HM3
  obtain ⟨f4, hf4⟩ : ∃ f : Fed, f = (0, ki, q1.1, q2.1, q3.1, q4.1) := ⟨_, rfl⟩
  obtain ⟨t4, ht4⟩ : ∃ t, t = q4.2 := ⟨_, rfl⟩
  have HE : Hid (fwE m ki r = (f4, t4)) := Lib.hid (by rw [HFW.out, hf4, ht4, HQ4.out, HQ3.out, HQ2.out, HQ1.out])
  rw [← hf4, ← ht4] at HM4
  have HSZ : Hid (f4.2.2.1.size ≤ 140737488355328 ∧ f4.2.2.2.1.size ≤ 140737488355328 ∧ f4.2.2.2.2.2.size ≤ 140737488355328) := Lib.hid (by
    have sm : ∀ (u : Bool) (s : Tks), (∀ x ∈ s.1, x.size ≤ 1000000) → (fwA u s).1.size ≤ 1000000 := fun u s h => by
      unfold fwA
      split
      · exact (tks_small h).1
      · show (0 : Nat) ≤ _; omega
    have h3 : ∀ x ∈ q3.2.1, x.size ≤ 1000000 := by
      rw [HQ3.out]
      unfold fwN
      split
      · exact (tks_small HS2.out).2
      · exact HS2.out
    have k1 := sm uf s0 HS0.out
    have k2 := sm ur q1.2 HS1.out
    have k4 := sm ub q3.2 h3
    rw [← HQ1.out] at k1
    rw [← HQ2.out] at k2
    rw [← HQ4.out] at k4
    rw [hf4]
    exact ⟨by show q1.1.size ≤ _; omega, by show q2.1.size ≤ _; omega, by show q4.1.size ≤ _; omega⟩)
  clear hf4 ht4 HFW HQ1 HQ2 HQ3 HQ4 HS0 HS1 HS2
  obtain ⟨l4, b4⟩ := t4
  obtain ⟨tf, htf⟩ : ∃ t, t = textF f4 := ⟨_, rfl⟩
  have HTF : Hid (∀ W, Calls Tryz.prog 68 #[fedV f4] W fun e w' => e = .returned (.int .i64 tf) ∧ Below W.heap.size W w') := Lib.hid fun W => by rw [htf]; exact textFault_any f4 W HSZ.out
  have HOK : Hid (∀ c : Bool, c = (b4 && l4.isEmpty && decide (tf = 0)) → c = (frFd m ((x :: r).map bsOf)).isSome) := Lib.hid fun c hc => by
    rw [HG.out.1]
    unfold fwOk
    rw [HE.out, hc, htf]
  have HFE : Hid (∀ p, frFd m ((x :: r).map bsOf) = some p → f4 = (0, p)) := Lib.hid fun p hp => by
    have := HG.out.2 p hp
    rw [HE.out] at this
    exact this
  obtain ⟨fa, fk, fd, fr, fm, fb⟩ := f4
  obtain ⟨ov, hov1, hov2⟩ := HM4.out.bw
  obtain ⟨oa, ocap, rfl, _, _⟩ := hov1.form
  obtain ⟨n4, hn4⟩ : ∃ n, n = l4.length := ⟨_, rfl⟩
  have y0 : x4.cell? ⟨w.heap.size, 0, none⟩ = some (.slice oa n4 ocap) := by rw [hn4]; exact blk_cell hov2 0
  have y1 : x4.cell? ⟨Bf, 0, none⟩ = some (.bool b4) := blk_cell HM4.out.bf 0
  have HN4 := Lib.hid hn4
  have g0 : x4.cell? ⟨A, 0, none⟩ = some (.int .i64 fa) := blk_cell HM4.out.fa 0
  have g1 : x4.cell? ⟨A, 1, none⟩ = some (.int .i64 fk) := blk_cell HM4.out.fa 1
  have g2 : x4.cell? ⟨A, 2, none⟩ = some (.string fd) := blk_cell HM4.out.fa 2
  have g3 : x4.cell? ⟨A, 3, none⟩ = some (.string fr) := blk_cell HM4.out.fa 3
  have g4 : x4.cell? ⟨A, 4, none⟩ = some (.int .i64 fm) := blk_cell HM4.out.fa 4
  have g5 : x4.cell? ⟨A, 5, none⟩ = some (.string fb) := blk_cell HM4.out.fa 5
  have k0 : x4.cell? ⟨w.heap.size + 1, 0, none⟩ = some (.int .i64 0) := blk_cell HM4.out.br 0
  have k1 : x4.cell? ⟨w.heap.size + 1, 1, none⟩ = some (.int .i64 0) := blk_cell HM4.out.br 1
  have k2 : x4.cell? ⟨w.heap.size + 1, 2, none⟩ = some (.string ⟨#[]⟩) := blk_cell HM4.out.br 2
  have k3 : x4.cell? ⟨w.heap.size + 1, 3, none⟩ = some (.string ⟨#[]⟩) := blk_cell HM4.out.br 3
  have k4 : x4.cell? ⟨w.heap.size + 1, 4, none⟩ = some (.int .i64 0) := blk_cell HM4.out.br 4
  have k5 : x4.cell? ⟨w.heap.size + 1, 5, none⟩ = some (.string ⟨#[]⟩) := blk_cell HM4.out.br 5
  have q0 := blk_free HM4.out.br 0
  have q1 := blk_free HM4.out.br 1
  have q2 := blk_free HM4.out.br 2
  have q3 := blk_free HM4.out.br 3
  have q4 := blk_free HM4.out.br 4
  have q5 := blk_free HM4.out.br 5
  have HFIN : Hid (∀ W', Below w.heap.size w W' → W'.heap[w.heap.size + 1]? = some (.cells #[.int .i64 0, .int .i64 0, .string ⟨#[]⟩, .string ⟨#[]⟩, .int .i64 0, .string ⟨#[]⟩] 37 (0, 0)) → ((((((W'.setCell ⟨w.heap.size + 1, 0, none⟩ (.int .i64 fa)).setCell ⟨w.heap.size + 1, 1, none⟩ (.int .i64 fk)).setCell ⟨w.heap.size + 1, 2, none⟩ (.string fd)).setCell ⟨w.heap.size + 1, 3, none⟩ (.string fr)).setCell ⟨w.heap.size + 1, 4, none⟩ (.int .i64 fm)).setCell ⟨w.heap.size + 1, 5, none⟩ (.string fb)).heap[w.heap.size + 1]? = some (.cells #[.int .i64 fa, .int .i64 fk, .string fd, .string fr, .int .i64 fm, .string fb] 37 (0, 0)) ∧ Below w.heap.size w ((((((W'.setCell ⟨w.heap.size + 1, 0, none⟩ (.int .i64 fa)).setCell ⟨w.heap.size + 1, 1, none⟩ (.int .i64 fk)).setCell ⟨w.heap.size + 1, 2, none⟩ (.string fd)).setCell ⟨w.heap.size + 1, 3, none⟩ (.string fr)).setCell ⟨w.heap.size + 1, 4, none⟩ (.int .i64 fm)).setCell ⟨w.heap.size + 1, 5, none⟩ (.string fb))) := Lib.hid fun W' h1 h2 => ⟨(blk_set (blk_set (blk_set (blk_set (blk_set (blk_set h2 0 (.int .i64 fa)) 1 (.int .i64 fk)) 2 (.string fd)) 3 (.string fr)) 4 (.int .i64 fm)) 5 (.string fb)), (Bl.set (Bl.set (Bl.set (Bl.set (Bl.set (Bl.set h1 (w.heap.size + 1) 0 (Nat.le_succ _) (.int .i64 fa)) (w.heap.size + 1) 1 (Nat.le_succ _) (.int .i64 fk)) (w.heap.size + 1) 2 (Nat.le_succ _) (.string fd)) (w.heap.size + 1) 3 (Nat.le_succ _) (.string fr)) (w.heap.size + 1) 4 (Nat.le_succ _) (.int .i64 fm)) (w.heap.size + 1) 5 (Nat.le_succ _) (.string fb))⟩
  have HB4 := Lib.hid HM4.out.bel
  have HR4 := Lib.hid HM4.out.br
  have HFA4 := Lib.hid HM4.out.fa
  have ly : w.heap.size < x4.heap.size := blk_lt hov2
  have lA4 : A < x4.heap.size := blk_lt HM4.out.fa
  have lB4 : Bf < x4.heap.size := blk_lt HM4.out.bf
  clear hov1 hov2 HM4 HE HG HSZ htf hn4
  have HCELL : Hid (∀ W', Below x4.heap.size x4 W' → (W'.cell? ⟨A, 0, none⟩ = some (.int .i64 fa) ∧ W'.cell? ⟨A, 1, none⟩ = some (.int .i64 fk) ∧ W'.cell? ⟨A, 2, none⟩ = some (.string fd) ∧ W'.cell? ⟨A, 3, none⟩ = some (.string fr) ∧ W'.cell? ⟨A, 4, none⟩ = some (.int .i64 fm) ∧ W'.cell? ⟨A, 5, none⟩ = some (.string fb)) ∧ (W'.cell? ⟨w.heap.size + 1, 0, none⟩ = some (.int .i64 0) ∧ W'.cell? ⟨w.heap.size + 1, 1, none⟩ = some (.int .i64 0) ∧ W'.cell? ⟨w.heap.size + 1, 2, none⟩ = some (.string ⟨#[]⟩) ∧ W'.cell? ⟨w.heap.size + 1, 3, none⟩ = some (.string ⟨#[]⟩) ∧ W'.cell? ⟨w.heap.size + 1, 4, none⟩ = some (.int .i64 0) ∧ W'.cell? ⟨w.heap.size + 1, 5, none⟩ = some (.string ⟨#[]⟩)) ∧ (W'.frozen? ⟨w.heap.size + 1, 0, none⟩ = false ∧ W'.frozen? ⟨w.heap.size + 1, 1, none⟩ = false ∧ W'.frozen? ⟨w.heap.size + 1, 2, none⟩ = false ∧ W'.frozen? ⟨w.heap.size + 1, 3, none⟩ = false ∧ W'.frozen? ⟨w.heap.size + 1, 4, none⟩ = false ∧ W'.frozen? ⟨w.heap.size + 1, 5, none⟩ = false) ∧ w.heap.size + 1 < W'.heap.size ∧ A < W'.heap.size ∧ Below w.heap.size w W' ∧ W'.heap[w.heap.size + 1]? = some (.cells #[.int .i64 0, .int .i64 0, .string ⟨#[]⟩, .string ⟨#[]⟩, .int .i64 0, .string ⟨#[]⟩] 37 (0, 0))) := Lib.hid fun W' hb => by
    have h1 := blk_below HFA4.out hb
    have h2 := blk_below HR4.out hb
    exact ⟨⟨blk_cell h1 0, blk_cell h1 1, blk_cell h1 2, blk_cell h1 3, blk_cell h1 4, blk_cell h1 5⟩, ⟨blk_cell h2 0, blk_cell h2 1, blk_cell h2 2, blk_cell h2 3, blk_cell h2 4, blk_cell h2 5⟩, ⟨blk_free h2 0, blk_free h2 1, blk_free h2 2, blk_free h2 3, blk_free h2 4, blk_free h2 5⟩, blk_lt h2, blk_lt h1, Bl.trans HB4.out hb, h2⟩
  go_upto_region 19 with fail
  go_cut [5] from 63 to 74 (fun v5 wx => ∃ c : Bool, v5 = .bool c ∧ Hid (c = (b4 && l4.isEmpty && decide (tf = 0)) ∧ wx.heap[w.heap.size + 1]? = some (.cells #[.int .i64 fa, .int .i64 fk, .string fd, .string fr, .int .i64 fm, .string fb] 37 (0, 0)) ∧ Below w.heap.size w wx))
  case first =>
    have lBr : w.heap.size + 1 < x4.heap.size := blk_lt HR4.out
    have HZ0 := Lib.hid (HFIN.out x4 HB4.out HR4.out)
    cases b4
    · go_region_with (fail)
      all_goals (
        go_wp2_with fail
        go_meet
        case rel => exact ⟨_, rfl, Lib.hid ⟨by simp, by rw [drew_heap9]; exact HZ0.out.1, Below.drew HZ0.out.2⟩⟩)
    · by_cases hl4 : n4 = 0
      · have hln : l4 = [] := List.eq_nil_of_length_eq_zero (by rw [← HN4.out]; exact hl4)
        subst hln hl4
        go_region_with (first | (go_at_call 68; refine (HTF.out _).mono ?_; rintro e w' ⟨rfl, hb'⟩; obtain ⟨⟨m0, m1, m2, m3, m4, m5⟩, ⟨p0, p1, p2, p3, p4, p5⟩, ⟨n0, n1, n2, n3, n4, n5⟩, ll1, ll2, hbw, hbr⟩ := HCELL.out w' (Bl.trans (Below.drew (Below.refl _ _)) hb'); have HBW := Lib.hid hbw; have HBR := Lib.hid hbr; clear hb' hbw hbr))
        all_goals (
          go_wp2_with fail
          go_meet
          case rel => exact ⟨_, rfl, Lib.hid ⟨by by_cases h : tf = 0 <;> simp [h], HFIN.out _ HBW.out HBR.out⟩⟩)
      · have e8 : ¬ (n4 : Int) = 0 := by omega
        have e9 : ((n4 : Int) == 0) = false := by simpa using e8
        have HL4 : Hid (l4.isEmpty = false) := Lib.hid (by cases l4 with | nil => exact absurd HN4.out hl4 | cons _ _ => rfl)
        clear hl4
        go_region_with (fail)
        all_goals (
          go_wp2_with fail
          go_meet
          case rel => exact ⟨_, rfl, Lib.hid ⟨by rw [HL4.out] <;> simp, by rw [drew_heap9]; exact HZ0.out.1, Below.drew HZ0.out.2⟩⟩)
  case rest =>
  obtain ⟨c, rfl, hc⟩ := hcut
  generalize wc = w9 at *
  have hZ := hc.out.2.1
  have r0 : w9.cell? ⟨w.heap.size + 1, 0, none⟩ = some (.int .i64 fa) := blk_cell hZ 0
  have r1 : w9.cell? ⟨w.heap.size + 1, 1, none⟩ = some (.int .i64 fk) := blk_cell hZ 1
  have r2 : w9.cell? ⟨w.heap.size + 1, 2, none⟩ = some (.string fd) := blk_cell hZ 2
  have r3 : w9.cell? ⟨w.heap.size + 1, 3, none⟩ = some (.string fr) := blk_cell hZ 3
  have r4 : w9.cell? ⟨w.heap.size + 1, 4, none⟩ = some (.int .i64 fm) := blk_cell hZ 4
  have r5 : w9.cell? ⟨w.heap.size + 1, 5, none⟩ = some (.string fb) := blk_cell hZ 5
  clear hZ
  go_wp2
  refine bodyPost_ret (v := .tuple #[.agg #[.int .i64 fa, .int .i64 fk, .string fd, .string fr, .int .i64 fm, .string fb], .bool c]) (by simp [results, Tryz.results78, go_sem, r0, r1, r2, r3, r4, r5]) rfl ?_
  have hcc := HOK.out c hc.out.1
  first
    | exact ⟨(fa, fk, fd, fr, fm, fb), by rw [hcc] <;> rfl, HFE.out, hc.out.2.2⟩
    | exact ⟨fa, fk, fd, fr, fm, fb, by rw [hcc] <;> rfl, fun a1 a2 a3 a4 a5 h9 => (by have h8 := HFE.out (a1, a2, a3, a4, a5) h9; simpa using h8), hc.out.2.2⟩
end Go.Proofs.YtilhonppgedoiaaGreatDoor
