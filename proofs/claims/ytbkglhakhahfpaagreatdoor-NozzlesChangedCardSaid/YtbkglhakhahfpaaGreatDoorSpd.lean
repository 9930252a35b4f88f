/- The contracts of Spread, and of Changes, Held and Strokes where something is wrong. Conditions: short lists. -/
import Derived.Test.YtbkglhakhahfpaaGreatDoorSt5
import Derived.Test.YtbkglhakhahfpaaGreatDoorHd8
namespace Go.Proofs.YtbkglhakhahfpaaGreatDoor
open Go.RowKit Go.Sort Go.Maps

theorem ints_some {w : World} {l : List Int} {a : Option Addr} {cap : Nat} (rl : Ints w 0 (.slice a l.length cap) l) (h0 : l ≠ []) : ∃ b o, a = some ⟨b, o, none⟩ ∧ ∀ j, j < l.length → w.cell? ⟨b, o + j, none⟩ = some (.int .i64 (l.getD j 0)) := by
  obtain ⟨x, hx⟩ : ∃ x, l[0]? = some x := ⟨_, List.getElem?_eq_getElem (List.length_pos_iff.2 h0)⟩
  obtain ⟨b, o, rfl, _, _, _⟩ := Ints.at rl hx
  exact ⟨b, o, rfl, Ints.cells rl⟩
theorem MinI_any (l : List Int) (v : Value) (w : World) (h0 : l ≠ []) (hl : l.length ≤ 1000) (rl : Ints w 0 v l) :
    Calls Tryz.prog 42 #[v] w fun e w' => e = .returned (.int .i64 (Lib.minOf l)) ∧ w = w' := by
  obtain ⟨a, cap, rfl, _, _⟩ := Ints.form rl
  obtain ⟨b, o, rfl, hc⟩ := ints_some rl h0
  refine (Tryz.slices_Min_int b o l.length cap l w (List.length_pos_iff.2 h0) (Nat.le_refl _) (by omega) hc).mono ?_
  rintro e w' ⟨rfl, rfl⟩
  exact ⟨by rw [List.take_length], rfl⟩
theorem MaxI_any (l : List Int) (v : Value) (w : World) (h0 : l ≠ []) (hl : l.length ≤ 1000) (rl : Ints w 0 v l) :
    Calls Tryz.prog 43 #[v] w fun e w' => e = .returned (.int .i64 (Lib.maxOf l)) ∧ w = w' := by
  obtain ⟨a, cap, rfl, _, _⟩ := Ints.form rl
  obtain ⟨b, o, rfl, hc⟩ := ints_some rl h0
  refine (Tryz.slices_Max_int b o l.length cap l w (List.length_pos_iff.2 h0) (Nat.le_refl _) (by omega) hc).mono ?_
  rintro e w' ⟨rfl, rfl⟩
  exact ⟨by rw [List.take_length], rfl⟩
def sprV (S : List Int) : Value := if slotF S = 0 then .agg #[.int .i64 (Lib.minOf S), .int .i64 (IntKind.i64.wrap (Lib.maxOf S + 1))] else .agg #[.int .i64 0, .int .i64 0]
set_option maxHeartbeats 2000000 in
theorem Spread_any (S : List Int) (v : Value) (w : World) (hl : S.length ≤ 1000) (rl : Ints w 0 v S) :
    Calls Tryz.prog 38 #[v] w fun e w' => e = .returned (.tuple #[sprV S, .int .i64 (slotF S)]) ∧ Below w.heap.size w w' := by
  have hb0 := Bl.alloc (Below.refl w.heap.size w) (.cells #[.int .i64 0, .int .i64 0] 74)
  have hX0 := blk_new w (.cells #[.int .i64 0, .int .i64 0] 74)
  have rl0 := rl.below hb0
  have HSF := Lib.hid (slotsFault_any S v _ (by omega) rl0)
  obtain ⟨F, hF⟩ : ∃ F, F = slotF S := ⟨_, rfl⟩
  obtain ⟨a, cap, rfl, _, _⟩ := Ints.form rl
  rw [← hF] at HSF ⊢
  have HF := Lib.hid hF
  have RL := Lib.hid rl0
  clear hF rl rl0
  go_enter Tryz.func38, Tryz.ntmps38
  go_wp2_with fail
  generalize w.alloc (.cells #[.int .i64 0, .int .i64 0] 74) = w0 at *
  refine HSF.out.mono ?_
  rintro e w1 ⟨rfl, hb1⟩
  have hX1 := blk_below hX0 hb1
  have hb01 := Bl.trans hb0 hb1
  have rl1 := RL.out.below hb1
  obtain ⟨q0, q1⟩ := blk2 hX1
  have f0 := blk_free hX1 0
  have f1 := blk_free hX1 1
  have f1' := blk_free (blk_set hX1 0 (.int .i64 0)) 1
  by_cases h0 : F = 0
  · subst h0
    have hne := (slotF_zero HF.out.symm).1
    have HMn := Lib.hid (MinI_any S _ w1 hne hl rl1)
    have HMx := Lib.hid (MaxI_any S _ w1 hne hl rl1)
    have HV : Hid (sprV S = .agg #[.int .i64 (Lib.minOf S), .int .i64 (IntKind.i64.wrap (Lib.maxOf S + 1))]) := Lib.hid (if_pos HF.out.symm)
    obtain ⟨mn, hmn⟩ : ∃ z, z = Lib.minOf S := ⟨_, rfl⟩
    obtain ⟨mx, hmx⟩ : ∃ z, IntKind.i64.wrap (Lib.maxOf S + 1) = z := ⟨_, rfl⟩
    rw [← hmn] at HMn HV
    rw [hmx] at HV
    have hX2 := blk_set (blk_set hX1 0 (.int .i64 mn)) 1 (.int .i64 mx)
    have hb2 := Bl.set (Bl.set hb01 w.heap.size 0 (Nat.le_refl _) (.int .i64 mn)) w.heap.size 1 (Nat.le_refl _) (.int .i64 mx)
    clear hne hmn f1'
    go_wp2_with fail
    refine HMn.out.mono ?_
    rintro e w' ⟨rfl, rfl⟩
    go_wp2_with fail
    refine HMx.out.mono ?_
    rintro e w' ⟨rfl, rfl⟩
    go_wp2
    (try rw [hmx])
    generalize (w1.setCell ⟨w.heap.size, 0, none⟩ (.int .i64 mn)).setCell ⟨w.heap.size, 1, none⟩ (.int .i64 mx) = w5 at *
    have t0 : w5.cell? ⟨w.heap.size, 0, none⟩ = some (.int .i64 mn) := blk_cell hX2 0
    have t1 : w5.cell? ⟨w.heap.size, 1, none⟩ = some (.int .i64 mx) := blk_cell hX2 1
    refine bodyPost_ret (v := .tuple #[.agg #[.int .i64 mn, .int .i64 mx], .int .i64 0]) (by simp [results, Tryz.results38, go_sem, t0, t1]) rfl ?_
    exact ⟨by rw [HV.out], hb2⟩
  · have hne := errno_ne h0
    have HV : Hid (sprV S = .agg #[.int .i64 0, .int .i64 0]) := Lib.hid (if_neg (by rw [← HF.out]; exact h0))
    have hX2 := blk_set (blk_set hX1 0 (.int .i64 0)) 1 (.int .i64 0)
    have hb2 := Bl.set (Bl.set hb01 w.heap.size 0 (Nat.le_refl _) (.int .i64 0)) w.heap.size 1 (Nat.le_refl _) (.int .i64 0)
    go_wp2
    generalize (w1.setCell ⟨w.heap.size, 0, none⟩ (.int .i64 0)).setCell ⟨w.heap.size, 1, none⟩ (.int .i64 0) = w5 at *
    have t0 : w5.cell? ⟨w.heap.size, 0, none⟩ = some (.int .i64 0) := blk_cell hX2 0
    have t1 : w5.cell? ⟨w.heap.size, 1, none⟩ = some (.int .i64 0) := blk_cell hX2 1
    refine bodyPost_ret (v := .tuple #[.agg #[.int .i64 0, .int .i64 0], .int .i64 F]) (by simp [results, Tryz.results38, go_sem, t0, t1]) rfl ?_
    exact ⟨by rw [HV.out], hb2⟩
theorem StrokesBad_any (S : List Int) (v : Value) (w : World) (hlen : S.length ≤ 1000) (hF : slotF S ≠ 0) (rl : Ints w 0 v S) :
    Calls Tryz.prog 37 #[v] w fun e w' => e = .returned (.tuple #[.slice none 0 0, .int .i64 0, .int .i64 (slotF S)]) ∧ Below w.heap.size w w' := by
  have HSF := Lib.hid (slotsFault_any S v w hlen rl)
  obtain ⟨a, cap, rfl, _, _⟩ := Ints.form rl
  generalize slotF S = F at *
  have hne := errno_ne hF
  clear rl
  go_enter Tryz.func37, Tryz.ntmps37
  go_wp2_with fail
  refine HSF.out.mono ?_
  rintro e w1 ⟨rfl, hb1⟩
  go_wp2
  go_ret3
  exact ⟨rfl, hb1⟩
theorem ChangesBad_any (ks : List Nm) (h : Int) (vk : Value) (w : World) (hl : ks.length ≤ 100000) (hF : kindF ks h ≠ 0) (hs : ∀ s ∈ ks, s.size ≤ 1000) (rk : RecR TS w 0 vk ks) :
    Calls Tryz.prog 31 #[vk, .int .i64 h] w fun e w' => e = .returned (.tuple #[.int .i64 0, .int .i64 (kindF ks h)]) ∧ Below w.heap.size w w' := by
  have HSF := Lib.hid (kindsFault_any ks h vk w hl hs rk)
  obtain ⟨a, cap, rfl, _, _⟩ := rk.form
  generalize kindF ks h = F at *
  have hne := errno_ne hF
  clear rk
  go_enter Tryz.func31, Tryz.ntmps31
  go_wp2_with fail
  refine HSF.out.mono ?_
  rintro e w1 ⟨rfl, hb1⟩
  go_wp2
  go_ret2
  exact ⟨rfl, hb1⟩
theorem HeldBad_any (ks : List Nm) (h : Int) (vk : Value) (w : World) (hl : ks.length ≤ 100000) (hF : kindF ks h ≠ 0) (hs : ∀ s ∈ ks, s.size ≤ 1000) (rk : RecR TS w 0 vk ks) :
    Calls Tryz.prog 32 #[vk, .int .i64 h] w fun e w' => e = .returned (.tuple #[.slice none 0 0, .int .i64 (kindF ks h)]) ∧ Below w.heap.size w w' := by
  have HSF := Lib.hid (kindsFault_any ks h vk w hl hs rk)
  obtain ⟨a, cap, rfl, _, _⟩ := rk.form
  generalize kindF ks h = F at *
  have hne := errno_ne hF
  clear rk
  go_enter Tryz.func32, Tryz.ntmps32
  go_wp2_with fail
  refine HSF.out.mono ?_
  rintro e w1 ⟨rfl, hb1⟩
  go_wp2
  go_ret2
  exact ⟨rfl, hb1⟩
end Go.Proofs.YtbkglhakhahfpaaGreatDoor
