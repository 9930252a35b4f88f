/- The contract of Strokes. Condition: at most 1000 slots. -/
import Derived.Test.YtbkglhakhahfpaaGreatDoorSt4
namespace Go.Proofs.YtbkglhakhahfpaaGreatDoor
open Go.RowKit Go.Sort Go.Maps

set_option maxHeartbeats 4000000 in
set_option maxRecDepth 100000 in
theorem Strokes_any (S : List Int) (v : Value) (w : World) (hlen : S.length ≤ 1000) (hF : slotF S = 0) (rl : Ints w 0 v S) :
    Calls Tryz.prog 37 #[v] w fun e w' => (∃ vr, e = .returned (.tuple #[vr, .int .i64 ((bestP S).2 : Nat), .int .i64 0]) ∧ Own w' w.heap.size vr (nats (bestP S).1.reverse)) ∧ Below w.heap.size w w' := by
  obtain ⟨a, cap, rfl, hc1, hc2⟩ := Ints.form rl
  obtain ⟨h0, h8, hb⟩ := slotF_zero hF
  have hl1 := List.length_pos_iff.2 h0
  have hmm := @run_makeMap Tryz.prog
  have HF := Lib.hid hF
  have HB := Lib.hid hb
  clear hF hb h0
  obtain ⟨x0, hx0⟩ : ∃ x, S[0]? = some x := ⟨_, List.getElem?_eq_getElem hl1⟩
  obtain ⟨b0, o0, hae, _, hlb, _⟩ := rl.at hx0
  subst hae
  clear hx0
  go_enter Tryz.func37, Tryz.ntmps37
  go_wp2_with fail
  refine (slotsFault_any S _ w hlen rl).mono ?_
  rintro e w1 ⟨rfl, hb1⟩
  rw [HF.out]
  have rl1 := rl.below hb1
  have hz1 := hb1.size
  have hbm := Bl.alloc (Bl.alloc hb1 (.map #[] 0)) (.cells #[.slice (some ⟨b0, o0, none⟩) S.length cap, .slice none 0 0, .int .i64 0, .map (some w1.heap.size), .slice none 0 0, .int .i64 0] 202)
  have hm0 := (MapI.made w1).kept (World.grownBy_alloc (w1.alloc (.map #[] 0)) (.cells #[.slice (some ⟨b0, o0, none⟩) S.length cap, .slice none 0 0, .int .i64 0, .map (some w1.heap.size), .slice none 0 0, .int .i64 0] 202) none) (by simp)
  have hT0 := blk_new' (w1.alloc (.map #[] 0)) (.cells #[.slice (some ⟨b0, o0, none⟩) S.length cap, .slice none 0 0, .int .i64 0, .map (some w1.heap.size), .slice none 0 0, .int .i64 0] 202) (g := w1.heap.size + 1) (by simp)
  have rl2 := (rl1.alloc (.map #[] 0)).alloc (.cells #[.slice (some ⟨b0, o0, none⟩) S.length cap, .slice none 0 0, .int .i64 0, .map (some w1.heap.size), .slice none 0 0, .int .i64 0] 202)
  have hTk : Tk _ w1.heap.size (w1.heap.size + 1) (some ⟨b0, o0, none⟩) cap S [] ([], 0) :=
    ⟨⟨_, _, hT0, Own.nil _ _, Own.nil _ _, ⟨fun _ => rfl, fun _ => rfl⟩, fun g hg => by cases hg⟩, hm0, Nat.lt_succ_self _, rl2, fun b hb => by injection hb with hb; subst hb; simp only; omega⟩
  have HT := Lib.hid (takerTry_any _ _ _ _ S hl1 h8 HB.out S.length [] ([], 0) _ (by simp) List.nodup_nil (by simp) hTk)
  clear hTk hm0 hT0 rl2 rl1 rl
  go_wp2_with fail
  refine HT.out.mono ?_
  rintro e w2 ⟨rfl, hTk, hb2⟩
  have hbF := hbm.trans (hb2.mono (by omega))
  have HG := Lib.hid (bestP_ok hl1)
  obtain ⟨⟨ov, bv, hT2, _, hB2, _, _⟩, _⟩ := hTk
  have hB3 := Own.baseI hB2 (show w.heap.size ≤ w1.heap.size + 1 + 1 by omega)
  have hE : tryP S S.length [] ([], 0) = bestP S := rfl
  rw [hE] at hT2 hB3
  obtain ⟨ba, bcap, hvv, _, _⟩ := Ints.form hB3.ints
  generalize hbl : (nats (bestP S).1.reverse).length = bl at *
  subst hvv
  have d4 : w2.cell? ⟨w1.heap.size + 1, 4, none⟩ = some (.slice ba bl bcap) := blk_cell hT2 4
  have d5 : w2.cell? ⟨w1.heap.size + 1, 5, none⟩ = some (.int .i64 ((bestP S).2 : Nat)) := blk_cell hT2 5
  clear hT2 HT hB2 hE
  go_wp2
  go_region
  go_wp2
  go_ret3
  exact ⟨⟨_, rfl, hB3⟩, Below.drew hbF⟩
end Go.Proofs.YtbkglhakhahfpaaGreatDoor
