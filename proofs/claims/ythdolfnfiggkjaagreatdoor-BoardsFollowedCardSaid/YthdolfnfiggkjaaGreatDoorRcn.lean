/- What a board is like in the reference's shop: condition, ConditionAt; SameCondition of equal ones. Conditions: names of at most 1000 bytes, right steps. · slices.Equal of equal rows of strings. -/
import Derived.Test.YthdolfnfiggkjaaGreatDoorTho
import Derived.Deep.RegionWith
namespace Go.Proofs.YthdolfnfiggkjaaGreatDoor
open Go.RowKit Go.Sort Go.Maps Go.Shelf Go.Lib

set_option maxHeartbeats 4000000 in
set_option maxRecDepth 100000 in
theorem RCondition_any (S : Nat) (rh rr : Int) (m : Sm Bd0) (bs : ByteArray) (w : World) (h : ShopB w S rh rr m) (hbs : bs.size ≤ 1000) :
    Calls Tryz.prog 100 #[.pointer (some ⟨S, 0, none⟩), .string bs] w fun e w' => (∃ v, e = .returned (condV ((m.get (bsOf bs)).getD newB) v) ∧ OwnR TS w' 0 v (((m.get (bsOf bs)).getD newB).op.keys.map baOf)) ∧ Below w.heap.size w w' := by
  obtain ⟨L, hL, hLm⟩ := h
  have lS := hL.lt
  have hbm : bs.size ≤ maxLen := by unfold maxLen; omega
  have c1 : w.cell? ⟨S, 2, none⟩ = some (.map (some (S - 1))) := blk_cell hL.blk 2
  have hb0 := Bl.alloc (Below.refl w.heap.size w) (.cells #[.int .i64 0, .int .i64 0, .int .i64 0, .slice none 0 0] 58)
  have hC0 := blk_new w (.cells #[.int .i64 0, .int .i64 0, .int .i64 0, .slice none 0 0] 58)
  have hl0 := (hL.map.alloc (.cells #[.int .i64 0, .int .i64 0, .int .i64 0, .slice none 0 0] 58)).look TPL.ok bs hbm
  rw [Sm.get_mapv] at hl0
  have HGM : Hid (m.get (bsOf bs) = (L.get bs.data.toList).map (·.2)) := Lib.hid (by rw [← hLm, Sm.get_mapv]; rfl)
  obtain ⟨b, hb⟩ : ∃ b, b = (m.get (bsOf bs)).getD newB := ⟨_, rfl⟩
  rw [← hb]
  have HBE := Lib.hid hb
  clear hb
  cases hg : L.get bs.data.toList
  case some x =>
    obtain ⟨g, b2⟩ := x
    have hbe : b = b2 := by rw [HBE.out, HGM.out, hg]; rfl
    subst hbe
    rw [hg] at hl0
    have hl1 : (Instr.lookup 159 (.map (some (S - 1))) (.string bs) false).run Tryz.prog (w.alloc (.cells #[.int .i64 0, .int .i64 0, .int .i64 0, .slice none 0 0] 58)) = .ok (.pointer (some ⟨g, 0, none⟩)) (w.alloc (.cells #[.int .i64 0, .int .i64 0, .int .i64 0, .slice none 0 0] 58)) := hl0
    have hM := (hL.brd _ (Sm.get_mem hg)).2
    have lg := hM.lt
    obtain ⟨_, _, _, v, hbk, hov⟩ := hM
    obtain ⟨va, vn, vc, rfl⟩ : ∃ a n c, v = .slice a n c := by obtain ⟨a, c, hv, _, _⟩ := hov.form; exact ⟨a, _, c, hv⟩
    have d0 : w.cell? ⟨g, 0, none⟩ = some (.int .i64 b.st) := blk_cell hbk 0
    have d1 : w.cell? ⟨g, 1, none⟩ = some (.int .i64 b.si) := blk_cell hbk 1
    have d2 : w.cell? ⟨g, 2, none⟩ = some (.int .i64 b.he) := blk_cell hbk 2
    have d3 : w.cell? ⟨g, 3, none⟩ = some (.slice va vn vc) := blk_cell hbk 3
    have HR := Lib.hid fun U (hU : Below w.heap.size w U) => hov.below hU
    simp only at lg
    clear hbk hov hl0 hg hL hLm hb0 hC0
    go_enter Tryz.func100, Tryz.ntmps100
    go_wp2_with fail
    have hX := blk_new w (.cells #[.int .i64 b.st, .int .i64 b.si, .int .i64 b.he, .slice va vn vc] 58)
    have hbX := Bl.alloc (Below.refl w.heap.size w) (.cells #[.int .i64 b.st, .int .i64 b.si, .int .i64 b.he, .slice va vn vc] 58)
    generalize w.alloc (.cells #[.int .i64 b.st, .int .i64 b.si, .int .i64 b.he, .slice va vn vc] 58) = w3 at *
    have r0 : w3.cell? ⟨w.heap.size, 0, none⟩ = some (.int .i64 b.st) := blk_cell hX 0
    have r1 : w3.cell? ⟨w.heap.size, 1, none⟩ = some (.int .i64 b.si) := blk_cell hX 1
    have r2 : w3.cell? ⟨w.heap.size, 2, none⟩ = some (.int .i64 b.he) := blk_cell hX 2
    have r3 : w3.cell? ⟨w.heap.size, 3, none⟩ = some (.slice va vn vc) := blk_cell hX 3
    refine bodyPost_ret (v := .agg #[.int .i64 b.st, .int .i64 b.si, .int .i64 b.he, .slice va vn vc]) (by simp [results, Tryz.results100, go_sem, r0, r1, r2, r3]) rfl ?_
    exact ⟨⟨_, rfl, HR.out _ hbX⟩, hbX⟩
  case none =>
    have HBN : Hid (b = newB) := Lib.hid (by rw [HBE.out, HGM.out, hg]; rfl)
    rw [hg] at hl0
    have hl1 : (Instr.lookup 159 (.map (some (S - 1))) (.string bs) false).run Tryz.prog (w.alloc (.cells #[.int .i64 0, .int .i64 0, .int .i64 0, .slice none 0 0] 58)) = .ok (.pointer none) (w.alloc (.cells #[.int .i64 0, .int .i64 0, .int .i64 0, .slice none 0 0] 58)) := hl0
    clear hl0 hg hL hLm hb0 hC0
    go_enter Tryz.func100, Tryz.ntmps100
    go_wp2_with fail
    have hX := blk_new w (.cells #[.int .i64 1, .int .i64 0, .int .i64 0, .slice none 0 0] 58)
    have hbX := Bl.alloc (Below.refl w.heap.size w) (.cells #[.int .i64 1, .int .i64 0, .int .i64 0, .slice none 0 0] 58)
    generalize w.alloc (.cells #[.int .i64 1, .int .i64 0, .int .i64 0, .slice none 0 0] 58) = w3 at *
    have r0 : w3.cell? ⟨w.heap.size, 0, none⟩ = some (.int .i64 1) := blk_cell hX 0
    have r1 : w3.cell? ⟨w.heap.size, 1, none⟩ = some (.int .i64 0) := blk_cell hX 1
    have r2 : w3.cell? ⟨w.heap.size, 2, none⟩ = some (.int .i64 0) := blk_cell hX 2
    have r3 : w3.cell? ⟨w.heap.size, 3, none⟩ = some (.slice none 0 0) := blk_cell hX 3
    refine bodyPost_ret (v := .agg #[.int .i64 1, .int .i64 0, .int .i64 0, .slice none 0 0]) (by simp [results, Tryz.results100, go_sem, r0, r1, r2, r3]) rfl ?_
    exact ⟨⟨.slice none 0 0, by rw [HBN.out]; rfl, by rw [HBN.out]; exact OwnR.nil _ _⟩, hbX⟩
theorem SEqual_any (l : List ByteArray) (v u : Value) (w : World) (hl : l.length ≤ 100000) (rl : RecR TS w 0 v l) (rm : RecR TS w 0 u l) :
    Calls Tryz.prog 42 #[v, u] w fun e w' => e = .returned (.bool true) ∧ Below w.heap.size w w' := by
  obtain ⟨a1, c1, rfl, _, _⟩ := rl.form
  obtain ⟨a2, c2, rfl, _, _⟩ := rm.form
  by_cases h0 : l = []
  · subst h0
    refine (Tryz.slices_Equal_string_empty a1 a2 c1 0 c2 w (by omega)).mono ?_
    rintro e w' ⟨rfl, rfl⟩
    exact ⟨rfl, Below.refl _ _⟩
  · obtain ⟨y, hy⟩ : ∃ y, l[0]? = some y := ⟨_, List.getElem?_eq_getElem (List.length_pos_iff.2 h0)⟩
    obtain ⟨b1, o1, rfl, _, _, _⟩ := str_at rl hy
    obtain ⟨b2, o2, rfl, _, _, _⟩ := str_at rm hy
    refine (Tryz.slices_Equal_string b1 o1 l.length c1 b2 o2 l.length c2 l l w (Nat.le_refl _) (Nat.le_refl _) (by omega) (by omega) (str_cells rl) (str_cells rm)).mono ?_
    rintro e w' ⟨rfl, q, rfl⟩
    exact ⟨by simp, Bl.drewN (Below.refl _ _) q⟩
set_option maxHeartbeats 4000000 in
theorem RConditionAt_any (rh rr : Int) (l : List Stp) (bs : ByteArray) (at' : Int) (v : Value) (w : World) (rl : RecR TSt w 0 v l) (hl : stepsF l = 0) (hbs : bs.size ≤ 1000) :
    Calls Tryz.prog 35 #[.agg #[.int .i64 rh, .int .i64 rr], v, .string bs, .int .i64 at'] w fun e w' => (∃ u, e = .returned (condV (((runS rh rr at' [] l).get (bsOf bs)).getD newB) u) ∧ OwnR TS w' 0 u ((((runS rh rr at' [] l).get (bsOf bs)).getD newB).op.keys.map baOf)) ∧ Below w.heap.size w w' := by
  have hA := Bl.alloc (Bl.alloc (Below.refl w.heap.size w) (.cells #[.int .i64 rh, .int .i64 rr] 27)) (.cells #[.int .i64 0, .int .i64 0, .int .i64 0, .slice none 0 0] 58)
  have hC := blk_new' (w.alloc (.cells #[.int .i64 rh, .int .i64 rr] 27)) (.cells #[.int .i64 0, .int .i64 0, .int .i64 0, .slice none 0 0] 58) (g := w.heap.size + 1) (by simp)
  have HC := Lib.hid (RShopAt_any rh rr at' l v _ (rl.below hA) hl)
  have HA := Lib.hid (And.intro hA hC)
  clear rl hl hA hC
  obtain ⟨b, hb⟩ : ∃ b, b = ((runS rh rr at' [] l).get (bsOf bs)).getD newB := ⟨_, rfl⟩
  rw [← hb]
  have HB := Lib.hid hb
  clear hb
  go_enter Tryz.func35, Tryz.ntmps35
  go_wp2_with fail
  refine HC.out.mono ?_
  rintro e w1 ⟨S, ov, wv, rfl, hS, ho, hw, hS1, hb1⟩
  have hR := RCondition_any S rh rr _ bs w1 hS hbs
  rw [← HB.out] at hR
  have HR := Lib.hid hR
  have hC1 := blk_below HA.out.2 hb1
  have hB1 := Bl.trans HA.out.1 hb1
  clear hR hS ho hw hS1 hb1 HC
  go_wp2_with fail
  refine HR.out.mono ?_
  rintro e w2 ⟨⟨u, rfl, hu⟩, hb2⟩
  obtain ⟨va, vn, vc, rfl⟩ : ∃ a n c, u = .slice a n c := by obtain ⟨a, c, hv, _, _⟩ := hu.form; exact ⟨a, _, c, hv⟩
  have hC2 := blk_below hC1 hb2
  have hB2 := Bl.trans hB1 hb2
  have lw := blk_lt hC2
  have g0 := blk_free hC2 0
  have g1 := blk_free hC2 1
  have g2 := blk_free hC2 2
  have g3 := blk_free hC2 3
  have k0 : w2.cell? ⟨w.heap.size + 1, 0, none⟩ = some (.int .i64 0) := blk_cell hC2 0
  have k1 : w2.cell? ⟨w.heap.size + 1, 1, none⟩ = some (.int .i64 0) := blk_cell hC2 1
  have k2 : w2.cell? ⟨w.heap.size + 1, 2, none⟩ = some (.int .i64 0) := blk_cell hC2 2
  have k3 : w2.cell? ⟨w.heap.size + 1, 3, none⟩ = some (.slice none 0 0) := blk_cell hC2 3
  have hX := blk_set (blk_set (blk_set (blk_set hC2 0 (.int .i64 b.st)) 1 (.int .i64 b.si)) 2 (.int .i64 b.he)) 3 (.slice va vn vc)
  have hbX := Bl.set (Bl.set (Bl.set (Bl.set hB2 (w.heap.size + 1) 0 (Nat.le_succ _) (.int .i64 b.st)) (w.heap.size + 1) 1 (Nat.le_succ _) (.int .i64 b.si)) (w.heap.size + 1) 2 (Nat.le_succ _) (.int .i64 b.he)) (w.heap.size + 1) 3 (Nat.le_succ _) (.slice va vn vc)
  have hgX : w2.grownBy ((((w2.setCell ⟨w.heap.size + 1, 0, none⟩ (.int .i64 b.st)).setCell ⟨w.heap.size + 1, 1, none⟩ (.int .i64 b.si)).setCell ⟨w.heap.size + 1, 2, none⟩ (.int .i64 b.he)).setCell ⟨w.heap.size + 1, 3, none⟩ (.slice va vn vc)) (some (w.heap.size + 1)) := Gr.set (Gr.set (Gr.set (Gr.set (Gr.refl _ _) _ 0 (.inl rfl) _) _ 1 (.inl rfl) _) _ 2 (.inl rfl) _) _ 3 (.inl rfl) _
  have hu3 := hu.keepT (X := fun i => i = w.heap.size + 1) (Kp.of_gr hgX rfl) fun i cur hi e => by
    subst e
    rw [hC2] at hi
    injection hi with hi
    injection hi with _ hi _
    exact absurd hi (by decide)
  have HU := Lib.hid (And.intro hu3 (And.intro hX hbX))
  clear hu hu3 hX hbX hgX hC1 hC2 hB1 hB2 hb2
  unfold condV
  go_wp2
  obtain ⟨hu3, hX, hbX⟩ := HU.out
  clear HU
  generalize (((w2.setCell ⟨w.heap.size + 1, 0, none⟩ (.int .i64 b.st)).setCell ⟨w.heap.size + 1, 1, none⟩ (.int .i64 b.si)).setCell ⟨w.heap.size + 1, 2, none⟩ (.int .i64 b.he)).setCell ⟨w.heap.size + 1, 3, none⟩ (.slice va vn vc) = w3 at *
  have r0 : w3.cell? ⟨w.heap.size + 1, 0, none⟩ = some (.int .i64 b.st) := blk_cell hX 0
  have r1 : w3.cell? ⟨w.heap.size + 1, 1, none⟩ = some (.int .i64 b.si) := blk_cell hX 1
  have r2 : w3.cell? ⟨w.heap.size + 1, 2, none⟩ = some (.int .i64 b.he) := blk_cell hX 2
  have r3 : w3.cell? ⟨w.heap.size + 1, 3, none⟩ = some (.slice va vn vc) := blk_cell hX 3
  refine bodyPost_ret (v := .agg #[.int .i64 b.st, .int .i64 b.si, .int .i64 b.he, .slice va vn vc]) (by simp [results, Tryz.results35, go_sem, r0, r1, r2, r3]) rfl ?_
  exact ⟨⟨_, rfl, hu3⟩, hbX⟩
set_option maxHeartbeats 4000000 in
set_option maxRecDepth 100000 in
theorem SameC_any (b : Bd0) (u v : Value) (w : World) (hl : b.op.length ≤ 100000) (rl : RecR TS w 0 u (b.op.keys.map baOf)) (rm : RecR TS w 0 v (b.op.keys.map baOf)) :
    Calls Tryz.prog 41 #[condV b u, condV b v] w fun e w' => e = .returned (.bool true) ∧ Below w.heap.size w w' := by
  obtain ⟨a1, c1, rfl, _, _⟩ := rl.form
  obtain ⟨a2, c2, rfl, _, _⟩ := rm.form
  generalize (b.op.keys.map baOf).length = n at *
  have hA := Bl.alloc (Bl.alloc (Below.refl w.heap.size w) (.cells #[.int .i64 b.st, .int .i64 b.si, .int .i64 b.he, .slice a1 n c1] 58)) (.cells #[.int .i64 b.st, .int .i64 b.si, .int .i64 b.he, .slice a2 n c2] 58)
  have HE := Lib.hid (SEqual_any _ (.slice a1 n c1) (.slice a2 n c2) _ (by rw [List.length_map, keys_len]; exact hl) (rl.below hA) (rm.below hA))
  have HA := Lib.hid hA
  clear rl rm hA
  unfold condV
  go_enter Tryz.func41, Tryz.ntmps41
  go_wp2_with fail
  refine HE.out.mono ?_
  rintro e w2 ⟨rfl, hb2⟩
  have hB := Bl.trans HA.out hb2
  go_wp2
  go_ret
  exact ⟨rfl, hB⟩
end Go.Proofs.YthdolfnfiggkjaaGreatDoor
