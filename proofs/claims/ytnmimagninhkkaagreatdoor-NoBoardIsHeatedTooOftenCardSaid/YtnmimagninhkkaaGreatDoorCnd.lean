/- What a board is like at a moment: Shop.Condition and At over general maps. Conditions: names of at most 1000 bytes. -/
import Derived.Test.YtnmimagninhkkaaGreatDoorFol2
import Derived.Test.YtnmimagninhkkaaGreatDoorHop
import Derived.Test.YtnmimagninhkkaaGreatDoorCond
import Derived.Test.YtnmimagninhkkaaGreatDoorLGen
namespace Go.Proofs.YtnmimagninhkkaaGreatDoor
open Go.RowKit Go.Sort Go.Maps Go.Shelf Go.Lib

theorem encStr_ba (k : Bs) : encStr k = .string (baOf k) := rfl
theorem flat_ba (ks : List Bs) : ks.map encStr = (ks.map baOf).flatMap TS.f := by
  induction ks with
  | nil => rfl
  | cons a l ih => rw [List.map_cons, ih, List.map_cons, List.flatMap_cons]; rfl
theorem own_keys {α : Type} {w : World} {B : Nat} {v : Value} {ss : List Bs} {m : Sm α} (hm : Sm.Ok m) (hp : ss.Perm m.keys) (h : w.ownsRow B 9 1 v ss.length ((ss.mergeSort (fun x y => decide (x ≤ y))).map encStr)) : OwnR TS w B v (m.keys.map baOf) := by
  rw [show ss.mergeSort (fun x y => decide (x ≤ y)) = m.keys from Sm.sort_keys hm hp, flat_ba, hp.length_eq] at h
  unfold OwnR
  rw [List.length_map]
  exact h
/-- a condition as it is returned: its strings lie in memory of the call's own. -/
def condV (b : Bd0) (v : Value) : Value := .agg #[.int .i64 b.st, .int .i64 b.si, .int .i64 b.he, v]
def CondR (w w' : World) (b : Bd0) (v : Value) : Prop := OwnR TS w' w.heap.size v (b.op.keys.map baOf) ∧ (v = .slice none 0 0 ↔ b.op = [])
theorem condB_any (g : Nat) (b : Bd0) (w : World) (h : BrdM w g b) (hs : b.op.length ≤ 100000) :
    Calls Tryz.prog 181 #[.pointer (some ⟨g, 0, none⟩)] w fun e w' => (∃ v, e = .returned (condV b v) ∧ CondR w w' b v) ∧ Below w.heap.size w w' := by
  refine (condition_any g (g - 2) b.op.length b.st b.si b.he b.lp (.map (some (g - 1))) (.map (smD TB b.op)) _ w h.2.1 h.2.2.1.2 (by show (smD TB b.op).length ≤ _; unfold smD; rw [List.length_map]; omega)).mono ?_
  rintro e w' ⟨v, ss, rfl, hp, hr, hn, hb⟩
  rw [smD_keys] at hp
  refine ⟨⟨v, rfl, own_keys h.2.2.1.1 hp hr, hn.trans ?_⟩, hb⟩
  constructor
  · rintro rfl
    have := hp.length_eq
    rw [keys_len] at this
    exact List.eq_nil_of_length_eq_zero this.symm
  · intro e
    rw [e] at hp
    exact List.eq_nil_of_length_eq_zero hp.length_eq
set_option maxHeartbeats 4000000 in
set_option maxRecDepth 100000 in
theorem ShopCond_any (S : Nat) (rh rr : Int) (m : Sm Bd0) (bs : ByteArray) (w0 w : World) (h : ShopA w0 w S rh rr m) (hbs : bs.size ≤ 1000) (hm : AllSm m 100000) :
    Calls Tryz.prog 95 #[.pointer (some ⟨S, 0, none⟩), .string bs] w fun e w' => (∃ v, e = .returned (condV ((m.get (bsOf bs)).getD newB) v) ∧ CondR w w' ((m.get (bsOf bs)).getD newB) v) ∧ Below w.heap.size w w' := by
  obtain ⟨⟨L, hL, hLm⟩, _⟩ := h
  have hS := hL.blk
  have lS := hL.lt
  have hbm : bs.size ≤ maxLen := by unfold maxLen; omega
  have c1 : w.cell? ⟨S, 2, none⟩ = some (.map (some (S - 1))) := blk_cell hS 2
  have hb0 := Bl.alloc (Below.refl w.heap.size w) (.cells #[.int .i64 0, .int .i64 0, .int .i64 0, .slice none 0 0] 46)
  have hC0 := blk_new w (.cells #[.int .i64 0, .int .i64 0, .int .i64 0, .slice none 0 0] 46)
  have hl0 := (hL.map.alloc (.cells #[.int .i64 0, .int .i64 0, .int .i64 0, .slice none 0 0] 46)).look TP.ok bs hbm
  have lw := blk_lt hC0
  rw [Sm.get_mapv] at hl0
  have HGM : Hid (m.get (bsOf bs) = (L.get bs.data.toList).map (·.2)) := Lib.hid (by rw [← hLm, Sm.get_mapv]; rfl)
  have HSM := Lib.hid (hm.get (bsOf bs))
  have HL := Lib.hid (hL.below hb0)
  obtain ⟨b, hb⟩ : ∃ b, b = (m.get (bsOf bs)).getD newB := ⟨_, rfl⟩
  rw [← hb] at HSM ⊢
  have HBE := Lib.hid hb
  clear hb hS hL hLm hm hbs
  cases hg : L.get bs.data.toList
  case' some x =>
    obtain ⟨g, b2⟩ := x
    have hbe : b = b2 := by rw [HBE.out, HGM.out, hg]; rfl
    subst hbe
    rw [hg] at hl0
    have hl1 : (Instr.lookup 130 (.map (some (S - 1))) (.string bs) false).run Tryz.prog (w.alloc (.cells #[.int .i64 0, .int .i64 0, .int .i64 0, .slice none 0 0] 46)) = .ok (.pointer (some ⟨g, 0, none⟩)) (w.alloc (.cells #[.int .i64 0, .int .i64 0, .int .i64 0, .slice none 0 0] 46)) := hl0
    have HC := Lib.hid (condB_any g b _ ((HL.out.brd _ (Sm.get_mem hg)).2) HSM.out.2.2.2.2.1)
    clear hl0 hg
    go_enter Tryz.func95, Tryz.ntmps95
    go_wp2_with fail
    refine HC.out.mono ?_
    rintro e w2 ⟨⟨v, rfl, h2⟩, hb2⟩
    have hb1 := hb0
  case' none =>
    have HBN : Hid (b = newB) := Lib.hid (by rw [HBE.out, HGM.out, hg]; rfl)
    rw [hg] at hl0
    have hl1 : (Instr.lookup 130 (.map (some (S - 1))) (.string bs) false).run Tryz.prog (w.alloc (.cells #[.int .i64 0, .int .i64 0, .int .i64 0, .slice none 0 0] 46)) = .ok (.pointer none) (w.alloc (.cells #[.int .i64 0, .int .i64 0, .int .i64 0, .slice none 0 0] 46)) := hl0
    clear hl0 hg
    go_enter Tryz.func95, Tryz.ntmps95
    go_wp2_with fail
    clear hl1
    generalize w.alloc (.cells #[.int .i64 0, .int .i64 0, .int .i64 0, .slice none 0 0] 46) = wA at *
    refine (newBoard_any _).mono ?_
    rintro e w1 ⟨rfl, hn1, hn2, hn3, hbn, hzn⟩
    have hM : BrdM w1 (wA.heap.size + 1 + 1) b := by rw [HBN.out]; exact ⟨Nat.le_add_left _ _, hn1, MapS.of_blk hn2, MapS.of_blk hn3⟩
    have HC := Lib.hid (condB_any _ b w1 hM HSM.out.2.2.2.2.1)
    have hb1 := Bl.trans hb0 hbn
    have hC0 := blk_below hC0 hbn
    clear hM hn1 hn2 hn3 hbn hzn
    go_wp2_with fail
    refine HC.out.mono ?_
    rintro e w2 ⟨⟨v, rfl, h2⟩, hb2⟩
  all_goals (
    obtain ⟨va, vn, vc, rfl⟩ : ∃ a n c, v = .slice a n c := by obtain ⟨a, c, hv, _, _⟩ := h2.1.form; exact ⟨a, _, c, hv⟩
    have hC2 := blk_below hC0 hb2
    have g0 := blk_free hC2 0
    have g1 := blk_free hC2 1
    have g2 := blk_free hC2 2
    have g3 := blk_free hC2 3
    have k0 : w2.cell? ⟨w.heap.size, 0, none⟩ = some (.int .i64 0) := blk_cell hC2 0
    have k1 : w2.cell? ⟨w.heap.size, 1, none⟩ = some (.int .i64 0) := blk_cell hC2 1
    have k2 : w2.cell? ⟨w.heap.size, 2, none⟩ = some (.int .i64 0) := blk_cell hC2 2
    have k3 : w2.cell? ⟨w.heap.size, 3, none⟩ = some (.slice none 0 0) := blk_cell hC2 3
    have lw := blk_lt hC0
    have hC3 := blk_set (blk_set (blk_set (blk_set hC2 0 (.int .i64 b.st)) 1 (.int .i64 b.si)) 2 (.int .i64 b.he)) 3 (.slice va vn vc)
    have hb3 := Bl.set (Bl.set (Bl.set (Bl.set (Bl.trans hb1 hb2) _ 0 (Nat.le_refl _) (.int .i64 b.st)) _ 1 (Nat.le_refl _) (.int .i64 b.si)) _ 2 (Nat.le_refl _) (.int .i64 b.he)) _ 3 (Nat.le_refl _) (.slice va vn vc)
    have h5 := (((h2.1.far lw 0 (.int .i64 b.st)).far lw 1 (.int .i64 b.si)).far lw 2 (.int .i64 b.he)).far lw 3 (.slice va vn vc)
    have H5 := Lib.hid (And.intro (h5.base (Nat.le_of_lt lw)) h2.2)
    clear h2 h5 hb2 hb1 hC0
    unfold condV
    go_wp2
    generalize (((w2.setCell ⟨w.heap.size, 0, none⟩ (.int .i64 b.st)).setCell ⟨w.heap.size, 1, none⟩ (.int .i64 b.si)).setCell ⟨w.heap.size, 2, none⟩ (.int .i64 b.he)).setCell ⟨w.heap.size, 3, none⟩ (.slice va vn vc) = w3 at *
    have r0 : w3.cell? ⟨w.heap.size, 0, none⟩ = some (.int .i64 b.st) := blk_cell hC3 0
    have r1 : w3.cell? ⟨w.heap.size, 1, none⟩ = some (.int .i64 b.si) := blk_cell hC3 1
    have r2 : w3.cell? ⟨w.heap.size, 2, none⟩ = some (.int .i64 b.he) := blk_cell hC3 2
    have r3 : w3.cell? ⟨w.heap.size, 3, none⟩ = some (.slice va vn vc) := blk_cell hC3 3
    refine bodyPost_ret (v := .agg #[.int .i64 b.st, .int .i64 b.si, .int .i64 b.he, .slice va vn vc]) (by simp [results, Tryz.results95, go_sem, r0, r1, r2, r3]) rfl ?_
    exact ⟨⟨_, rfl, H5.out⟩, hb3⟩)
/-- a condition with nothing in it. -/
def zeroB0 : Bd0 := ⟨0, 0, 0, [], [], 0⟩
def cAt (rh rr : Int) (l : List Stp) (bs : ByteArray) (at' : Int) : Bd0 := if bfltF rh rr l bs at' = 0 then ((runS rh rr at' [] l).get (bsOf bs)).getD newB else zeroB0
theorem cAt_fault {rh rr : Int} {l : List Stp} {bs : ByteArray} {at' : Int} (h : bfltF rh rr l bs at' ≠ 0) : cAt rh rr l bs at' = zeroB0 := if_neg h
theorem cAt_right {rh rr : Int} {l : List Stp} {bs : ByteArray} {at' : Int} (h : bfltF rh rr l bs at' = 0) : cAt rh rr l bs at' = ((runS rh rr at' [] l).get (bsOf bs)).getD newB := if_pos h
theorem CondR.zero (w w' : World) : CondR w w' zeroB0 (.slice none 0 0) := ⟨OwnR.nil _ _, by simp [zeroB0]⟩
theorem run_small {rh rr at' : Int} {l : List Stp} (h : stepsF l = 0) : AllSm (runS rh rr at' [] l) 100000 := by
  have h1 := (stepsF_right h).1
  have := runS_small (rh := rh) (rr := rr) (at' := at') l (m := []) (n := 0) ⟨Nat.le_refl _, fun p hp => by simp at hp⟩
  exact ⟨by have := this.1; omega, fun p hp => (this.2 p hp).mono (by omega)⟩
set_option maxHeartbeats 4000000 in
set_option maxRecDepth 100000 in
theorem At_any (rh rr : Int) (l : List Stp) (bs : ByteArray) (at' : Int) (v : Value) (w : World) (hl : l.length ≤ 1000000) (rl : RecR TSt w 0 v l) (hz : StpZ l) (hb : bs.size ≤ 140737488355328) :
    Calls Tryz.prog 22 #[.agg #[.int .i64 rh, .int .i64 rr], v, .string bs, .int .i64 at'] w fun e w' => (∃ v', e = .returned (.tuple #[condV (cAt rh rr l bs at') v', .int .i64 (bfltF rh rr l bs at')]) ∧ CondR w w' (cAt rh rr l bs at') v') ∧ Below w.heap.size w w' := by
  have hR0 := blk_old (blk_new w (.cells #[.int .i64 rh, .int .i64 rr] 27)) (.cells #[.int .i64 0, .int .i64 0, .int .i64 0, .slice none 0 0] 46)
  have hC0 := blk_new' (w.alloc (.cells #[.int .i64 rh, .int .i64 rr] 27)) (.cells #[.int .i64 0, .int .i64 0, .int .i64 0, .slice none 0 0] 46) (g := w.heap.size + 1) (by simp)
  have hb0 := Bl.alloc (Bl.alloc (Below.refl w.heap.size w) (.cells #[.int .i64 rh, .int .i64 rr] 27)) (.cells #[.int .i64 0, .int .i64 0, .int .i64 0, .slice none 0 0] 46)
  have HBF := Lib.hid fun W (hW : Below w.heap.size w W) => boardFault_any rh rr l bs at' v W hl (rl.below hW) hz hb
  have HSA := Lib.hid fun W (hW : Below w.heap.size w W) => shopAt_any rh rr at' l v W (rl.below hW)
  obtain ⟨F, hF⟩ : ∃ F, F = bfltF rh rr l bs at' := ⟨_, rfl⟩
  rw [← hF] at HBF ⊢
  obtain ⟨b, hbb⟩ : ∃ b, b = cAt rh rr l bs at' := ⟨_, rfl⟩
  rw [← hbb]
  have HF := Lib.hid hF
  have HB := Lib.hid hbb
  clear hF hbb rl hl hz hb
  by_cases h0 : F = 0
  · subst h0
    have HZ := Lib.hid (bfltF_zero HF.out.symm)
    have HBE : Hid (b = ((runS rh rr at' [] l).get (bsOf bs)).getD newB) := Lib.hid (HB.out.trans (cAt_right HF.out.symm))
    clear HB HF
    go_enter Tryz.func22, Tryz.ntmps22
    go_wp2_with fail
    refine (HBF.out _ hb0).mono ?_
    rintro e w2 ⟨rfl, hb2⟩
    have hb02 := Bl.trans hb0 hb2
    have hR2 := blk_below hR0 hb2
    have hC2 := blk_below hC0 hb2
    have q0 : w2.cell? ⟨w.heap.size, 0, none⟩ = some (.int .i64 rh) := blk_cell hR2 0
    have q1 : w2.cell? ⟨w.heap.size, 1, none⟩ = some (.int .i64 rr) := blk_cell hR2 1
    clear hb0 hR0 hC0 hb2
    go_wp2_with fail
    refine (HSA.out _ hb02 HZ.out.2.1).mono ?_
    rintro e w3 ⟨⟨S, rfl, hs⟩, hb3⟩
    have hC3 := blk_below hC2 hb3
    have hb03 := Bl.trans hb02 hb3
    have HT := ShopCond_any S rh rr _ bs _ w3 hs (by have := keyB_size HZ.out.2.2.1; omega) (run_small HZ.out.2.1)
    rw [← HBE.out] at HT
    have HT := Lib.hid HT
    clear hs hb3 hC2 hR2 q0 q1
    go_wp2_with fail
    refine HT.out.mono ?_
    rintro e w4 ⟨⟨v4, rfl, h4⟩, hb4⟩
    obtain ⟨va, vn, vc, rfl⟩ : ∃ a n c, v4 = .slice a n c := by obtain ⟨a, c, hv, _, _⟩ := h4.1.form; exact ⟨a, _, c, hv⟩
    have hC4 := blk_below hC3 hb4
    have lw := blk_lt hC3
    have hb04 := Bl.trans hb03 hb4
    have g0 := blk_free hC4 0
    have g1 := blk_free hC4 1
    have g2 := blk_free hC4 2
    have g3 := blk_free hC4 3
    have k0 : w4.cell? ⟨w.heap.size + 1, 0, none⟩ = some (.int .i64 0) := blk_cell hC4 0
    have k1 : w4.cell? ⟨w.heap.size + 1, 1, none⟩ = some (.int .i64 0) := blk_cell hC4 1
    have k2 : w4.cell? ⟨w.heap.size + 1, 2, none⟩ = some (.int .i64 0) := blk_cell hC4 2
    have k3 : w4.cell? ⟨w.heap.size + 1, 3, none⟩ = some (.slice none 0 0) := blk_cell hC4 3
    have hC5 := blk_set (blk_set (blk_set (blk_set hC4 0 (.int .i64 b.st)) 1 (.int .i64 b.si)) 2 (.int .i64 b.he)) 3 (.slice va vn vc)
    have hb5 := Bl.set (Bl.set (Bl.set (Bl.set hb04 (w.heap.size + 1) 0 (by omega) (.int .i64 b.st)) (w.heap.size + 1) 1 (by omega) (.int .i64 b.si)) (w.heap.size + 1) 2 (by omega) (.int .i64 b.he)) (w.heap.size + 1) 3 (by omega) (.slice va vn vc)
    have h5 := (((h4.1.far lw 0 (.int .i64 b.st)).far lw 1 (.int .i64 b.si)).far lw 2 (.int .i64 b.he)).far lw 3 (.slice va vn vc)
    have H5 := Lib.hid (And.intro (h5.base (by omega : w.heap.size ≤ w3.heap.size)) h4.2)
    clear h4 h5 hb4 hb04 hb03 hb02 hC3 hC4
    unfold condV
    go_wp2
    generalize (((w4.setCell ⟨w.heap.size + 1, 0, none⟩ (.int .i64 b.st)).setCell ⟨w.heap.size + 1, 1, none⟩ (.int .i64 b.si)).setCell ⟨w.heap.size + 1, 2, none⟩ (.int .i64 b.he)).setCell ⟨w.heap.size + 1, 3, none⟩ (.slice va vn vc) = w5 at *
    have r0 : w5.cell? ⟨w.heap.size + 1, 0, none⟩ = some (.int .i64 b.st) := blk_cell hC5 0
    have r1 : w5.cell? ⟨w.heap.size + 1, 1, none⟩ = some (.int .i64 b.si) := blk_cell hC5 1
    have r2 : w5.cell? ⟨w.heap.size + 1, 2, none⟩ = some (.int .i64 b.he) := blk_cell hC5 2
    have r3 : w5.cell? ⟨w.heap.size + 1, 3, none⟩ = some (.slice va vn vc) := blk_cell hC5 3
    refine bodyPost_ret (v := .tuple #[.agg #[.int .i64 b.st, .int .i64 b.si, .int .i64 b.he, .slice va vn vc], .int .i64 0]) (by simp [results, Tryz.results22, go_sem, r0, r1, r2, r3]) rfl ?_
    exact ⟨⟨_, rfl, H5.out⟩, hb5⟩
  · have HBE : Hid (b = zeroB0) := Lib.hid (HB.out.trans (cAt_fault (by rw [← HF.out]; exact h0)))
    clear HB HF
    go_enter Tryz.func22, Tryz.ntmps22
    go_wp2_with fail
    refine (HBF.out _ hb0).mono ?_
    rintro e w2 ⟨rfl, hb2⟩
    have hb02 := Bl.trans hb0 hb2
    have hC4 := blk_below hC0 hb2
    have g0 := blk_free hC4 0
    have g1 := blk_free hC4 1
    have g2 := blk_free hC4 2
    have g3 := blk_free hC4 3
    have k0 : w2.cell? ⟨w.heap.size + 1, 0, none⟩ = some (.int .i64 0) := blk_cell hC4 0
    have k1 : w2.cell? ⟨w.heap.size + 1, 1, none⟩ = some (.int .i64 0) := blk_cell hC4 1
    have k2 : w2.cell? ⟨w.heap.size + 1, 2, none⟩ = some (.int .i64 0) := blk_cell hC4 2
    have k3 : w2.cell? ⟨w.heap.size + 1, 3, none⟩ = some (.slice none 0 0) := blk_cell hC4 3
    have hC5 := blk_set (blk_set (blk_set (blk_set hC4 0 (.int .i64 0)) 1 (.int .i64 0)) 2 (.int .i64 0)) 3 (.slice none 0 0)
    have hb5 := Bl.set (Bl.set (Bl.set (Bl.set hb02 (w.heap.size + 1) 0 (by omega) (.int .i64 0)) (w.heap.size + 1) 1 (by omega) (.int .i64 0)) (w.heap.size + 1) 2 (by omega) (.int .i64 0)) (w.heap.size + 1) 3 (by omega) (.slice none 0 0)
    clear hb02 hb2 hb0 hC0 hR0
    go_wp2
    generalize (((w2.setCell ⟨w.heap.size + 1, 0, none⟩ (.int .i64 0)).setCell ⟨w.heap.size + 1, 1, none⟩ (.int .i64 0)).setCell ⟨w.heap.size + 1, 2, none⟩ (.int .i64 0)).setCell ⟨w.heap.size + 1, 3, none⟩ (.slice none 0 0) = w5 at *
    have r0 : w5.cell? ⟨w.heap.size + 1, 0, none⟩ = some (.int .i64 0) := blk_cell hC5 0
    have r1 : w5.cell? ⟨w.heap.size + 1, 1, none⟩ = some (.int .i64 0) := blk_cell hC5 1
    have r2 : w5.cell? ⟨w.heap.size + 1, 2, none⟩ = some (.int .i64 0) := blk_cell hC5 2
    have r3 : w5.cell? ⟨w.heap.size + 1, 3, none⟩ = some (.slice none 0 0) := blk_cell hC5 3
    refine bodyPost_ret (v := .tuple #[.agg #[.int .i64 0, .int .i64 0, .int .i64 0, .slice none 0 0], .int .i64 F]) (by simp [results, Tryz.results22, go_sem, r0, r1, r2, r3]) rfl ?_
    exact ⟨⟨.slice none 0 0, by rw [HBE.out] <;> rfl, by rw [HBE.out]; exact CondR.zero _ _⟩, hb5⟩
end Go.Proofs.YtnmimagninhkkaaGreatDoor
