/- A shop after all steps up to a moment: the walks of follow and shopAt over general maps. Conditions: right steps. · What a board is like at a moment: Shop.Condition and At over general maps. Conditions: names of at most 1000 bytes. · Which boards have a state: Shop.In and Boards over general maps. Conditions: names of at most 1000 bytes. -/
import Derived.Test.YtbkglhakhahfpaaGreatDoorHop
import Derived.Test.YtbkglhakhahfpaaGreatDoorCond
import Derived.Test.YtbkglhakhahfpaaGreatDoorStrs
namespace Go.Proofs.YtbkglhakhahfpaaGreatDoor
open Go.RowKit Go.Sort Go.Maps

structure FoI (rh rr at' : Int) (l : List Stp) (w0 : World) (S k : Nat) (m : Sm Bd0) (wr : World) : Prop where
  rest : runS rh rr at' [] l = runS rh rr at' m (l.drop k)
  sm : AllSm m k
  shop : ∃ L, ShM wr S rh rr L ∧ L.mapv (·.2) = m
  bel : Below w0.heap.size w0 wr
  S1 : w0.heap.size ≤ S - 1
theorem FoI.alloc {rh rr at' : Int} {l : List Stp} {w0 : World} {S k : Nat} {m : Sm Bd0} {wr : World} (h : FoI rh rr at' l w0 S k m wr) (o : Obj) : FoI rh rr at' l w0 S k m (wr.alloc o) := by
  obtain ⟨L, h1, h2⟩ := h.shop
  exact ⟨h.rest, h.sm, ⟨L, h1.below (Bl.alloc (Below.refl _ _) o), h2⟩, Bl.alloc h.bel o, h.S1⟩
theorem FoI.call {rh rr at' : Int} {l : List Stp} {w0 : World} {S k : Nat} {m : Sm Bd0} {wr : World} (h : FoI rh rr at' l w0 S k m wr) {s : Stp} (hs : l[k]? = some s) (h1 : ¬ at' < s.at) (hsr : StR s) (hk : k ≤ 100000) :
    Calls Tryz.prog 177 #[.pointer (some ⟨S, 0, none⟩), stpV s] wr fun e w' => ∃ e0, e = .returned (.int .i64 e0) ∧ FoI rh rr at' l w0 S (k + 1) (doS rh rr m s).1 w' := by
  obtain ⟨L, hL1, hL2⟩ := h.shop
  have hb := hsr.bd
  have hc := hsr.co
  have hA : AllSm (L.mapv (·.2)) 100000 := by rw [hL2]; exact ⟨Nat.le_trans h.sm.1 hk, fun p hp => (h.sm.2 p hp).mono hk⟩
  refine (Do_any S rh rr L s wr hL1 (by omega) (by omega) hA).mono ?_
  rintro e w5 ⟨rfl, L', hL1', hL2', hK, _⟩
  exact ⟨_, rfl, h.rest.trans (runS_go hs h1), doS_small h.sm s, ⟨L', hL1', by rw [hL2', hL2]⟩, Below.trans h.bel ((DoX.below hL1 hK).mono h.S1), h.S1⟩
/-- a shop after these steps. -/
def ShopA (w0 w' : World) (S : Nat) (rh rr : Int) (m : Sm Bd0) : Prop := (∃ L, ShM w' S rh rr L ∧ L.mapv (·.2) = m) ∧ w0.heap.size ≤ S - 1
theorem ShopA.below {w0 w1 w' : World} {S : Nat} {rh rr : Int} {m : Sm Bd0} (h : ShopA w0 w1 S rh rr m) (hb : Below w1.heap.size w1 w') : ShopA w0 w' S rh rr m := by
  obtain ⟨⟨L, h1, h2⟩, h3⟩ := h
  exact ⟨⟨L, h1.below hb, h2⟩, h3⟩
set_option maxHeartbeats 4000000 in
set_option maxRecDepth 100000 in
theorem follow_any (rh rr at' : Int) (l : List Stp) (v : Value) (w : World) (rl : RecR TSt w 0 v l) (hl : stepsF l = 0) :
    Calls Tryz.prog 91 #[.agg #[.int .i64 rh, .int .i64 rr], v, .int .i64 at', .func (.func 179) #[] #[]] w fun e w' => (∃ S : Nat, e = .returned (.pointer (some ⟨S, 0, none⟩)) ∧ ShopA w w' S rh rr (runS rh rr at' [] l)) ∧ Below w.heap.size w w' := by
  have hA := Bl.alloc (Below.refl w.heap.size w) (.cells #[.int .i64 rh, .int .i64 rr] 27)
  obtain ⟨a, cap, rfl, _, _⟩ := rl.form
  have RL := Lib.hid rl
  have HR := Lib.hid (stepsF_right hl)
  clear rl hl
  go_enter Tryz.func91, Tryz.ntmps91
  go_wp2_with fail
  refine (NewShop_any rh rr _).mono ?_
  rintro e w2 ⟨rfl, hS2, hm2, hb2, hz2⟩
  have hB2 := Bl.trans hA hb2
  have hzA := hA.size
  obtain ⟨S, hS⟩ : ∃ S, S = (w.alloc (.cells #[.int .i64 rh, .int .i64 rr] 27)).heap.size + 1 + 1 := ⟨_, rfl⟩
  have hS1 : (w.alloc (.cells #[.int .i64 rh, .int .i64 rr] 27)).heap.size + 1 = S - 1 := by omega
  have HI0 : Hid (FoI rh rr at' l w S 0 [] w2) := Lib.hid (by
    refine ⟨rfl, ⟨Nat.le_refl _, fun p hp => by simp at hp⟩, ⟨[], ⟨by omega, ?_, ?_, Sm.Ok.nil, fun p hp => by simp at hp, fun p hp => by simp at hp⟩, rfl⟩, hB2, by omega⟩
    · rw [← hS1, hS]; exact hS2
    · rw [← hS1]; exact MapS.of_blk hm2)
  clear hS2 hm2 hb2 hB2 hA hS1 hz2 hzA
  rw [← hS] at *
  clear hS
  go_wp2_with fail
  go_loopw [16] (fun i wr => ∃ (k : Nat) (m : Sm Bd0), k ≤ l.length ∧ i = .int .i64 k ∧ Hid (FoI rh rr at' l w S k m wr)) (fun i _ => l.length - (intOf i).toNat)
  case atStart => exact ⟨0, [], Nat.zero_le _, rfl, HI0⟩
  case round =>
    obtain ⟨k, m, hk, rfl, HI⟩ := hrel
    by_cases hlt : k < l.length
    case' pos =>
      obtain ⟨s, hs⟩ : ∃ x, l[k]? = some x := ⟨_, List.getElem?_eq_getElem hlt⟩
      obtain ⟨b1, o1, rfl, _, hbb1, hc1⟩ := (RL.out.below HI.out.bel).at TSt.ok.len hs TSt.ok.pos
      have HS := Lib.hid hs
      have HSR := Lib.hid (HR.out.2.1 s (List.mem_of_getElem? hs))
      obtain ⟨at1, bs, kd, cs⟩ := s
      have c0 : wr.cell? ⟨b1, o1 + k * 4, none⟩ = some (.int .i64 at1) := hc1 0 _ rfl
      have c1 : wr.cell? ⟨b1, o1 + k * 4 + 1, none⟩ = some (.string bs) := hc1 1 _ rfl
      have c2 : wr.cell? ⟨b1, o1 + k * 4 + 2, none⟩ = some (.int .i64 kd) := hc1 2 _ rfl
      have c3 : wr.cell? ⟨b1, o1 + k * 4 + 3, none⟩ = some (.string cs) := hc1 3 _ rfl
      clear hs hc1
      have hlen : k < 5000 := Nat.lt_of_lt_of_le hlt HR.out.1
      have hw1 : IntKind.i64.wrap ((k : Int) + 1) = ((k + 1 : Nat) : Int) := by rw [IntWalk.i64_in _ (by omega)]; omega
      by_cases hat : at' < at1
      case' pos =>
        have HE : Hid (FoI rh rr at' l w S k m (wr.alloc (.cells #[.int .i64 at1, .string bs, .int .i64 kd, .string cs] 133))) := Lib.hid (HI.out.alloc _)
        have HGT : Hid (runS rh rr at' [] l = m) := Lib.hid (HI.out.rest.trans (runS_stop HS.out hat))
      case neg =>
        have HD := Lib.hid ((HI.out.alloc (.cells #[.int .i64 at1, .string bs, .int .i64 kd, .string cs] 133)).call HS.out hat HSR.out (by omega))
        go_wp2_with fail
        refine HD.out.mono ?_
        rintro e w5 ⟨e0, rfl, hF⟩
        have HF := Lib.hid hF
        clear hF
        go_wp2_with fail
        refine (shopAt1_any _ _ _).mono ?_
        rintro e w' ⟨rfl, rfl⟩
        go_wp2
        go_roundw
        case rel => exact ⟨k + 1, (doS rh rr m (at1, bs, kd, cs)).1, by omega, by go_num, HF⟩
        case measure => simp [intOf]; omega
    case' neg =>
      obtain rfl : k = l.length := by omega
      have HE := HI
      have HGT : Hid (runS rh rr at' [] l = m) := Lib.hid (HI.out.rest.trans runS_end)
    all_goals (
      have HSH : Hid (ShopA w _ S rh rr (runS rh rr at' [] l)) := Lib.hid ⟨by rw [HGT.out]; exact HE.out.shop, HE.out.S1⟩
      have HBE := Lib.hid HE.out.bel
      go_wp2
      go_ret
      exact ⟨⟨S, rfl, HSH.out⟩, HBE.out⟩)
set_option maxHeartbeats 1000000 in
theorem shopAt_any (rh rr at' : Int) (l : List Stp) (v : Value) (w : World) (rl : RecR TSt w 0 v l) (hl : stepsF l = 0) :
    Calls Tryz.prog 94 #[.agg #[.int .i64 rh, .int .i64 rr], v, .int .i64 at'] w fun e w' => (∃ S : Nat, e = .returned (.pointer (some ⟨S, 0, none⟩)) ∧ ShopA w w' S rh rr (runS rh rr at' [] l)) ∧ Below w.heap.size w w' := by
  have hb0 := Bl.alloc (Below.refl w.heap.size w) (.cells #[.int .i64 rh, .int .i64 rr] 27)
  have HF := Lib.hid (follow_any rh rr at' l v _ (rl.below hb0) hl)
  clear rl
  go_enter Tryz.func94, Tryz.ntmps94
  go_wp2_with fail
  refine HF.out.mono ?_
  rintro e w1 ⟨⟨S, rfl, hs⟩, hb1⟩
  have HS := Lib.hid hs
  have hz := hb0.size
  clear hs
  go_wp2
  go_ret
  exact ⟨⟨S, rfl, HS.out.1, Nat.le_trans hz HS.out.2⟩, Bl.trans hb0 hb1⟩
end Go.Proofs.YtbkglhakhahfpaaGreatDoor
namespace Go.Proofs.YtbkglhakhahfpaaGreatDoor
open Go.RowKit Go.Sort Go.Maps Go.Shelf Go.Lib

theorem encStr_ba (k : Bs) : encStr k = .string (baOf k) := rfl
theorem flat_ba (ks : List Bs) : ks.map encStr = (ks.map baOf).flatMap TS.f := by
  induction ks with
  | nil => rfl
  | cons a l ih => rw [List.map_cons, ih, List.map_cons, List.flatMap_cons]; rfl
theorem own_keys {α : Type} {w : World} {B : Nat} {v : Value} {ss : List Bs} {m : Sm α} (hm : Sm.Ok m) (hp : ss.Perm m.keys) (h : w.ownsRow B 9 1 v ss.length ((ss.mergeSort (fun x y => decide (x ≤ y))).map encStr)) : OwnR TS w B v (m.keys.map baOf) := by
  rw [show ss.mergeSort (fun x y => decide (x ≤ y)) = m.keys from Sm.sort_keys hm hp, flat_ba, hp.length_eq] at h
  unfold OwnR
  rw [List.length_map]
  exact h
/-- a condition as it is returned: its strings lie in memory of the call's own. -/
def condV (b : Bd0) (v : Value) : Value := .agg #[.int .i64 b.st, .int .i64 b.si, .int .i64 b.he, v]
def CondR (w w' : World) (b : Bd0) (v : Value) : Prop := OwnR TS w' w.heap.size v (b.op.keys.map baOf) ∧ (v = .slice none 0 0 ↔ b.op = [])
theorem condB_any (g : Nat) (b : Bd0) (w : World) (h : BrdM w g b) (hs : b.op.length ≤ 100000) :
    Calls Tryz.prog 261 #[.pointer (some ⟨g, 0, none⟩)] w fun e w' => (∃ v, e = .returned (condV b v) ∧ CondR w w' b v) ∧ Below w.heap.size w w' := by
  refine (condition_any g (g - 2) b.op.length b.st b.si b.he b.lp (.map (some (g - 1))) (.map (smD TB b.op)) _ w h.2.1 h.2.2.1.2 (by show (smD TB b.op).length ≤ _; unfold smD; rw [List.length_map]; omega)).mono ?_
  rintro e w' ⟨v, ss, rfl, hp, hr, hn, hb⟩
  rw [smD_keys] at hp
  refine ⟨⟨v, rfl, own_keys h.2.2.1.1 hp hr, hn.trans ?_⟩, hb⟩
  constructor
  · rintro rfl
    have := hp.length_eq
    rw [keys_len] at this
    exact List.eq_nil_of_length_eq_zero this.symm
  · intro e
    rw [e] at hp
    exact List.eq_nil_of_length_eq_zero hp.length_eq
set_option maxHeartbeats 4000000 in
set_option maxRecDepth 100000 in
theorem ShopCond_any (S : Nat) (rh rr : Int) (m : Sm Bd0) (bs : ByteArray) (w0 w : World) (h : ShopA w0 w S rh rr m) (hbs : bs.size ≤ 1000) (hm : AllSm m 100000) :
    Calls Tryz.prog 201 #[.pointer (some ⟨S, 0, none⟩), .string bs] w fun e w' => (∃ v, e = .returned (condV ((m.get (bsOf bs)).getD newB) v) ∧ CondR w w' ((m.get (bsOf bs)).getD newB) v) ∧ Below w.heap.size w w' := by
  obtain ⟨⟨L, hL, hLm⟩, _⟩ := h
  have hS := hL.blk
  have lS := hL.lt
  have hbm : bs.size ≤ maxLen := by unfold maxLen; omega
  have c1 : w.cell? ⟨S, 2, none⟩ = some (.map (some (S - 1))) := blk_cell hS 2
  have hb0 := Bl.alloc (Below.refl w.heap.size w) (.cells #[.int .i64 0, .int .i64 0, .int .i64 0, .slice none 0 0] 175)
  have hC0 := blk_new w (.cells #[.int .i64 0, .int .i64 0, .int .i64 0, .slice none 0 0] 175)
  have hl0 := (hL.map.alloc (.cells #[.int .i64 0, .int .i64 0, .int .i64 0, .slice none 0 0] 175)).look TP.ok bs hbm
  have lw := blk_lt hC0
  rw [Sm.get_mapv] at hl0
  have HGM : Hid (m.get (bsOf bs) = (L.get bs.data.toList).map (·.2)) := Lib.hid (by rw [← hLm, Sm.get_mapv]; rfl)
  have HSM := Lib.hid (hm.get (bsOf bs))
  have HL := Lib.hid (hL.below hb0)
  obtain ⟨b, hb⟩ : ∃ b, b = (m.get (bsOf bs)).getD newB := ⟨_, rfl⟩
  rw [← hb] at HSM ⊢
  have HBE := Lib.hid hb
  clear hb hS hL hLm hm hbs
  cases hg : L.get bs.data.toList
  case' some x =>
    obtain ⟨g, b2⟩ := x
    have hbe : b = b2 := by rw [HBE.out, HGM.out, hg]; rfl
    subst hbe
    rw [hg] at hl0
    have hl1 : (Instr.lookup 154 (.map (some (S - 1))) (.string bs) false).run Tryz.prog (w.alloc (.cells #[.int .i64 0, .int .i64 0, .int .i64 0, .slice none 0 0] 175)) = .ok (.pointer (some ⟨g, 0, none⟩)) (w.alloc (.cells #[.int .i64 0, .int .i64 0, .int .i64 0, .slice none 0 0] 175)) := hl0
    have HC := Lib.hid (condB_any g b _ ((HL.out.brd _ (Sm.get_mem hg)).2) HSM.out.2.2.2.2.1)
    clear hl0 hg
    go_enter Tryz.func201, Tryz.ntmps201
    go_wp2_with fail
    refine HC.out.mono ?_
    rintro e w2 ⟨⟨v, rfl, h2⟩, hb2⟩
    have hb1 := hb0
  case' none =>
    have HBN : Hid (b = newB) := Lib.hid (by rw [HBE.out, HGM.out, hg]; rfl)
    rw [hg] at hl0
    have hl1 : (Instr.lookup 154 (.map (some (S - 1))) (.string bs) false).run Tryz.prog (w.alloc (.cells #[.int .i64 0, .int .i64 0, .int .i64 0, .slice none 0 0] 175)) = .ok (.pointer none) (w.alloc (.cells #[.int .i64 0, .int .i64 0, .int .i64 0, .slice none 0 0] 175)) := hl0
    clear hl0 hg
    go_enter Tryz.func201, Tryz.ntmps201
    go_wp2_with fail
    clear hl1
    generalize w.alloc (.cells #[.int .i64 0, .int .i64 0, .int .i64 0, .slice none 0 0] 175) = wA at *
    refine (newBoard_any _).mono ?_
    rintro e w1 ⟨rfl, hn1, hn2, hn3, hbn, hzn⟩
    have hM : BrdM w1 (wA.heap.size + 1 + 1) b := by rw [HBN.out]; exact ⟨Nat.le_add_left _ _, hn1, MapS.of_blk hn2, MapS.of_blk hn3⟩
    have HC := Lib.hid (condB_any _ b w1 hM HSM.out.2.2.2.2.1)
    have hb1 := Bl.trans hb0 hbn
    have hC0 := blk_below hC0 hbn
    clear hM hn1 hn2 hn3 hbn hzn
    go_wp2_with fail
    refine HC.out.mono ?_
    rintro e w2 ⟨⟨v, rfl, h2⟩, hb2⟩
  all_goals (
    obtain ⟨va, vn, vc, rfl⟩ : ∃ a n c, v = .slice a n c := by obtain ⟨a, c, hv, _, _⟩ := h2.1.form; exact ⟨a, _, c, hv⟩
    have hC2 := blk_below hC0 hb2
    have g0 := blk_free hC2 0
    have g1 := blk_free hC2 1
    have g2 := blk_free hC2 2
    have g3 := blk_free hC2 3
    have k0 : w2.cell? ⟨w.heap.size, 0, none⟩ = some (.int .i64 0) := blk_cell hC2 0
    have k1 : w2.cell? ⟨w.heap.size, 1, none⟩ = some (.int .i64 0) := blk_cell hC2 1
    have k2 : w2.cell? ⟨w.heap.size, 2, none⟩ = some (.int .i64 0) := blk_cell hC2 2
    have k3 : w2.cell? ⟨w.heap.size, 3, none⟩ = some (.slice none 0 0) := blk_cell hC2 3
    have lw := blk_lt hC0
    have hC3 := blk_set (blk_set (blk_set (blk_set hC2 0 (.int .i64 b.st)) 1 (.int .i64 b.si)) 2 (.int .i64 b.he)) 3 (.slice va vn vc)
    have hb3 := Bl.set (Bl.set (Bl.set (Bl.set (Bl.trans hb1 hb2) _ 0 (Nat.le_refl _) (.int .i64 b.st)) _ 1 (Nat.le_refl _) (.int .i64 b.si)) _ 2 (Nat.le_refl _) (.int .i64 b.he)) _ 3 (Nat.le_refl _) (.slice va vn vc)
    have h5 := (((h2.1.far lw 0 (.int .i64 b.st)).far lw 1 (.int .i64 b.si)).far lw 2 (.int .i64 b.he)).far lw 3 (.slice va vn vc)
    have H5 := Lib.hid (And.intro (h5.base (Nat.le_of_lt lw)) h2.2)
    clear h2 h5 hb2 hb1 hC0
    unfold condV
    go_wp2
    generalize (((w2.setCell ⟨w.heap.size, 0, none⟩ (.int .i64 b.st)).setCell ⟨w.heap.size, 1, none⟩ (.int .i64 b.si)).setCell ⟨w.heap.size, 2, none⟩ (.int .i64 b.he)).setCell ⟨w.heap.size, 3, none⟩ (.slice va vn vc) = w3 at *
    have r0 : w3.cell? ⟨w.heap.size, 0, none⟩ = some (.int .i64 b.st) := blk_cell hC3 0
    have r1 : w3.cell? ⟨w.heap.size, 1, none⟩ = some (.int .i64 b.si) := blk_cell hC3 1
    have r2 : w3.cell? ⟨w.heap.size, 2, none⟩ = some (.int .i64 b.he) := blk_cell hC3 2
    have r3 : w3.cell? ⟨w.heap.size, 3, none⟩ = some (.slice va vn vc) := blk_cell hC3 3
    refine bodyPost_ret (v := .agg #[.int .i64 b.st, .int .i64 b.si, .int .i64 b.he, .slice va vn vc]) (by simp [results, Tryz.results201, go_sem, r0, r1, r2, r3]) rfl ?_
    exact ⟨⟨_, rfl, H5.out⟩, hb3⟩)
/-- a condition with nothing in it. -/
def zeroB0 : Bd0 := ⟨0, 0, 0, [], [], 0⟩
def cAt (rh rr : Int) (l : List Stp) (bs : ByteArray) (at' : Int) : Bd0 := if bfltF rh rr l bs at' = 0 then ((runS rh rr at' [] l).get (bsOf bs)).getD newB else zeroB0
theorem cAt_fault {rh rr : Int} {l : List Stp} {bs : ByteArray} {at' : Int} (h : bfltF rh rr l bs at' ≠ 0) : cAt rh rr l bs at' = zeroB0 := if_neg h
theorem cAt_right {rh rr : Int} {l : List Stp} {bs : ByteArray} {at' : Int} (h : bfltF rh rr l bs at' = 0) : cAt rh rr l bs at' = ((runS rh rr at' [] l).get (bsOf bs)).getD newB := if_pos h
theorem CondR.zero (w w' : World) : CondR w w' zeroB0 (.slice none 0 0) := ⟨OwnR.nil _ _, by simp [zeroB0]⟩
theorem run_small {rh rr at' : Int} {l : List Stp} (h : stepsF l = 0) : AllSm (runS rh rr at' [] l) 100000 := by
  have h1 := (stepsF_right h).1
  have := runS_small (rh := rh) (rr := rr) (at' := at') l (m := []) (n := 0) ⟨Nat.le_refl _, fun p hp => by simp at hp⟩
  exact ⟨by have := this.1; omega, fun p hp => (this.2 p hp).mono (by omega)⟩
set_option maxHeartbeats 4000000 in
set_option maxRecDepth 100000 in
theorem At_any (rh rr : Int) (l : List Stp) (bs : ByteArray) (at' : Int) (v : Value) (w : World) (hl : l.length ≤ 1000000) (rl : RecR TSt w 0 v l) (hz : StpZ l) (hb : bs.size ≤ 140737488355328) :
    Calls Tryz.prog 119 #[.agg #[.int .i64 rh, .int .i64 rr], v, .string bs, .int .i64 at'] w fun e w' => (∃ v', e = .returned (.tuple #[condV (cAt rh rr l bs at') v', .int .i64 (bfltF rh rr l bs at')]) ∧ CondR w w' (cAt rh rr l bs at') v') ∧ Below w.heap.size w w' := by
  have hR0 := blk_old (blk_new w (.cells #[.int .i64 rh, .int .i64 rr] 27)) (.cells #[.int .i64 0, .int .i64 0, .int .i64 0, .slice none 0 0] 175)
  have hC0 := blk_new' (w.alloc (.cells #[.int .i64 rh, .int .i64 rr] 27)) (.cells #[.int .i64 0, .int .i64 0, .int .i64 0, .slice none 0 0] 175) (g := w.heap.size + 1) (by simp)
  have hb0 := Bl.alloc (Bl.alloc (Below.refl w.heap.size w) (.cells #[.int .i64 rh, .int .i64 rr] 27)) (.cells #[.int .i64 0, .int .i64 0, .int .i64 0, .slice none 0 0] 175)
  have HBF := Lib.hid fun W (hW : Below w.heap.size w W) => boardFault_any rh rr l bs at' v W hl (rl.below hW) hz hb
  have HSA := Lib.hid fun W (hW : Below w.heap.size w W) => shopAt_any rh rr at' l v W (rl.below hW)
  obtain ⟨F, hF⟩ : ∃ F, F = bfltF rh rr l bs at' := ⟨_, rfl⟩
  rw [← hF] at HBF ⊢
  obtain ⟨b, hbb⟩ : ∃ b, b = cAt rh rr l bs at' := ⟨_, rfl⟩
  rw [← hbb]
  have HF := Lib.hid hF
  have HB := Lib.hid hbb
  clear hF hbb rl hl hz hb
  by_cases h0 : F = 0
  · subst h0
    have HZ := Lib.hid (bfltF_zero HF.out.symm)
    have HBE : Hid (b = ((runS rh rr at' [] l).get (bsOf bs)).getD newB) := Lib.hid (HB.out.trans (cAt_right HF.out.symm))
    clear HB HF
    go_enter Tryz.func119, Tryz.ntmps119
    go_wp2_with fail
    refine (HBF.out _ hb0).mono ?_
    rintro e w2 ⟨rfl, hb2⟩
    have hb02 := Bl.trans hb0 hb2
    have hR2 := blk_below hR0 hb2
    have hC2 := blk_below hC0 hb2
    have q0 : w2.cell? ⟨w.heap.size, 0, none⟩ = some (.int .i64 rh) := blk_cell hR2 0
    have q1 : w2.cell? ⟨w.heap.size, 1, none⟩ = some (.int .i64 rr) := blk_cell hR2 1
    clear hb0 hR0 hC0 hb2
    go_wp2_with fail
    refine (HSA.out _ hb02 HZ.out.2.1).mono ?_
    rintro e w3 ⟨⟨S, rfl, hs⟩, hb3⟩
    have hC3 := blk_below hC2 hb3
    have hb03 := Bl.trans hb02 hb3
    have HT := ShopCond_any S rh rr _ bs _ w3 hs (by have := keyB_size HZ.out.2.2.1; omega) (run_small HZ.out.2.1)
    rw [← HBE.out] at HT
    have HT := Lib.hid HT
    clear hs hb3 hC2 hR2 q0 q1
    go_wp2_with fail
    refine HT.out.mono ?_
    rintro e w4 ⟨⟨v4, rfl, h4⟩, hb4⟩
    obtain ⟨va, vn, vc, rfl⟩ : ∃ a n c, v4 = .slice a n c := by obtain ⟨a, c, hv, _, _⟩ := h4.1.form; exact ⟨a, _, c, hv⟩
    have hC4 := blk_below hC3 hb4
    have lw := blk_lt hC3
    have hb04 := Bl.trans hb03 hb4
    have g0 := blk_free hC4 0
    have g1 := blk_free hC4 1
    have g2 := blk_free hC4 2
    have g3 := blk_free hC4 3
    have k0 : w4.cell? ⟨w.heap.size + 1, 0, none⟩ = some (.int .i64 0) := blk_cell hC4 0
    have k1 : w4.cell? ⟨w.heap.size + 1, 1, none⟩ = some (.int .i64 0) := blk_cell hC4 1
    have k2 : w4.cell? ⟨w.heap.size + 1, 2, none⟩ = some (.int .i64 0) := blk_cell hC4 2
    have k3 : w4.cell? ⟨w.heap.size + 1, 3, none⟩ = some (.slice none 0 0) := blk_cell hC4 3
    have hC5 := blk_set (blk_set (blk_set (blk_set hC4 0 (.int .i64 b.st)) 1 (.int .i64 b.si)) 2 (.int .i64 b.he)) 3 (.slice va vn vc)
    have hb5 := Bl.set (Bl.set (Bl.set (Bl.set hb04 (w.heap.size + 1) 0 (by omega) (.int .i64 b.st)) (w.heap.size + 1) 1 (by omega) (.int .i64 b.si)) (w.heap.size + 1) 2 (by omega) (.int .i64 b.he)) (w.heap.size + 1) 3 (by omega) (.slice va vn vc)
    have h5 := (((h4.1.far lw 0 (.int .i64 b.st)).far lw 1 (.int .i64 b.si)).far lw 2 (.int .i64 b.he)).far lw 3 (.slice va vn vc)
    have H5 := Lib.hid (And.intro (h5.base (by omega : w.heap.size ≤ w3.heap.size)) h4.2)
    clear h4 h5 hb4 hb04 hb03 hb02 hC3 hC4
    unfold condV
    go_wp2
    generalize (((w4.setCell ⟨w.heap.size + 1, 0, none⟩ (.int .i64 b.st)).setCell ⟨w.heap.size + 1, 1, none⟩ (.int .i64 b.si)).setCell ⟨w.heap.size + 1, 2, none⟩ (.int .i64 b.he)).setCell ⟨w.heap.size + 1, 3, none⟩ (.slice va vn vc) = w5 at *
    have r0 : w5.cell? ⟨w.heap.size + 1, 0, none⟩ = some (.int .i64 b.st) := blk_cell hC5 0
    have r1 : w5.cell? ⟨w.heap.size + 1, 1, none⟩ = some (.int .i64 b.si) := blk_cell hC5 1
    have r2 : w5.cell? ⟨w.heap.size + 1, 2, none⟩ = some (.int .i64 b.he) := blk_cell hC5 2
    have r3 : w5.cell? ⟨w.heap.size + 1, 3, none⟩ = some (.slice va vn vc) := blk_cell hC5 3
    refine bodyPost_ret (v := .tuple #[.agg #[.int .i64 b.st, .int .i64 b.si, .int .i64 b.he, .slice va vn vc], .int .i64 0]) (by simp [results, Tryz.results119, go_sem, r0, r1, r2, r3]) rfl ?_
    exact ⟨⟨_, rfl, H5.out⟩, hb5⟩
  · have HBE : Hid (b = zeroB0) := Lib.hid (HB.out.trans (cAt_fault (by rw [← HF.out]; exact h0)))
    clear HB HF
    go_enter Tryz.func119, Tryz.ntmps119
    go_wp2_with fail
    refine (HBF.out _ hb0).mono ?_
    rintro e w2 ⟨rfl, hb2⟩
    have hb02 := Bl.trans hb0 hb2
    have hC4 := blk_below hC0 hb2
    have g0 := blk_free hC4 0
    have g1 := blk_free hC4 1
    have g2 := blk_free hC4 2
    have g3 := blk_free hC4 3
    have k0 : w2.cell? ⟨w.heap.size + 1, 0, none⟩ = some (.int .i64 0) := blk_cell hC4 0
    have k1 : w2.cell? ⟨w.heap.size + 1, 1, none⟩ = some (.int .i64 0) := blk_cell hC4 1
    have k2 : w2.cell? ⟨w.heap.size + 1, 2, none⟩ = some (.int .i64 0) := blk_cell hC4 2
    have k3 : w2.cell? ⟨w.heap.size + 1, 3, none⟩ = some (.slice none 0 0) := blk_cell hC4 3
    have hC5 := blk_set (blk_set (blk_set (blk_set hC4 0 (.int .i64 0)) 1 (.int .i64 0)) 2 (.int .i64 0)) 3 (.slice none 0 0)
    have hb5 := Bl.set (Bl.set (Bl.set (Bl.set hb02 (w.heap.size + 1) 0 (by omega) (.int .i64 0)) (w.heap.size + 1) 1 (by omega) (.int .i64 0)) (w.heap.size + 1) 2 (by omega) (.int .i64 0)) (w.heap.size + 1) 3 (by omega) (.slice none 0 0)
    clear hb02 hb2 hb0 hC0 hR0
    go_wp2
    generalize (((w2.setCell ⟨w.heap.size + 1, 0, none⟩ (.int .i64 0)).setCell ⟨w.heap.size + 1, 1, none⟩ (.int .i64 0)).setCell ⟨w.heap.size + 1, 2, none⟩ (.int .i64 0)).setCell ⟨w.heap.size + 1, 3, none⟩ (.slice none 0 0) = w5 at *
    have r0 : w5.cell? ⟨w.heap.size + 1, 0, none⟩ = some (.int .i64 0) := blk_cell hC5 0
    have r1 : w5.cell? ⟨w.heap.size + 1, 1, none⟩ = some (.int .i64 0) := blk_cell hC5 1
    have r2 : w5.cell? ⟨w.heap.size + 1, 2, none⟩ = some (.int .i64 0) := blk_cell hC5 2
    have r3 : w5.cell? ⟨w.heap.size + 1, 3, none⟩ = some (.slice none 0 0) := blk_cell hC5 3
    refine bodyPost_ret (v := .tuple #[.agg #[.int .i64 0, .int .i64 0, .int .i64 0, .slice none 0 0], .int .i64 F]) (by simp [results, Tryz.results119, go_sem, r0, r1, r2, r3]) rfl ?_
    exact ⟨⟨.slice none 0 0, by rw [HBE.out] <;> rfl, by rw [HBE.out]; exact CondR.zero _ _⟩, hb5⟩
end Go.Proofs.YtbkglhakhahfpaaGreatDoor
namespace Go.Proofs.YtbkglhakhahfpaaGreatDoor
open Go.RowKit Go.Sort Go.Maps Go.Shelf Go.Lib

theorem keysP_any (gm : Nat) (W : World) : Calls Tryz.prog 97 #[.map (some gm)] W fun e w' => e = .returned (.func (.func 181) #[] #[.pointer (some ⟨W.heap.size, 0, none⟩)]) ∧ w' = W.alloc (.cells #[.map (some gm)] 154) :=
  callsIn_wide.1 (Tryz.maps_Keys_97 (some gm) W)
theorem sortedP_any (b : Nat) (m : Sm (Option Nat)) (w : World) (hown : MapS TP w b m) (hmax : m.length ≤ 100000) :
    Calls Tryz.prog 96 #[.func (.func 181) #[] #[.pointer (some ⟨w.heap.size, 0, none⟩)]] (w.alloc (.cells #[.map (some b)] 154)) fun e w' => ∃ (v : Value), e = .returned v ∧ OwnR TS w' w.heap.size v (m.keys.map baOf) ∧ Below w.heap.size w w' := by
  have hsz : Maps.size (DataW.map (smD TP m)) ≤ 100000 := by show (smD TP m).length ≤ _; unfold smD; rw [List.length_map]; exact hmax
  refine (callsIn_wide.1 (Tryz.slices_Sorted_keys_96_97 b _ _ _ w hown.2 (by unfold maxLen; omega) (by omega))).mono ?_
  rintro e w' ⟨v, ss, rfl, hS, hrow, hnil, hb⟩
  rw [smD_keys] at hS
  exact ⟨v, rfl, own_keys hown.1 hS (ownsRow_base_a hrow (by simp)), ((Below.refl _ w).alloc (Nat.le_refl _) _).trans (hb.mono (by simp))⟩
theorem inS_take {m : Sm Bd0} {k : Nat} {p : Bs × Bd0} (hp : m[k]? = some p) (st : Int) : inS (m.take (k + 1)) st = inS (m.take k) st ++ if p.2.st = st then [p.1] else [] := by
  obtain ⟨hk, he⟩ := List.getElem?_eq_some_iff.1 hp
  have : m.take (k + 1) = m.take k ++ [p] := by rw [List.take_add_one, hp]; rfl
  rw [this]
  unfold inS
  rw [List.filter_append, List.map_append]
  by_cases h : p.2.st = st
  · rw [if_pos h]; simp [h]
  · rw [if_neg h]; simp [h]
theorem flat_one (b : ByteArray) : TS.f b = [.string b] := rfl
theorem Sm.keys_mapv {α β : Type} (f : α → β) (l : Sm α) : (l.mapv f).keys = l.keys := by
  unfold Sm.mapv Sm.keys; rw [List.map_map]; rfl
theorem keys_at {α : Type} {m : Sm α} {k : Nat} {p : Bs × α} (h : m[k]? = some p) : (m.keys.map baOf)[k]? = some (baOf p.1) := by
  unfold Sm.keys
  simp [h]
/-- all names are short. -/
def Names (m : Sm Bd0) : Prop := ∀ p ∈ m, p.1.length ≤ 1000
set_option maxHeartbeats 4000000 in
set_option maxRecDepth 100000 in
theorem In_any (S : Nat) (rh rr st : Int) (m : Sm Bd0) (w0 w : World) (h : ShopA w0 w S rh rr m) (hn : Names m) (hm : m.length ≤ 100000) :
    Calls Tryz.prog 95 #[.pointer (some ⟨S, 0, none⟩), .int .i64 st] w fun e w' => (∃ v, e = .returned v ∧ OwnR TS w' w.heap.size v ((inS m st).map baOf)) ∧ Below w.heap.size w w' := by
  obtain ⟨⟨L, hL, hLm⟩, _⟩ := h
  have lS := hL.lt
  have hLl : L.length ≤ 100000 := by rw [← Sm.len_mapv (·.2) L, hLm]; exact hm
  have c1 : w.cell? ⟨S, 2, none⟩ = some (.map (some (S - 1))) := blk_cell hL.blk 2
  have HL := Lib.hid hL
  have HLM := Lib.hid hLm
  have HSO := Lib.hid (sortedP_any (S - 1) _ w hL.map (by rw [Sm.len_mapv]; exact hLl))
  have HN := Lib.hid hn
  clear hL hLm hn
  go_enter Tryz.func95, Tryz.ntmps95
  go_wp2_with fail
  refine (keysP_any (S - 1) w).mono ?_
  rintro e w1 ⟨rfl, rfl⟩
  go_wp2_with fail
  refine HSO.out.mono ?_
  rintro e w2 ⟨v, rfl, hO, hb2⟩
  obtain ⟨va, vc, rfl, _, _⟩ := hO.form
  have hlk : ((Sm.keys (L.mapv fun x => some x.1)).map baOf).length = L.length := by rw [List.length_map, keys_len, Sm.len_mapv]
  have HO := Lib.hid hO
  rw [hlk]
  have HLK := Lib.hid hlk
  clear hO hlk
  go_wp2_with fail
  have hz2 := hb2.size
  have HB2 := Lib.hid hb2
  clear hb2
  go_loopw [5, 15] (fun ov i wr => ∃ (k : Nat), k ≤ L.length ∧ i = .int .i64 k ∧ OwnR TS wr w2.heap.size ov ((inS (m.take k) st).map baOf) ∧ Below w2.heap.size w2 wr) (fun _ i _ => L.length - (intOf i).toNat)
  case atStart => exact ⟨0, Nat.zero_le _, rfl, OwnR.nil _ _, Below.refl _ _⟩
  case round =>
    obtain ⟨k, hk, rfl, hOv, hb⟩ := hrel
    by_cases hlt : k < L.length
    · obtain ⟨⟨ks, g, b⟩, hp⟩ : ∃ p, L[k]? = some p := ⟨_, List.getElem?_eq_getElem hlt⟩
      have hpm : m[k]? = some (ks, b) := by rw [← HLM.out]; unfold Sm.mapv; rw [List.getElem?_map, hp]; rfl
      have hnm : (baOf ks).size ≤ maxLen := by
        have := HN.out _ (List.mem_of_getElem? hpm)
        have e : (baOf ks).size = ks.length := by show ks.toArray.size = _; simp
        rw [e]; unfold maxLen; simp only at this; omega
      have HIS := Lib.hid (inS_take hpm st)
      have hLw := (HL.out.below HB2.out).below hb
      obtain ⟨b1, o1, rfl, _, hl1, hx1⟩ := str_at (HO.out.rec0.below hb) (keys_at (m := L.mapv fun x => some x.1) (p := (ks, some g)) (by unfold Sm.mapv; rw [List.getElem?_map, hp]; rfl))
      simp only at hx1
      have hBr := (hLw.brd _ (List.mem_of_getElem? hp)).2
      have d0 : wr.cell? ⟨g, 0, none⟩ = some (.int .i64 b.st) := blk_cell hBr.2.1 0
      have d2 : wr.cell? ⟨S, 2, none⟩ = some (.map (some (S - 1))) := blk_cell hLw.blk 2
      have hget : (L.mapv fun x => some x.1).get (baOf ks).data.toList = some (some g) := by
        rw [Sm.get_mapv, show (baOf ks).data.toList = ks from bsOf_baOf ks, Sm.get_of_mem hLw.ok (List.mem_of_getElem? hp)]; rfl
      have hlk : (Instr.lookup 154 (.map (some (S - 1))) (.string (baOf ks)) false).run Tryz.prog wr = .ok (.pointer (some ⟨g, 0, none⟩)) wr := by
        have := hLw.map.look TP.ok (baOf ks) hnm
        rw [hget] at this
        exact this
      have hw1 : IntKind.i64.wrap ((k : Int) + 1) = ((k + 1 : Nat) : Int) := by rw [IntWalk.i64_in _ (by omega)]; omega
      have lg := hBr.lt
      have lSr := hLw.lt
      have hlen : ((inS (m.take k) st).map baOf).length ≤ 1000000 := by
        rw [List.length_map]
        unfold inS
        rw [List.length_map]
        have := List.length_filter_le (fun p : Bs × Bd0 => decide (p.2.st = st)) (m.take k)
        rw [List.length_take] at this
        omega
      clear hLw hBr hget hnm hpm hp
      have HOv := Lib.hid hOv
      by_cases hst : b.st = st
      · have hbst : (b.st == st) = true := by simpa using hst
        have hI2 := HIS.out
        rw [if_pos hst] at hI2
        have HI2 := Lib.hid hI2
        clear hst hI2 hOv
        go_wp2_with (at_builtin; refine wp_app_rec TS.ok rfl _ _ rfl w2.heap.size _ ((inS (m.take k) st).map baOf) rfl (HOv.out.alloc _) wr.heap.size 1 (baOf ks) rfl (blk_new wr _) rfl hlen (by have := hb.size; simp; omega) ?_)
        intro v' w5 hO5 hA5 hb5
        have hbx5 : Below w2.heap.size w2 w5 := Below.trans (Bl.alloc hb _) hb5
        have HO5 : Hid (OwnR TS w5 w2.heap.size v' ((inS (m.take (k + 1)) st).map baOf)) := Lib.hid (by rw [HI2.out, List.map_append]; exact hO5)
        clear hO5 hA5
        go_wp2
        go_roundw
        case rel => exact ⟨k + 1, by omega, by go_num, HO5.out, hbx5⟩
        case measure => simp [intOf]; omega
      · have hbst : (b.st == st) = false := by simpa using hst
        have hI2 := HIS.out
        rw [if_neg hst, List.append_nil] at hI2
        have HO5 : Hid (OwnR TS wr w2.heap.size u5 ((inS (m.take (k + 1)) st).map baOf)) := Lib.hid (by rw [hI2]; exact hOv)
        clear hst hI2 hOv
        go_wp2
        go_roundw
        case rel => exact ⟨k + 1, by omega, by go_num, HO5.out, hb⟩
        case measure => simp [intOf]; omega
    · obtain rfl : k = L.length := by omega
      have hfull : m.take L.length = m := by rw [← HLM.out, ← Sm.len_mapv (·.2) L, List.take_length]
      rw [hfull] at hOv
      have HOV := Lib.hid (hOv.base hz2)
      have HBB := Lib.hid (Below.trans HB2.out (hb.mono hz2))
      clear hOv
      go_wp2
      go_ret
      exact ⟨⟨_, rfl, HOV.out⟩, HBB.out⟩
theorem mfltF_zero {rh rr : Int} {l : List Stp} {at' : Int} (h : mfltF rh rr l at' = 0) : rulesF rh rr = 0 ∧ stepsF l = 0 ∧ 0 ≤ at' ∧ at' ≤ 345686399999 := by
  unfold mfltF fltF at h
  by_cases h2 : rulesF rh rr = 0
  · rw [if_pos h2] at h
    by_cases h1 : stepsF l = 0
    · rw [if_pos h1] at h
      by_cases h4 : momB at' = true
      · simp only [momB, inB, Bool.and_eq_true, decide_eq_true_eq] at h4
        exact ⟨h2, h1, h4⟩
      · rw [if_neg h4] at h; exact absurd h (by decide)
    · rw [if_neg h1] at h; exact absurd h h1
  · rw [if_neg h2, if_neg h2] at h; exact absurd h h2
theorem run_names {rh rr at' : Int} {l : List Stp} (h : stepsF l = 0) : Names (runS rh rr at' [] l) := fun p hp => by
  have := keyB_size (runS_J h p hp).2
  have e : (baOf p.1).size = p.1.length := by show p.1.toArray.size = _; simp
  omega
def bsF (rh rr : Int) (l : List Stp) (at' st : Int) : Int := if mfltF rh rr l at' = 0 then (if inB 1 st 6 = true then 0 else 4) else mfltF rh rr l at'
def bsL (rh rr : Int) (l : List Stp) (at' st : Int) : List Bs := if bsF rh rr l at' st = 0 then inS (runS rh rr at' [] l) st else []
theorem momB_of {at' : Int} (h : 0 ≤ at' ∧ at' ≤ 200) : momB at' = true := inB_true (by omega) (by omega)
theorem fltF_of {rh rr : Int} {l : List Stp} (h1 : 1 ≤ rh ∧ rh ≤ 10) (h2 : 1 ≤ rr ∧ rr ≤ 3) (hl : stepsF l = 0) : fltF rh rr l = 0 := by
  have hr : rulesF rh rr = 0 := by
    unfold rulesF
    rw [if_pos ⟨inB_true (by omega) (by omega), inB_true (by omega) (by omega)⟩]
  unfold fltF; rw [if_pos hr, hl]
theorem bfltF_of {rh rr at' : Int} {l : List Stp} {b : ByteArray} (h1 : 1 ≤ rh ∧ rh ≤ 10) (h2 : 1 ≤ rr ∧ rr ≤ 3) (hl : stepsF l = 0) (ha : 0 ≤ at' ∧ at' ≤ 200) (hb : keyB b = true) : bfltF rh rr l b at' = 0 := by
  unfold bfltF
  rw [fltF_of h1 h2 hl, if_pos rfl, hb, if_pos rfl, momB_of ha, if_pos rfl]
end Go.Proofs.YtbkglhakhahfpaaGreatDoor
