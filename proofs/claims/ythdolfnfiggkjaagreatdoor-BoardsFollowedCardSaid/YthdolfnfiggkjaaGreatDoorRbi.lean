/- The reference's BoardsIn, WaitingAt and HopelessAt. Conditions: right steps, at most 24 of them. -/
import Derived.Test.YthdolfnfiggkjaaGreatDoorRwt
import Derived.Test.YthdolfnfiggkjaaGreatDoorRcn
import Derived.Test.YthdolfnfiggkjaaGreatDoorDn
import Derived.Test.YthdolfnfiggkjaaGreatDoorHls
import Derived.BigRegion
namespace Go.Proofs.YthdolfnfiggkjaaGreatDoor
open Go.RowKit Go.Sort Go.Maps Go.Lib

set_option maxHeartbeats 4000000 in
theorem bic_any (X g : Nat) (b : Bd0) (st : Int) (W : World) (hM : LifeM W g b) (hX : W.cell? ⟨X, 0, none⟩ = some (.int .i64 st)) :
    Calls Tryz.prog 110 #[.pointer (some ⟨g, 0, none⟩), .pointer (some ⟨X, 0, none⟩)] W fun e w' => e = .returned (.bool (decide (b.st = st))) ∧ Below W.heap.size W w' := by
  have hd : (b.st == st) = decide (b.st = st) := by
    by_cases h : b.st = st
    · simp [h]
    · simp [h]
  obtain ⟨r, hr⟩ : ∃ r, r = decide (b.st = st) := ⟨_, rfl⟩
  rw [← hr] at hd ⊢
  have HR := Lib.hid hr
  obtain ⟨_, _, _, v, hbk, _⟩ := hM
  have d0 : W.cell? ⟨g, 0, none⟩ = some (.int .i64 b.st) := blk_cell hbk 0
  have lg := blk_lt hbk
  have lX := World.block_lt_of_cell? _ _ hX
  simp only at lX
  clear hbk hr
  go_enter Tryz.func110, Tryz.ntmps110
  go_wp2
  go_quiet (fail)
  go_wp2
  go_ret
  exact ⟨rfl, Bl.drewN (Below.refl _ _) _⟩
set_option maxHeartbeats 4000000 in
theorem wac_any (g : Nat) (b : Bd0) (W : World) (hM : LifeM W g b) :
    Calls Tryz.prog 105 #[.pointer (some ⟨g, 0, none⟩)] W fun e w' => e = .returned (.bool (decide (b.st = 3))) ∧ Below W.heap.size W w' := by
  have hd : (b.st == 3) = decide (b.st = 3) := by
    by_cases h : b.st = 3
    · simp [h]
    · simp [h]
  obtain ⟨r, hr⟩ : ∃ r, r = decide (b.st = 3) := ⟨_, rfl⟩
  rw [← hr] at hd ⊢
  have HR := Lib.hid hr
  obtain ⟨_, _, _, v, hbk, _⟩ := hM
  have d0 : W.cell? ⟨g, 0, none⟩ = some (.int .i64 b.st) := blk_cell hbk 0
  have lg := blk_lt hbk
  clear hbk hr
  go_enter Tryz.func105, Tryz.ntmps105
  go_wp2
  go_ret
  exact ⟨rfl, Below.refl _ _⟩
set_option maxHeartbeats 4000000 in
/-- whether a component is worn. -/
theorem dnc_any (Xb Xr g : Nat) (b : Bd0) (rh rr : Int) (x : Bs) (W : World) (hM : LifeM W g b) (hb : W.cell? ⟨Xb, 0, none⟩ = some (.pointer (some ⟨g, 0, none⟩))) (hr : W.heap[Xr]? = some (.cells #[.int .i64 rh, .int .i64 rr] 27 (0, 0))) (hx : x.length ≤ 1000) :
    Calls Tryz.prog 108 #[.string (baOf x), .pointer (some ⟨Xb, 0, none⟩), .pointer (some ⟨Xr, 0, none⟩)] W fun e w' => e = .returned (.bool (decide (rr ≤ (b.rp.get x).getD 0))) ∧ ∃ n, w' = W.drewN n := by
  obtain ⟨n, hn⟩ : ∃ n, n = (b.rp.get x).getD 0 := ⟨_, rfl⟩
  rw [← hn]
  have hsz : (baOf x).size ≤ maxLen := by
    have e : (baOf x).size = x.length := by show x.toArray.size = _; simp
    rw [e]; unfold maxLen; omega
  obtain ⟨_, hmp, _, v, hbk, _⟩ := hM
  have hlk : ∀ k, (Instr.lookup 140 (.map (some (g - 1))) (.string (baOf x)) false).run Tryz.prog (W.drewN k) = .ok (.int .i64 n) (W.drewN k) := fun k => by
    have := (hmp.keep (w' := W.drewN k) rfl).look TI.ok (baOf x) hsz
    rw [show (baOf x).data.toList = x from bsOf_baOf x] at this
    rw [hn]; exact this
  have d0 : W.cell? ⟨g, 4, none⟩ = some (.map (some (g - 1))) := blk_cell hbk 4
  have d1 : W.cell? ⟨Xr, 1, none⟩ = some (.int .i64 rr) := blk_cell hr 1
  have lg := blk_lt hbk
  have lr := blk_lt hr
  have lX := World.block_lt_of_cell? _ _ hb
  simp only at lX
  clear hbk hr hmp hn
  go_enter Tryz.func108, Tryz.ntmps108
  go_wp2
  go_quiet (fail)
  go_wp2
  go_ret
  exact ⟨rfl, _, rfl⟩
set_option maxHeartbeats 4000000 in
set_option maxRecDepth 100000 in
theorem hac_any (Xr g : Nat) (b : Bd0) (rh rr : Int) (W : World) (hM : LifeM W g b) (hr : W.heap[Xr]? = some (.cells #[.int .i64 rh, .int .i64 rr] 27 (0, 0))) (hn : ∀ p ∈ b.op, p.1.length ≤ 1000) (hs : b.Sm1 100000) (hrr : 0 ≤ rh ∧ rh ≤ 1000000) :
    Calls Tryz.prog 107 #[.pointer (some ⟨g, 0, none⟩), .pointer (some ⟨Xr, 0, none⟩)] W fun e w' => e = .returned (.bool (decide (b.st = 3) && isHopB rh rr b)) ∧ Below W.heap.size W w' := by
  have hA := Bl.alloc (Below.refl W.heap.size W) (.cells #[.pointer (some ⟨g, 0, none⟩)] 155)
  have hX := blk_new W (.cells #[.pointer (some ⟨g, 0, none⟩)] 155)
  have lg := hM.lt
  have lr := blk_lt hr
  have hM1 := hM.below hA
  have hr1 := blk_below hr hA
  obtain ⟨W1, hW1⟩ : ∃ W1, W1 = W.alloc (.cells #[.pointer (some ⟨g, 0, none⟩)] 155) := ⟨_, rfl⟩
  rw [← hW1] at hA hX hM1 hr1
  have HQ : Hid (QfDn W1 W.heap.size Xr b.op.keys fun k => decide (rr ≤ (b.rp.get k).getD 0)) := Lib.hid fun m k hk => by
    obtain ⟨p, hp, rfl⟩ := List.mem_map.1 hk
    have hUV := Bl.drewN (Below.refl W1.heap.size W1) m
    exact dnc_any W.heap.size Xr g b rh rr p.1 _ (hM1.below hUV) (blk_cell (blk_below hX hUV) 0) (blk_below hr1 hUV) (hn p hp)
  obtain ⟨_, _, _, v, hbk, hov⟩ := hM1
  obtain ⟨va, vn, vc, rfl, hvn⟩ : ∃ a n c, v = .slice a n c ∧ n = b.op.length := by obtain ⟨a, c, hv, _, _⟩ := hov.form; exact ⟨a, _, c, hv, by rw [List.length_map, keys_len]⟩
  obtain ⟨R, hR⟩ : ∃ R, R = b.op.keys.any fun k => decide (rr ≤ (b.rp.get k).getD 0) := ⟨_, rfl⟩
  have HH := Lib.hid fun n => HasDn_any (W1.drewN n) W.heap.size Xr b.op.keys (fun k => decide (rr ≤ (b.rp.get k).getD 0)) (.slice va vn vc) (by rw [keys_len]; exact hs.2.2.2.2.1) (hov.rec0.below (Bl.drewN (Below.refl _ _) n)) fun m k hk => by rw [World.drewN_drewN]; exact HQ.out (n + m) k hk
  rw [← hR] at HH
  have HRR : Hid (isHopB rh rr b = (decide (rh - b.he < (vn : Int)) || R)) := Lib.hid (by
    unfold isHopB
    rw [hR, hvn]
    unfold Sm.keys
    rw [List.any_map]; rfl)
  obtain ⟨T, hT⟩ : ∃ T, T = (decide (b.st = 3) && isHopB rh rr b) := ⟨_, rfl⟩
  rw [← hT]
  have HT := Lib.hid hT
  have d0 : W1.cell? ⟨g, 0, none⟩ = some (.int .i64 b.st) := blk_cell hbk 0
  have d2 : W1.cell? ⟨g, 2, none⟩ = some (.int .i64 b.he) := blk_cell hbk 2
  have d3 : W1.cell? ⟨g, 3, none⟩ = some (.slice va vn vc) := blk_cell hbk 3
  have x0 : W1.cell? ⟨W.heap.size, 0, none⟩ = some (.pointer (some ⟨g, 0, none⟩)) := blk_cell hX 0
  have y0 : W1.cell? ⟨Xr, 0, none⟩ = some (.int .i64 rh) := blk_cell hr1 0
  have lg1 := blk_lt hbk
  have lx1 := blk_lt hX
  have lr1 := blk_lt hr1
  have HV := Lib.hid hvn
  have HA := Lib.hid hA
  have hh : 0 ≤ b.he ∧ b.he ≤ 1000000 := by have := hs.1; have := hs.2.1; omega
  have hvn1 : vn ≤ 100000 := by rw [hvn]; exact hs.2.2.2.2.1
  have hwr : IntKind.i64.wrap (rh - b.he) = rh - b.he := IntWalk.i64_in _ (by omega)
  clear hbk hov hX hr1 hr hM hA hvn HQ hR hT hn hs hrr hh
  go_enter Tryz.func107, Tryz.ntmps107
  go_wp2
  rw [← hW1]
  clear hW1
  by_cases h3 : b.st = 3
  · have q3 : (b.st == 3) = true := by simp [h3]
    by_cases h1 : rh - b.he < (vn : Int)
    · have HTT : Hid (T = true) := Lib.hid (by rw [HT.out, HRR.out]; simp [h3, h1])
      go_quiet (fail)
      go_wp2
      go_ret
      exact ⟨by rw [HTT.out] <;> rfl, Bl.drewN HA.out _⟩
    · have HTT : Hid (T = R) := Lib.hid (by rw [HT.out, HRR.out]; simp [h3, h1])
      go_quiet ((go_at_call 109; exact Calls.quiet_of (HH.out _)))
      go_wp2
      go_ret
      exact ⟨by rw [HTT.out] <;> rfl, Bl.drewN HA.out _⟩
  · have q3 : (b.st == 3) = false := by simp [h3]
    have HTT : Hid (T = false) := Lib.hid (by rw [HT.out]; simp [h3])
    go_quiet (fail)
    go_wp2
    go_ret
    exact ⟨by rw [HTT.out] <;> rfl, Bl.drewN HA.out _⟩
theorem hopen_short {b : Bd0} (h : BdJ b) : ∀ p ∈ b.op, p.1.length ≤ 1000 := fun p hp => by
  have h1 := keyB_size (h.ck p hp)
  have e : (baOf p.1).size = p.1.length := by show p.1.toArray.size = _; simp
  omega
def hopF (rh rr : Int) (b : Bd0) : Bool := decide (b.st = 3) && isHopB rh rr b
set_option maxHeartbeats 4000000 in
theorem RBoardsIn_any (rh rr : Int) (l : List Stp) (at' st : Int) (v : Value) (w : World) (rl : RecR TSt w 0 v l) (hl : stepsF l = 0) :
    Calls Tryz.prog 40 #[.agg #[.int .i64 rh, .int .i64 rr], v, .int .i64 at', .int .i64 st] w fun e w' => (∃ u, e = .returned u ∧ OwnR TS w' w.heap.size u ((inS (runS rh rr at' [] l) st).map baOf)) ∧ Below w.heap.size w w' := by
  have hA := Bl.alloc (Bl.alloc (Below.refl w.heap.size w) (.cells #[.int .i64 rh, .int .i64 rr] 27)) (.cells #[.int .i64 st] 3)
  have hC := blk_new' (w.alloc (.cells #[.int .i64 rh, .int .i64 rr] 27)) (.cells #[.int .i64 st] 3) (g := w.heap.size + 1) (by simp)
  have HC := Lib.hid (RShopAt_any rh rr at' l v _ (rl.below hA) hl)
  have HA := Lib.hid (And.intro hA hC)
  have HM := Lib.hid (run_small (rh := rh) (rr := rr) (at' := at') hl).1
  clear rl hl hA hC
  go_enter Tryz.func40, Tryz.ntmps40
  go_wp2_with fail
  refine HC.out.mono ?_
  rintro e w1 ⟨S, ov, wv, rfl, hS, ho, hw, hS1, hb1⟩
  have hC1 := blk_below HA.out.2 hb1
  have hB1 := Bl.trans HA.out.1 hb1
  have HT := Lib.hid (those_any S rh rr _ w1 hS 110 #[.pointer (some ⟨w.heap.size + 1, 0, none⟩)] (fun a => #[a, .pointer (some ⟨w.heap.size + 1, 0, none⟩)]) _ (.inl ⟨rfl, rfl, rfl⟩) (fun b => decide (b.st = st)) (fun W g k b hW hg _ => bic_any (w.heap.size + 1) g b st W hg (blk_cell (blk_below hC1 hW) 0)) HM.out)
  have hz1 := hB1.size
  clear hS ho hw hS1 hb1 HC hC1
  go_wp2_with fail
  refine HT.out.mono ?_
  rintro e w2 ⟨⟨u, rfl, hu⟩, hb2⟩
  have HF := Lib.hid (And.intro (hu.base hz1) (Bl.trans hB1 hb2))
  clear hu hb2 hB1
  go_wp2
  go_ret
  exact ⟨⟨_, rfl, HF.out.1⟩, HF.out.2⟩
set_option maxHeartbeats 4000000 in
theorem RWaitingAt_any (rh rr : Int) (l : List Stp) (at' : Int) (v : Value) (w : World) (rl : RecR TSt w 0 v l) (hl : stepsF l = 0) (h24 : l.length ≤ 24) :
    Calls Tryz.prog 38 #[.agg #[.int .i64 rh, .int .i64 rr], v, .int .i64 at'] w fun e w' => (∃ u, e = .returned u ∧ OwnR TS w' w.heap.size u ((sortW (runS rh rr at' [] l) (inS (runS rh rr at' [] l) 3)).map baOf)) ∧ Below w.heap.size w w' := by
  have hA := Bl.alloc (Below.refl w.heap.size w) (.cells #[.int .i64 rh, .int .i64 rr] 27)
  have HC := Lib.hid (RShopAt_any rh rr at' l v _ (rl.below hA) hl)
  have HA := Lib.hid hA
  have HM := Lib.hid (And.intro (run_small (rh := rh) (rr := rr) (at' := at') hl).1 (And.intro (run_names (rh := rh) (rr := rr) (at' := at') hl) (fail_few (rh := rh) (rr := rr) (at' := at') h24)))
  clear rl hl hA h24
  go_enter Tryz.func38, Tryz.ntmps38
  go_wp2_with fail
  refine HC.out.mono ?_
  rintro e w1 ⟨S, ov, wv, rfl, hS, ho, hw, hS1, hb1⟩
  obtain ⟨w2, hw2⟩ : ∃ w2, w2 = w1.alloc (.cells #[.pointer (some ⟨S, 0, none⟩)] 110) := ⟨_, rfl⟩
  have hb12 : Below w1.heap.size w1 w2 := by rw [hw2]; exact Bl.alloc (Below.refl _ _) _
  have hX2 : w2.heap[w1.heap.size]? = some (.cells #[.pointer (some ⟨S, 0, none⟩)] 110 (0, 0)) := by rw [hw2]; exact blk_new w1 _
  have hB2 := Bl.trans HA.out (Bl.trans hb1 hb12)
  have hS2 := ShopB.below hS hb12
  have HS2 := Lib.hid (And.intro hS2 hX2)
  have HT := Lib.hid (those_any S rh rr _ w2 hS2 105 #[] (fun a => #[a]) (.int .i64 0) (.inr (.inl ⟨rfl, rfl, rfl⟩)) (fun b => decide (b.st = 3)) (fun W g k b hW hg _ => wac_any g b W hg) HM.out.1)
  have c0 : w2.cell? ⟨w1.heap.size, 0, none⟩ = some (.pointer (some ⟨S, 0, none⟩)) := blk_cell hX2 0
  have hz2 := hB2.size
  have HB2 := Lib.hid hB2
  clear hS ho hw hS1 hb1 HC hb12 hX2 hB2 hS2
  go_wp2_with fail
  rw [← hw2]
  clear hw2
  refine HT.out.mono ?_
  rintro e w3 ⟨⟨u, rfl, hu⟩, hb3⟩
  have HST := Lib.hid (rstableW_any S w1.heap.size rh rr _ w3 w2.heap.size hb3.size (inS (runS rh rr at' [] l) 3) u hu (fun W hW => ShopB.below HS2.out.1 (Below.trans hb3 hW)) (fun W hW => blk_cell (blk_below HS2.out.2 (Below.trans hb3 hW)) 0) (inS_some (runS_ok l Sm.Ok.nil)) HM.out.2.1 (by have := HM.out.2.2; omega))
  have HB3 := Lib.hid (Bl.trans HB2.out hb3)
  clear hu hb3 HT
  go_wp2_with fail
  refine HST.out.mono ?_
  rintro e w4 ⟨rfl, hO4, hb4⟩
  have HF := Lib.hid (And.intro (hO4.base hz2) (Below.trans HB3.out (hb4.mono hz2)))
  clear hO4 hb4 HST
  go_wp2
  go_ret
  exact ⟨⟨_, rfl, HF.out.1⟩, HF.out.2⟩
theorem inS_hop (rh rr : Int) (m : Sm Bd0) (hm : Sm.Ok m) : Sm.keys (m.filter fun p => hopF rh rr p.2) = (inS m 3).filter (hopK rh rr m) := by
  unfold inS Sm.keys
  rw [List.filter_map, List.filter_filter]
  congr 1
  apply List.filter_congr
  intro p hp
  have hg : m.get p.1 = some p.2 := Sm.get_of_mem hm hp
  unfold hopF hopK
  simp only [Function.comp]
  rw [hg]
  simp [Bool.and_comm]
set_option maxHeartbeats 4000000 in
theorem RHopelessAt_any (rh rr : Int) (l : List Stp) (at' : Int) (v : Value) (w : World) (rl : RecR TSt w 0 v l) (hl : stepsF l = 0) (hr : rulesF rh rr = 0) :
    Calls Tryz.prog 39 #[.agg #[.int .i64 rh, .int .i64 rr], v, .int .i64 at'] w fun e w' => (∃ u, e = .returned u ∧ OwnR TS w' w.heap.size u (((inS (runS rh rr at' [] l) 3).filter (hopK rh rr (runS rh rr at' [] l))).map baOf)) ∧ Below w.heap.size w w' := by
  have hA := Bl.alloc (Below.refl w.heap.size w) (.cells #[.int .i64 rh, .int .i64 rr] 27)
  have hX := blk_new w (.cells #[.int .i64 rh, .int .i64 rr] 27)
  have HC := Lib.hid (RShopAt_any rh rr at' l v _ (rl.below hA) hl)
  have HA := Lib.hid (And.intro hA hX)
  have HM := Lib.hid (run_small (rh := rh) (rr := rr) (at' := at') hl)
  have HJ := Lib.hid (runS_J (rh := rh) (rr := rr) (at' := at') hl)
  have HRL := Lib.hid (rulesF_zero hr)
  have HE := Lib.hid (inS_hop rh rr (runS rh rr at' [] l) (runS_ok l Sm.Ok.nil))
  clear rl hl hA hX hr
  go_enter Tryz.func39, Tryz.ntmps39
  go_wp2_with fail
  refine HC.out.mono ?_
  rintro e w1 ⟨S, ov, wv, rfl, hS, ho, hw, hS1, hb1⟩
  have hC1 := blk_below HA.out.2 hb1
  have hB1 := Bl.trans HA.out.1 hb1
  have HT := Lib.hid (those_any S rh rr _ w1 hS 107 #[.pointer (some ⟨w.heap.size, 0, none⟩)] (fun a => #[a, .pointer (some ⟨w.heap.size, 0, none⟩)]) _ (.inr (.inr ⟨rfl, rfl, rfl⟩)) (hopF rh rr) (fun W g k b hW hg hk => hac_any w.heap.size g b rh rr W hg (blk_below hC1 hW) (fun p hp => hopen_short (HJ.out _ (Sm.get_mem hk)).1 p hp) (HM.out.2 _ (Sm.get_mem hk)) HRL.out) HM.out.1)
  have hz1 := hB1.size
  clear hS ho hw hS1 hb1 HC hC1
  go_wp2_with fail
  refine HT.out.mono ?_
  rintro e w2 ⟨⟨u, rfl, hu⟩, hb2⟩
  rw [HE.out] at hu
  have HF := Lib.hid (And.intro (hu.base hz1) (Bl.trans hB1 hb2))
  clear hu hb2 hB1
  go_wp2
  go_ret
  exact ⟨⟨_, rfl, HF.out.1⟩, HF.out.2⟩
end Go.Proofs.YthdolfnfiggkjaaGreatDoor
