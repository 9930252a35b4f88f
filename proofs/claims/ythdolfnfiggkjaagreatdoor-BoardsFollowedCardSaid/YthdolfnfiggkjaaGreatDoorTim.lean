/- rework.Times: how long a board was in each state. Conditions: at most 10^6 steps, strings of at most 2^47 bytes. -/
import Derived.Test.YthdolfnfiggkjaaGreatDoorTmp
import Derived.BigRegion
namespace Go.Proofs.YthdolfnfiggkjaaGreatDoor
open Go.RowKit Go.Sort Go.Maps

theorem info_intT : (Tryz.prog.info? 3).map (fun i => (i.zero, i.size, i.bytes)) = some (some (.int .i64 0), 1, 8) := by kernel_rfl
theorem mk_six : ∀ W : World, (Instr.makeSlice 22 (.int .i64 6) (.int .i64 6)).run Tryz.prog W = .ok (.slice (some ⟨W.heap.size, 0, none⟩) 6 6) (W.alloc (.cells (madeCells #[.int .i64 0] 6) 3)) := fun W => by
  obtain ⟨i, hi, hz0, hz1, hz2⟩ := info_parts info_intT
  have := run_make_rowN (P := Tryz.prog) 22 3 i _ Tryz.underlying22 hi hz0 .i64 .i64 6 6 (Nat.le_refl _) (by rw [hz2]; omega) (by omega) W
  rw [hz1, Nat.mul_one] at this
  exact this
theorem made_six : madeCells #[.int .i64 0] 6 = (ics tm0.o).toArray := Array.toList_inj.1 (by rw [toList_madeCells_one]; rfl)
/-- a block of the call with six numbers. -/
def Six (w : World) (B g : Nat) (o : List Int) : Prop := B ≤ g ∧ o.length = 6 ∧ w.heap[g]? = some (.cells (ics o).toArray 3 (0, 0))
/-- what Times answers: no slice, or a new one. -/
def timF (rh rr : Int) (l : List Stp) (b : ByteArray) (at' : Int) : Int := if bfltF rh rr l b at' = 0 then (if (tmG rh rr b at' tm0 l).last < 0 then 8 else 0) else bfltF rh rr l b at'
theorem tmG_stop {rh rr : Int} {b : ByteArray} {a : Int} {t : Tm} {l : List Stp} {k : Nat} {s : Stp} (hs : l[k]? = some s) (h : a < s.at) : tmG rh rr b a t (l.drop k) = t := by
  obtain ⟨hk, he⟩ := List.getElem?_eq_some_iff.1 hs
  rw [List.drop_eq_getElem_cons hk, he, tmG, if_pos h]
theorem tmG_skip {rh rr : Int} {b : ByteArray} {a : Int} {t : Tm} {l : List Stp} {k : Nat} {s : Stp} (hs : l[k]? = some s) (h : ¬ a < s.at) (hb : s.bd ≠ b) : tmG rh rr b a t (l.drop k) = tmG rh rr b a t (l.drop (k + 1)) := by
  obtain ⟨hk, he⟩ := List.getElem?_eq_some_iff.1 hs
  rw [List.drop_eq_getElem_cons hk, he, tmG, if_neg h, if_neg hb]
theorem tmG_go {rh rr : Int} {b : ByteArray} {a : Int} {t : Tm} {l : List Stp} {k : Nat} {s : Stp} (hs : l[k]? = some s) (h : ¬ a < s.at) (hb : s.bd = b) : tmG rh rr b a t (l.drop k) = tmG rh rr b a (tmS rh rr t s) (l.drop (k + 1)) := by
  obtain ⟨hk, he⟩ := List.getElem?_eq_some_iff.1 hs
  rw [List.drop_eq_getElem_cons hk, he, tmG, if_neg h, if_pos hb]
/-- where the loop of Times stands: behind k steps. -/
structure TmI (rh rr : Int) (l : List Stp) (b : ByteArray) (at' : Int) (w0 : World) (S go : Nat) (k : Nat) (t : Tm) (wr : World) : Prop where
  rest : tmG rh rr b at' tm0 l = tmG rh rr b at' t (l.drop k)
  ok : ∃ f, TmOk t f
  le : ∀ x ∈ l.drop k, t.last ≤ x.at
  top : t.last ≤ 345686399999
  has : 0 ≤ t.last → ∃ q, t.m.get b.data.toList = some q
  shop : ∃ L, ShM wr S rh rr L ∧ L.mapv (·.2) = t.m ∧ AllSm t.m k ∧ ¬ DoX S L go
  six : Six wr w0.heap.size go t.o
  bel : Below w0.heap.size w0 wr
  S1 : w0.heap.size ≤ S - 1
  gS : S < go
theorem TmI.skip {rh rr : Int} {l : List Stp} {b : ByteArray} {at' : Int} {w0 : World} {S go k : Nat} {t : Tm} {wr : World} (h : TmI rh rr l b at' w0 S go k t wr) {s : Stp} (hs : l[k]? = some s) (h1 : ¬ at' < s.at) (hb : s.bd ≠ b) (o : Obj) : TmI rh rr l b at' w0 S go (k + 1) t (wr.alloc o) := by
  obtain ⟨hk, he⟩ := List.getElem?_eq_some_iff.1 hs
  obtain ⟨L, hL1, hL2, hL3, hL4⟩ := h.shop
  refine ⟨h.rest.trans (tmG_skip hs h1 hb), h.ok, fun x hx => h.le x ?_, h.top, h.has, ⟨L, hL1.below (Below.alloc (Below.refl _ _) (Nat.le_refl _) o), hL2, ⟨by have := hL3.1; omega, fun p hp => (hL3.2 p hp).mono (Nat.le_succ k)⟩, hL4⟩, ⟨h.six.1, h.six.2.1, blk_old h.six.2.2 o⟩, Bl.alloc h.bel o, h.S1, h.gS⟩
  rw [List.drop_eq_getElem_cons hk]; exact List.mem_cons_of_mem _ hx
theorem TmI.alloc {rh rr : Int} {l : List Stp} {b : ByteArray} {at' : Int} {w0 : World} {S go k : Nat} {t : Tm} {wr : World} (h : TmI rh rr l b at' w0 S go k t wr) (o : Obj) : TmI rh rr l b at' w0 S go k t (wr.alloc o) := by
  obtain ⟨L, hL1, hL2, hL3, hL4⟩ := h.shop
  exact ⟨h.rest, h.ok, h.le, h.top, h.has, ⟨L, hL1.below (Below.alloc (Below.refl _ _) (Nat.le_refl _) o), hL2, hL3, hL4⟩, ⟨h.six.1, h.six.2.1, blk_old h.six.2.2 o⟩, Bl.alloc h.bel o, h.S1, h.gS⟩
theorem ics6 {o : List Int} {q : Nat} (hq : q < o.length) : (ics o).toArray[q]? = some (.int .i64 (o.getD q 0)) := by
  rw [List.getElem?_toArray]
  exact ics_at (by rw [List.getD_eq_getElem?_getD, List.getElem?_eq_getElem hq]; rfl)
theorem TmI.look {rh rr : Int} {l : List Stp} {b : ByteArray} {at' : Int} {w0 : World} {S go k : Nat} {t : Tm} {we : World} (h : TmI rh rr l b at' w0 S go k t we) (h0 : 0 ≤ t.last) (hb : b.size ≤ maxLen) :
    ∃ (g q : Nat) (x : Int), x = t.o.getD q 0 ∧ q < 6 ∧ q = stO t.m b ∧ we.cell? ⟨S, 2, none⟩ = some (.map (some (S - 1))) ∧ (Instr.lookup 144 (.map (some (S - 1))) (.string b) false).run Tryz.prog we.drew = .ok (.pointer (some ⟨g, 0, none⟩)) we.drew ∧ (Instr.lookup 144 (.map (some (S - 1))) (.string b) false).run Tryz.prog we = .ok (.pointer (some ⟨g, 0, none⟩)) we ∧ we.cell? ⟨g, 0, none⟩ = some (.int .i64 ((q : Int) + 1)) ∧ we.cell? ⟨go, q, none⟩ = some (.int .i64 x) ∧ we.frozen? ⟨go, q, none⟩ = false ∧ 0 ≤ x ∧ x ≤ 345686399999 ∧ S < we.heap.size ∧ g < we.heap.size ∧ go < we.heap.size := by
  obtain ⟨L, hL1, hL2, hL3, hL4⟩ := h.shop
  obtain ⟨f, hok⟩ := h.ok
  obtain ⟨x, hx⟩ := h.has h0
  rw [← hL2, Sm.get_mapv] at hx
  cases hg : L.get b.data.toList with
  | none => rw [hg] at hx; cases hx
  | some y =>
    rw [hg] at hx
    obtain ⟨g, bd⟩ := y
    injection hx with hx
    have hbd := (hL1.brd _ (Sm.get_mem hg)).2
    have hst : (t.m.get b.data.toList).getD newB = bd := by rw [← hL2, Sm.get_mapv, hg]; rfl
    have hr : 1 ≤ bd.st ∧ bd.st ≤ 6 := hok.st (b.data.toList, bd) (Sm.get_mem (by rw [← hL2, Sm.get_mapv, hg]; rfl))
    have hq : ((stO t.m b : Nat) : Int) + 1 = bd.st := by unfold stO; rw [hst]; omega
    have hq6 : stO t.m b < 6 := by omega
    have hl := hL1.map.drew.look TP.ok b hb
    have hl2 := hL1.map.look TP.ok b hb
    rw [Sm.get_mapv, hg] at hl hl2
    have hp := getD_nonneg t.o (stO t.m b) hok.pos
    have hs := getD_le_sum t.o (stO t.m b) hok.pos
    refine ⟨g, stO t.m b, _, rfl, hq6, rfl, blk_cell hL1.blk 2, hl, hl2, ?_, ?_, blk_free h.six.2.2 _, hp, ?_, hL1.lt, hbd.lt, blk_lt h.six.2.2⟩
    · rw [hq]; exact blk_cell hbd.2.1 0
    · rw [blk_cell h.six.2.2]; exact ics6 (by rw [h.six.2.1]; exact hq6)
    · have := h.top
      rcases hok.sum with hh | hh <;> omega
theorem Six.bump {w : World} {B g : Nat} {o : List Int} (h : Six w B g o) (q : Nat) (hq : q < 6) (d : Int) : Six (w.setCell ⟨g, q, none⟩ (.int .i64 (o.getD q 0 + d))) B g (bump o q d) := by
  refine ⟨h.1, by rw [bump_len]; exact h.2.1, ?_⟩
  rw [blk_set h.2.2]
  congr 2
  apply Array.toList_inj.1
  simp [Go.Proofs.YthdolfnfiggkjaaGreatDoor.bump, ics]
theorem ShM.lx {w : World} {S : Nat} {rh rr : Int} {L : Sm BdM} (h : ShM w S rh rr L) {i : Nat} (hx : DoX S L i) : i < w.heap.size := by
  rcases hx with rfl | ⟨p, hp, hx⟩
  · have := h.lt; omega
  · have := (h.brd p hp).2.lt; have := hx.2; omega
theorem ShM.keepX {w w' : World} {S : Nat} {rh rr : Int} {L : Sm BdM} {X : Nat → Prop} (h : ShM w S rh rr L) (hk : Kp w w' X) (hX : ∀ i, X i → ¬ DoX S L i ∧ i ≠ S) : ShM w' S rh rr L :=
  ⟨h.two, hk.blk h.blk fun hx => (hX _ hx).2 rfl, hk.ms h.map fun hx => (hX _ hx).1 (.inl rfl), h.ok, fun p hp => ⟨(h.brd p hp).1, (h.brd p hp).2.keep hk
    (fun hx => (hX _ hx).1 (.inr ⟨p, hp, Nat.le_refl _, Nat.sub_le _ _⟩)) (fun hx => (hX _ hx).1 (.inr ⟨p, hp, by omega, Nat.sub_le _ _⟩)) fun hx => (hX _ hx).1 (.inr ⟨p, hp, Nat.sub_le _ _, Nat.le_refl _⟩)⟩, h.sep⟩
/-- what lies in memory at the call of Do. -/
structure TmH (rh rr : Int) (w0 : World) (S go k : Nat) (m : Sm Bd0) (o' : List Int) (xb : Nat) (ob : Obj) (wa : World) : Prop where
  shop : ∃ L, ShM wa S rh rr L ∧ L.mapv (·.2) = m ∧ AllSm m k ∧ ¬ DoX S L go ∧ ¬ DoX S L xb
  six : Six wa w0.heap.size go o'
  bel : Below w0.heap.size w0 wa
  box : wa.heap[xb]? = some ob
  S1 : w0.heap.size ≤ S - 1
  gS : S < go
theorem TmI.half {rh rr : Int} {l : List Stp} {b : ByteArray} {at' : Int} {w0 : World} {S go k : Nat} {t : Tm} {wr : World} (h : TmI rh rr l b at' w0 S go k t wr) (o : Obj) : TmH rh rr w0 S go k t.m t.o wr.heap.size o (wr.alloc o) := by
  obtain ⟨L, hL1, hL2, hL3, hL4⟩ := h.shop
  exact ⟨⟨L, hL1.below (Below.alloc (Below.refl _ _) (Nat.le_refl _) o), hL2, hL3, hL4, fun hx => by have := hL1.lx hx; omega⟩, ⟨h.six.1, h.six.2.1, blk_old h.six.2.2 o⟩, Bl.alloc h.bel o, blk_new wr o, h.S1, h.gS⟩
theorem TmH.bump {rh rr : Int} {w0 : World} {S go k : Nat} {m : Sm Bd0} {o' : List Int} {xb : Nat} {ob : Obj} {wa : World} (h : TmH rh rr w0 S go k m o' xb ob wa) (q : Nat) (hq : q < 6) (d : Int) (hx : xb ≠ go) (x : Int) (hxe : x = o'.getD q 0) : TmH rh rr w0 S go k m (Go.Proofs.YthdolfnfiggkjaaGreatDoor.bump o' q d) xb ob (wa.setCell ⟨go, q, none⟩ (.int .i64 (x + d))) := by
  subst hxe
  obtain ⟨L, hL1, hL2, hL3, hL4, hL5⟩ := h.shop
  have hgS := h.gS
  exact ⟨⟨L, hL1.keepX (X := fun i => i = go) (Kp.of_gr (Gr.set (Gr.refl wa (some go)) go q (.inl rfl) _) rfl) fun i hi => ⟨hi ▸ hL4, by omega⟩, hL2, hL3, hL4, hL5⟩, h.six.bump q hq d, Bl.set h.bel go q h.six.1 _, blk_far h.box go q _ hx, h.S1, h.gS⟩
theorem TmH.drew {rh rr : Int} {w0 : World} {S go k : Nat} {m : Sm Bd0} {o' : List Int} {xb : Nat} {ob : Obj} {wa : World} (h : TmH rh rr w0 S go k m o' xb ob wa) : TmH rh rr w0 S go k m o' xb ob wa.drew := by
  obtain ⟨L, hL1, hL2, hL3, hL4, hL5⟩ := h.shop
  exact ⟨⟨L, hL1.below (Below.drew (Below.refl _ _)), hL2, hL3, hL4, hL5⟩, h.six, Below.drew h.bel, h.box, h.S1, h.gS⟩
theorem TmH.call {rh rr : Int} {w0 : World} {S go k : Nat} {m : Sm Bd0} {o' : List Int} {xb : Nat} {ob : Obj} {wa : World} (h : TmH rh rr w0 S go k m o' xb ob wa) (s : Stp) (hs : StR s) (hk : k ≤ 100000) :
    Calls Tryz.prog 99 #[.pointer (some ⟨S, 0, none⟩), stpV s] wa fun e w' => ∃ e0, e = .returned (.int .i64 e0) ∧ TmH rh rr w0 S go (k + 1) (doS rh rr m s).1 o' xb ob w' := by
  obtain ⟨L, hL1, hL2, hL3, hL4, hL5⟩ := h.shop
  have h1 := hs.bd
  have h2 := hs.co
  have hA : AllSm (L.mapv (·.2)) 100000 := by rw [hL2]; exact ⟨Nat.le_trans hL3.1 hk, fun p hp => (hL3.2 p hp).mono hk⟩
  refine (Do_any S rh rr L s wa hL1 (by omega) (by omega) hA).mono ?_
  rintro e w5 ⟨rfl, L', hL1', hL2', hK, hX⟩
  have hg := blk_lt h.six.2.2
  refine ⟨_, rfl, ⟨L', hL1', by rw [hL2', hL2], doS_small hL3 s, fun hx => hL4 (hX _ hg hx), fun hx => hL5 (hX _ (blk_lt h.box) hx)⟩, ⟨h.six.1, h.six.2.1, hK.blk h.six.2.2 hL4⟩, Below.trans h.bel ((DoX.below hL1 hK).mono h.S1), hK.blk h.box hL5, h.S1, h.gS⟩
theorem TmI.next {rh rr : Int} {l : List Stp} {b : ByteArray} {at' : Int} {w0 : World} {S go k : Nat} {t : Tm} {wr w' : World} {o' : List Int} {xb : Nat} {ob : Obj} (h : TmI rh rr l b at' w0 S go k t wr) {s : Stp} (hs : l[k]? = some s) (h1 : ¬ at' < s.at) (hb : s.bd = b) (hsr : StR s) (hp : l.Pairwise fun a b => a.at ≤ b.at)
    (ho : o' = (tmS rh rr t s).o) (hh : TmH rh rr w0 S go (k + 1) (doS rh rr t.m s).1 o' xb ob w') : TmI rh rr l b at' w0 S go (k + 1) (tmS rh rr t s) w' := by
  obtain ⟨hk, he⟩ := List.getElem?_eq_some_iff.1 hs
  obtain ⟨L, hL1, hL2, hL3, hL4, hL5⟩ := hh.shop
  obtain ⟨f, hok⟩ := h.ok
  have hle : t.last ≤ s.at := h.le s (by rw [List.drop_eq_getElem_cons hk, he]; exact List.mem_cons_self ..)
  have hp2 : (l.drop k).Pairwise fun a b => a.at ≤ b.at := hp.drop
  rw [List.drop_eq_getElem_cons hk, he] at hp2
  refine ⟨h.rest.trans (tmG_go hs h1 hb), ⟨_, hok.step s hsr.a0 hle⟩, (List.pairwise_cons.1 hp2).1, hsr.a1, fun _ => ?_, ⟨L, hL1, hL2, hL3, hL4⟩, by rw [← ho]; exact hh.six, hh.bel, h.S1, h.gS⟩
  show ∃ q, (doS rh rr t.m s).1.get b.data.toList = some q
  rw [← hb]
  unfold doS
  split <;> exact ⟨_, Sm.get_put_same _ _ _⟩
theorem timF_fault {rh rr : Int} {l : List Stp} {b : ByteArray} {at' : Int} (h : bfltF rh rr l b at' ≠ 0) : timF rh rr l b at' = bfltF rh rr l b at' := if_neg h
theorem timF_right {rh rr : Int} {l : List Stp} {b : ByteArray} {at' : Int} (h : bfltF rh rr l b at' = 0) : timF rh rr l b at' = if (tmG rh rr b at' tm0 l).last < 0 then 8 else 0 := if_pos h
set_option maxHeartbeats 8000000 in
set_option maxRecDepth 100000 in
theorem Times_any (rh rr : Int) (l : List Stp) (b : ByteArray) (at' : Int) (v : Value) (w : World) (hl : l.length ≤ 1000000) (rl : RecR TSt w 0 v l) (hz : StpZ l) (hb : b.size ≤ 140737488355328) :
    Calls Tryz.prog 31 #[.agg #[.int .i64 rh, .int .i64 rr], v, .string b, .int .i64 at'] w fun e w' => ∃ r : Value, e = .returned (.tuple #[r, .int .i64 (timF rh rr l b at')]) ∧ Below w.heap.size w w' ∧ (timF rh rr l b at' ≠ 0 → r = .slice none 0 0) ∧ (timF rh rr l b at' = 0 → ∃ g, r = .slice (some ⟨g, 0, none⟩) 6 6 ∧ Six w' w.heap.size g (tmF b at' (tmG rh rr b at' tm0 l))) := by
  have HF := Lib.hid fun W (hW : Below w.heap.size w W) => boardFault_any rh rr l b at' v W hl (rl.below hW) hz hb
  have hA := Bl.alloc (Below.refl w.heap.size w) (.cells #[.int .i64 rh, .int .i64 rr] 27)
  have hX := blk_new w (.cells #[.int .i64 rh, .int .i64 rr] 27)
  obtain ⟨F, hF⟩ : ∃ F, F = bfltF rh rr l b at' := ⟨_, rfl⟩
  rw [← hF] at HF
  have HFE := Lib.hid hF
  obtain ⟨a, cap, rfl, _, _⟩ := rl.form
  have RL := Lib.hid rl
  have HLL := Lib.hid hl
  clear rl hF hl hz hb
  by_cases h0 : F = 0
  · have HB := Lib.hid (bfltF_zero (HFE.out ▸ h0))
    have HTF := Lib.hid (timF_right (HFE.out ▸ h0))
    clear HFE
    subst h0
    go_enter Tryz.func31, Tryz.ntmps31
    go_wp2_with fail
    refine (HF.out _ hA).mono ?_
    rintro e w1 ⟨rfl, hb1⟩
    have hX1 := blk_below hX hb1
    have hB1 := Bl.trans hA hb1
    have r0 := blk_cell hX1 0
    have r1 := blk_cell hX1 1
    simp at r0 r1
    clear hb1 hX hA
    go_wp2_with fail
    refine (NewShop_any rh rr _).mono ?_
    rintro e w2 ⟨rfl, hS2, hm2, hb2, hz2⟩
    have hB2 := Bl.trans hB1 hb2
    have hzB := hB1.size
    obtain ⟨S, hS⟩ : ∃ S, S = w1.heap.size + 1 + 1 := ⟨_, rfl⟩
    have hS1 : w1.heap.size + 1 = S - 1 := by omega
    obtain ⟨go, hgo⟩ : ∃ go, go = w2.heap.size := ⟨_, rfl⟩
    have HI0 : Hid (TmI rh rr l b at' w S go 0 tm0 (w2.alloc (.cells (madeCells #[.int .i64 0] 6) 3))) := Lib.hid (by
      refine ⟨rfl, ⟨0, TmOk.zero⟩, fun x hx => ?_, by show (-1 : Int) ≤ _; decide, fun h => absurd h (by decide), ⟨[], ⟨by omega, ?_, ?_, Sm.Ok.nil, fun p hp => by simp at hp, fun p hp => by simp at hp⟩, rfl, ⟨Nat.le_refl _, fun p hp => by simp [tm0] at hp⟩, ?_⟩, ⟨by omega, by rfl, ?_⟩, Bl.alloc hB2 _, by omega, by omega⟩
      · have := (stepsF_right HB.out.2.1).2.1 x (by simpa using hx)
        have := this.a0
        show (-1 : Int) ≤ _; omega
      · rw [← hS1, hS]; exact blk_old hS2 _
      · rw [← hS1]; exact MapS.of_blk (blk_old hm2 _)
      · rintro (h | ⟨p, hp, _⟩)
        · omega
        · simp at hp
      · rw [hgo, ← made_six]; exact blk_new w2 _)
    have hmk : (Instr.makeSlice 22 (.int .i64 6) (.int .i64 6)).run Tryz.prog w2 = .ok (.slice (some ⟨go, 0, none⟩) 6 6) (w2.alloc (.cells (madeCells #[.int .i64 0] 6) 3)) := by rw [hgo]; exact mk_six w2
    clear hS2 hm2 hb2 hB2 hX1 hB1 hS1 HF
    rw [← hS] at *
    clear hS
    clear hgo
    go_wp2_with fail
    go_loopw [29, 13] (fun i la wr => ∃ (k : Nat) (t : Tm), k ≤ l.length ∧ i = .int .i64 k ∧ la = .int .i64 t.last ∧ Hid (TmI rh rr l b at' w S go k t wr)) (fun i _ _ => l.length - (intOf i).toNat)
    case atStart => exact ⟨0, tm0, Nat.zero_le _, rfl, rfl, HI0⟩
    case round =>
      obtain ⟨k, t, hk, rfl, rfl, HI⟩ := hrel
      by_cases hlt : k < l.length
      case' pos =>
        obtain ⟨s, hs⟩ : ∃ x, l[k]? = some x := ⟨_, List.getElem?_eq_getElem hlt⟩
        obtain ⟨b1, o1, rfl, _, hbb1, hc1⟩ := (RL.out.below HI.out.bel).at TSt.ok.len hs TSt.ok.pos
        have HS := Lib.hid hs
        have HSR := Lib.hid ((stepsF_right HB.out.2.1).2.1 s (List.mem_of_getElem? hs))
        obtain ⟨at1, bs, kd, cs⟩ := s
        have c0 : wr.cell? ⟨b1, o1 + k * 4, none⟩ = some (.int .i64 at1) := hc1 0 _ rfl
        have c1 : wr.cell? ⟨b1, o1 + k * 4 + 1, none⟩ = some (.string bs) := hc1 1 _ rfl
        have c2 : wr.cell? ⟨b1, o1 + k * 4 + 2, none⟩ = some (.int .i64 kd) := hc1 2 _ rfl
        have c3 : wr.cell? ⟨b1, o1 + k * 4 + 3, none⟩ = some (.string cs) := hc1 3 _ rfl
        clear hs hc1
        have hlen : k < 5000 := Nat.lt_of_lt_of_le hlt (stepsF_right HB.out.2.1).1
        have hw1 : IntKind.i64.wrap ((k : Int) + 1) = ((k + 1 : Nat) : Int) := by rw [IntWalk.i64_in _ (by omega)]; omega
        by_cases hat : at' < at1
        case' pos =>
          have HE : Hid (TmI rh rr l b at' w S go k t (wr.alloc (.cells #[.int .i64 at1, .string bs, .int .i64 kd, .string cs] 50))) := Lib.hid (HI.out.alloc _)
          have HGT : Hid (tmG rh rr b at' tm0 l = t) := Lib.hid (HI.out.rest.trans (tmG_stop HS.out hat))
        case' neg =>
          have HNA : Hid (¬ at' < Stp.at (at1, bs, kd, cs)) := Lib.hid hat
          by_cases hbd : bs = b
          case' pos =>
            subst hbd
            have HH := Lib.hid (HI.out.half (.cells #[.int .i64 at1, .string bs, .int .i64 kd, .string cs] 50))
            have hgl : go < wr.heap.size := blk_lt HI.out.six.2.2
            by_cases h0 : 0 ≤ t.last
            case pos =>
              obtain ⟨g, q, x, hxe, hq6, hqe, d2, hlk, hlk2, dg, dq, fq, ho0, ho1, lS, lg, lgo⟩ := (HI.out.alloc (.cells #[.int .i64 at1, .string bs, .int .i64 kd, .string cs] 50)).look h0 (Nat.le_trans (HSR.out.bd : bs.size ≤ 40) (by unfold maxLen; omega))
              have HQE := Lib.hid hqe
              have HXE := Lib.hid hxe
              clear hqe hxe
              have hd := (HH.out.bump q hq6 (at1 - t.last) (by omega) x HXE.out).drew
              rw [World.setCell_alloc_past _ _ _ _ hgl] at hd
              have HD := Lib.hid hd
              clear hd
              have x0 : (wr.alloc (.cells #[.int .i64 at1, .string bs, .int .i64 kd, .string cs] 50)).cell? ⟨wr.heap.size, 0, none⟩ = some (.int .i64 at1) := blk_cell HH.out.box 0
              have x1 : (wr.alloc (.cells #[.int .i64 at1, .string bs, .int .i64 kd, .string cs] 50)).cell? ⟨wr.heap.size, 1, none⟩ = some (.string bs) := blk_cell HH.out.box 1
              have ha0 : 0 ≤ at1 := HSR.out.a0
              have ha1 : at1 ≤ 345686399999 := HSR.out.a1
              have hwA : IntKind.i64.wrap ((q : Int) + 1 - 1) = (q : Int) := by rw [IntWalk.i64_in _ (by omega)]; omega
              have htp := HI.out.top
              have hwB : IntKind.i64.wrap (at1 - t.last) = at1 - t.last := IntWalk.i64_in _ (by omega)
              have hwC : IntKind.i64.wrap (x + (at1 - t.last)) = x + (at1 - t.last) := IntWalk.i64_in _ (by omega)
              go_wp2_with fail
              go_region
              go_wp2_with fail
              refine (HD.out.call (at1, bs, kd, cs) HSR.out (by omega)).mono ?_
              rintro e w5 ⟨e0, rfl, hh⟩
              have y0 : w5.cell? ⟨wr.heap.size, 0, none⟩ = some (.int .i64 at1) := blk_cell hh.box 0
              have HN := Lib.hid (HI.out.next HS.out (Int.not_lt.2 HNA.out) rfl HSR.out (stepsF_right HB.out.2.1).2.2 (by show _ = (if 0 ≤ t.last then _ else _); rw [if_pos h0, ← HQE.out]) hh)
              clear hh
              go_wp2
              go_roundw
              case rel => exact ⟨k + 1, tmS rh rr t (at1, bs, kd, cs), by omega, by go_num, rfl, HN⟩
              case measure => simp [intOf]; omega
            case neg =>
              go_wp2_with fail
              refine (HH.out.call (at1, bs, kd, cs) HSR.out (by omega)).mono ?_
              rintro e w5 ⟨e0, rfl, hh⟩
              have y0 : w5.cell? ⟨wr.heap.size, 0, none⟩ = some (.int .i64 at1) := blk_cell hh.box 0
              have HN := Lib.hid (HI.out.next HS.out (Int.not_lt.2 HNA.out) rfl HSR.out (stepsF_right HB.out.2.1).2.2 (by show _ = (if 0 ≤ t.last then _ else _); rw [if_neg (Int.not_le.2 h0)]) hh)
              clear hh
              go_wp2
              go_roundw
              case rel => exact ⟨k + 1, tmS rh rr t (at1, bs, kd, cs), by omega, by go_num, rfl, HN⟩
              case measure => simp [intOf]; omega
          case neg =>
            have HN := Lib.hid (HI.out.skip HS.out HNA.out hbd (.cells #[.int .i64 at1, .string bs, .int .i64 kd, .string cs] 50))
            have hne2 : (bs.toList == b.toList) = false := by
              rw [beq_eq_false_iff_ne, ByteArray.toList_eq, ByteArray.toList_eq]
              exact fun e => hbd (ByteArray.ext (Array.toList_inj.1 e))
            have hne3 : ¬ bs.toList = b.toList := by
              rw [ByteArray.toList_eq, ByteArray.toList_eq]
              exact fun e => hbd (ByteArray.ext (Array.toList_inj.1 e))
            go_wp2_with fail
            go_roundw
            case rel => exact ⟨k + 1, t, by omega, by go_num, rfl, HN⟩
            case measure => simp [intOf]; omega
      case' neg =>
        obtain rfl : k = l.length := by omega
        have HE := HI
        have HGT : Hid (tmG rh rr b at' tm0 l = t) := Lib.hid (HI.out.rest.trans (by rw [List.drop_length]; rfl))
      all_goals (
        by_cases hneg : t.last < 0
        · have HT8 : Hid (timF rh rr l b at' = 8) := Lib.hid (by rw [HTF.out, HGT.out, if_pos hneg])
          have HBE := Lib.hid HE.out.bel
          go_wp2
          go_ret2
          refine ⟨_, by rw [HT8.out] <;> rfl, HBE.out, fun _ => rfl, fun h => by rw [HT8.out] at h; exact absurd h (by decide)⟩
        · have h0 : 0 ≤ t.last := by omega
          have HT0 : Hid (timF rh rr l b at' = 0) := Lib.hid (by rw [HTF.out, HGT.out, if_neg hneg])
          obtain ⟨g, q, x, hxe, hq6, hqe, d2, hlk, hlk2, dg, dq, fq, ho0, ho1, lS, lg, lgo⟩ := HE.out.look h0 (Nat.le_trans (keyB_size HB.out.2.2.1) (by unfold maxLen; omega))
          have HQE := Lib.hid hqe
          have HXE := Lib.hid hxe
          clear hqe hxe
          have ha1 : at' ≤ 345686399999 := HB.out.2.2.2.2
          have ha0 : 0 ≤ at' := HB.out.2.2.2.1
          have htp := HE.out.top
          have hwA : IntKind.i64.wrap ((q : Int) + 1 - 1) = (q : Int) := by rw [IntWalk.i64_in _ (by omega)]; omega
          have hwB : IntKind.i64.wrap (at' - t.last) = at' - t.last := IntWalk.i64_in _ (by omega)
          have hwC : IntKind.i64.wrap (x + (at' - t.last)) = x + (at' - t.last) := IntWalk.i64_in _ (by omega)
          have HSX := HE.out.six.bump q hq6 (at' - t.last)
          rw [← HXE.out] at HSX
          have HSX := Lib.hid HSX
          have HBX := Lib.hid (Bl.set HE.out.bel go q HE.out.six.1 (.int .i64 (x + (at' - t.last))))
          go_wp2
          go_ret2
          refine ⟨_, by rw [HT0.out] <;> rfl, HBX.out, fun h => absurd HT0.out h, fun _ => ⟨go, rfl, ?_⟩⟩
          rw [HGT.out]
          unfold tmF
          rw [← HQE.out]
          exact HSX.out)
  · have HTF := Lib.hid (timF_fault (HFE.out ▸ h0))
    have HTN := Lib.hid (show timF rh rr l b at' ≠ 0 by rw [HTF.out, ← HFE.out]; exact h0)
    go_enter Tryz.func31, Tryz.ntmps31
    go_wp2_with fail
    refine (HF.out _ hA).mono ?_
    rintro e w1 ⟨rfl, hb1⟩
    have HB1 := Lib.hid (Bl.trans hA hb1)
    clear hb1 hA hX
    go_wp2
    go_ret2
    refine ⟨_, by rw [HTF.out, ← HFE.out] <;> rfl, HB1.out, fun _ => rfl, fun h => absurd h HTN.out⟩
end Go.Proofs.YthdolfnfiggkjaaGreatDoor
