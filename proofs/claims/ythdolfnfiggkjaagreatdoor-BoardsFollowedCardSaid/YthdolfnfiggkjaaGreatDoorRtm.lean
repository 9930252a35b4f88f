/- The reference's TimesOf: how long a board was in each state. Conditions: right steps, a right board and a right moment. -/
import Derived.Test.YthdolfnfiggkjaaGreatDoorRs
import Derived.Test.YthdolfnfiggkjaaGreatDoorTim
import Derived.StillTailTactics
namespace Go.Proofs.YthdolfnfiggkjaaGreatDoor
open Go.RowKit Go.Sort Go.Maps

def tmU (rh rr : Int) (bd : ByteArray) (at' : Int) : Tm → List Stp → Tm
  | t, [] => t
  | t, s :: l => tmU rh rr bd at' (if s.bd = bd ∧ ¬ at' < s.at then tmS rh rr t s else t) l
theorem tmU_none {rh rr at' : Int} {bd : ByteArray} : ∀ (l : List Stp) (t : Tm), (∀ s ∈ l, at' < s.at) → tmU rh rr bd at' t l = t
  | [], _, _ => rfl
  | s :: l, t, h => by
    rw [tmU, if_neg (fun hh => hh.2 (h s (List.mem_cons_self ..)))]
    exact tmU_none l t fun x hx => h x (List.mem_cons_of_mem _ hx)
theorem tmU_G {rh rr at' : Int} {bd : ByteArray} : ∀ (l : List Stp) (t : Tm), l.Pairwise (fun a b => a.at ≤ b.at) → tmU rh rr bd at' t l = tmG rh rr bd at' t l
  | [], _, _ => rfl
  | s :: l, t, h => by
    rw [List.pairwise_cons] at h
    rw [tmU, tmG]
    by_cases h1 : at' < s.at
    · rw [if_neg (fun hh => hh.2 h1), if_pos h1]
      exact tmU_none l t fun x hx => Int.lt_of_lt_of_le h1 (h.1 x hx)
    · rw [if_neg h1]
      by_cases h2 : s.bd = bd
      · rw [if_pos ⟨h2, h1⟩, if_pos h2]
        exact tmU_G l _ h.2
      · rw [if_neg (fun hh => h2 hh.1), if_neg h2]
        exact tmU_G l _ h.2
theorem tmU_skip {rh rr : Int} {b : ByteArray} {a : Int} {t : Tm} {l : List Stp} {k : Nat} {s : Stp} (hs : l[k]? = some s) (h : ¬ (s.bd = b ∧ ¬ a < s.at)) : tmU rh rr b a t (l.drop k) = tmU rh rr b a t (l.drop (k + 1)) := by
  obtain ⟨hk, he⟩ := List.getElem?_eq_some_iff.1 hs
  rw [List.drop_eq_getElem_cons hk, he, tmU, if_neg h]
theorem tmU_go {rh rr : Int} {b : ByteArray} {a : Int} {t : Tm} {l : List Stp} {k : Nat} {s : Stp} (hs : l[k]? = some s) (h : s.bd = b ∧ ¬ a < s.at) : tmU rh rr b a t (l.drop k) = tmU rh rr b a (tmS rh rr t s) (l.drop (k + 1)) := by
  obtain ⟨hk, he⟩ := List.getElem?_eq_some_iff.1 hs
  rw [List.drop_eq_getElem_cons hk, he, tmU, if_pos h]
/-- where the loop of TimesOf stands: behind k steps. -/
structure RmI (rh rr : Int) (l : List Stp) (b : ByteArray) (at' : Int) (w0 : World) (S go : Nat) (k : Nat) (t : Tm) (wr : World) : Prop where
  rest : tmU rh rr b at' tm0 l = tmU rh rr b at' t (l.drop k)
  ok : ∃ f, TmOk t f
  le : ∀ x ∈ l.drop k, t.last ≤ x.at
  top : t.last ≤ 345686399999
  has : 0 ≤ t.last → ∃ q, t.m.get b.data.toList = some q
  shop : ∃ L, ShR wr S rh rr L ∧ L.mapv (·.2) = t.m
  sm : AllSm t.m k
  six : Six wr w0.heap.size go t.o
  bel : Below w0.heap.size w0 wr
  S1 : w0.heap.size ≤ S - 1
section
variable {rh rr : Int} {l : List Stp} {b : ByteArray} {at' : Int} {w0 : World} {S go k : Nat} {t : Tm} {wr : World}
theorem RmI.alloc (h : RmI rh rr l b at' w0 S go k t wr) (o : Obj) : RmI rh rr l b at' w0 S go k t (wr.alloc o) := by
  obtain ⟨L, h1, h2⟩ := h.shop
  exact ⟨h.rest, h.ok, h.le, h.top, h.has, ⟨L, h1.below (Bl.alloc (Below.refl _ _) o), h2⟩, h.sm, ⟨h.six.1, h.six.2.1, blk_old h.six.2.2 o⟩, Bl.alloc h.bel o, h.S1⟩
theorem RmI.skip (h : RmI rh rr l b at' w0 S go k t wr) {s : Stp} (hs : l[k]? = some s) (hb : ¬ (s.bd = b ∧ ¬ at' < s.at)) : RmI rh rr l b at' w0 S go (k + 1) t wr := by
  obtain ⟨hk, he⟩ := List.getElem?_eq_some_iff.1 hs
  exact ⟨h.rest.trans (tmU_skip hs hb), h.ok, fun x hx => h.le x (by rw [List.drop_eq_getElem_cons hk]; exact List.mem_cons_of_mem _ hx), h.top, h.has, h.shop, ⟨by have := h.sm.1; omega, fun p hp => (h.sm.2 p hp).mono (Nat.le_succ k)⟩, h.six, h.bel, h.S1⟩
theorem Six.own {w : World} {B g : Nat} {o : List Int} (h : Six w B g o) : OwnR TN w B (.slice (some ⟨g, 0, none⟩) 6 6) o := by
  have e : o.flatMap TN.f = ics o := by
    unfold ics
    clear h
    induction o with
    | nil => rfl
    | cons a l ih => rw [List.flatMap_cons, ih]; rfl
  have := OwnR.of_blk (T := TN) (l := o) (cap := 6) h.1 h.2.2 (by rw [h.2.1]; exact Nat.le_refl _) (by unfold maxLen; omega) (by simp [ics, h.2.1, TN]) (by rw [e, h.2.1]; show ((ics o).toArray.toList).take 6 = ics o; exact List.take_of_length_le (by simp [ics, h.2.1])) (by rw [e, h.2.1]; simp [ics, h.2.1, TN])
  rw [h.2.1] at this
  exact this
/-- what is needed where a time is added: the board is there. -/
theorem RmI.look (h : RmI rh rr l b at' w0 S go k t wr) (h0 : 0 ≤ t.last) (hb : b.size ≤ 1000) (hk : k ≤ 100000) :
    ∃ (g q : Nat) (x : Int), x = t.o.getD q 0 ∧ q < 6 ∧ q = stO t.m b ∧ (∀ U : World, Below wr.heap.size wr U → Calls Tryz.prog 102 #[.pointer (some ⟨S, 0, none⟩), .string b] U fun e w' => e = .returned (.pointer (some ⟨g, 0, none⟩)) ∧ w' = U) ∧
      wr.cell? ⟨g, 0, none⟩ = some (.int .i64 ((q : Int) + 1)) ∧ wr.cell? ⟨go, q, none⟩ = some (.int .i64 x) ∧ wr.frozen? ⟨go, q, none⟩ = false ∧ 0 ≤ x ∧ x ≤ 345686399999 ∧ g < wr.heap.size ∧ go < wr.heap.size := by
  obtain ⟨L, hL1, hL2⟩ := h.shop
  obtain ⟨f, hok⟩ := h.ok
  obtain ⟨x, hx⟩ := h.has h0
  rw [← hL2, Sm.get_mapv] at hx
  cases hg : L.get b.data.toList with
  | none => rw [hg] at hx; cases hx
  | some y =>
    rw [hg] at hx
    obtain ⟨g, bd⟩ := y
    injection hx with hx
    have hbd := (hL1.brd _ (Sm.get_mem hg)).2
    have hst : (t.m.get b.data.toList).getD newB = bd := by rw [← hL2, Sm.get_mapv, hg]; rfl
    have hr : 1 ≤ bd.st ∧ bd.st ≤ 6 := hok.st (b.data.toList, bd) (Sm.get_mem (by rw [← hL2, Sm.get_mapv, hg]; rfl))
    have hq : ((stO t.m b : Nat) : Int) + 1 = bd.st := by unfold stO; rw [hst]; omega
    have hq6 : stO t.m b < 6 := by omega
    have hp := getD_nonneg t.o (stO t.m b) hok.pos
    have hs := getD_le_sum t.o (stO t.m b) hok.pos
    have hLl : L.length ≤ 100000 := by have := h.sm.1; rw [← hL2, Sm.len_mapv] at this; omega
    refine ⟨g, stO t.m b, _, rfl, hq6, rfl, fun U hU => ?_, ?_, ?_, blk_free h.six.2.2 _, hp, ?_, hbd.lt, blk_lt h.six.2.2⟩
    · refine (RBoard_any S rh rr L b U (hL1.below hU) (by unfold maxLen; omega) (by omega)).mono ?_
      rintro e w' ⟨g', b', rfl, _, ⟨h1, rfl⟩ | ⟨h1, _⟩⟩
      · rw [hg] at h1
        injection h1 with h1
        injection h1 with h1 _
        subst h1
        exact ⟨rfl, rfl⟩
      · rw [hg] at h1; cases h1
    · obtain ⟨_, _, _, v, hb5, _⟩ := hbd
      rw [hq]; exact blk_cell hb5 0
    · rw [blk_cell h.six.2.2]; exact ics6 (by rw [h.six.2.1]; exact hq6)
    · have := h.top
      rcases hok.sum with hh | hh <;> omega
/-- the same behind the time that was added, ahead of do. -/
structure RmH (rh rr : Int) (l : List Stp) (b : ByteArray) (at' : Int) (w0 : World) (S go : Nat) (k : Nat) (t : Tm) (o' : List Int) (wr : World) : Prop where
  base : ∃ wq, RmI rh rr l b at' w0 S go k t wq
  shop : ∃ L, ShR wr S rh rr L ∧ L.mapv (·.2) = t.m
  six : Six wr w0.heap.size go o'
  bel : Below w0.heap.size w0 wr
theorem RmI.half (h : RmI rh rr l b at' w0 S go k t wr) : RmH rh rr l b at' w0 S go k t t.o wr := ⟨⟨_, h⟩, h.shop, h.six, h.bel⟩
theorem RmH.below {o' : List Int} {w' : World} (h : RmH rh rr l b at' w0 S go k t o' wr) (hb : Below wr.heap.size wr w') : RmH rh rr l b at' w0 S go k t o' w' := by
  obtain ⟨L, h1, h2⟩ := h.shop
  exact ⟨h.base, ⟨L, h1.below hb, h2⟩, ⟨h.six.1, h.six.2.1, blk_below h.six.2.2 hb⟩, Bl.trans h.bel hb⟩
theorem RmH.bump {o' : List Int} (h : RmH rh rr l b at' w0 S go k t o' wr) (q : Nat) (hq : q < 6) (d x : Int) (hx : x = o'.getD q 0) : RmH rh rr l b at' w0 S go k t (Go.Proofs.YthdolfnfiggkjaaGreatDoor.bump o' q d) (wr.setCell ⟨go, q, none⟩ (.int .i64 (x + d))) := by
  subst hx
  obtain ⟨L, h1, h2⟩ := h.shop
  have hgr : wr.grownBy (wr.setCell ⟨go, q, none⟩ (.int .i64 (o'.getD q 0 + d))) (some go) := Gr.set (Gr.refl wr (some go)) go q (.inl rfl) _
  exact ⟨h.base, ⟨L, h1.rowed h.six.own hgr (by decide) (by decide) (by decide), h2⟩, h.six.bump q hq d, Bl.set h.bel go q h.six.1 _⟩
theorem RmH.call {o' : List Int} (h : RmH rh rr l b at' w0 S go k t o' wr) {s : Stp} (hs : l[k]? = some s) (hb : s.bd = b ∧ ¬ at' < s.at) (hsr : StR s) (hkd : 1 ≤ s.kd ∧ s.kd ≤ 6) (hp : l.Pairwise fun a b => a.at ≤ b.at) (hk : k ≤ 100000) (ho : o' = (tmS rh rr t s).o) :
    Calls Tryz.prog 103 #[.pointer (some ⟨S, 0, none⟩), stpV s] wr fun e w' => ∃ e0, e = .returned (.int .i64 e0) ∧ RmI rh rr l b at' w0 S go (k + 1) (tmS rh rr t s) w' ∧ ∀ (xb : Nat) (cur : Array Value), wr.heap[xb]? = some (Obj.cells cur 50 (0, 0)) → w'.heap[xb]? = some (Obj.cells cur 50 (0, 0)) := by
  obtain ⟨wq, hq⟩ := h.base
  obtain ⟨L, hL1, hL2⟩ := h.shop
  obtain ⟨f, hok⟩ := hq.ok
  have h1 := hsr.bd
  have h2 := hsr.co
  have hA : AllSm (L.mapv (·.2)) 100000 := by rw [hL2]; exact ⟨Nat.le_trans hq.sm.1 hk, fun p hp => (hq.sm.2 p hp).mono hk⟩
  have hst : ∀ p ∈ L, 1 ≤ p.2.2.st ∧ p.2.2.st ≤ 6 := fun p hp => hok.st (p.1, p.2.2) (by rw [← hL2]; exact List.mem_map_of_mem hp)
  refine (RDo_any S rh rr L s wr hL1 (by omega) (by omega) hkd hA hst).mono ?_
  rintro e w5 ⟨rfl, L', hL1', hL2', hK⟩
  obtain ⟨hkl, he⟩ := List.getElem?_eq_some_iff.1 hs
  have hle : t.last ≤ s.at := hq.le s (by rw [List.drop_eq_getElem_cons hkl, he]; exact List.mem_cons_self ..)
  have hp2 : (l.drop k).Pairwise fun a b => a.at ≤ b.at := hp.drop
  rw [List.drop_eq_getElem_cons hkl, he] at hp2
  have hnd : ¬ DoR S L go := hL1.doT (T := TN) (by decide) go _ h.six.2.2
  refine ⟨_, rfl, ⟨hq.rest.trans (tmU_go hs hb), ⟨_, hok.step s hsr.a0 hle⟩, (List.pairwise_cons.1 hp2).1, hsr.a1, fun _ => ?_, ⟨L', hL1', by rw [hL2', hL2]; rfl⟩, doS_small hq.sm s, ?_, Below.trans h.bel ((DoR.below hL1 hK).mono hq.S1), hq.S1⟩, fun xb cur hx => hK.blk hx (hL1.doT (T := TSt) (by decide) xb cur hx)⟩
  · show ∃ q, (doS rh rr t.m s).1.get b.data.toList = some q
    rw [← hb.1]
    unfold doS
    split <;> exact ⟨_, Sm.get_put_same _ _ _⟩
  · rw [← ho]; exact ⟨h.six.1, h.six.2.1, hK.blk h.six.2.2 hnd⟩
end
/-- what TimesOf tells. -/
def timL (rh rr : Int) (l : List Stp) (b : ByteArray) (at' : Int) : List Int := if (tmG rh rr b at' tm0 l).last < 0 then [] else tmF b at' (tmG rh rr b at' tm0 l)
set_option maxHeartbeats 8000000 in
set_option maxRecDepth 100000 in
theorem RTimes_any (rh rr : Int) (l : List Stp) (b : ByteArray) (at' : Int) (v : Value) (w : World) (rl : RecR TSt w 0 v l) (hl : stepsF l = 0) (hb : b.size ≤ 1000) (ha : 0 ≤ at' ∧ at' ≤ 345686399999) :
    Calls Tryz.prog 36 #[.agg #[.int .i64 rh, .int .i64 rr], v, .string b, .int .i64 at'] w fun e w' => ∃ r : Value, e = .returned (.tuple #[r, .bool (decide (0 ≤ (tmG rh rr b at' tm0 l).last))]) ∧ OwnR TN w' w.heap.size r (timL rh rr l b at') ∧ Below w.heap.size w w' := by
  have hA := Bl.alloc (Below.refl w.heap.size w) (.cells #[.int .i64 rh, .int .i64 rr] 27)
  obtain ⟨a, cap, rfl, _, _⟩ := rl.form
  have RL := Lib.hid rl
  have HR := Lib.hid (stepsF_right hl)
  have HW := Lib.hid (stepsF_W hl)
  have HU := Lib.hid (tmU_G (rh := rh) (rr := rr) (at' := at') (bd := b) l tm0 (stepsF_right hl).2.2)
  have HAT := Lib.hid ha
  clear rl hl
  go_enter Tryz.func36, Tryz.ntmps36
  go_wp2_with fail
  refine (RNewShop_any rh rr _).mono ?_
  rintro e w2 ⟨rfl, hS2, hb2⟩
  have hB2 := Bl.trans hA hb2
  have hzA := hA.size
  obtain ⟨S, hS⟩ : ∃ S, S = (w.alloc (.cells #[.int .i64 rh, .int .i64 rr] 27)).heap.size + 1 + 1 := ⟨_, rfl⟩
  rw [← hS] at hS2 ⊢
  obtain ⟨go, hgo⟩ : ∃ go, go = w2.heap.size := ⟨_, rfl⟩
  have HI0 : Hid (RmI rh rr l b at' w S go 0 tm0 (w2.alloc (.cells (madeCells #[.int .i64 0] 6) 3))) := Lib.hid (by
    refine ⟨rfl, ⟨0, TmOk.zero⟩, fun x hx => ?_, by show (-1 : Int) ≤ _; decide, fun h => absurd h (by decide), ⟨[], hS2.below (Bl.alloc (Below.refl _ _) _), rfl⟩, ⟨Nat.le_refl _, fun p hp => by simp [tm0] at hp⟩, ⟨by have := hB2.size; omega, by rfl, ?_⟩, Bl.alloc hB2 _, by omega⟩
    · have := (HR.out.2.1 x (by simpa using hx)).a0
      show (-1 : Int) ≤ _; omega
    · rw [hgo, ← made_six]; exact blk_new w2 _)
  have hmk : (Instr.makeSlice 22 (.int .i64 6) (.int .i64 6)).run Tryz.prog w2 = .ok (.slice (some ⟨go, 0, none⟩) 6 6) (w2.alloc (.cells (madeCells #[.int .i64 0] 6) 3)) := by rw [hgo]; exact mk_six w2
  clear hS2 hb2 hB2 hA hzA
  clear hS hgo
  go_wp2_with fail
  go_loopw [12, 13, 21] (fun la is i wr => ∃ (k : Nat) (t : Tm) (lv : Int) (ib : Bool), k ≤ l.length ∧ i = .int .i64 k ∧ la = .int .i64 lv ∧ is = .bool ib ∧ Hid (ib = decide (0 ≤ t.last)) ∧ Hid (0 ≤ t.last → lv = t.last) ∧ Hid (RmI rh rr l b at' w S go k t wr)) (fun _ _ i _ => l.length - (intOf i).toNat)
  case atStart => exact ⟨0, tm0, 0, false, Nat.zero_le _, rfl, rfl, rfl, Lib.hid (by decide), Lib.hid (fun h => absurd h (by decide)), HI0⟩
  case round =>
    obtain ⟨k, t, lv, ib, hk, rfl, rfl, rfl, HIB, HLV, HI⟩ := hrel
    by_cases hlt : k < l.length
    · obtain ⟨s, hs⟩ : ∃ x, l[k]? = some x := ⟨_, List.getElem?_eq_getElem hlt⟩
      obtain ⟨b1, o1, rfl, _, hbb1, hc1⟩ := (RL.out.below HI.out.bel).at TSt.ok.len hs TSt.ok.pos
      have HS := Lib.hid hs
      have HSR := Lib.hid (HR.out.2.1 s (List.mem_of_getElem? hs))
      have HKD := Lib.hid (HW.out s (List.mem_of_getElem? hs)).kd
      obtain ⟨at1, bs, kd, cs⟩ := s
      have c0 : wr.cell? ⟨b1, o1 + k * 4, none⟩ = some (.int .i64 at1) := hc1 0 _ rfl
      have c1 : wr.cell? ⟨b1, o1 + k * 4 + 1, none⟩ = some (.string bs) := hc1 1 _ rfl
      have c2 : wr.cell? ⟨b1, o1 + k * 4 + 2, none⟩ = some (.int .i64 kd) := hc1 2 _ rfl
      have c3 : wr.cell? ⟨b1, o1 + k * 4 + 3, none⟩ = some (.string cs) := hc1 3 _ rfl
      clear hs hc1
      have hlen : k < 5000 := Nat.lt_of_lt_of_le hlt HR.out.1
      have hw1 : IntKind.i64.wrap ((k : Int) + 1) = ((k + 1 : Nat) : Int) := by rw [IntWalk.i64_in _ (by omega)]; omega
      have hA1 := Bl.alloc (Below.refl wr.heap.size wr) (.cells #[.int .i64 at1, .string bs, .int .i64 kd, .string cs] 50)
      have HX1 := Lib.hid (blk_new wr (.cells #[.int .i64 at1, .string bs, .int .i64 kd, .string cs] 50))
      by_cases hbd : bs = b
      · subst hbd
        by_cases hat : at' < at1
        · have HN := Lib.hid ((HI.out.alloc (.cells #[.int .i64 at1, .string bs, .int .i64 kd, .string cs] 50)).skip HS.out (fun h => h.2 hat))
          go_wp2
          go_roundw
          case rel => exact ⟨k + 1, t, lv, ib, by omega, by go_num, rfl, rfl, HIB, HLV, HN⟩
          case measure => simp [intOf]; omega
        · have HBA : Hid (Stp.bd (at1, bs, kd, cs) = bs ∧ ¬ at' < Stp.at (at1, bs, kd, cs)) := Lib.hid ⟨rfl, hat⟩
          cases ib
          · have h0 : ¬ 0 ≤ t.last := by have := HIB.out; simpa using this.symm
            have HD := Lib.hid ((HI.out.alloc (.cells #[.int .i64 at1, .string bs, .int .i64 kd, .string cs] 50)).half.call HS.out HBA.out HSR.out HKD.out HR.out.2.2 (by omega) (by show _ = (if 0 ≤ t.last then _ else _); rw [if_neg h0]))
            go_wp2_with fail
            refine HD.out.mono ?_
            rintro e w5 ⟨e0, rfl, hI, hbox⟩
            have hX5 := hbox _ _ HX1.out
            have y0 : w5.cell? ⟨wr.heap.size, 0, none⟩ = some (.int .i64 at1) := blk_cell hX5 0
            have hx5 := blk_lt hX5
            have HN := Lib.hid hI
            have ha0 : 0 ≤ at1 := HSR.out.a0
            clear hI hbox hX5 HD
            go_wp2
            go_roundw
            case rel => exact ⟨k + 1, tmS rh rr t (at1, bs, kd, cs), at1, true, by omega, by go_num, rfl, rfl, Lib.hid (decide_eq_true ha0).symm, Lib.hid (fun _ => rfl), HN⟩
            case measure => simp [intOf]; omega
          · have h0 : 0 ≤ t.last := by have := HIB.out; simpa using this.symm
            obtain rfl : lv = t.last := HLV.out h0
            obtain ⟨g, q, x, hxe, hq6, hqe, hbc, dg, dq, fq, ho0, ho1, lg, lgo⟩ := (HI.out.alloc (.cells #[.int .i64 at1, .string bs, .int .i64 kd, .string cs] 50)).look h0 hb (by omega)
            have HBC := Lib.hid hbc
            have HQE := Lib.hid hqe
            have HXE := Lib.hid hxe
            have hgl : go < wr.heap.size := blk_lt HI.out.six.2.2
            have hd := ((HI.out.alloc (.cells #[.int .i64 at1, .string bs, .int .i64 kd, .string cs] 50)).half.bump q hq6 (at1 - t.last) x HXE.out).below (Below.drew (Below.refl _ _))
            have hbx := blk_far HX1.out go q (.int .i64 (x + (at1 - t.last))) (by omega)
            rw [World.setCell_alloc_past _ _ _ _ hgl] at hd hbx
            have HBX := Lib.hid hbx
            have HD := Lib.hid (hd.call HS.out HBA.out HSR.out HKD.out HR.out.2.2 (by omega) (by show _ = (if 0 ≤ t.last then _ else _); rw [if_pos h0, ← HQE.out]))
            have x0 : (wr.alloc (.cells #[.int .i64 at1, .string bs, .int .i64 kd, .string cs] 50)).cell? ⟨wr.heap.size, 0, none⟩ = some (.int .i64 at1) := blk_cell HX1.out 0
            have ha0 : 0 ≤ at1 := HSR.out.a0
            have ha1 : at1 ≤ 345686399999 := HSR.out.a1
            have hwA : IntKind.i64.wrap (q : Int) = (q : Int) := IntWalk.i64_in _ (by omega)
            have hq6i : (q : Int) < 6 := by omega
            have htp := HI.out.top
            have hwB : IntKind.i64.wrap (at1 - t.last) = at1 - t.last := IntWalk.i64_in _ (by omega)
            have hwC : IntKind.i64.wrap (x + (at1 - t.last)) = x + (at1 - t.last) := IntWalk.i64_in _ (by omega)
            clear hbc hqe hxe hd hbx
            go_wp2_with fail
            refine wp_region_still_tail 17 (by kernel_rfl) (by kernel_rfl) ?_
            simp only [List.take_succ_cons, List.take_zero, List.drop_succ_cons, List.drop_zero]
            change wpStill _ _ (World.drew _) _ _ _
            repeat still_step
            still_call (HBC.out _ (Below.drew (Below.refl _ _)))
            repeat still_step
            refine wpStill_nil ?_
            change wpList _ _ _ _ _ (World.drew _)
            go_wp2_with fail
            refine HD.out.mono ?_
            rintro e w5 ⟨e0, rfl, hI, hbox⟩
            have hX5 := hbox _ _ HBX.out
            have y0 : w5.cell? ⟨wr.heap.size, 0, none⟩ = some (.int .i64 at1) := blk_cell hX5 0
            have hx5 := blk_lt hX5
            have HN := Lib.hid hI
            clear hI hbox hX5 HD
            go_wp2
            go_roundw
            case rel => exact ⟨k + 1, tmS rh rr t (at1, bs, kd, cs), at1, true, by omega, by go_num, rfl, rfl, Lib.hid (decide_eq_true ha0).symm, Lib.hid (fun _ => rfl), HN⟩
            case measure => simp [intOf]; omega
      · have HN := Lib.hid ((HI.out.alloc (.cells #[.int .i64 at1, .string bs, .int .i64 kd, .string cs] 50)).skip HS.out (fun h => hbd h.1))
        have hne2 : (bs.toList == b.toList) = false := by
          rw [beq_eq_false_iff_ne, ByteArray.toList_eq, ByteArray.toList_eq]
          exact fun e => hbd (ByteArray.ext (Array.toList_inj.1 e))
        have hne3 : ¬ bs.toList = b.toList := by
          rw [ByteArray.toList_eq, ByteArray.toList_eq]
          exact fun e => hbd (ByteArray.ext (Array.toList_inj.1 e))
        go_wp2
        go_roundw
        case rel => exact ⟨k + 1, t, lv, ib, by omega, by go_num, rfl, rfl, HIB, HLV, HN⟩
        case measure => simp [intOf]; omega
    · obtain rfl : k = l.length := by omega
      have HGT : Hid (tmG rh rr b at' tm0 l = t) := Lib.hid (by rw [← HU.out, HI.out.rest, List.drop_length]; rfl)
      cases ib
      · have h0 : ¬ 0 ≤ t.last := by have := HIB.out; simpa using this.symm
        have HTL : Hid (timL rh rr l b at' = [] ∧ decide (0 ≤ (tmG rh rr b at' tm0 l).last) = false) := Lib.hid (by
          unfold timL
          rw [HGT.out, if_pos (by omega)]
          exact ⟨rfl, decide_eq_false h0⟩)
        have HBE := Lib.hid HI.out.bel
        go_wp2
        go_ret2
        exact ⟨_, by rw [HTL.out.2] <;> rfl, by rw [HTL.out.1]; exact OwnR.nil _ _, HBE.out⟩
      · have h0 : 0 ≤ t.last := by have := HIB.out; simpa using this.symm
        obtain rfl : lv = t.last := HLV.out h0
        obtain ⟨g, q, x, hxe, hq6, hqe, hbc, dg, dq, fq, ho0, ho1, lg, lgo⟩ := HI.out.look h0 hb (by have := HR.out.1; omega)
        have HBC := Lib.hid hbc
        have hd := HI.out.half.bump q hq6 (at' - t.last) x hxe
        have HTL : Hid (timL rh rr l b at' = Go.Proofs.YthdolfnfiggkjaaGreatDoor.bump t.o q (at' - t.last) ∧ decide (0 ≤ (tmG rh rr b at' tm0 l).last) = true) := Lib.hid (by
          unfold timL tmF
          rw [HGT.out, if_neg (by omega), hqe]
          exact ⟨rfl, decide_eq_true h0⟩)
        have HO := Lib.hid (And.intro hd.six.own hd.bel)
        have hwA : IntKind.i64.wrap (q : Int) = (q : Int) := IntWalk.i64_in _ (by omega)
        have hq6i : (q : Int) < 6 := by omega
        have htp := HI.out.top
        have hwB : IntKind.i64.wrap (at' - t.last) = at' - t.last := IntWalk.i64_in _ (by omega)
        have hwC : IntKind.i64.wrap (x + (at' - t.last)) = x + (at' - t.last) := IntWalk.i64_in _ (by omega)
        clear hbc hqe hxe hd
        go_wp2_with fail
        refine (HBC.out _ (Below.refl _ _)).mono ?_
        rintro e w' ⟨rfl, rfl⟩
        go_wp2
        go_ret2
        exact ⟨_, by rw [HTL.out.2] <;> rfl, by rw [HTL.out.1]; exact HO.out.1, HO.out.2⟩
end Go.Proofs.YthdolfnfiggkjaaGreatDoor
