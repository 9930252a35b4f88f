/- The contract of UsableIn. Conditions: a level from 1 to 6, at most 500 stays in order, a window of moments. -/
import Derived.Test.YtpfichbhhpnioaaDoorLUse
import Derived.Maps.AppendAt
namespace Go.Proofs.YtpfichbhhpnioaaDoor
open Go.RowKit Go.Sort

theorem Ub.belowB {w w' : World} {P W B : Nat} {key : ByteArray} {lv bk lo hi : Int} (h : Ub w P W key lv bk lo hi) (hb : Below B w w') (h1 : P < B) (h2 : W < B) : Ub w' P W key lv bk lo hi :=
  ⟨(hb.cell (p := ⟨P, 0, none⟩) h1).trans h.p0, (hb.cell (p := ⟨P, 1, none⟩) h1).trans h.p1, (hb.cell (p := ⟨P, 2, none⟩) h1).trans h.p2, (hb.cell (p := ⟨P, 3, none⟩) h1).trans h.p3, (hb.cell (p := ⟨W, 0, none⟩) h2).trans h.q0, (hb.cell (p := ⟨W, 1, none⟩) h2).trans h.q1, Nat.lt_of_lt_of_le h.lP hb.size, Nat.lt_of_lt_of_le h.lW hb.size⟩
set_option maxHeartbeats 4000000 in
set_option maxRecDepth 100000 in
theorem UsableIn1_any (key : ByteArray) (lv bk t L : Int) (l : List Sty) (v : Value) (gP gL gF : Nat) (w : World) (hl : l.length ≤ 500) (ha : AscS l) (h0 : 0 ≤ t) (h1 : t ≤ 345686400000) (rl : RecR TY w 0 v l)
    (p0 : w.cell? ⟨gP, 0, none⟩ = some (.string key)) (p1 : w.cell? ⟨gP, 1, none⟩ = some (.string ⟨#[113]⟩)) (p2 : w.cell? ⟨gP, 2, none⟩ = some (.int .i64 lv)) (p3 : w.cell? ⟨gP, 3, none⟩ = some (.int .i64 bk))
    (hL : w.cell? ⟨gL, 0, none⟩ = some v) (hF : w.cell? ⟨gF, 0, none⟩ = some (.int .i64 L)) :
    Calls Tryd.prog 42 #[.int .i64 t, .pointer (some ⟨gP, 0, none⟩), .pointer (some ⟨gL, 0, none⟩), .pointer (some ⟨gF, 0, none⟩)] w fun e w' => e = .returned (.bool (decide (L < expo lv bk l t))) ∧ Below w.heap.size w w' := by
  obtain ⟨a, cap, rfl, hc1, hc2⟩ := RecR.form rl
  have HE := Lib.hid (fun (d : Nat) (os : Array Obj) => Calls.regrown_of (w := w) (d := d) (os := os) (show Calls Tryd.prog 21 #[.agg #[.string key, .string ⟨#[113]⟩, .int .i64 lv, .int .i64 bk], .slice a l.length cap, .int .i64 t] _ (fun e w' => e = .returned (.int .i64 (expo lv bk l t)) ∧ Below _ _ w') from ExposedOf_any key ⟨#[113]⟩ lv bk t l (.slice a l.length cap) _ hl ha h0 h1 (rl.below (below_regrown w d os))))
  have e0 := cell_regrown p0
  have e1 := cell_regrown p1
  have e2 := cell_regrown p2
  have e3 := cell_regrown p3
  have e4 := cell_regrown hL
  have e5 := cell_regrown hF
  clear ha rl
  go_enter Tryd.func42, Tryd.ntmps42
  go_wp2
  refine wp_region_quiet_below (by kernel_rfl) (by kernel_rfl) ?_
  repeat (go_big_quiet_step ((go_at_call 21; exact HE.out _ _)))
  refine wpQuiet_nil ?_
  intro w4 hw'
  obtain ⟨⟨dq, osq⟩, hw''⟩ := hw'
  have hb4 : Below w.heap.size w w4 := hw'' ▸ below_regrown w dq osq
  clear hw'' e0 e1 e2 e3 e4 e5 HE
  go_wp2
  go_ret
  exact ⟨rfl, hb4⟩
set_option maxHeartbeats 4000000 in
theorem IndexUse_any (p : Int → Bool) (l : List Int) (v b1 b2 b3 : Value) (w : World) (_ : l.length ≤ 100000) (rl : Ints w 0 v l)
    (hF : ∀ W t, t ∈ l → Below w.heap.size w W → Calls Tryd.prog 42 #[.int .i64 t, b1, b2, b3] W fun e w' => e = .returned (.bool (p t)) ∧ Below W.heap.size W w') :
    Calls Tryd.prog 51 #[v, .func (.func 42) #[] #[b1, b2, b3]] w fun e w' => (∃ r : Int, e = .returned (.int .i64 r) ∧ decide (0 ≤ r) = l.any p) ∧ Below w.heap.size w w' := by
  obtain ⟨a, cap, rfl, hc1, hc2⟩ := Ints.form rl
  have HF := Lib.hid hF
  clear hF
  go_enter Tryd.func51, Tryd.ntmps51
  go_wp2
  go_loopw [8] (fun i wr => ∃ k : Nat, k ≤ l.length ∧ i = .int .i64 k ∧ Hid ((l.take k).any p = false) ∧ Below w.heap.size w wr) (fun i _ => l.length - (intOf i).toNat)
  case atStart => exact ⟨0, Nat.zero_le _, rfl, Lib.hid rfl, Below.refl _ _⟩
  case round =>
    obtain ⟨k, hk, rfl, hf, hb⟩ := hrel
    by_cases hlt : k < l.length
    · obtain ⟨t, ht⟩ : ∃ t, l[k]? = some t := ⟨_, List.getElem?_eq_getElem hlt⟩
      have HS : Hid ((l.take (k + 1)).any p = ((l.take k).any p || p t)) := Lib.hid (by rw [take_snoc ht]; simp)
      have HM := Lib.hid (List.mem_of_getElem? ht)
      obtain ⟨b2', o2, rfl, _, hl2, hx2⟩ := rl.at ht
      have y2 := ((bcell hb).1 b2' (o2 + k) hl2).trans hx2
      have HC := Lib.hid (HF.out wr t HM.out hb)
      clear ht hx2
      cases hp : p t
      all_goals
        have HP := Lib.hid hp
        clear hp
        go_wp2_with fail
        refine HC.out.mono ?_
        rintro e w2 ⟨rfl, hb2⟩
        rw [HP.out]
      · go_wp2
        go_roundw
        case rel => exact ⟨k + 1, by omega, by go_num, Lib.hid (by rw [HS.out, hf.out, HP.out]; rfl), hb.trans (hb2.mono hb.size)⟩
        case measure => simp [intOf]; omega
      · go_wp2
        go_ret
        refine ⟨⟨_, rfl, ?_⟩, hb.trans (hb2.mono hb.size)⟩
        have : l.any p = true := List.any_eq_true.2 ⟨_, HM.out, HP.out⟩
        rw [this]; simp
    · have hk2 : k = l.length := by omega
      subst hk2
      rw [List.take_length] at hf
      clear HF
      go_wp2
      go_ret
      exact ⟨⟨_, rfl, by rw [hf.out]; rfl⟩, hb⟩
set_option maxHeartbeats 1000000 in
theorem ContainsUse_any (p : Int → Bool) (l : List Int) (v b1 b2 b3 : Value) (w : World) (hlen : l.length ≤ 100000) (rl : Ints w 0 v l)
    (hF : ∀ W t, t ∈ l → Below w.heap.size w W → Calls Tryd.prog 42 #[.int .i64 t, b1, b2, b3] W fun e w' => e = .returned (.bool (p t)) ∧ Below W.heap.size W w') :
    Calls Tryd.prog 41 #[v, .func (.func 42) #[] #[b1, b2, b3]] w fun e w' => e = .returned (.bool (l.any p)) ∧ Below w.heap.size w w' := by
  have HI := Lib.hid (IndexUse_any p l v b1 b2 b3 w hlen rl hF)
  clear hF rl
  go_enter Tryd.func41, Tryd.ntmps41
  go_wp2_with fail
  refine HI.out.mono ?_
  rintro e w2 ⟨⟨r, rfl, hr⟩, hb2⟩
  have HR := Lib.hid hr
  clear hr
  go_wp2
  all_goals go_ret
  all_goals exact ⟨ret_bool HR.out, hb2⟩
/-- append of one number, with where it lies. -/
theorem wp_app_int_at {w : World} {ops : Array Oper} {rest : List Oper} {o : Oper} {a : Act} {Q : Exit → Act → World → Prop} (hgd : o.guard = none) (s x : Operand)
    (ho : o.op = .call { callee := .builtin .append, args := #[s, x], argTypes := #[22, 22] }) (B : Nat) (v : Value) (l : List Int) (hs : a.eval s = v) (hown : Own w B v l)
    (g c : Nat) (y : Int) (hx : a.eval x = .slice (some ⟨g, 0, none⟩) 1 c) (hc : w.cell? ⟨g, 0, none⟩ = some (.int .i64 y)) (hlen : l.length ≤ 1000000) (hB : B ≤ w.heap.size)
    (h : ∀ v' w', Own w' B v' (l ++ [y]) → w.grownBy w' v.ownBlock → Below B w w' → (v'.ownBlock = v.ownBlock ∨ v'.ownBlock = some w.heap.size) → wpList Tryd.prog ops Q rest (a.put o.dst v') w') : wpList Tryd.prog ops Q (o :: rest) a w := by
  obtain ⟨i, hi, hz0, hz1, hz2⟩ := info_parts info_int
  refine wpList_append_own_at w hgd s x 22 ho B 3 i _ 1 8 Tryd.underlying22 hi hz0 hz1 hz2 rfl (by decide) v l.length (ics l) hs hown ⟨g, 0, none⟩ 1 c [.int .i64 y] hx rfl ?_ ?_ (by unfold maxLen; omega) (by omega) hB ?_
  · intro j u hj
    cases j with
    | zero => simp at hj; subst hj; simpa [Addr.add] using hc
    | succ j => simp at hj
  · intro u hu; simp at hu; subst hu; rfl
  · intro v' w' h1 h2 _ h4
    refine h v' w' ?_ h2 (app_below hown h2 hB) h4
    unfold Own
    rw [List.length_append, show ics (l ++ [y]) = ics l ++ [.int .i64 y] by simp [ics]]
    exact h1
theorem all_le (l : List Int) (X : Int → Int) (L : Int) : (!l.any fun t => decide (L < X t)) = l.all fun t => decide (X t ≤ L) := by
  induction l with
  | nil => rfl
  | cons x l ih =>
    rw [List.any_cons, List.all_cons, Bool.not_or, ih]
    congr 1
    rw [Bool.eq_iff_iff]
    simp
theorem own_two {w : World} {g B : Nat} {x y : Int} (h : w.heap[g]? = some (.cells #[.int .i64 x, .int .i64 y] 3 (0, 0))) (hB : B ≤ g) : Own w B (.slice (some ⟨g, 0, none⟩) 2 2) [x, y] :=
  ⟨rfl, .inr ⟨g, 2, _, rfl, hB, h, Nat.le_refl _, by unfold maxLen; omega, rfl, rfl⟩⟩
theorem tsOf_len (l : List Sty) : (tsOf l).length = 2 * l.length := by
  unfold tsOf
  induction l with
  | nil => rfl
  | cons x l ih => rw [List.flatMap_cons, List.length_append, ih]; simp; omega
set_option maxHeartbeats 8000000 in
set_option maxRecDepth 100000 in
theorem UsableIn_any (key : ByteArray) (lv bk lo hi : Int) (l : List Sty) (v : Value) (w : World) (hlv : 1 ≤ lv ∧ lv ≤ 6) (hl : l.length ≤ 500) (ha : AscS l) (b1 : 0 ≤ lo) (b2 : lo ≤ hi) (b3 : hi ≤ 345686399999) (rl : RecR TY w 0 v l) :
    Calls Tryd.prog 23 #[partV key ⟨#[113]⟩ lv bk, v, .agg #[.int .i64 lo, .int .i64 hi]] w fun e w' => e = .returned (.bool (usB lv bk l lo hi)) ∧ Below w.heap.size w w' := by
  obtain ⟨a, cap, rfl, hc1, hc2⟩ := RecR.form rl
  have hP0 : PartAt _ w.heap.size key lv bk := blk_old (blk_old (blk_new w (.cells #[.string key, .string ⟨#[113]⟩, .int .i64 lv, .int .i64 bk] 27)) (.cells #[.slice a l.length cap] 29)) (.cells #[.int .i64 lo, .int .i64 hi] 34)
  have hL0 := blk_old (blk_new' (w.alloc (.cells #[.string key, .string ⟨#[113]⟩, .int .i64 lv, .int .i64 bk] 27)) (.cells #[.slice a l.length cap] 29) (g := w.heap.size + 1) (by simp)) (.cells #[.int .i64 lo, .int .i64 hi] 34)
  have hW0 := blk_new' ((w.alloc (.cells #[.string key, .string ⟨#[113]⟩, .int .i64 lv, .int .i64 bk] 27)).alloc (.cells #[.slice a l.length cap] 29)) (.cells #[.int .i64 lo, .int .i64 hi] 34) (g := w.heap.size + 1 + 1) (by simp)
  have hb0 := Bl.alloc (Bl.alloc (Bl.alloc (Below.refl w.heap.size w) (.cells #[.string key, .string ⟨#[113]⟩, .int .i64 lv, .int .i64 bk] 27)) (.cells #[.slice a l.length cap] 29)) (.cells #[.int .i64 lo, .int .i64 hi] 34)
  have HA := Lib.hid ha
  unfold partV
  go_enter Tryd.func23, Tryd.ntmps23
  go_wp2_with fail
  generalize ((w.alloc (.cells #[.string key, .string ⟨#[113]⟩, .int .i64 lv, .int .i64 bk] 27)).alloc (.cells #[.slice a l.length cap] 29)).alloc (.cells #[.int .i64 lo, .int .i64 hi] 34) = w1 at *
  refine (LifeOf_any lv w1 hlv).mono ?_
  rintro e w2 ⟨rfl, hb2⟩
  have hb02 := Bl.trans hb0 hb2
  have hP2 : PartAt w2 w.heap.size key lv bk := blk_below hP0 hb2
  have hL2 := blk_below hL0 hb2
  have hW2 := blk_below hW0 hb2
  clear hP0 hL0 hW0 hb0 hb2
  by_cases h1 : lv = 1
  · have HB := Lib.hid (usB_one (bk := bk) (l := l) (lo := lo) (hi := hi) h1)
    rw [show decide (lv ≠ 1) = false by simp [h1]]
    clear ha rl
    have hbx := Bl.alloc hb02 (.cells #[.int .i64 (lifeV lv)] 3)
    go_wp2
    go_ret
    exact ⟨ret_bool HB.out.symm, by first | exact hbx | (rw [h1] at hbx; exact hbx)⟩
  · rw [show decide (lv ≠ 1) = true by simp [h1]]
    have hU2 := Ub.of hP2 hW2
    have hU3 : Ub ((w2.alloc (.cells #[.int .i64 (lifeV lv)] 3)).alloc (.cells #[.int .i64 lo, .int .i64 hi] 3)) w.heap.size (w.heap.size + 1 + 1) key lv bk lo hi := hU2.below (Bl.alloc (Bl.alloc (Below.refl _ _) _) _)
    have hL3 := blk_old (blk_old hL2 (.cells #[.int .i64 (lifeV lv)] 3)) (.cells #[.int .i64 lo, .int .i64 hi] 3)
    have hF3 := blk_old (blk_new w2 (.cells #[.int .i64 (lifeV lv)] 3)) (.cells #[.int .i64 lo, .int .i64 hi] 3)
    have hA3 := blk_new' (w2.alloc (.cells #[.int .i64 (lifeV lv)] 3)) (.cells #[.int .i64 lo, .int .i64 hi] 3) (g := w2.heap.size + 1) (by simp)
    have hb03 := Bl.alloc (Bl.alloc hb02 (.cells #[.int .i64 (lifeV lv)] 3)) (.cells #[.int .i64 lo, .int .i64 hi] 3)
    have hO3 := own_two hA3 (Nat.le_refl _)
    have q0 := hU2.q0
    have q1 := hU2.q1
    have lW2 := hU2.lW
    have lP2 := hU2.lP
    have lL2 := blk_lt hL2
    have r0 : w2.cell? ⟨w.heap.size + 1, 0, none⟩ = some (.slice a l.length cap) := blk_cell hL2 0
    have z2 := hb02.size
    clear hP2 hW2 hA3
    go_wp2
    generalize (w2.alloc (.cells #[.int .i64 (lifeV lv)] 3)).alloc (.cells #[.int .i64 lo, .int .i64 hi] 3) = w3 at *
    have l3 := blk_lt hF3
    have lo3 : w2.heap.size + 1 < w3.heap.size := (World.ownsRow.lt hO3 _ rfl).2
    go_loopg [9, 29] l.length (fun gk at' i wr => ∃ (k : Nat), gk = l.length - k ∧ k ≤ l.length ∧ i = .int .i64 k ∧ Own wr (w2.heap.size + 1) at' (lo :: hi :: (tsOf (l.take k)).filter fun t => inB lo t hi) ∧ Below (w2.heap.size + 1) w3 wr)
    case atStart => exact ⟨0, by omega, Nat.zero_le _, rfl, hO3, Below.refl _ _⟩
    case round =>
      obtain ⟨k, rfl, hk, rfl, hO, hb⟩ := hrel
      obtain ⟨wo, rfl⟩ : ∃ wo : World, wo = wr := ⟨_, rfl⟩
      have hbw := hb03.trans (hb.mono (show w.heap.size ≤ w2.heap.size + 1 by omega))
      by_cases hlt : k < l.length
      · obtain ⟨⟨x1, x2⟩, hx⟩ : ∃ x, l[k]? = some x := ⟨_, List.getElem?_eq_getElem hlt⟩
        have rlr := rl.below hbw
        obtain ⟨b, o, rfl, _, hlb, hc⟩ := rlr.at TY.ok.len hx TY.ok.pos
        have c0 : wo.cell? ⟨b, o + k * 2, none⟩ = some (.int .i64 x1) := hc 0 _ rfl
        have c1 : wo.cell? ⟨b, o + k * 2 + 1, none⟩ = some (.int .i64 x2) := hc 1 _ rfl
        have hT : Hid ((lo :: hi :: (tsOf (l.take (k + 1))).filter fun t => inB lo t hi) = (lo :: hi :: (tsOf (l.take k)).filter fun t => inB lo t hi) ++ [x2 - 1, x2].filter fun t => inB lo t hi) := Lib.hid (by rw [tsOf_take hx, List.filter_append]; rfl)
        have hx2 : 0 ≤ x2 ∧ x2 < lvN := by
          have ha' : AscS (l.drop k) := ascS_drop HA.out k
          rw [drop_at hx] at ha'
          exact ha'.head
        rw [lvN_val] at hx2
        have hw2 : IntKind.i64.wrap (x2 - 1) = x2 - 1 := IntWalk.i64_in _ (by omega)
        have hI : (((wo.alloc (.cells #[.int .i64 x1, .int .i64 x2] 61)).alloc (.cells #[.int .i64 (x2 - 1), .int .i64 x2] 3))).heap[wo.heap.size + 1]? = _ := blk_new' _ _ (by simp)
        have hbs := hb.size
        have hbi := Below.alloc (Below.alloc hb (show w2.heap.size + 1 ≤ wo.heap.size by omega) (.cells #[.int .i64 x1, .int .i64 x2] 61)) (by simp; omega) (.cells #[.int .i64 (x2 - 1), .int .i64 x2] 3)
        have hOi := (hO.alloc (.cells #[.int .i64 x1, .int .i64 x2] 61)).alloc (.cells #[.int .i64 (x2 - 1), .int .i64 x2] 3)
        have hlen : (lo :: hi :: (tsOf (l.take k)).filter fun t => inB lo t hi).length ≤ 2 + 2 * k := by
          have := List.length_filter_le (fun t => inB lo t hi) (tsOf (l.take k))
          rw [tsOf_len, List.length_take] at this
          simp only [List.length_cons]; omega
        generalize hla : (lo :: hi :: (tsOf (l.take k)).filter fun t => inB lo t hi) = la at *
        have hne0 : u9.ownBlock ≠ some (wo.heap.size + 1) := fun e => by have := (World.ownsRow.lt hO _ e).2; omega
        clear hc hx rlr hO
        go_wp2
        generalize (wo.alloc (.cells #[.int .i64 x1, .int .i64 x2] 61)).alloc (.cells #[.int .i64 (x2 - 1), .int .i64 x2] 3) = wi at *
        have lI := blk_lt hI
        go_loopg [9, 40] 2 (fun gk at' j wj => ∃ (q : Nat), gk = 2 - q ∧ q ≤ 2 ∧ j = .int .i64 q ∧ Own wj (w2.heap.size + 1) at' (la ++ ([x2 - 1, x2].take q).filter fun t => inB lo t hi) ∧ Below (w2.heap.size + 1) wi wj ∧ wj.heap[wo.heap.size + 1]? = some (.cells #[.int .i64 (x2 - 1), .int .i64 x2] 3 (0, 0)) ∧ at'.ownBlock ≠ some (wo.heap.size + 1) ∧ wi.heap.size ≤ wj.heap.size)
        case atStart => exact ⟨0, by omega, by omega, rfl, by simpa using hOi, Below.refl _ _, hI, hne0, Nat.le_refl _⟩
        case round =>
          obtain ⟨q, rfl, hq, rfl, hOj, hbj, hIj, hnj, hzj⟩ := hrel
          have hb3j := Below.trans hbi hbj
          obtain ⟨y0, y1, y2, y3, z0, z1, ly, lz⟩ := hU3.belowB hb3j (by omega) (by omega)
          by_cases hq2 : q < 2
          · obtain ⟨t, ht⟩ : ∃ t, [x2 - 1, x2][q]? = some t := ⟨_, List.getElem?_eq_getElem (by simpa using hq2)⟩
            have ct : wr.cell? ⟨wo.heap.size + 1, q, none⟩ = some (.int .i64 t) := by
              rw [blk_cell hIj]
              rcases (show q = 0 ∨ q = 1 by omega) with rfl | rfl
              · simp at ht; subst ht; rfl
              · simp at ht; subst ht; rfl
            have hlq : ([x2 - 1, x2].take q).filter (fun t => inB lo t hi) = ([x2 - 1, x2].take q).filter (fun t => inB lo t hi) := rfl
            have hl2 : (la ++ ([x2 - 1, x2].take q).filter fun t => inB lo t hi).length ≤ 2000 := by
              have := List.length_filter_le (fun t => inB lo t hi) ([x2 - 1, x2].take q)
              rw [List.length_take] at this
              rw [List.length_append]
              simp only [List.length_cons, List.length_nil] at this
              omega
            cases hin : inB lo t hi
            · have hst : Hid ((la ++ ([x2 - 1, x2].take (q + 1)).filter fun t => inB lo t hi) = la ++ ([x2 - 1, x2].take q).filter fun t => inB lo t hi) := Lib.hid (by
                rw [take_snoc ht, List.filter_append]; simp [hin])
              clear ht
              go_wp2_with (go_at_call 33; refine (in_any _ _ _ _).mono ?_; rintro e w' ⟨rfl, rfl⟩; rw [hin])
              go_roundg (2 - (q + 1))
              case rel => exact ⟨q + 1, rfl, by omega, by go_num, by rw [hst.out]; exact hOj, hbj, hIj, hnj, hzj⟩
              case measure => omega
            · have hst : Hid ((la ++ ([x2 - 1, x2].take (q + 1)).filter fun t => inB lo t hi) = (la ++ ([x2 - 1, x2].take q).filter fun t => inB lo t hi) ++ [t]) := Lib.hid (by
                rw [take_snoc ht, List.filter_append]; simp [hin])
              clear ht
              have zj : w2.heap.size + 1 ≤ wr.heap.size := by omega
              go_wp2_with (first
                | (go_at_call 33; refine (in_any _ _ _ _).mono ?_; rintro e w' ⟨rfl, rfl⟩; rw [hin])
                | (at_builtin; refine wp_app_int_at rfl _ _ rfl (w2.heap.size + 1) _ _ rfl (hOj.alloc _) wr.heap.size 1 t rfl (by rw [blk_cell (blk_new wr _) 0]; rfl) (by omega) (by simp; omega) ?_))
              intro v' w5 hO5 hg5 hb5 hl5
              (first | rw [← hst.out] at hO5 | rw [← List.append_assoc, ← hst.out] at hO5)
              have hI5 := (hg5.block _ (by simp; have := blk_lt hIj; omega) (fun e => hnj e.symm)).trans (blk_old hIj (.cells #[.int .i64 t] 3))
              have hn5 : v'.ownBlock ≠ some (wo.heap.size + 1) := by
                rcases hl5 with h | h
                · rw [h]; exact hnj
                · rw [h]
                  intro e
                  injection e with e
                  have := blk_lt hIj
                  simp at e
                  omega
              have hbj5 := Below.trans (Below.alloc hbj (show w2.heap.size + 1 ≤ wr.heap.size by omega) (.cells #[.int .i64 t] 3)) hb5
              have hz5 := hg5.size
              simp at hz5
              go_wp2
              go_roundg (2 - (q + 1))
              case rel => exact ⟨q + 1, rfl, by omega, by go_num, hO5, hbj5, hI5, hn5, by omega⟩
              case measure => omega
          · have hq3 : q = 2 := by omega
            subst hq3
            go_wp2
            go_roundg (l.length - (k + 1))
            case rel => exact ⟨k + 1, rfl, by omega, by go_num, by rw [hT.out]; exact hOj, hb3j⟩
            case measure => omega
      · have hk2 : k = l.length := by omega
        rw [hk2, List.take_length] at hO
        obtain ⟨y0, y1, y2, y3, z0, z1, ly, lz⟩ := hU3.belowB hb (by omega) (by omega)
        have cL : wo.cell? ⟨w.heap.size + 1, 0, none⟩ = some (.slice a l.length cap) := (hb.cell (p := ⟨w.heap.size + 1, 0, none⟩) (by show w.heap.size + 1 < w2.heap.size + 1; omega)).trans (blk_cell hL3 0)
        have cF : wo.cell? ⟨w2.heap.size, 0, none⟩ = some (.int .i64 (lifeV lv)) := (hb.cell (p := ⟨w2.heap.size, 0, none⟩) (by show w2.heap.size < w2.heap.size + 1; omega)).trans (blk_cell hF3 0)
        have rlo := rl.below hbw
        have lL : w.heap.size + 1 < wo.heap.size := World.block_lt_of_cell? _ _ cL
        have lF : w2.heap.size < wo.heap.size := World.block_lt_of_cell? _ _ cF
        have hV : Hid ((!((lo :: hi :: (tsOf l).filter fun t => inB lo t hi).any fun t => decide (lifeV lv < expo lv bk l t))) = usB lv bk l lo hi) := Lib.hid (by
          unfold usB
          rw [decide_eq_false h1, Bool.false_or]
          exact all_le _ _ _)
        have HC := Lib.hid (ContainsUse_any (fun t => decide (lifeV lv < expo lv bk l t)) _ u9 (.pointer (some ⟨w.heap.size, 0, none⟩)) (.pointer (some ⟨w.heap.size + 1, 0, none⟩)) (.pointer (some ⟨w2.heap.size, 0, none⟩)) wo (by
            have := List.length_filter_le (fun t => inB lo t hi) (tsOf l)
            rw [tsOf_len] at this
            simp only [List.length_cons]; omega) hO.ints0 (fun W t ht hW => by
          have htb : lo ≤ t ∧ t ≤ hi := by
            simp only [List.mem_cons, List.mem_filter] at ht
            rcases ht with rfl | rfl | ⟨_, h⟩
            · exact ⟨Int.le_refl _, b2⟩
            · exact ⟨b2, Int.le_refl _⟩
            · exact inB_iff.1 h
          obtain ⟨bc, _⟩ := bcell hW
          exact UsableIn1_any key lv bk t (lifeV lv) l _ w.heap.size (w.heap.size + 1) w2.heap.size W hl HA.out (by omega) (by omega) (rlo.below hW) ((bc _ _ ly).trans y0) ((bc _ _ ly).trans y1) ((bc _ _ ly).trans y2) ((bc _ _ ly).trans y3) ((bc _ _ lL).trans cL) ((bc _ _ lF).trans cF)))
        generalize ((lo :: hi :: (tsOf l).filter fun t => inB lo t hi).any fun t => decide (lifeV lv < expo lv bk l t)) = B at HC hV
        clear hO rlo rl
        go_wp2_with fail
        refine HC.out.mono ?_
        rintro e w6 ⟨rfl, hb6⟩
        go_wp2
        go_ret
        exact ⟨ret_bool hV.out, Bl.trans hbw hb6⟩
end Go.Proofs.YtpfichbhhpnioaaDoor
