/- The contracts of Usable and UsableIn. Conditions: a short key, a bake time in its range, at most 500 stays. -/
import Derived.Test.YtfhfncnnendnfaaGreatDoorLFun
import Derived.Deep.LoopGhost
namespace Go.Proofs.YtfhfncnnendnfaaGreatDoor
open Go.RowKit Go.Sort

def tsOf (l : List Sty) : List Int := l.flatMap fun x => [x.2 - 1, x.2]
theorem tsOf_take {l : List Sty} {k : Nat} {x : Sty} (h : l[k]? = some x) : tsOf (l.take (k + 1)) = tsOf (l.take k) ++ [x.2 - 1, x.2] := by
  unfold tsOf
  rw [take_snoc h, List.flatMap_append, List.flatMap_singleton]
def stepX (lo hi : Int) (X : Int → Int) (m t : Int) : Int := if inB lo t hi = true then max m (X t) else m
theorem foldX (lo hi : Int) (X : Int → Int) : ∀ (ts : List Int) (m k : Int), ts.foldl (stepX lo hi X) m ≤ k ↔ m ≤ k ∧ ∀ t ∈ ts.filter (fun t => inB lo t hi), X t ≤ k
  | [], m, k => by simp
  | t :: ts, m, k => by
    rw [List.foldl_cons, foldX lo hi X ts _ k]
    unfold stepX
    by_cases h : inB lo t hi = true
    · rw [if_pos h, List.filter_cons, if_pos h]
      simp only [List.mem_cons, forall_eq_or_imp]
      constructor
      · rintro ⟨h1, h2⟩; exact ⟨by omega, by omega, h2⟩
      · rintro ⟨h1, h2, h3⟩; exact ⟨by omega, h3⟩
    · rw [if_neg h, List.filter_cons, if_neg h]
theorem ascS_drop {l : List Sty} (h : AscS l) : ∀ k, AscS (l.drop k)
  | 0 => by simpa using h
  | k + 1 => by
    have := ascS_drop h k
    rw [← List.drop_drop]
    cases hd : l.drop k with
    | nil => simp; trivial
    | cons x r => rw [hd] at this; simpa using this.tail
/-- may it be used at all moments that are looked at. -/
def usB (lv bk : Int) (l : List Sty) (lo hi : Int) : Bool := decide (lv = 1) || (lo :: hi :: (tsOf l).filter (fun t => inB lo t hi)).all fun t => decide (expo lv bk l t ≤ lifeV lv)
theorem usB_one {lv bk : Int} {l : List Sty} {lo hi : Int} (h : lv = 1) : usB lv bk l lo hi = true := by unfold usB; simp [h]
theorem usB_fold {lv bk : Int} {l : List Sty} {lo hi : Int} (h : lv ≠ 1) : decide ((tsOf l).foldl (stepX lo hi (expo lv bk l)) (max (expo lv bk l lo) (expo lv bk l hi)) ≤ lifeV lv) = usB lv bk l lo hi := by
  unfold usB
  rw [decide_eq_false h, Bool.false_or, Bool.eq_iff_iff]
  rw [decide_eq_true_eq, foldX, List.all_eq_true]
  simp only [List.mem_cons, forall_eq_or_imp, decide_eq_true_eq]
  constructor
  · rintro ⟨h1, h2⟩; exact ⟨by omega, by omega, h2⟩
  · rintro ⟨h1, h2, h3⟩; exact ⟨by omega, h3⟩
def useF (key : ByteArray) (lv : Int) (l : List Sty) (lo hi : Int) : Int := if livF key lv l = 0 then (if inB 0 lo hi = true ∧ inB 0 hi 345686399999 = true then 0 else 1) else livF key lv l
theorem useF_zero {key : ByteArray} {lv : Int} {l : List Sty} {lo hi : Int} (h : useF key lv l lo hi = 0) : livF key lv l = 0 ∧ 0 ≤ lo ∧ lo ≤ hi ∧ hi ≤ 345686399999 := by
  unfold useF at h
  by_cases h0 : livF key lv l = 0
  · rw [if_pos h0] at h
    by_cases h1 : inB 0 lo hi = true ∧ inB 0 hi 345686399999 = true
    · have a := inB_iff.1 h1.1
      have b := inB_iff.1 h1.2
      exact ⟨h0, a.1, a.2, b.2⟩
    · rw [if_neg h1] at h; omega
  · rw [if_neg h0] at h; exact absurd h h0
def usV (key : ByteArray) (lv bk : Int) (l : List Sty) (lo hi : Int) : Bool := if useF key lv l lo hi = 0 then usB lv bk l lo hi else false
/-- what lies in memory from the first steps of Usable on. -/
structure Ub (w : World) (P W : Nat) (key : ByteArray) (lv bk lo hi : Int) : Prop where
  p0 : w.cell? ⟨P, 0, none⟩ = some (.string key)
  p1 : w.cell? ⟨P, 1, none⟩ = some (.string ⟨#[113]⟩)
  p2 : w.cell? ⟨P, 2, none⟩ = some (.int .i64 lv)
  p3 : w.cell? ⟨P, 3, none⟩ = some (.int .i64 bk)
  q0 : w.cell? ⟨W, 0, none⟩ = some (.int .i64 lo)
  q1 : w.cell? ⟨W, 1, none⟩ = some (.int .i64 hi)
  lP : P < w.heap.size
  lW : W < w.heap.size
theorem Ub.of {w : World} {P W : Nat} {key : ByteArray} {lv bk lo hi : Int} (hP : PartAt w P key lv bk) (hW : w.heap[W]? = some (.cells #[.int .i64 lo, .int .i64 hi] 48 (0, 0))) : Ub w P W key lv bk lo hi :=
  ⟨blk_cell hP 0, blk_cell hP 1, blk_cell hP 2, blk_cell hP 3, blk_cell hW 0, blk_cell hW 1, blk_lt hP, blk_lt hW⟩
theorem Ub.below {w w' : World} {P W : Nat} {key : ByteArray} {lv bk lo hi : Int} (h : Ub w P W key lv bk lo hi) (hb : Below w.heap.size w w') : Ub w' P W key lv bk lo hi := by
  obtain ⟨bc, _⟩ := bcell hb
  exact ⟨(bc _ _ h.lP).trans h.p0, (bc _ _ h.lP).trans h.p1, (bc _ _ h.lP).trans h.p2, (bc _ _ h.lP).trans h.p3, (bc _ _ h.lW).trans h.q0, (bc _ _ h.lW).trans h.q1, Nat.lt_of_lt_of_le h.lP hb.size, Nat.lt_of_lt_of_le h.lW hb.size⟩
set_option maxHeartbeats 8000000 in
set_option maxRecDepth 100000 in
theorem Usable_any (key : ByteArray) (lv bk lo hi : Int) (l : List Sty) (v : Value) (w : World) (hk : key.size ≤ 1000) (hbk : 0 ≤ bk ∧ bk ≤ 720000000) (hl : l.length ≤ 500) (rl : RecR TY w 0 v l) :
    Calls Tryz.prog 9 #[partV key ⟨#[113]⟩ lv bk, v, .agg #[.int .i64 lo, .int .i64 hi]] w fun e w' => e = .returned (.tuple #[.bool (usV key lv bk l lo hi), .int .i64 (useF key lv l lo hi)]) ∧ Below w.heap.size w w' := by
  have hb0 := Bl.alloc (Bl.alloc (Below.refl w.heap.size w) (.cells #[.string key, .string ⟨#[113]⟩, .int .i64 lv, .int .i64 bk] 29)) (.cells #[.int .i64 lo, .int .i64 hi] 48)
  have hP0 : PartAt _ w.heap.size key lv bk := blk_old (blk_new w (.cells #[.string key, .string ⟨#[113]⟩, .int .i64 lv, .int .i64 bk] 29)) (.cells #[.int .i64 lo, .int .i64 hi] 48)
  have hW0 := blk_new' (w.alloc (.cells #[.string key, .string ⟨#[113]⟩, .int .i64 lv, .int .i64 bk] 29)) (.cells #[.int .i64 lo, .int .i64 hi] 48) (g := w.heap.size + 1) (by simp)
  have HP := Lib.hid (partStaysFault_any key lv bk l v _ hk hbk hl ((rl.alloc (.cells #[.string key, .string ⟨#[113]⟩, .int .i64 lv, .int .i64 bk] 29)).alloc (.cells #[.int .i64 lo, .int .i64 hi] 48)))
  have hU0 := Ub.of hP0 hW0
  unfold partV at HP ⊢
  go_enter Tryz.func9, Tryz.ntmps9
  go_wp2_with fail
  refine HP.out.mono ?_
  rintro e w2 ⟨rfl, hb2⟩
  have hb02 := Bl.trans hb0 hb2
  have hU2 := hU0.below hb2
  have rl2 := rl.below hb02
  clear HP rl hP0 hW0 hb0 hb2 hU0
  by_cases h0 : livF key lv l = 0
  · have HL := Lib.hid h0
    rw [h0]
    obtain ⟨p0, p1, p2, p3, q0, q1, lP, lW⟩ := hU2
    by_cases hw : inB 0 lo hi = true ∧ inB 0 hi 345686399999 = true
    · obtain ⟨w1, w2'⟩ := hw
      have b1 := inB_iff.1 w1
      have b2 := inB_iff.1 w2'
      have HF : Hid (useF key lv l lo hi = 0) := Lib.hid (by unfold useF; rw [if_pos h0, if_pos ⟨w1, w2'⟩])
      have HV : Hid (usV key lv bk l lo hi = usB lv bk l lo hi) := Lib.hid (by unfold usV; rw [if_pos HF.out])
      have hasc := (stF_asc (livF_zero h0).2).1
      have hlv := catF_zero (livF_zero h0).1
      by_cases h1 : lv = 1
      · have HB := Lib.hid (usB_one (bk := bk) (l := l) (lo := lo) (hi := hi) h1)
        clear h0 hasc rl2
        go_wp2_with (first | (go_at_call 18; refine (Outside_any _ _ _ _).mono ?_; rintro e w' ⟨rfl, rfl⟩; rw [w1]) | (go_at_call 19; refine (IsMoment_any _ _).mono ?_; rintro e w' ⟨rfl, rfl⟩; rw [w2']))
        go_ret2
        exact ⟨by rw [HV.out, HF.out, HB.out] <;> rfl, hb02⟩
      · have hne : (lv == 1) = false := by simpa using h1
        have HB := Lib.hid (usB_fold (lv := lv) (bk := bk) (l := l) (lo := lo) (hi := hi) h1)
        have HE := Lib.hid (show ∀ t W, 0 ≤ t → t ≤ 345686400000 → Below w2.heap.size w2 W → Calls Tryz.prog 16 #[.agg #[.string key, .string ⟨#[113]⟩, .int .i64 lv, .int .i64 bk], v, .int .i64 t] W fun e w' => e = .returned (.int .i64 (expo lv bk l t)) ∧ Below W.heap.size W w' from fun t W t0 t1 hW => exposed_any key ⟨#[113]⟩ lv bk t l v W hl hasc t0 t1 (rl2.below hW))
        obtain ⟨a, cap, rfl, hc1, hc2⟩ := RecR.form rl2
        have HU := Lib.hid (show ∀ W, Below w2.heap.size w2 W → Ub W w.heap.size (w.heap.size + 1) key lv bk lo hi from fun W hW => Ub.below ⟨p0, p1, p2, p3, q0, q1, lP, lW⟩ hW)
        have HRL := Lib.hid (show ∀ W, Below w2.heap.size w2 W → RecR TY W 0 (.slice a l.length cap) l from fun W hW => rl2.below hW)
        have HAS := Lib.hid hasc
        clear h0 hasc rl2
        go_wp2_with (first | (go_at_call 18; refine (Outside_any _ _ _ _).mono ?_; rintro e w' ⟨rfl, rfl⟩; rw [w1]) | (go_at_call 19; refine (IsMoment_any _ _).mono ?_; rintro e w' ⟨rfl, rfl⟩; rw [w2']))
        have e0 := cell_regrown p0
        have e1 := cell_regrown p1
        have e2 := cell_regrown p2
        have e3 := cell_regrown p3
        have e4 := cell_regrown q0
        have e5 := cell_regrown q1
        have HX := Lib.hid (fun (t : Int) (h0 : 0 ≤ t) (h1 : t ≤ 345686400000) (d : Nat) (os : Array Obj) => Calls.regrown_of (w := w2) (d := d) (os := os) (HE.out t _ h0 h1 (below_regrown w2 d os)))
        refine wp_region_quiet_below (by kernel_rfl) (by kernel_rfl) ?_
        repeat (go_big_quiet_step ((go_at_call 16; exact HX.out _ (by omega) (by omega) _ _)))
        refine wpQuiet_nil ?_
        intro w4 hw'
        obtain ⟨⟨dq, osq⟩, hw''⟩ := hw'
        have hb4 : Below w2.heap.size w2 w4 := hw'' ▸ below_regrown w2 dq osq
        clear hw'' e0 e1 e2 e3 e4 e5 HX p0 p1 p2 p3 q0 q1
        obtain ⟨r0, r1, r2, r3, s0, s1, lr, ls⟩ := HU.out w4 hb4
        have rl4 := HRL.out w4 hb4
        go_wp2
        go_loopg [9, 47] l.length (fun gk m i wr => ∃ (k : Nat) (mm : Int), gk = l.length - k ∧ k ≤ l.length ∧ i = .int .i64 k ∧ m = .int .i64 mm ∧ Hid (mm = (tsOf (l.take k)).foldl (stepX lo hi (expo lv bk l)) (max (expo lv bk l lo) (expo lv bk l hi))) ∧ Below w4.heap.size w4 wr)
        case atStart => exact ⟨0, _, by omega, Nat.zero_le _, rfl, rfl, Lib.hid rfl, Below.refl _ _⟩
        case round =>
          obtain ⟨k, mm, rfl, hk, rfl, rfl, hM, hb⟩ := hrel
          obtain ⟨wo, rfl⟩ : ∃ wo : World, wo = wr := ⟨_, rfl⟩
          by_cases hlt : k < l.length
          · obtain ⟨⟨x1, x2⟩, hx⟩ : ∃ x, l[k]? = some x := ⟨_, List.getElem?_eq_getElem hlt⟩
            have rlr := rl4.below hb
            obtain ⟨b, o, rfl, _, hlb, hc⟩ := rlr.at TY.ok.len hx TY.ok.pos
            have c0 : wo.cell? ⟨b, o + k * 2, none⟩ = some (.int .i64 x1) := hc 0 _ rfl
            have c1 : wo.cell? ⟨b, o + k * 2 + 1, none⟩ = some (.int .i64 x2) := hc 1 _ rfl
            have hT := Lib.hid (tsOf_take hx)
            have hx2 : Hid (0 ≤ x2 ∧ x2 < lvN) := Lib.hid (by
              have := drop_at hx
              have ha : AscS (l.drop k) := ascS_drop HAS.out k
              rw [this] at ha
              exact ha.head)
            have hx2' := hx2.out
            rw [lvN_val] at hx2'
            have hw2 : IntKind.i64.wrap (x2 - 1) = x2 - 1 := IntWalk.i64_in _ (by omega)
            have hI : (((wo.alloc (.cells #[.int .i64 x1, .int .i64 x2] 32)).alloc (.cells #[.int .i64 (x2 - 1), .int .i64 x2] 3))).heap[wo.heap.size + 1]? = _ := blk_new' _ _ (by simp)
            have hbi := Bl.alloc (Bl.alloc hb (.cells #[.int .i64 x1, .int .i64 x2] 32)) (.cells #[.int .i64 (x2 - 1), .int .i64 x2] 3)
            clear hc hx rlr
            go_wp2
            generalize (wo.alloc (.cells #[.int .i64 x1, .int .i64 x2] 32)).alloc (.cells #[.int .i64 (x2 - 1), .int .i64 x2] 3) = wi at *
            go_loopg [9, 58] 2 (fun gk m j wj => ∃ (q : Nat) (mq : Int), gk = 2 - q ∧ q ≤ 2 ∧ j = .int .i64 q ∧ m = .int .i64 mq ∧ Hid (mq = ([x2 - 1, x2].take q).foldl (stepX lo hi (expo lv bk l)) mm) ∧ Below wi.heap.size wi wj)
            case atStart => exact ⟨0, mm, by omega, by omega, rfl, rfl, Lib.hid rfl, Below.refl _ _⟩
            case round =>
              obtain ⟨q, mq, rfl, hq, rfl, rfl, hQ, hbj⟩ := hrel
              have hbW := Bl.trans hb4 (Bl.trans hbi hbj)
              obtain ⟨y0, y1, y2, y3, z0, z1, ly, lz⟩ := HU.out wr hbW
              have hIj := blk_below hI hbj
              by_cases hq2 : q < 2
              · obtain ⟨t, ht⟩ : ∃ t, [x2 - 1, x2][q]? = some t := ⟨_, List.getElem?_eq_getElem (by simpa using hq2)⟩
                have htb : t = x2 - 1 ∨ t = x2 := by
                  have := List.mem_of_getElem? ht
                  simpa using this
                have ct : wr.cell? ⟨wo.heap.size + 1, q, none⟩ = some (.int .i64 t) := by
                  rw [blk_cell hIj]
                  rcases (show q = 0 ∨ q = 1 by omega) with rfl | rfl
                  · simp at ht; subst ht; rfl
                  · simp at ht; subst ht; rfl
                have hfold : Hid (([x2 - 1, x2].take (q + 1)).foldl (stepX lo hi (expo lv bk l)) mm = stepX lo hi (expo lv bk l) mq t) := Lib.hid (by
                  rw [take_snoc ht, List.foldl_append, ← hQ.out]; rfl)
                by_cases t1 : lo ≤ t
                · by_cases t2 : t ≤ hi
                  · have hst : Hid (stepX lo hi (expo lv bk l) mq t = max mq (expo lv bk l t)) := Lib.hid (by unfold stepX; rw [if_pos (inB_true t1 t2)])
                    have HEt := Lib.hid (HE.out t wr (by omega) (by omega) hbW)
                    clear ht
                    go_wp2_with fail
                    refine HEt.out.mono ?_
                    rintro e w5 ⟨rfl, hb5⟩
                    go_wp2
                    go_roundg (2 - (q + 1))
                    case rel => exact ⟨q + 1, _, rfl, by omega, by go_num, rfl, Lib.hid (by rw [hfold.out, hst.out]), Bl.trans hbj hb5⟩
                    case measure => omega
                  · have hst : Hid (stepX lo hi (expo lv bk l) mq t = mq) := Lib.hid (by unfold stepX; rw [inB_gt (by omega)]; rfl)
                    clear ht
                    go_wp2
                    go_roundg (2 - (q + 1))
                    case rel => exact ⟨q + 1, _, rfl, by omega, by go_num, rfl, Lib.hid (by rw [hfold.out, hst.out]), hbj⟩
                    case measure => omega
                · have hst : Hid (stepX lo hi (expo lv bk l) mq t = mq) := Lib.hid (by unfold stepX; rw [inB_lt (by omega)]; rfl)
                  clear ht
                  go_wp2
                  go_roundg (2 - (q + 1))
                  case rel => exact ⟨q + 1, _, rfl, by omega, by go_num, rfl, Lib.hid (by rw [hfold.out, hst.out]), hbj⟩
                  case measure => omega
              · have hq3 : q = 2 := by omega
                subst hq3
                go_wp2
                go_roundg (l.length - (k + 1))
                case rel => exact ⟨k + 1, mq, rfl, by omega, by go_num, rfl, Lib.hid (by rw [hT.out, List.foldl_append, ← hM.out, hQ.out]; rfl), Bl.trans hbi hbj⟩
                case measure => omega
          · have hk2 : k = l.length := by omega
            have hMl : Hid (decide (mm ≤ lifeV lv) = usB lv bk l lo hi) := Lib.hid (by
              rw [← HB.out, hM.out, hk2, List.take_length])
            obtain ⟨y0, y1, y2, y3, z0, z1, ly, lz⟩ := HU.out wo (Bl.trans hb4 hb)
            have HLf := Lib.hid (life_any lv wo hlv)
            clear hM rl4
            go_wp2_with fail
            refine HLf.out.mono ?_
            rintro e w' ⟨rfl, rfl⟩
            go_wp2
            go_ret2
            exact ⟨by
              show Ending.returned (.tuple #[.bool (decide (mm ≤ lifeV lv)), .int .i64 0]) = _
              rw [HV.out, HF.out, hMl.out], Bl.trans hb02 (Bl.trans hb4 hb)⟩
    · have HF : Hid (useF key lv l lo hi = 1) := Lib.hid (by unfold useF; rw [if_pos h0, if_neg hw])
      have HV : Hid (usV key lv bk l lo hi = false) := Lib.hid (by unfold usV; rw [if_neg (by rw [HF.out]; omega)])
      clear h0 rl2
      cases w1 : inB 0 lo hi
      · go_wp2_with (first | (go_at_call 18; refine (Outside_any _ _ _ _).mono ?_; rintro e w' ⟨rfl, rfl⟩; rw [w1]) | (go_at_call 19; refine (IsMoment_any _ _).mono ?_; rintro e w' ⟨rfl, rfl⟩))
        go_ret2
        exact ⟨by rw [HV.out, HF.out] <;> rfl, hb02⟩
      · have w2' : inB 0 hi 345686399999 = false := by
          cases h : inB 0 hi 345686399999
          · rfl
          · exact absurd ⟨w1, h⟩ hw
        go_wp2_with (first | (go_at_call 18; refine (Outside_any _ _ _ _).mono ?_; rintro e w' ⟨rfl, rfl⟩; rw [w1]) | (go_at_call 19; refine (IsMoment_any _ _).mono ?_; rintro e w' ⟨rfl, rfl⟩; rw [w2']))
        go_ret2
        exact ⟨by rw [HV.out, HF.out] <;> rfl, hb02⟩
  · have HF : Hid (useF key lv l lo hi = livF key lv l) := Lib.hid (by unfold useF; rw [if_neg h0])
    have HV : Hid (usV key lv bk l lo hi = false) := Lib.hid (by unfold usV; rw [if_neg (by rw [HF.out]; exact h0)])
    have hne : (livF key lv l != 0) = true := by simpa using h0
    clear h0 rl2
    go_wp2
    go_ret2
    exact ⟨by rw [HV.out, HF.out] <;> rfl, hb02⟩
end Go.Proofs.YtfhfncnnendnfaaGreatDoor
