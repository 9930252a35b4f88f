/- The contract of Cycles where nothing is wrong. Conditions: at most 6 points, coordinates within 2^41. -/
import Derived.Test.YtbkglhakhahfpaaGreatDoorCtab
import Derived.BigRegion
namespace Go.Proofs.YtbkglhakhahfpaaGreatDoor
open Go.RowKit Go.Sort

theorem Best.congr {tl : Nat → List Int} {lg : Nat → Int} {z : Nat} {L L' : Nat → Int × Int} {s m f : Nat} {c : Int × Int} (h : Best tl lg z L s m c f) (he : ∀ x, x < s → L x = L' x) : Best tl lg z L' s m c f := by
  have hc : ∀ t, valid z s t = true → cstD lg L s t = cstD lg L' s t := fun t ht => by
    have h1 := valid_le ht
    unfold cstD; rw [he (s - t) (by omega)]
  rcases h with ⟨h1, h2⟩ | ⟨h1, h2, h3, h4⟩
  · exact .inl ⟨h1, h2⟩
  · refine .inr ⟨h1, h2, by rw [← hc f h1]; exact h3, fun t ht hlt => ?_⟩
    rw [← hc f h1, ← hc t ht]; exact h4 t ht hlt
theorem updL_self (L : Nat → Int × Int) (s : Nat) : updL L s (L s) = L := by
  funext x
  unfold updL
  by_cases h : x = s
  · rw [if_pos h, h]
  · rw [if_neg h]
theorem updF_self (F : Nat → Nat) (s : Nat) : updF F s (F s) = F := by
  funext x
  unfold updF
  by_cases h : x = s
  · rw [if_pos h, h]
  · rw [if_neg h]
theorem Ct.new {w : World} {lo N : Nat} {tl : Nat → List Int} {lg : Nat → Int} (hlo : lo = w.heap.size + 1 + 1 + 1 + 1) :
    Ct ((((w.alloc (.cells (madeCells #[.slice none 0 0] N) 22)).alloc (.cells (madeCells #[.int .i64 0, .int .i64 0] (N * 2)) 220)).alloc (.cells (madeCells #[.int .i64 0] N) 3)).alloc (.cells (madeCells #[.int .i64 0] N) 3)) w.heap.size (w.heap.size + 1) (w.heap.size + 1 + 1) (w.heap.size + 1 + 1 + 1) lo N 1 tl lg (fun _ => (0, 0)) (fun _ => 0) := by
  subst hlo
  refine ⟨by omega, by simp, ⟨_, blk_old (blk_old (blk_old (blk_new w _) _) _) _, size_madeCells _ _, fun s h1 h2 => by omega⟩, ⟨_, blk_old (blk_old (blk_new' (w.alloc _) _ (by simp)) _) _, size_madeCells _ _, fun s h => ⟨made2_at _ _ (by omega), made2_at _ _ (by omega)⟩⟩,
    ⟨_, blk_old (blk_new' ((w.alloc _).alloc _) _ (by simp)) _, size_madeCells _ _, fun s h => made_at _ _ _ h⟩, ⟨_, blk_new' (((w.alloc _).alloc _).alloc _) _ (by simp), size_madeCells _ _, fun s h1 h2 => by omega⟩⟩
theorem updL_ne (L : Nat → Int × Int) {s x : Nat} (c : Int × Int) (h : x ≠ s) : updL L s c x = L x := if_neg h
theorem updF_ne (F : Nat → Nat) {s x : Nat} (f : Nat) (h : x ≠ s) : updF F s f x = F x := if_neg h
theorem updL_eq (L : Nat → Int × Int) (s : Nat) (c : Int × Int) : updL L s c s = c := if_pos rfl
theorem updF_eq (F : Nat → Nat) (s f : Nat) : updF F s f s = f := if_pos rfl
/-- the least element of a set, as a set. -/
def lowN (s : Nat) : Nat := 2 ^ lowI 8 s
theorem lowN_bits (s : Nat) (hs : s < 64) (h0 : 0 < s) : bits .and .i64 (s : Int) (-(s : Int)) = ((lowN s : Nat) : Int) := bits_low s hs h0
theorem lowN_le (s : Nat) (hs : s < 64) : lowN s ≤ 256 := low_lt s hs
theorem lowN_test (t s : Nat) (ht : t < 64) (hs : s < 64) : ((t &&& lowN s) == 0) = !t.testBit (lowI 8 s) := low_test t s ht hs
theorem updL_updL (L : Nat → Int × Int) (s : Nat) (c c' : Int × Int) : updL (updL L s c) s c' = updL L s c' := by
  funext x
  unfold updL
  by_cases h : x = s
  · rw [if_pos h, if_pos h]
  · rw [if_neg h, if_neg h, if_neg h]
theorem updF_updF (F : Nat → Nat) (s f f' : Nat) : updF (updF F s f) s f' = updF F s f' := by
  funext x
  unfold updF
  by_cases h : x = s
  · rw [if_pos h, if_pos h]
  · rw [if_neg h, if_neg h, if_neg h]
open Classical in
theorem lessB_true {a b : Int × Int} (h : lessB a b = true) (l m : List Int) : le2 a l b m := by
  have h := of_decide_eq_true h
  rcases h with h | ⟨h1, h2⟩
  · exact .inl h
  · exact .inr ⟨h1, .inl h2⟩
open Classical in
theorem lessB_false {a b : Int × Int} (h : lessB a b = false) (hne : ¬(a.1 = b.1 ∧ a.2 = b.2)) (l m : List Int) : le2 b m a l := by
  have h := of_decide_eq_false h
  unfold lt2 at h
  by_cases h1 : b.1 < a.1
  · exact .inl h1
  · by_cases h2 : a.1 < b.1
    · exact absurd (.inl h2) h
    · refine .inr ⟨by omega, .inl ?_⟩
      by_cases h3 : a.2 < b.2
      · exact absurd (.inr ⟨by omega, h3⟩) h
      · have : a.2 ≠ b.2 := fun e => hne ⟨by omega, e⟩
        omega
/-- a row of lists of numbers that the call owns, all of it. -/
structure RowsI (B : Nat) (v : Value) (ls : List (List Int)) (W : World) : Prop where
  ex : ∃ vs, OwnV W B v vs ∧ vs.length = ls.length ∧ ∀ (j : Nat) (y : Value) (l : List Int), vs[j]? = some y → ls[j]? = some l → Own W B y l
theorem RowsI.below {B : Nat} {v : Value} {ls : List (List Int)} {W W' : World} (h : RowsI B v ls W) (hb : Below W.heap.size W W') : RowsI B v ls W' := by
  obtain ⟨vs, h1, h2, h3⟩ := h.ex
  exact ⟨vs, h1.below hb, h2, fun j y l e1 e2 => (h3 j y l e1 e2).below hb⟩
theorem has_valid6 : ((List.range 64).all fun s => (List.range 8).all fun z => s == 0 || (List.range 64).any fun t => valid (z + 1) s t) = true := by kernel_rfl
theorem pw_6 {n : Nat} (h : n ≤ 6) : pw n ≤ 64 := Nat.le_trans (Nat.pow_le_pow_right (by omega) h) (by decide)
/-- bounds of costs. -/
def Lb (L : Nat → Int × Int) : Prop := ∀ s, 0 ≤ (L s).1 ∧ (L s).1 ≤ (s : Int) * 9007199254740992 ∧ 0 ≤ (L s).2 ∧ (L s).2 ≤ (s : Int)
theorem Lb.upd {L : Nat → Int × Int} (h : Lb L) {s t : Nat} {lg : Nat → Int} (ht : t ≤ s) (h1 : 1 ≤ t) (hl : 0 ≤ lg t ∧ lg t ≤ 9007199254740992) : Lb (updL L s (cstD lg L s t)) := by
  intro x
  unfold updL
  split
  · rename_i e
    subst e
    obtain ⟨a, b, c, d⟩ := h (x - t)
    have e : ((x - t : Nat) : Int) ≤ (x : Int) - 1 := by omega
    unfold cstD
    simp only
    omega
  · exact h x

set_option maxHeartbeats 40000000 in
set_option maxRecDepth 100000 in
theorem Cycles_ok (st : Pt) (P : List Pt) (vp : Value) (z : Nat) (w : World) (hst : Bd st) (hPb : ∀ p ∈ P, Bd p) (hn : P.length ≤ 6) (hz1 : 1 ≤ z) (hz8 : z ≤ 8) (hT8 : tourF st P 8 = 0) (rp : Pts w 0 vp P) :
    Calls Tryz.prog 51 #[ptv st, vp, .int .i64 z] w fun e w' => (∃ (L : Nat → Int × Int) (F : Nat → Nat) (vr : Value), e = .returned (.tuple #[vr, .int .i64 (L (pw P.length - 1)).1, .int .i64 0]) ∧ RowsI w.heap.size vr ((walkF F 63 (pw P.length - 1)).map (tlv st P)) w' ∧ L 0 = (0, 0) ∧
      ∀ s, 0 < s → s < pw P.length → Best (tlv st P) (lgv st P) z L s 0 (L s) (F s)) ∧ Below w.heap.size w w' := by
  have hpw := pw_6 hn
  have hpw0 : 0 < pw P.length := Nat.two_pow_pos _
  have HT8 := Lib.hid hT8
  have m1 := mk_rows (pw P.length) (by omega)
  have m2 := mk_ints (pw P.length) (by omega)
  have m3 := mk_costs (pw P.length) (by omega)
  have q1 := wrap_pw P.length (by omega)
  have hin : (!inB 1 (z : Int) 8) = false := by unfold inB; simp; omega
  have HP := Lib.hid hPb
  clear hT8 hPb
  obtain ⟨sx, sy⟩ := st
  obtain ⟨va, cap, rfl, hc1, hc2⟩ := Pts.form rp
  unfold ptv
  go_enter Tryz.func51, Tryz.ntmps51
  go_wp2_with fail
  refine (pointsFault_any (sx, sy) P 8 _ _ (by omega) (rp.alloc _)).mono ?_
  rintro e w1 ⟨rfl, hb1⟩
  rw [HT8.out]
  have hb1' := (Bl.alloc (Below.refl w.heap.size w) _).trans (hb1.mono (by simp))
  have hS1 := blk_below (blk_new w (.cells #[.int .i64 sx, .int .i64 sy] 81)) hb1
  obtain ⟨z1, z2⟩ := blk2 hS1
  clear hb1
  go_wp2_with (go_at_call 148; refine (Outside_any _ _ _ _).mono ?_; rintro e w' ⟨rfl, rfl⟩)
  refine (newFinder_any (sx, sy) P _ _ hst HP.out (by omega) (rp.below hb1')).mono ?_
  rintro e w2 ⟨⟨Fd, gl, r, T, rfl, hF0, hFd, hTb, hTW⟩, hb2⟩
  have hb02 := Bl.trans hb1' hb2
  have HFD := Lib.hid hFd
  have HTB := Lib.hid hTb
  have HTW := Lib.hid hTW
  have hct := Ct.new (w := w2) (N := pw P.length) (tl := tlv (sx, sy) P) (lg := lgv (sx, sy) P) rfl
  have hb6 := Bl.alloc (Bl.alloc (Bl.alloc (Bl.alloc (Below.refl w2.heap.size w2) (.cells (madeCells #[.slice none 0 0] (pw P.length)) 22)) (.cells (madeCells #[.int .i64 0, .int .i64 0] (pw P.length * 2)) 220)) (.cells (madeCells #[.int .i64 0] (pw P.length)) 3)) (.cells (madeCells #[.int .i64 0] (pw P.length)) 3)
  clear hFd hTb hTW hb2 hS1 hb1' z1 z2
  go_wp2
  go_loopg [15] (pw P.length - 1) (fun gk sv wr => ∃ (s : Nat) (L : Nat → Int × Int) (F : Nat → Nat), gk = pw P.length - s ∧ 1 ≤ s ∧ s ≤ pw P.length ∧ sv = .int .i64 s ∧ Ct wr w2.heap.size (w2.heap.size + 1) (w2.heap.size + 1 + 1) (w2.heap.size + 1 + 1 + 1) (w2.heap.size + 1 + 1 + 1 + 1) (pw P.length) s (tlv (sx, sy) P) (lgv (sx, sy) P) L F ∧ L 0 = (0, 0) ∧ Lb L ∧
      (∀ x, s ≤ x → F x = 0) ∧ (∀ x, 0 < x → x < s → Best (tlv (sx, sy) P) (lgv (sx, sy) P) z L x 0 (L x) (F x)) ∧ Below w2.heap.size w2 wr)
  case atStart => exact ⟨1, _, _, by omega, Nat.le_refl _, by omega, rfl, hct, rfl, fun s => ⟨Int.le_refl _, by show (0 : Int) ≤ (s : Int) * 9007199254740992; omega, Int.le_refl _, by show (0 : Int) ≤ (s : Int); omega⟩, fun _ _ => rfl, fun x h1 h2 => by omega, hb6⟩
  case round =>
    obtain ⟨s, L, F, rfl, hs1, hs2, rfl, hct, hL0, hLb, hF0', hBe, hb⟩ := hrel
    have HL0 := Lib.hid hL0
    have HLB := Lib.hid hLb
    have HFZ := Lib.hid hF0'
    have HBE := Lib.hid hBe
    clear hL0 hLb hF0' hBe
    by_cases hlt : s < pw P.length
    · have hsub : Sub P.length s := sub_of_lt hlt
      go_wp2_with fail
      refine (ftour_any (sx, sy) P _ Fd gl s r T _ hst HP.out (by omega) (HFD.out.below hb) (HTB.out.below hb) HTW.out hsub (rp.below (Bl.trans hb02 hb))).mono ?_
      rintro e w3 ⟨⟨v3, rfl, hO3⟩, hb3⟩
      have hct3 := hct.below hb3
      have hv3 : Own w3 (w2.heap.size + 1 + 1 + 1 + 1) v3 (tlv (sx, sy) P s) := own_base hO3 hct.hlo
      obtain ⟨a3, c3, rfl, _, _⟩ := Ints.form hv3.ints
      obtain ⟨⟨y0, y1⟩, y2, ⟨y3, y4⟩, y5⟩ := hct3.slots hlt
      have hrow := hct3.row hlt hv3
      obtain ⟨csG, dG, _⟩ := hct3.hG
      have y6 : (w3.setCell ⟨w2.heap.size, s, none⟩ (.slice a3 (tlv (sx, sy) P s).length c3)).cell? ⟨w2.heap.size + 1 + 1 + 1, s, none⟩ = some y3 := (blk_cell (blk_far dG w2.heap.size s _ (by omega)) s).trans ((blk_cell dG s).symm.trans y4)
      have y7 : (w3.setCell ⟨w2.heap.size, s, none⟩ (.slice a3 (tlv (sx, sy) P s).length c3)).frozen? ⟨w2.heap.size + 1 + 1 + 1, s, none⟩ = false := blk_free (blk_far dG w2.heap.size s _ (by omega)) s
      have hb4 := Bl.set (Bl.set (Bl.trans hb hb3) w2.heap.size s (Nat.le_refl _) (.slice a3 (tlv (sx, sy) P s).length c3)) (w2.heap.size + 1 + 1 + 1) s (by omega) (.int .i64 (lgv (sx, sy) P s))
      have hlow := lowN_bits s (by omega) (by omega)
      have hll := lowN_le s (by omega)
      have HV : V (sx, sy) P (sx, sy) s = lgv (sx, sy) P s := rfl
      rw [HV]
      have HLOW := Lib.hid hlow
      have hF00 := HFZ.out s (Nat.le_refl _)
      rw [← updL_self L s, ← updF_self F s, hF00] at hrow
      clear hct3 hct hO3 hb3 HV hF00 hv3 dG
      go_wp2
      clear y1 y2 y4 y5 y6 y7
      generalize (w3.setCell ⟨w2.heap.size, s, none⟩ (.slice a3 (tlv (sx, sy) P s).length c3)).setCell ⟨w2.heap.size + 1 + 1 + 1, s, none⟩ (.int .i64 (lgv (sx, sy) P s)) = w4 at *
      go_loopg [17] s (fun gk tv wr => ∃ (t f : Nat) (c : Int × Int), gk = t * 1 ∧ tv = .int .i64 t ∧ t ≤ s ∧ t &&& s = t ∧ Ct wr w2.heap.size (w2.heap.size + 1) (w2.heap.size + 1 + 1) (w2.heap.size + 1 + 1 + 1) (w2.heap.size + 1 + 1 + 1 + 1) (pw P.length) (s + 1) (tlv (sx, sy) P) (lgv (sx, sy) P) (updL L s c) (updF F s f) ∧
          Best (tlv (sx, sy) P) (lgv (sx, sy) P) z L s t c f ∧ Lb (updL L s c) ∧ f ≤ s ∧ Below w2.heap.size w2 wr)
      case atStart => exact ⟨s, 0, L s, by omega, rfl, Nat.le_refl _, Nat.and_self _, hrow, Best.start, by rw [updL_self]; exact HLB.out, Nat.zero_le _, hb4⟩
      case round =>
        obtain ⟨t, f, c, rfl, rfl, hts, htS, hct, hBe, hLb, hfs, hb⟩ := hrel
        by_cases ht0 : t = 0
        · subst ht0
          go_wp2
          go_roundg (pw P.length - (s + 1))
          case rel =>
            refine ⟨s + 1, updL L s c, updF F s f, rfl, by omega, by omega, by go_num, hct, by rw [updL_ne _ _ (by omega)]; exact HL0.out, hLb, fun x hx => by rw [updF_ne _ _ (by omega)]; exact HFZ.out x (by omega), fun x h1 h2 => ?_, hb⟩
            by_cases hx : x = s
            · subst hx
              rw [updL_eq, updF_eq]
              exact hBe.congr fun y hy => (updL_ne _ _ (by omega)).symm
            · rw [updL_ne _ _ hx, updF_ne _ _ hx]
              exact (HBE.out x h1 (by omega)).congr fun y hy => (updL_ne _ _ (by omega)).symm
          case measure => omega
        · have ht1 : 0 < t := by omega
          have ht32 : t < 64 := by omega
          have hs32 : s < 64 := by omega
          have hand := bits_and t (lowN s) (by omega) (by omega)
          have hnx : bits .and .i64 ((t : Int) - 1) (s : Int) = (((t - 1) &&& s : Nat) : Int) := by
            have := bits_and (t - 1) s (by omega) (by omega)
            rw [show ((t - 1 : Nat) : Int) = (t : Int) - 1 by omega] at this
            exact this
          have htest := lowN_test t s ht32 hs32
          have hnxt := next_sub t s ht32 hs32 ht1 htS
          have HNX := Lib.hid hnxt
          have HBE2 := Lib.hid hBe
          have HTS := Lib.hid htS
          clear hBe hnxt htS
          generalize hnt : (t - 1) &&& s = t' at *
          have HNT := Lib.hid hnt
          clear hnt
          cases hbit : t.testBit (lowI 8 s)
          · have hv : valid z s t = false := by unfold valid; rw [hbit]; simp
            rw [hbit] at htest
            have hz : (((t &&& lowN s : Nat) : Int) == 0) = true := by simpa using htest
            have HBEs := Lib.hid (HBE2.out.skip ht32 hs32 ht1 HTS.out hv)
            clear htest hbit hv
            go_wp2
            go_roundg (t' * 1)
            case rel => exact ⟨t', f, c, rfl, rfl, by have := HNX.out.2.1; omega, HNX.out.1, hct, by have := HBEs.out; rw [HNT.out] at this; exact this, hLb, hfs, hb⟩
            case measure => have := HNX.out.2.1; omega
          · rw [hbit] at htest
            have hz : (((t &&& lowN s : Nat) : Int) == 0) = false := by simpa using htest
            by_cases hpz : z < popc t
            · have hv : valid z s t = false := by unfold valid; simp; intro _ _; omega
              have HBEs := Lib.hid (HBE2.out.skip ht32 hs32 ht1 HTS.out hv)
              clear htest hbit hv
              go_wp2_with (go_at_call 149; refine (OnesCount_any t ht32 _).mono ?_; rintro e w' ⟨rfl, rfl⟩)
              go_roundg (t' * 1)
              case rel => exact ⟨t', f, c, rfl, rfl, by have := HNX.out.2.1; omega, HNX.out.1, hct, by have := HBEs.out; rw [HNT.out] at this; exact this, hLb, hfs, hb⟩
              case measure => have := HNX.out.2.1; omega
            · have hv : valid z s t = true := by unfold valid; rw [HTS.out, hbit]; simp; omega
              have HVA := Lib.hid hv
              clear htest hbit hv
              go_wp2_with (go_at_call 149; refine (OnesCount_any t ht32 _).mono ?_; rintro e w' ⟨rfl, rfl⟩)
              obtain ⟨d, hd⟩ : ∃ d, d = s - t := ⟨_, rfl⟩
              have hds : d < s := by omega
              have hsb : bits .andNot .i64 (s : Int) (t : Int) = (d : Int) := by rw [hd]; exact bits_sub s t hs32 ht32 HTS.out
              obtain ⟨x1, x2, _, _⟩ := hct.cost (s := d) (by omega)
              rw [updL_ne _ _ (by omega)] at x1 x2
              have x3 := hct.long (s := t) ht1 (by omega)
              have hbL := hLb d
              rw [updL_ne _ _ (by omega)] at hbL
              have hbl := V_hi (sx, sy) P hst HP.out (by omega) (sub_of_lt (show t < pw P.length by omega)) hst
              rw [show V (sx, sy) P (sx, sy) t = lgv (sx, sy) P t from rfl] at hbl
              have HCS : Hid (cstD (lgv (sx, sy) P) L s t = ((L d).1 + lgv (sx, sy) P t, (L d).2 + 1)) := Lib.hid (by unfold cstD; rw [hd])
              have HD := Lib.hid hd
              have HLL := Lib.hid hbl
              obtain ⟨b1, b2, b3, b4⟩ := hbL
              obtain ⟨b5, b6⟩ := hbl
              clear hd
              generalize hl1 : (L d).1 = l1 at *
              generalize hl2 : (L d).2 = l2 at *
              generalize hlv : lgv (sx, sy) P t = lv at *
              have HL1 := Lib.hid hl1
              have HL2 := Lib.hid hl2
              have HLV := Lib.hid hlv
              clear hl1 hl2 hlv
              have hdl : d < pw P.length := by omega
              have lC := (World.block_lt_of_cell? _ _ x1)
              have lG := (World.block_lt_of_cell? _ _ x3)
              obtain ⟨x4, x5⟩ := hct.first (s := s) (by omega)
              rw [updF_eq] at x4
              have lF := (World.block_lt_of_cell? _ _ x4)
              go_region
              go_wp2
              have hb7 : Below wr.heap.size wr (wr.alloc (.cells #[.int .i64 (l1 + lv), .int .i64 (l2 + 1)] 220)).drew := Below.drew (Bl.alloc (Below.refl _ _) _)
              have hX7 : (wr.alloc (.cells #[.int .i64 (l1 + lv), .int .i64 (l2 + 1)] 220)).drew.heap[wr.heap.size]? = some (.cells #[.int .i64 (l1 + lv), .int .i64 (l2 + 1)] 220 (0, 0)) := blk_new wr _
              have hlG : w2.heap.size + 1 + 1 + 1 < wr.heap.size := hct.hlo
              have hct7 := hct.below hb7
              have hb07 := Bl.trans hb hb7
              generalize hw7 : (wr.alloc (.cells #[.int .i64 (l1 + lv), .int .i64 (l2 + 1)] 220)).drew = w7 at *
              clear hw7 hb7 x1 x2 x3 x4 x5 hct hb
              obtain ⟨cl, cm⟩ := c
              go_cut [145] from 74 to 153 (fun v145 wx => ∃ b : Bool, v145 = .bool b ∧ Hid ((b = true → f ≠ 0 → le2 (l1 + lv, l2 + 1) (tlv (sx, sy) P t) (cl, cm) (tlv (sx, sy) P f)) ∧ (b = false → f ≠ 0 ∧ le2 (cl, cm) (tlv (sx, sy) P f) (l1 + lv, l2 + 1) (tlv (sx, sy) P t))) ∧ Below w7.heap.size w7 wx)
              case first =>
                by_cases hf0 : f = 0
                · subst hf0
                  have hff : ((((0 : Nat) : Int)) == 0) = true := rfl
                  go_region
                  go_wp2_with fail
                  go_meet
                  case rel => exact ⟨true, rfl, Lib.hid ⟨fun _ h => absurd rfl h, fun h => (Bool.noConfusion h)⟩, Below.drew (Below.refl _ _)⟩
                · have hff : ((f : Int) == 0) = false := by simpa using hf0
                  obtain ⟨k1, k2, k3, k4⟩ := hct7.cost (s := s) (by omega)
                  rw [updL_eq] at k1 k2
                  obtain ⟨ta, tc, k5, k6⟩ := hct7.tour (s := t) ht1 (by omega)
                  obtain ⟨fa, fc, k7, k8⟩ := hct7.tour (s := f) (by omega) (by omega)
                  obtain ⟨k9, k10⟩ := blk2 hX7
                  have n1 := World.block_lt_of_cell? _ _ k1
                  have n2 := World.block_lt_of_cell? _ _ k5
                  have n3 := blk_lt hX7
                  have HKP := Lib.hid (show ∀ W, Below w7.heap.size w7 W → W.cell? ⟨wr.heap.size, 0, none⟩ = some (.int .i64 (l1 + lv)) ∧ W.cell? ⟨wr.heap.size, 1, none⟩ = some (.int .i64 (l2 + 1)) ∧ W.cell? ⟨w2.heap.size + 1, s * 2, none⟩ = some (.int .i64 cl) ∧ W.cell? ⟨w2.heap.size + 1, s * 2 + 1, none⟩ = some (.int .i64 cm) ∧ W.cell? ⟨w2.heap.size, t, none⟩ = some (.slice ta (tlv (sx, sy) P t).length tc) ∧ W.cell? ⟨w2.heap.size, f, none⟩ = some (.slice fa (tlv (sx, sy) P f).length fc) from fun W hW =>
                    ⟨((bcell hW).1 _ _ n3).trans k9, ((bcell hW).1 _ _ n3).trans k10, ((bcell hW).1 _ _ n1).trans k1, ((bcell hW).1 _ _ n1).trans k2, ((bcell hW).1 _ _ n2).trans k5, ((bcell hW).1 _ _ n2).trans k7⟩)
                  have hB0 : Below w7.heap.size w7 w7.drew := Below.drew (Below.refl _ _)
                  have HLESS := Lib.hid (fun (d : Nat) (os : Array Obj) => Calls.regrown_of (w := w7) (d := d) (os := os) (less_any (l1 + lv) (l2 + 1) cl cm _))
                  have HCMP := Lib.hid (fun (d : Nat) (os : Array Obj) => Calls.regrown_of (w := w7) (d := d) (os := os) ((CompareI_any (tlv (sx, sy) P t) (tlv (sx, sy) P f) (.slice ta (tlv (sx, sy) P t).length tc) (.slice fa (tlv (sx, sy) P f).length fc) _ (by unfold tlv; rw [nats_len]; have := tlist_le (sx, sy) P P.length (sx, sy) t; omega) (by unfold tlv; rw [nats_len]; have := tlist_le (sx, sy) P P.length (sx, sy) f; omega) ((k6.below (below_regrown w7 d os)).ints0) ((k8.below (below_regrown w7 d os)).ints0)).mono fun _ _ ⟨he, hw⟩ => ⟨he, by rw [← hw]; exact Below.refl _ _⟩))
                  have e1 := cell_regrown k9
                  have e2 := cell_regrown k10
                  have e3 := cell_regrown k1
                  have e4 := cell_regrown k2
                  have e5 := cell_regrown k5
                  have e6 := cell_regrown k7
                  cases hless : lessB (l1 + lv, l2 + 1) (cl, cm)
                  · rw [hless] at HLESS
                    have HLE := Lib.hid hless
                    clear hless
                    by_cases heq : l1 + lv = cl ∧ l2 + 1 = cm
                    · obtain ⟨rfl, rfl⟩ := heq
                      have hanti := ordL.anti (tlv (sx, sy) P t) (tlv (sx, sy) P f)
                      have HAN := Lib.hid hanti
                      clear hanti
                      by_cases hcm : cmpL (tlv (sx, sy) P t) (tlv (sx, sy) P f) < 0
                      · have hcd : decide (cmpL (tlv (sx, sy) P t) (tlv (sx, sy) P f) < 0) = true := by simpa using hcm
                        refine wp_region_quiet_below (by kernel_rfl) (by kernel_rfl) ?_
                        repeat (go_big_quiet_step (first | (go_at_call 150; exact HLESS.out _ _) | (go_at_call 120; exact HCMP.out _ _)))
                        refine wpQuiet_nil ?_
                        intro w8 hw'
                        obtain ⟨⟨dq, osq⟩, hw''⟩ := hw'
                        have hb8 : Below w7.heap.size w7 w8 := hw'' ▸ below_regrown w7 dq osq
                        clear hw''
                        go_wp2_with fail
                        go_meet
                        case rel => exact ⟨true, rfl, Lib.hid ⟨fun _ _ => .inr ⟨rfl, .inr ⟨rfl, by omega⟩⟩, fun h => (Bool.noConfusion h)⟩, hb8⟩
                      · have hcd : decide (cmpL (tlv (sx, sy) P t) (tlv (sx, sy) P f) < 0) = false := by simpa using hcm
                        refine wp_region_quiet_below (by kernel_rfl) (by kernel_rfl) ?_
                        repeat (go_big_quiet_step (first | (go_at_call 150; exact HLESS.out _ _) | (go_at_call 120; exact HCMP.out _ _)))
                        refine wpQuiet_nil ?_
                        intro w8 hw'
                        obtain ⟨⟨dq, osq⟩, hw''⟩ := hw'
                        have hb8 : Below w7.heap.size w7 w8 := hw'' ▸ below_regrown w7 dq osq
                        clear hw''
                        go_wp2_with fail
                        go_meet
                        case rel => exact ⟨false, rfl, Lib.hid ⟨fun h => (Bool.noConfusion h), fun _ => ⟨hf0, .inr ⟨rfl, .inr ⟨rfl, by rw [HAN.out]; omega⟩⟩⟩⟩, hb8⟩
                    · have HNE := Lib.hid (lessB_false HLE.out heq (tlv (sx, sy) P t) (tlv (sx, sy) P f))
                      by_cases h1e : l1 + lv = cl
                      · have h2e : ¬ l2 + 1 = cm := fun h => heq ⟨h1e, h⟩
                        have h1b : (l1 + lv == cl) = true := by simpa using h1e
                        have h2b : (l2 + 1 == cm) = false := by simpa using h2e
                        clear h1e h2e heq
                        refine wp_region_quiet_below (by kernel_rfl) (by kernel_rfl) ?_
                        repeat (go_big_quiet_step (first | (go_at_call 150; exact HLESS.out _ _) | (go_at_call 120; exact HCMP.out _ _)))
                        refine wpQuiet_nil ?_
                        intro w8 hw'
                        obtain ⟨⟨dq, osq⟩, hw''⟩ := hw'
                        have hb8 : Below w7.heap.size w7 w8 := hw'' ▸ below_regrown w7 dq osq
                        clear hw''
                        go_wp2_with fail
                        go_meet
                        case rel => exact ⟨false, rfl, Lib.hid ⟨fun h => (Bool.noConfusion h), fun _ => ⟨hf0, HNE.out⟩⟩, hb8⟩
                      · have h1b : (l1 + lv == cl) = false := by simpa using h1e
                        clear h1e heq
                        refine wp_region_quiet_below (by kernel_rfl) (by kernel_rfl) ?_
                        repeat (go_big_quiet_step (first | (go_at_call 150; exact HLESS.out _ _) | (go_at_call 120; exact HCMP.out _ _)))
                        refine wpQuiet_nil ?_
                        intro w8 hw'
                        obtain ⟨⟨dq, osq⟩, hw''⟩ := hw'
                        have hb8 : Below w7.heap.size w7 w8 := hw'' ▸ below_regrown w7 dq osq
                        clear hw''
                        go_wp2_with fail
                        go_meet
                        case rel => exact ⟨false, rfl, Lib.hid ⟨fun h => (Bool.noConfusion h), fun _ => ⟨hf0, HNE.out⟩⟩, hb8⟩
                  · rw [hless] at HLESS
                    have HNE := Lib.hid (lessB_true hless (tlv (sx, sy) P t) (tlv (sx, sy) P f))
                    clear hless
                    refine wp_region_quiet_below (by kernel_rfl) (by kernel_rfl) ?_
                    repeat (go_big_quiet_step (first | (go_at_call 150; exact HLESS.out _ _) | (go_at_call 120; exact HCMP.out _ _)))
                    refine wpQuiet_nil ?_
                    intro w8 hw'
                    obtain ⟨⟨dq, osq⟩, hw''⟩ := hw'
                    have hb8 : Below w7.heap.size w7 w8 := hw'' ▸ below_regrown w7 dq osq
                    clear hw''
                    go_wp2_with fail
                    go_meet
                    case rel => exact ⟨true, rfl, Lib.hid ⟨fun _ _ => HNE.out, fun h => (Bool.noConfusion h)⟩, hb8⟩
              case rest =>
                obtain ⟨b, rfl, HB, hb8⟩ := hcut
                have hct8 := hct7.below hb8
                have hX8 := blk_below hX7 hb8
                have hb08 := Bl.trans hb07 hb8
                cases b
                · obtain ⟨hf0, hle⟩ := HB.out.2 rfl
                  have HST := Lib.hid (HBE2.out.stay ht32 hs32 ht1 HTS.out hf0 (by rw [HCS.out]; exact hle))
                  clear hf0 hle
                  go_wp2
                  go_roundg (t' * 1)
                  case rel => exact ⟨t', f, (cl, cm), rfl, rfl, by have := HNX.out.2.1; omega, HNX.out.1, hct8, by have := HST.out; rw [HNT.out] at this; exact this, hLb, hfs, hb08⟩
                  case measure => have := HNX.out.2.1; omega
                · have hle := HB.out.1 rfl
                  have HST := Lib.hid (HBE2.out.take ht32 hs32 ht1 HTS.out HVA.out (fun hf => by rw [HCS.out]; exact hle hf))
                  have HLN := Lib.hid (HLB.out.upd (lg := lgv (sx, sy) P) hts ht1 (by rw [HLV.out]; exact HLL.out))
                  clear hle
                  obtain ⟨z1, z2⟩ := blk2 hX8
                  obtain ⟨x1, x2, x3, x4⟩ := hct8.cost (s := s) (by omega)
                  obtain ⟨x5, x6⟩ := hct8.first (s := s) (by omega)
                  obtain ⟨csC, dC, dC2, _⟩ := hct8.hC
                  obtain ⟨csF, dF, dF2, dF3⟩ := hct8.hF
                  have y1 : (wc.setCell ⟨w2.heap.size + 1, s * 2, none⟩ (.int .i64 (l1 + lv))).cell? ⟨w2.heap.size + 1, s * 2 + 1, none⟩ = some (.int .i64 (updL L s (cl, cm) s).2) := by
                    rw [blk_cell (blk_set dC (s * 2) _), Array.getElem?_setIfInBounds_ne (by omega), ← blk_cell dC]; exact x2
                  have y2 := blk_free (blk_set dC (s * 2) (.int .i64 (l1 + lv))) (s * 2 + 1)
                  have y3 : ((wc.setCell ⟨w2.heap.size + 1, s * 2, none⟩ (.int .i64 (l1 + lv))).setCell ⟨w2.heap.size + 1, s * 2 + 1, none⟩ (.int .i64 (l2 + 1))).cell? ⟨w2.heap.size + 1 + 1, s, none⟩ = some (.int .i64 (updF F s f s)) := by
                    rw [blk_cell (blk_far (blk_far dF _ _ _ (by omega)) _ _ _ (by omega)), ← blk_cell dF]; exact x5
                  have y4 := blk_free (blk_far (blk_far dF (w2.heap.size + 1) (s * 2) (.int .i64 (l1 + lv)) (by omega)) (w2.heap.size + 1) (s * 2 + 1) (.int .i64 (l2 + 1)) (by omega)) s
                  have hput := hct8.put (s := s) (by omega) (l1 + lv, l2 + 1) t
                  rw [updL_updL, updF_updF] at hput
                  have hb9 := Bl.set (Bl.set (Bl.set hb08 (w2.heap.size + 1) (s * 2) (by omega) (.int .i64 (l1 + lv))) (w2.heap.size + 1) (s * 2 + 1) (by omega) (.int .i64 (l2 + 1))) (w2.heap.size + 1 + 1) s (by omega) (.int .i64 t)
                  go_wp2
                  go_roundg (t' * 1)
                  case rel => exact ⟨t', t, (l1 + lv, l2 + 1), rfl, rfl, by have := HNX.out.2.1; omega, HNX.out.1, hput, by have := HST.out; rw [HNT.out, HCS.out] at this; exact this, by have := HLN.out; rw [HCS.out] at this; exact this, hts, hb9⟩
                  case measure => have := HNX.out.2.1; omega
    · obtain ⟨wo, rfl⟩ : ∃ wo : World, wo = wr := ⟨_, rfl⟩
      have hsN : s = pw P.length := by omega
      have HFull := Lib.hid (show [] ++ (walkF F 63 (pw P.length - 1)).map (tlv (sx, sy) P) = (walkF F 63 (pw P.length - 1)).map (tlv (sx, sy) P) from rfl)
      have hFv : ∀ x, 0 < x → x < pw P.length → valid z x (F x) = true := by
        intro x h0 hx
        rcases HBE.out x h0 (by omega) with ⟨_, h2⟩ | ⟨h1, _⟩
        · have hv := has_valid6
          rw [List.all_eq_true] at hv
          have hv1 := hv x (List.mem_range.2 (by omega))
          rw [List.all_eq_true] at hv1
          have hv2 := hv1 (z - 1) (List.mem_range.2 (by omega))
          rw [show z - 1 + 1 = z by omega] at hv2
          simp only [Bool.or_eq_true, beq_iff_eq, List.any_eq_true] at hv2
          rcases hv2 with hv2 | ⟨t, _, ht⟩
          · omega
          · have := h2 t ht; have := (valid_le ht).2.1; omega
        · exact h1
      have HFV := Lib.hid hFv
      clear hFv
      generalize hfl : (walkF F 63 (pw P.length - 1)).map (tlv (sx, sy) P) = full at HFull
      have HFL := Lib.hid hfl
      clear hfl
      have HSN := Lib.hid hsN
      clear hsN
      go_wp2
      go_loopg [20, 22] ((pw P.length - 1) * 1) (fun gk ov sv wr => ∃ (x g : Nat) (done : List (List Int)) (vs : List Value), gk = x * 1 ∧ sv = .int .i64 x ∧ x < pw P.length ∧ x ≤ g ∧ OwnV wr wo.heap.size ov vs ∧ Hid (vs.length = done.length) ∧ done.length + x ≤ 63 ∧ Hid (∀ (j : Nat) (y : Value) (l : List Int), vs[j]? = some y → done[j]? = some l → Own wo (w2.heap.size + 1 + 1 + 1 + 1) y l) ∧
          Hid (done ++ (walkF F g x).map (tlv (sx, sy) P) = full) ∧ Below wo.heap.size wo wr)
      case atStart => exact ⟨pw P.length - 1, 63, [], [], rfl, by go_num, by omega, by omega, OwnV.nil _ _, Lib.hid rfl, by simp; omega, Lib.hid (fun j y l h => by simp at h), by rw [← HFL.out]; exact Lib.hid rfl, Below.refl _ _⟩
      case round =>
        obtain ⟨x, g, done, vs, rfl, rfl, hx, hxg, hO, hvl, hdl, hin2, hful, hbx⟩ := hrel
        have hctx := hct.below hbx
        by_cases hx0 : x = 0
        · subst hx0
          have HFD2 : Hid (done = full) := Lib.hid (by
            have h := hful.out
            have h0 : walkF F g 0 = [] := by cases g <;> rfl
            rw [h0] at h
            simpa using h)
          obtain ⟨k1, _, _, _⟩ := hctx.cost (s := pw P.length - 1) (by omega)
          have hsz0 : w.heap.size ≤ w2.heap.size := hb02.size
          have hLl : RowsI w.heap.size u20 done wr := ⟨vs, hO.base (by have := hct.hlo; omega), hvl.out, fun j y l h1 h2 => own_base ((hin2.out j y l h1 h2).below hbx) (by omega)⟩
          have HLl := Lib.hid hLl
          have hbA := Bl.trans hb02 (Bl.trans hb hbx)
          clear hLl hO hctx
          go_wp2
          go_quiet (fail)
          go_wp2
          go_ret3
          refine ⟨⟨L, F, _, rfl, ?_, HL0.out, fun y h1 h2 => HBE.out y h1 (by have := HSN.out; omega)⟩, Bl.drewN hbA _⟩
          have := HLl.out
          rw [HFD2.out, ← HFL.out] at this
          exact this.below (Bl.drewN (Below.refl _ _) _)
        · have hvx := HFV.out x (by omega) hx
          obtain ⟨v1, v2, _⟩ := valid_le hvx
          obtain ⟨g', rfl⟩ : ∃ g', g = g' + 1 := ⟨g - 1, by omega⟩
          have hbs := bits_sub x (F x) (by omega) (by omega) (valid_sub hvx)
          have hwk : walkF F (g' + 1) x = F x :: walkF F g' (x - F x) := by simp only [walkF]; rw [if_neg hx0]
          have HFU : Hid ((done ++ [tlv (sx, sy) P (F x)]) ++ (walkF F g' (x - F x)).map (tlv (sx, sy) P) = full) := Lib.hid (by
            have h := hful.out
            rw [hwk] at h
            simpa using h)
          obtain ⟨k1, _⟩ := hctx.first (s := x) hx
          obtain ⟨ta, tc, k2, _⟩ := hctx.tour (s := F x) v2 (by have := HSN.out; omega)
          obtain ⟨ta', tc', k3, k4⟩ := hct.tour (s := F x) v2 (by have := HSN.out; omega)
          have k5 := (hbx.cell (p := ⟨w2.heap.size, F x, none⟩) (by have := hct.ord; have := hct.hlo; show w2.heap.size < _; omega)).trans k3
          rw [k2] at k5
          obtain ⟨rfl, rfl⟩ : ta = ta' ∧ tc = tc' := by
            injection k5 with k5
            injection k5 with e1 _ e3
            exact ⟨e1, e3⟩
          have HK4 := Lib.hid k4
          have hxl : x - F x < x := by omega
          have hxg' : x - F x ≤ g' := by omega
          have hdl2 : done.length + 1 + (x - F x) ≤ 63 := by omega
          have hfx : F x < pw P.length := by omega
          have hvl6 : vs.length ≤ 1000000 := by rw [hvl.out]; omega
          have HCT := Lib.hid hct
          have hzx := hbx.size
          clear k3 k4 k5 hwk hvx hctx hful hct
          generalize hx' : x - F x = x' at *
          have HX' := Lib.hid hx'
          clear hx'
          generalize hfxe : F x = fx at *
          have HFX := Lib.hid hfxe
          clear hfxe
          go_wp2_with (at_builtin; refine wp_app_row rfl _ _ rfl wo.heap.size _ vs rfl (hO.alloc _) wr.heap.size 1 (.slice ta (tlv (sx, sy) P fx).length tc) rfl (by rw [blk_cell (blk_new wr _) 0]; rfl) rfl hvl6 (by simp; omega) ?_)
          intro v' w5 hO5 hA5 hb5
          have hbx5 : Below wo.heap.size wo w5 := Below.trans (Bl.alloc hbx _) hb5
          obtain ⟨k6, _⟩ := (HCT.out.below hbx5).first (s := x) hx
          rw [HFX.out] at k6
          clear hA5
          go_wp2
          go_roundg (x' * 1)
          case rel =>
            refine ⟨x', g', done ++ [tlv (sx, sy) P fx], vs ++ [.slice ta (tlv (sx, sy) P fx).length tc], rfl, rfl, by omega, hxg', hO5, Lib.hid (by simp [hvl.out]), by simp; omega, Lib.hid (fun j y l h1 h2 => ?_), HFU, hbx5⟩
            by_cases hj : j < vs.length
            · rw [List.getElem?_append_left hj] at h1
              rw [List.getElem?_append_left (by have := hvl.out; omega)] at h2
              exact hin2.out j y l h1 h2
            · have := hvl.out
              rw [List.getElem?_append_right (by omega)] at h1
              rw [List.getElem?_append_right (by omega)] at h2
              have h0 : j - vs.length = 0 := by
                have := (List.getElem?_eq_some_iff.1 h1).1
                simp at this; omega
              rw [h0] at h1
              rw [show j - done.length = 0 by omega] at h2
              simp at h1 h2
              subst h1 h2
              exact HK4.out
          case measure => omega
end Go.Proofs.YtbkglhakhahfpaaGreatDoor
