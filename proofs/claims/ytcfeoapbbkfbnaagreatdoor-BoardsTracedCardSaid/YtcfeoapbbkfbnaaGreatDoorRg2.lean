/- What the checks say of reels and events; the program's store at a moment. Conditions: reels and events that the checks let through, at most 900 events. · The program's answers: Feeder, Left, Where, Lasts. Conditions: at most 900 events, 10^6 reels, strings of at most 2^47 bytes. · The reference's answers: FeederOf, LeftOn, WhereIs, LastsFor; the program's Lasts. Conditions: right reels and events, at most 900 events. · slices.Equal of Loadeds. Conditions: at most 10^6 of them. · The stream's clock, slices.Equal of strings. Conditions: the stream's count below 9*10^5; at most 10^5 strings. · reeled: the law's guard. No conditions. -/
import Derived.Test.YtcfeoapbbkfbnaaGreatDoorRp1
import Derived.Test.YtcfeoapbbkfbnaaGreatDoorReY
import Derived.Test.YtcfeoapbbkfbnaaGreatDoorReI
import Derived.Test.YtcfeoapbbkfbnaaGreatDoorRec
import Derived.Test.YtcfeoapbbkfbnaaGreatDoorStrs
import Derived.Test.YtcfeoapbbkfbnaaGreatDoorRh9
namespace Go.Proofs.YtcfeoapbbkfbnaaGreatDoor
open Go.RowKit Go.Sort Go.Maps

set_option maxHeartbeats 4000000 in
set_option maxRecDepth 100000 in
theorem FeederOf_any (rs : List Rel) (l : List Fed) (f : ByteArray) (t : Int) (vr vl : Value) (w : World) (rr : RecR TRe w 0 vr rs) (rl : RecR TFe w 0 vl l) (h : OkF rs l) (hln : l.length ≤ 900) (hf : f.size ≤ maxLen) :
    Calls Tryz.prog 28 #[vr, vl, .string f, .int .i64 t] w fun e w' => (∃ v, e = .returned v ∧ OwnR TLo w' w.heap.size v (feederM rs l t f)) ∧ Below w.heap.size w w' := by
  have HST := Lib.hid (stored_any rs l t vr vl w rr rl h.rn h.rz hln h.lz)
  have HLN := Lib.hid hln
  have HF := Lib.hid hf
  obtain ⟨ra, rc, rfl, _, _⟩ := rr.form
  obtain ⟨la, lc, rfl, _, _⟩ := rl.form
  clear rr rl h hln hf
  go_enter Tryz.func28, Tryz.ntmps28
  go_wp2_with fail
  refine HST.out.mono ?_
  rintro e w3 ⟨L, ov, wv, rfl, ⟨r, N, hS, hR⟩, hI, -, -, hb3⟩
  have HLO := Lib.hid (rloaded_any L.S L.m1 L.m2 L.B f w3 r.V r.F hS.lt.1 hS.cells.2.1 hS.cells.2.2 hS.mV hS.mF hS.rf HF.out (fun x hx => Nat.le_trans (hI.sz f x (by rw [← hR.row]; exact hx)) (by unfold maxLen; omega)) (by rw [hR.row]; have := hI.ln f; have := HLN.out; omega))
  rw [hR.left, hR.row] at HLO
  have HB3 := Lib.hid hb3
  clear hS hR hI hb3 HST
  go_wp2_with fail
  refine HLO.out.mono ?_
  rintro e w4 ⟨⟨v, rfl, hO⟩, hb4⟩
  have HFF := Lib.hid (And.intro (hO.base HB3.out.size) (Bl.trans HB3.out hb4))
  clear hO hb4 HLO
  go_wp2
  go_ret
  exact ⟨⟨_, rfl, HFF.out.1⟩, HFF.out.2⟩
set_option maxHeartbeats 4000000 in
set_option maxRecDepth 100000 in
theorem LeftOn_any (rs : List Rel) (l : List Fed) (f : ByteArray) (t : Int) (vr vl : Value) (w : World) (rr : RecR TRe w 0 vr rs) (rl : RecR TFe w 0 vl l) (h : OkF rs l) (hln : l.length ≤ 900) (hf : f.size ≤ maxLen) :
    Calls Tryz.prog 29 #[vr, vl, .string f, .int .i64 t] w fun e w' => e = .returned (.int .i64 ((runM t (newM rs) 0 l).left f)) ∧ Below w.heap.size w w' := by
  have HST := Lib.hid (stored_any rs l t vr vl w rr rl h.rn h.rz hln h.lz)
  have HF := Lib.hid hf
  obtain ⟨ra, rc, rfl, _, _⟩ := rr.form
  obtain ⟨la, lc, rfl, _, _⟩ := rl.form
  obtain ⟨G, hG⟩ : ∃ G, G = (runM t (newM rs) 0 l).left f := ⟨_, rfl⟩
  rw [← hG]
  have HG := Lib.hid hG
  clear rr rl h hln hf hG
  go_enter Tryz.func29, Tryz.ntmps29
  go_wp2_with fail
  refine HST.out.mono ?_
  rintro e w3 ⟨L, ov, wv, rfl, ⟨r, N, hS, hR⟩, hI, -, -, hb3⟩
  have hq := hS.leftB f HF.out w3 (Below.refl _ _)
  rw [hR.left, ← HG.out] at hq
  have c1 : w3.cell? ⟨L.S, 1, none⟩ = some (.map (some L.m1)) := hS.cells.2.1
  have lS := hS.lt.1
  have HB3 := Lib.hid hb3
  clear hS hR hI hb3 HST
  go_wp2
  go_ret
  exact ⟨rfl, HB3.out⟩
set_option maxHeartbeats 4000000 in
set_option maxRecDepth 100000 in
theorem WhereIs_any (rs : List Rel) (l : List Fed) (f : ByteArray) (t : Int) (vr vl : Value) (w : World) (rr : RecR TRe w 0 vr rs) (rl : RecR TFe w 0 vl l) (h : OkF rs l) (hln : l.length ≤ 900) :
    Calls Tryz.prog 30 #[vr, vl, .string f, .int .i64 t] w fun e w' => e = .returned (.tuple #[.string ((runM t (newM rs) 0 l).pos f), .bool (decide ((runM t (newM rs) 0 l).pos f ≠ ByteArray.empty))]) ∧ Below w.heap.size w w' := by
  have HST := Lib.hid (stored_any rs l t vr vl w rr rl h.rn h.rz hln h.lz)
  have HLN := Lib.hid hln
  obtain ⟨ra, rc, rfl, _, _⟩ := rr.form
  obtain ⟨la, lc, rfl, _, _⟩ := rl.form
  obtain ⟨G, hG⟩ : ∃ G, G = (runM t (newM rs) 0 l).pos f := ⟨_, rfl⟩
  obtain ⟨b, hb⟩ : ∃ b, b = decide (G ≠ ByteArray.empty) := ⟨_, rfl⟩
  rw [← hG, ← hb]
  have HG := Lib.hid hG
  have hbe : (!G.toList.isEmpty) = b := by
    rw [hb]
    by_cases h0 : G = ByteArray.empty
    · have h1 := (ba_nil _).1 h0
      rw [h1]
      simp [h0]
    · have h1 : ¬ G.toList = [] := fun e => h0 ((ba_nil _).2 e)
      cases hq : G.toList with
      | nil => exact absurd hq h1
      | cons x y => simp [h0]
  clear rr rl h hln hG hb
  go_enter Tryz.func30, Tryz.ntmps30
  go_wp2_with fail
  refine HST.out.mono ?_
  rintro e w3 ⟨L, ov, wv, rfl, ⟨r, N, hS, hR⟩, hI, -, -, hb3⟩
  have HWH := Lib.hid (where_any L r N l.length _ f w3 hS hR hI HLN.out)
  rw [← HG.out] at HWH
  have HB3 := Lib.hid hb3
  clear hS hR hI hb3 HST
  go_wp2_with fail
  refine HWH.out.mono ?_
  rintro e w4 ⟨rfl, hb4⟩
  have HFF := Lib.hid (Bl.trans HB3.out hb4)
  clear hb4 HWH
  go_wp2
  go_ret2
  exact ⟨rfl, HFF.out⟩
/-- how many boards can still be made. -/
def lastsM (rs : List Rel) (l : List Fed) (t : Int) (f : ByteArray) (each : Int) : Int := Int.tdiv (sumL (runM t (newM rs) 0 l).left ((runM t (newM rs) 0 l).row f)) each
theorem lastsM_few {rs : List Rel} {l : List Fed} {t : Int} {f : ByteArray} (hI : InvM (runM t (newM rs) 0 l) l.length) (hln : l.length ≤ 900) {each : Int} (h1 : 1 ≤ each) : -9223372036854775808 ≤ lastsM rs l t f each ∧ lastsM rs l t f each ≤ 9223372036854775807 := by
  have h2 := sumL_bound hI.lf ((runM t (newM rs) 0 l).row f)
  have h3 := hI.ln f
  unfold lastsM
  rw [Int.tdiv_eq_ediv_of_nonneg h2.1]
  have h4 := Int.ediv_le_self each h2.1
  have h5 := Int.ediv_nonneg h2.1 (show 0 ≤ each by omega)
  constructor <;> omega
set_option maxHeartbeats 4000000 in
set_option maxRecDepth 100000 in
theorem LastsFor_any (rs : List Rel) (l : List Fed) (f : ByteArray) (t each : Int) (vr vl : Value) (w : World) (rr : RecR TRe w 0 vr rs) (rl : RecR TFe w 0 vl l) (h : OkF rs l) (hln : l.length ≤ 900) (hf : f.size ≤ maxLen) (h1 : 1 ≤ each) :
    Calls Tryz.prog 31 #[vr, vl, .string f, .int .i64 t, .int .i64 each] w fun e w' => e = .returned (.int .i64 (lastsM rs l t f each)) ∧ Below w.heap.size w w' := by
  have HST := Lib.hid (stored_any rs l t vr vl w rr rl h.rn h.rz hln h.lz)
  have HLN := Lib.hid hln
  have HF := Lib.hid hf
  obtain ⟨ra, rc, rfl, _, _⟩ := rr.form
  obtain ⟨la, lc, rfl, _, _⟩ := rl.form
  obtain ⟨G, hG⟩ : ∃ G, G = lastsM rs l t f each := ⟨_, rfl⟩
  rw [← hG]
  have HG := Lib.hid hG
  have hz : ¬ each = 0 := by omega
  have hzb : (each == 0) = false := by simp [hz]
  have H1 := Lib.hid h1
  clear rr rl h hln hf hG h1
  go_enter Tryz.func31, Tryz.ntmps31
  go_wp2_with fail
  refine HST.out.mono ?_
  rintro e w3 ⟨L, ov, wv, rfl, ⟨r, N, hS, hR⟩, hI, -, -, hb3⟩
  have HSU := Lib.hid (rsum_any L.S L.m1 L.m2 L.B f w3 r.V r.F hS.cells.2.1 hS.cells.2.2 hS.mV hS.mF hS.rf HF.out (fun x hx => Nat.le_trans (hI.sz f x (by rw [← hR.row]; exact hx)) (by unfold maxLen; omega)) (by rw [hR.row]; have := hI.ln f; have := HLN.out; omega) (fun x => by rw [hR.left]; exact hI.lf x))
  rw [hR.left, hR.row] at HSU
  obtain ⟨sm, hsm⟩ : ∃ sm, sm = sumL (runM t (newM rs) 0 l).left ((runM t (newM rs) 0 l).row f) := ⟨_, rfl⟩
  rw [← hsm] at HSU
  have hq1 : Int.tdiv sm each = G := by rw [HG.out, hsm]; rfl
  have hgf := lastsM_few hI HLN.out (f := f) H1.out
  rw [← HG.out] at hgf
  have hw1 : IntKind.i64.wrap G = G := IntWalk.i64_in _ (by omega)
  have HB3 := Lib.hid hb3
  clear hS hR hI hb3 HST hsm hgf
  go_wp2_with fail
  refine HSU.out.mono ?_
  rintro e w4 ⟨rfl, rfl⟩
  go_wp2
  go_ret
  exact ⟨rfl, HB3.out⟩
set_option maxHeartbeats 4000000 in
set_option maxRecDepth 100000 in
theorem Lasts_any (rs : List Rel) (l : List Fed) (f : ByteArray) (t each : Int) (vr vl : Value) (w : World) (hlr : rs.length ≤ 1000000) (hl : l.length ≤ 900) (rr : RecR TRe w 0 vr rs) (rl : RecR TFe w 0 vl l) (hzr : RelZ rs) (hz : FedZ l) (hk : f.size ≤ 140737488355328) :
    Calls Tryz.prog 18 #[vr, vl, .string f, .int .i64 t, .int .i64 each] w fun e w' => e = .returned (.tuple #[.int .i64 (if askF (feedsF rs l) (keyB f) (inB 0 t 345686399999) 5 = 0 ∧ inB 1 each 100000 = true then lastsM rs l t f each else 0), .int .i64 (if askF (feedsF rs l) (keyB f) (inB 0 t 345686399999) 5 = 0 then (if inB 1 each 100000 = true then 0 else 1) else askF (feedsF rs l) (keyB f) (inB 0 t 345686399999) 5)]) ∧ Below w.heap.size w w' := by
  have HFA := Lib.hid (feederFault_any rs l f t vr vl w hlr (by omega) rr rl hzr hz hk)
  have RR := Lib.hid rr
  have RL := Lib.hid rl
  obtain ⟨ra, rc, rfl, _, _⟩ := rr.form
  obtain ⟨la, lc, rfl, _, _⟩ := rl.form
  obtain ⟨E, hE⟩ : ∃ E, E = askF (feedsF rs l) (keyB f) (inB 0 t 345686399999) 5 := ⟨_, rfl⟩
  rw [← hE] at HFA ⊢
  obtain ⟨bo, hbo⟩ : ∃ bo, bo = inB 1 each 100000 := ⟨_, rfl⟩
  rw [← hbo]
  have HOU := Lib.hid (fun W => Outside_any each 1 100000 W)
  rw [← hbo] at HOU
  obtain ⟨G, hG⟩ : ∃ G, G = if E = 0 ∧ bo = true then lastsM rs l t f each else 0 := ⟨_, rfl⟩
  obtain ⟨R, hR⟩ : ∃ R, R = if E = 0 then (if bo = true then (0 : Int) else 1) else E := ⟨_, rfl⟩
  rw [← hG, ← hR]
  by_cases h0 : E = 0
  case neg =>
    have hb : (E == 0) = false := by simp [h0]
    have HG : Hid (G = 0 ∧ R = E) := Lib.hid ⟨by rw [hG, if_neg (fun h => h0 h.1)], by rw [hR, if_neg h0]⟩
    clear rr rl hE hG hR
    go_enter Tryz.func18, Tryz.ntmps18
    go_wp2_with fail
    refine HFA.out.mono ?_
    rintro e w2 ⟨rfl, hb2⟩
    have HB := Lib.hid hb2
    clear hb2
    go_wp2
    go_ret2
    exact ⟨by rw [HG.out.1, HG.out.2] <;> rfl, HB.out⟩
  case pos =>
    have h0' := h0
    rw [hE] at h0
    have hok := feedsF_right (askF_zero h0 (by decide)).1
    have hkf := keyB_few (askF_zero h0 (by decide)).2.1
    have HKF : Hid (f.size ≤ maxLen) := Lib.hid (Nat.le_trans hkf.2 (by unfold maxLen; omega))
    have HOK := Lib.hid hok
    have HLN := Lib.hid hl
    subst h0'
    cases bo
    case false =>
      have HG : Hid (G = 0 ∧ R = 1) := Lib.hid ⟨by rw [hG, if_neg (fun h => by cases h.2)], by rw [hR, if_pos rfl]; rfl⟩
      clear rr rl hE hok hkf hG hR h0 hbo
      go_enter Tryz.func18, Tryz.ntmps18
      go_wp2_with fail
      refine HFA.out.mono ?_
      rintro e w2 ⟨rfl, hb2⟩
      have HB := Lib.hid hb2
      clear hb2
      go_wp2_with fail
      refine (HOU.out w2).mono ?_
      rintro e w3 ⟨rfl, rfl⟩
      go_wp2
      go_ret2
      exact ⟨by rw [HG.out.1, HG.out.2] <;> rfl, HB.out⟩
    case true =>
      have HG : Hid (G = lastsM rs l t f each ∧ R = 0) := Lib.hid ⟨by rw [hG, if_pos ⟨rfl, rfl⟩], by rw [hR, if_pos rfl]; rfl⟩
      have hin : 1 ≤ each := (inB_of (by rw [← hbo]; exact Bool.noConfusion)).1
      have hz0 : ¬ each = 0 := by omega
      have hzb : (each == 0) = false := by simp [hz0]
      have H1 := Lib.hid hin
      clear rr rl hE hok hkf hG hR h0 hbo hin
      go_enter Tryz.func18, Tryz.ntmps18
      go_wp2_with fail
      refine HFA.out.mono ?_
      rintro e w2 ⟨rfl, hb2⟩
      have HB2 := Lib.hid hb2
      clear hb2
      go_wp2_with fail
      refine (HOU.out w2).mono ?_
      rintro e w3 ⟨rfl, rfl⟩
      have HAT := Lib.hid (storeAt_any rs l t _ _ w2 (RR.out.below HB2.out) (RL.out.below HB2.out) HOK.out HLN.out)
      go_wp2_with fail
      refine HAT.out.mono ?_
      rintro e w3 ⟨L, rfl, h3⟩
      obtain ⟨s, N, hS, hR⟩ := h3.st
      obtain ⟨p1, p2, p3, p4⟩ := hS.parts
      have HSU := Lib.hid (left_any L.S L.m0 L.m1 L.m2 L.m3 L.m4 L.B f w3 s.R s.F p1 p2 p3 p4 HKF.out (fun x hx => Nat.le_trans (h3.inv.sz f x (by rw [← hR.row]; exact hx)) (by unfold maxLen; omega)) (by rw [hR.row]; have := h3.inv.ln f; have := HLN.out; omega) (fun x => by rw [hR.left]; exact h3.inv.lf x))
      rw [sumO_L, hR.left, hR.row] at HSU
      obtain ⟨sm, hsm⟩ : ∃ sm, sm = sumL (runM t (newM rs) 0 l).left ((runM t (newM rs) 0 l).row f) := ⟨_, rfl⟩
      rw [← hsm] at HSU
      have hq1 : Int.tdiv sm each = G := by rw [HG.out.1, hsm]; rfl
      have hgf := lastsM_few h3.inv HLN.out (f := f) H1.out
      rw [← HG.out.1] at hgf
      have hw1 : IntKind.i64.wrap G = G := IntWalk.i64_in _ (by omega)
      have HB3 := Lib.hid (Bl.trans HB2.out h3.bel)
      clear h3 hS hR p1 p2 p3 p4 HAT hsm hgf
      go_wp2_with fail
      refine HSU.out.mono ?_
      rintro e w4 ⟨rfl, rfl⟩
      go_wp2
      go_ret2
      exact ⟨by rw [HG.out.2] <;> rfl, HB3.out⟩
end Go.Proofs.YtcfeoapbbkfbnaaGreatDoor
namespace Go.Proofs.YtcfeoapbbkfbnaaGreatDoor
open Go.RowKit Go.Sort

set_option maxHeartbeats 1000000 in
theorem AClockF_any (s : Nat) (c : Int) (w : World) (h : Str w s c) (hc : c ≤ 900000) :
    Calls Tryz.prog 11 #[.pointer (some ⟨s, 0, none⟩)] w fun e w' => ∃ r : Int, e = .returned (.int .i64 r) ∧ (-1 ≤ r ∧ r ≤ 345686400000) ∧ Str w' s (c + 2) ∧ w.grownBy w' (some s) := by
  have ls := h.lt
  go_enter Tryz.func11, Tryz.ntmps11
  go_wp2_with fail
  refine (Pick_any s c [-1, 345686400000, 345686399999] _ _ (h.alloc _) (by omega) (Ints.of_blk (blk_new _ _) rfl rfl (by simp) (by omega) ls) (by simp) (by simp)).mono ?_
  rintro e w1 ⟨a, rfl, ha, hS1, hG1⟩
  have ha1 : -1 ≤ a ∧ a ≤ 345686400000 := by simp only [List.mem_cons, List.not_mem_nil, or_false] at ha; omega
  have hG1' := Gr.trans (Gr.alloc (Gr.refl w (some s)) _) hG1
  clear hG1 ha
  go_wp2_with fail
  refine (Pick_any s (c + 1) [0, 1, 3, 8, 15, 30, 60, a] _ _ (hS1.alloc _) (by omega) (Ints.of_blk (blk_new _ _) rfl rfl (by simp) (by omega) hS1.lt) (by simp) (by simp)).mono ?_
  rintro e w2 ⟨b, rfl, hb, hS2, hG2⟩
  have hb1 : -1 ≤ b ∧ b ≤ 345686400000 := by simp only [List.mem_cons, List.not_mem_nil, or_false] at hb; omega
  have HF := Lib.hid (And.intro (hS2.mono (d := c + 2) (by omega)) (Gr.trans (Gr.alloc hG1' _) hG2))
  clear hG2 hG1' hb hS2 hS1
  go_wp2
  go_ret
  exact ⟨b, rfl, hb1, HF.out.1, HF.out.2⟩

theorem SEqualF_any (l : List ByteArray) (v u : Value) (w : World) (hl : l.length ≤ 100000) (rl : RecR TS w 0 v l) (rm : RecR TS w 0 u l) :
    Calls Tryz.prog 35 #[v, u] w fun e w' => e = .returned (.bool true) ∧ Below w.heap.size w w' := by
  obtain ⟨a1, c1, rfl, _, _⟩ := rl.form
  obtain ⟨a2, c2, rfl, _, _⟩ := rm.form
  by_cases h0 : l = []
  · subst h0
    refine (Tryz.slices_Equal_string_empty a1 a2 c1 0 c2 w (by omega)).mono ?_
    rintro e w' ⟨rfl, rfl⟩
    exact ⟨rfl, Below.refl _ _⟩
  · obtain ⟨y, hy⟩ : ∃ y, l[0]? = some y := ⟨_, List.getElem?_eq_getElem (List.length_pos_iff.2 h0)⟩
    obtain ⟨b1, o1, rfl, _, _, _⟩ := str_at rl hy
    obtain ⟨b2, o2, rfl, _, _, _⟩ := str_at rm hy
    refine (Tryz.slices_Equal_string b1 o1 l.length c1 b2 o2 l.length c2 l l w (Nat.le_refl _) (Nat.le_refl _) (by omega) (by omega) (str_cells rl) (str_cells rm)).mono ?_
    rintro e w' ⟨rfl, q, rfl⟩
    exact ⟨by simp, Bl.drewN (Below.refl _ _) q⟩
end Go.Proofs.YtcfeoapbbkfbnaaGreatDoor
namespace Go.Proofs.YtcfeoapbbkfbnaaGreatDoor
open Go.RowKit Go.Sort Go.Maps

def oneR : List Rel := [(⟨#[114]⟩, ⟨#[97]⟩, 5)]
def oneF : List Fed := [(0, 1, ⟨#[102]⟩, ⟨#[114]⟩, 0, ByteArray.empty)]
theorem one_ask : askF (feedsF oneR oneF) (keyB ⟨#[102]⟩) (inB 0 0 345686399999) 5 = 0 := by kernel_rfl
theorem one_has : feederM oneR oneF 0 ⟨#[102]⟩ = [(⟨#[114]⟩, 5)] := by kernel_rfl
set_option maxHeartbeats 4000000 in
set_option maxRecDepth 100000 in
theorem reeled_any (w : World) : Calls Tryz.prog 36 #[] w fun e w' => e = .returned (.bool true) ∧ Below w.heap.size w w' := by
  obtain ⟨w1, hw1⟩ : ∃ w1, w1 = (w.alloc (.cells #[.string ⟨#[114]⟩, .string ⟨#[97]⟩, .int .i64 5] 73)).alloc (.cells #[.int .i64 0, .int .i64 1, .string ⟨#[102]⟩, .string ⟨#[114]⟩, .int .i64 0, .string ⟨#[]⟩] 76) := ⟨_, rfl⟩
  have hb1 : Below w.heap.size w w1 := by rw [hw1]; exact Bl.alloc (Bl.alloc (Below.refl _ _) _) _
  have hR : w1.heap[w.heap.size]? = some (.cells #[.string ⟨#[114]⟩, .string ⟨#[97]⟩, .int .i64 5] 73 (0, 0)) := by rw [hw1]; exact blk_old (blk_new w _) _
  have hF : w1.heap[w.heap.size + 1]? = some (.cells #[.int .i64 0, .int .i64 1, .string ⟨#[102]⟩, .string ⟨#[114]⟩, .int .i64 0, .string ⟨#[]⟩] 76 (0, 0)) := by rw [hw1]; exact blk_new' _ _ (by simp)
  have HFE := Lib.hid (Feeder_any oneR oneF ⟨#[102]⟩ 0 (.slice (some ⟨w.heap.size, 0, none⟩) 1 1) (.slice (some ⟨w.heap.size + 1, 0, none⟩) 1 1) w1 (by decide) (by decide)
    (RecR.of_blk (T := TRe) hR rfl rfl (by simp) (by omega) (Nat.zero_le _)) (RecR.of_blk (T := TFe) hF rfl rfl (by simp) (by omega) (Nat.zero_le _))
    (by intro x hx; simp only [oneR, List.mem_singleton] at hx; subst hx; exact ⟨by show 1 ≤ 140737488355328; omega, by show 1 ≤ 140737488355328; omega⟩)
    (by intro x hx; simp only [oneF, List.mem_singleton] at hx; subst hx; exact ⟨by show 1 ≤ 140737488355328; omega, by show 1 ≤ 140737488355328; omega, by show 0 ≤ 140737488355328; omega⟩) (by show 1 ≤ 140737488355328; omega))
  rw [one_ask, if_pos rfl, one_has] at HFE
  have HB1 := Lib.hid hb1
  clear hb1 hR hF
  go_enter Tryz.func36, Tryz.ntmps36
  go_wp2_with fail
  rw [← hw1]
  clear hw1
  refine HFE.out.mono ?_
  rintro e w2 ⟨⟨v, rfl, hO⟩, hb2⟩
  have HB2 := Lib.hid (Bl.trans HB1.out hb2)
  have HEQ := Lib.hid (EqualLo_any [(⟨#[114]⟩, 5)] [(⟨#[114]⟩, 5)] v (.slice (some ⟨w2.heap.size, 0, none⟩) 1 1) (w2.alloc (.cells #[.string ⟨#[114]⟩, .int .i64 5] 65)) (by simp) (by simp) (hO.alloc _).rec0 (RecR.of_blk (T := TLo) (blk_new w2 _) rfl rfl (by simp) (by omega) (Nat.zero_le _)))
  rw [decide_eq_true rfl] at HEQ
  clear hb2 hO HFE
  go_wp2_with fail
  refine HEQ.out.mono ?_
  rintro e w3 ⟨rfl, hb3⟩
  have HB3 := Lib.hid (Bl.trans (Bl.alloc HB2.out _) hb3)
  clear hb3 HEQ
  go_wp2
  go_ret
  exact ⟨rfl, HB3.out⟩
end Go.Proofs.YtcfeoapbbkfbnaaGreatDoor
