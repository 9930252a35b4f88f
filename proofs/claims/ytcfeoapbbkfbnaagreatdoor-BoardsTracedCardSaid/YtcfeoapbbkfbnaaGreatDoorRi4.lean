/- The reference's origins, TraceOf, SplicesOf; the program's Splices. Conditions: right reels and events, at most 900 events. · The reference's SplicesOf. Conditions: right reels and events, at most 900 events. · The reference's boards of a reel: sorted, each once; BoardsOf. Conditions: right reels and events, at most 900 events. · slices.Sort and slices.Compact of strings of the call's own; the reference's boards, BoardsOf. Conditions: right reels and events, at most 900 events. -/
import Derived.Test.YtcfeoapbbkfbnaaGreatDoorRg2
import Derived.Test.YtcfeoapbbkfbnaaGreatDoorRh9
import Derived.Test.YtcfeoapbbkfbnaaGreatDoorRe7
import Derived.Test.YtcfeoapbbkfbnaaGreatDoorSortRow
import Derived.Lib.SlicesCompact
namespace Go.Proofs.YtcfeoapbbkfbnaaGreatDoor
open Go.RowKit Go.Sort Go.Maps

theorem orgL_take {T : List Tkn} {k : Nat} {t : Tkn} (h : T[k]? = some t) (b : ByteArray) : orgL (T.take (k + 1)) b = orgL (T.take k) b ++ if t.2.2.1 = b then [(t.2.2.2.1, t.2.2.2.2.1, t.2.2.2.2.2)] else [] := by
  rw [List.take_add_one, h, Option.toList_some]
  unfold orgL
  rw [List.filter_append, List.map_append]
  congr 1
  by_cases e : t.2.2.1 = b
  · rw [if_pos e, List.filter_cons_of_pos (by simp [e])]; rfl
  · rw [if_neg e, List.filter_cons_of_neg (by simp [e])]; rfl
theorem str_ne {a b : ByteArray} (h : ¬ a = b) : (a.toList == b.toList) = false ∧ ¬ a.toList = b.toList := by
  have : ¬ a.toList = b.toList := fun e => h (ba_inj e)
  exact ⟨by simpa using this, this⟩
set_option maxHeartbeats 4000000 in
set_option maxRecDepth 100000 in
theorem origins_any (L : Loc) (r : RSt) (N : Nat) (b : ByteArray) (w : World) (h : StR w L r N) (hT : r.T.length ≤ 1000000) :
    Calls Tryz.prog 104 #[.pointer (some ⟨L.S, 0, none⟩), .string b] w fun e w' => (∃ v, e = .returned v ∧ OwnR TOr w' w.heap.size v (orgL r.T b)) ∧ Below w.heap.size w w' := by
  obtain ⟨tv, hb3, hO⟩ := h.tv
  have c3 : w.cell? ⟨L.S, 3, none⟩ = some tv := blk_cell hb3 3
  have lS := h.lt.1
  obtain ⟨T, hTT⟩ : ∃ T, T = r.T := ⟨_, rfl⟩
  rw [← hTT] at hO hT ⊢
  obtain ⟨ta, tc, rfl, _, _⟩ := hO.form
  have HT := Lib.hid (fun W (hW : Below w.heap.size w W) => hO.rec0.below hW)
  clear h hO hb3 hTT
  go_enter Tryz.func104, Tryz.ntmps104
  go_wp2_with fail
  go_loopw [5, 13] (fun ov i wr => ∃ k : Nat, k ≤ T.length ∧ i = .int .i64 k ∧ Hid (OwnR TOr wr w.heap.size ov (orgL (T.take k) b)) ∧ Hid (Below w.heap.size w wr)) (fun _ i _ => T.length - (intOf i).toNat)
  case atStart => exact ⟨0, Nat.zero_le _, rfl, Lib.hid (OwnR.nil _ _), Lib.hid (Below.refl _ _)⟩
  case round =>
    obtain ⟨k, hk, rfl, HO, HB⟩ := hrel
    by_cases hlt : k < T.length
    case neg =>
      obtain rfl : k = T.length := by omega
      rw [List.take_length] at HO
      go_wp2
      go_ret
      exact ⟨⟨_, rfl, HO.out⟩, HB.out⟩
    obtain ⟨t, ht⟩ : ∃ z, T[k]? = some z := ⟨_, List.getElem?_eq_getElem hlt⟩
    have HSN := Lib.hid (orgL_take ht b)
    have hal : (orgL (T.take k) b).length ≤ 1000000 := by
      have h1 := orgL_len (T.take k) b
      rw [List.length_take] at h1
      omega
    obtain ⟨b1, o1, hae, _, hb1', hc1'⟩ := (HT.out wr HB.out).at TTk.ok.len ht TTk.ok.pos
    subst hae
    obtain ⟨ti, ta, tb, tf, tr, tm⟩ := t
    have c0 : wr.cell? ⟨b1, o1 + k * 6, none⟩ = some (.int .i64 ti) := hc1' 0 _ rfl
    have c1 : wr.cell? ⟨b1, o1 + k * 6 + 1, none⟩ = some (.int .i64 ta) := hc1' 1 _ rfl
    have c2 : wr.cell? ⟨b1, o1 + k * 6 + 2, none⟩ = some (.string tb) := hc1' 2 _ rfl
    have c3' : wr.cell? ⟨b1, o1 + k * 6 + 3, none⟩ = some (.string tf) := hc1' 3 _ rfl
    have c4 : wr.cell? ⟨b1, o1 + k * 6 + 4, none⟩ = some (.string tr) := hc1' 4 _ rfl
    have c5 : wr.cell? ⟨b1, o1 + k * 6 + 5, none⟩ = some (.int .i64 tm) := hc1' 5 _ rfl
    have hw1 : IntKind.i64.wrap ((k : Int) + 1) = ((k + 1 : Nat) : Int) := by rw [IntWalk.i64_in _ (by omega)]; omega
    obtain ⟨w5, hw5⟩ : ∃ w5, w5 = wr.alloc (.cells #[.int .i64 ti, .int .i64 ta, .string tb, .string tf, .string tr, .int .i64 tm] 171) := ⟨_, rfl⟩
    have hb5 : Below wr.heap.size wr w5 := by rw [hw5]; exact Bl.alloc (Below.refl _ _) _
    have hX5 : w5.heap[wr.heap.size]? = some (.cells #[.int .i64 ti, .int .i64 ta, .string tb, .string tf, .string tr, .int .i64 tm] 171 (0, 0)) := by rw [hw5]; exact blk_new wr _
    have y2 := blk_cell hX5 2
    have y3 := blk_cell hX5 3
    have y4 := blk_cell hX5 4
    have y5 := blk_cell hX5 5
    simp at y2 y3 y4 y5
    have hz5 := blk_lt hX5
    have HO5 := Lib.hid (And.intro (HO.out.below hb5) (Bl.trans HB.out hb5))
    have hsz := HB.out.size
    obtain ⟨oa, oc, hov, _, _⟩ := HO.out.form
    subst hov
    simp only at HSN
    clear ht hc1' hb5 hX5
    by_cases htb : tb = b
    case neg =>
      rw [if_neg htb, List.append_nil] at HSN
      obtain ⟨hq, hq2⟩ := str_ne htb
      clear htb
      go_wp2_with fail
      rw [← hw5]
      clear hw5
      go_wp2
      go_roundw
      case rel => exact ⟨k + 1, by omega, by go_num, Lib.hid (by rw [HSN.out]; exact HO5.out.1), Lib.hid HO5.out.2⟩
      case measure => simp [intOf]; omega
    case pos =>
      rw [if_pos htb] at HSN
      subst htb
      have hq : (tb.toList == tb.toList) = true := by simp
      subst hw5
      go_wp2_with (at_builtin; refine wp_app_rec TOr.ok rfl _ _ rfl w.heap.size _ (orgL (T.take k) tb) rfl (HO5.out.1.alloc _) (wr.heap.size + 1) 1 (tf, tr, tm) rfl (blk_new' _ _ (by simp)) rfl hal (by simp; omega) ?_)
      intro v9 w9 hO9 hA9 hb9
      have HO9 := Lib.hid hO9
      have HB9 := Lib.hid ((Bl.alloc HO5.out.2 _).trans hb9)
      clear hO9 hA9 hb9
      go_wp2
      go_roundw
      case rel => exact ⟨k + 1, by omega, by go_num, Lib.hid (by rw [HSN.out]; exact HO9.out), HB9⟩
      case measure => simp [intOf]; omega
set_option maxHeartbeats 4000000 in
set_option maxRecDepth 100000 in
theorem TraceOf_any (rs : List Rel) (l : List Fed) (f : ByteArray) (vr vl : Value) (w : World) (rr : RecR TRe w 0 vr rs) (rl : RecR TFe w 0 vl l) (h : OkF rs l) (hln : l.length ≤ 900) :
    Calls Tryz.prog 55 #[vr, vl, .string f] w fun e w' => (∃ v, e = .returned v ∧ OwnR TOr w' w.heap.size v (traceM rs l f)) ∧ Below w.heap.size w w' := by
  have HST := Lib.hid (stored_any rs l 345686400000 vr vl w rr rl h.rn h.rz hln h.lz)
  have HLN := Lib.hid hln
  obtain ⟨ra, rc, rfl, _, _⟩ := rr.form
  obtain ⟨la, lc, rfl, _, _⟩ := rl.form
  clear rr rl h hln
  go_enter Tryz.func55, Tryz.ntmps55
  go_wp2_with fail
  refine HST.out.mono ?_
  rintro e w3 ⟨L, ov, wv, rfl, ⟨r, N, hS, hR⟩, hI, -, -, hb3⟩
  have hfew : (runM 345686400000 (newM rs) 0 l).log.length ≤ 1000000 := by
    have h2 := hI.ll
    have h3 : l.length * l.length ≤ 900 * 900 := Nat.mul_le_mul HLN.out HLN.out
    omega
  have HLO := Lib.hid (origins_any L r N f w3 hS (by rw [hR.log]; exact hfew))
  rw [hR.log, show orgL (runM 345686400000 (newM rs) 0 l).log f = traceM rs l f from rfl] at HLO
  have HB3 := Lib.hid hb3
  clear hS hR hI hb3 hfew HST
  go_wp2_with fail
  refine HLO.out.mono ?_
  rintro e w4 ⟨⟨v, rfl, hO⟩, hb4⟩
  have HFF := Lib.hid (And.intro (hO.base HB3.out.size) (Bl.trans HB3.out hb4))
  clear hO hb4 HLO
  go_wp2
  go_ret
  exact ⟨⟨_, rfl, HFF.out.1⟩, HFF.out.2⟩
/-! splices -/
def lastE : Option Int → List Tkn → Option Int
  | p, [] => p
  | _, t :: l => lastE (some t.1) l
theorem splL_snoc (b : ByteArray) (t : Tkn) : ∀ (l : List Tkn) (p : Option Int), splL b p (l ++ [t]) = splL b p l + (if lastE p l = some t.1 ∧ t.2.2.1 = b then 1 else 0)
  | [], p => by
    show (if p = some t.1 ∧ t.2.2.1 = b then (1 : Int) else 0) + 0 = 0 + _
    rw [show lastE p [] = p from rfl]; omega
  | x :: l, p => by
    have ih := splL_snoc b t l (some x.1)
    show (if p = some x.1 ∧ x.2.2.1 = b then (1 : Int) else 0) + splL b (some x.1) (l ++ [t]) = (if p = some x.1 ∧ x.2.2.1 = b then (1 : Int) else 0) + splL b (some x.1) l + _
    rw [ih, show lastE p (x :: l) = lastE (some x.1) l from rfl]; omega
theorem lastE_snoc (t : Tkn) : ∀ (l : List Tkn) (p : Option Int), lastE p (l ++ [t]) = some t.1
  | [], _ => rfl
  | x :: l, _ => lastE_snoc t l (some x.1)
theorem splL_bd (b : ByteArray) : ∀ (l : List Tkn) (p : Option Int), 0 ≤ splL b p l ∧ splL b p l ≤ l.length
  | [], _ => ⟨Int.le_refl _, Int.le_refl _⟩
  | x :: l, p => by
    have ih := splL_bd b l (some x.1)
    show 0 ≤ (if p = some x.1 ∧ x.2.2.1 = b then (1 : Int) else 0) + splL b (some x.1) l ∧ (if p = some x.1 ∧ x.2.2.1 = b then (1 : Int) else 0) + splL b (some x.1) l ≤ _
    rw [List.length_cons]
    split <;> omega
theorem splL_first {T : List Tkn} {t : Tkn} (h : T[0]? = some t) (b : ByteArray) : splL b none (T.take 1) = 0 := by
  rw [List.take_add_one, h, Option.toList_some, List.take_zero]
  show (if none = some t.1 ∧ t.2.2.1 = b then (1 : Int) else 0) + 0 = 0
  rw [if_neg (fun q => by cases q.1)]; rfl
theorem splL_next {T : List Tkn} {k : Nat} {q t : Tkn} (hq : T[k]? = some q) (h : T[k + 1]? = some t) (b : ByteArray) : splL b none (T.take (k + 1 + 1)) = splL b none (T.take (k + 1)) + (if q.1 = t.1 ∧ t.2.2.1 = b then 1 else 0) := by
  rw [List.take_add_one, h, Option.toList_some, splL_snoc]
  have : lastE none (T.take (k + 1)) = some q.1 := by
    rw [List.take_add_one, hq, Option.toList_some]; exact lastE_snoc q _ _
  rw [this]
  congr 1
  by_cases e : q.1 = t.1 ∧ t.2.2.1 = b
  · rw [if_pos e, if_pos ⟨by rw [e.1], e.2⟩]
  · rw [if_neg e, if_neg (fun h => e ⟨by injection h.1, h.2⟩)]
def splM (rs : List Rel) (l : List Fed) (b : ByteArray) : Int := splL b none (runM 345686400000 (newM rs) 0 l).log
set_option maxHeartbeats 4000000 in
set_option maxRecDepth 100000 in
theorem Splices_any (rs : List Rel) (l : List Fed) (f : ByteArray) (vr vl : Value) (w : World) (hlr : rs.length ≤ 1000000) (hl : l.length ≤ 900) (rr : RecR TRe w 0 vr rs) (rl : RecR TFe w 0 vl l) (hzr : RelZ rs) (hz : FedZ l) (hk : f.size ≤ 140737488355328) :
    Calls Tryz.prog 52 #[vr, vl, .string f] w fun e w' => e = .returned (.tuple #[.int .i64 (if askF (feedsF rs l) (keyB f) true 5 = 0 then splM rs l f else 0), .int .i64 (askF (feedsF rs l) (keyB f) true 5)]) ∧ Below w.heap.size w w' := by
  have HFA := Lib.hid (feederFault_any rs l f 0 vr vl w hlr (by omega) rr rl hzr hz hk)
  rw [show inB 0 0 345686399999 = true by decide] at HFA
  have RR := Lib.hid rr
  have RL := Lib.hid rl
  obtain ⟨ra, rc, rfl, _, _⟩ := rr.form
  obtain ⟨la, lc, rfl, _, _⟩ := rl.form
  obtain ⟨E, hE⟩ : ∃ E, E = askF (feedsF rs l) (keyB f) true 5 := ⟨_, rfl⟩
  rw [← hE] at HFA ⊢
  obtain ⟨G, hG⟩ : ∃ G, G = if E = 0 then splM rs l f else 0 := ⟨_, rfl⟩
  rw [← hG]
  by_cases h0 : E = 0
  case neg =>
    have hb : (E == 0) = false := by simp [h0]
    have HG : Hid (G = 0) := Lib.hid (by rw [hG, if_neg h0])
    clear rr rl hE hG
    go_enter Tryz.func52, Tryz.ntmps52
    go_wp2_with fail
    refine HFA.out.mono ?_
    rintro e w2 ⟨rfl, hb2⟩
    have HB := Lib.hid hb2
    clear hb2
    go_wp2
    go_ret2
    exact ⟨by rw [HG.out] <;> rfl, HB.out⟩
  case pos =>
    have HG : Hid (G = splM rs l f) := Lib.hid (by rw [hG, if_pos h0])
    rw [hE] at h0
    have hok := feedsF_right (askF_zero h0 (by decide)).1
    have HKF : Hid (f.size ≤ maxLen) := Lib.hid (Nat.le_trans (keyB_few (askF_zero h0 (by decide)).2.1).2 (by unfold maxLen; omega))
    rw [← hE] at h0
    have HOK := Lib.hid hok
    have HLN := Lib.hid hl
    subst h0
    clear rr rl hE hok hG
    go_enter Tryz.func52, Tryz.ntmps52
    go_wp2_with fail
    refine HFA.out.mono ?_
    rintro e w2 ⟨rfl, hb2⟩
    have HB2 := Lib.hid hb2
    have HAT := Lib.hid (storeAt_any rs l 345686400000 _ _ w2 (RR.out.below hb2) (RL.out.below hb2) HOK.out HLN.out)
    clear hb2
    go_wp2_with fail
    refine HAT.out.mono ?_
    rintro e w3 ⟨L, rfl, h3⟩
    obtain ⟨s, N, hS, hR⟩ := h3.st
    have hlk := hS.sb.mX.look TMi.ok f HKF.out
    have hlk2 : (Instr.lookup 128 (.map (some L.m4)) (.string f) false).run Tryz.prog w3 = .ok (.int .i64 G) w3 := by
      rw [HG.out, show splM rs l f = (s.X.get f.data.toList).getD 0 from (hR.spx f).symm]
      exact hlk
    have c4 : w3.cell? ⟨L.S, 4, none⟩ = some (.map (some L.m4)) := hS.cells.2.2.2.2
    have lS := hS.lt.1
    have HB3 := Lib.hid (Bl.trans HB2.out h3.bel)
    clear h3 hS hR hlk HAT
    go_wp2
    go_ret2
    exact ⟨rfl, HB3.out⟩
end Go.Proofs.YtcfeoapbbkfbnaaGreatDoor
namespace Go.Proofs.YtcfeoapbbkfbnaaGreatDoor
open Go.RowKit Go.Sort Go.Maps

set_option maxHeartbeats 8000000 in
set_option maxRecDepth 100000 in
theorem SplicesOf_any (rs : List Rel) (l : List Fed) (b : ByteArray) (vr vl : Value) (w : World) (rr : RecR TRe w 0 vr rs) (rl : RecR TFe w 0 vl l) (h : OkF rs l) (hln : l.length ≤ 900) :
    Calls Tryz.prog 56 #[vr, vl, .string b] w fun e w' => e = .returned (.int .i64 (splM rs l b)) ∧ Below w.heap.size w w' := by
  have HST := Lib.hid (stored_any rs l 345686400000 vr vl w rr rl h.rn h.rz hln h.lz)
  have HLN := Lib.hid hln
  obtain ⟨ra, rc, rfl, _, _⟩ := rr.form
  obtain ⟨la, lc, rfl, _, _⟩ := rl.form
  clear rr rl h hln
  go_enter Tryz.func56, Tryz.ntmps56
  go_wp2_with fail
  refine HST.out.mono ?_
  rintro e w3 ⟨L, ov, wv, rfl, ⟨r, N, hS, hR⟩, hI, -, -, hb3⟩
  obtain ⟨T, hT⟩ : ∃ T, T = (runM 345686400000 (newM rs) 0 l).log := ⟨_, rfl⟩
  have hfew : T.length ≤ 1000000 := by
    have h2 := hI.ll
    have h3 : l.length * l.length ≤ 900 * 900 := Nat.mul_le_mul HLN.out HLN.out
    rw [hT]; omega
  obtain ⟨tv, hbS, hO⟩ := hS.tv
  rw [hR.log, ← hT] at hO
  obtain ⟨ta, tc, rfl, _, _⟩ := hO.form
  have HRT := Lib.hid (fun W (hW : Below w3.heap.size w3 W) => hO.rec0.below hW)
  have HBS := Lib.hid hbS
  have c3 : w3.cell? ⟨L.S, 3, none⟩ = some (.slice ta T.length tc) := blk_cell hbS 3
  have lS := hS.lt.1
  have HB3 := Lib.hid hb3
  have HG : Hid (splM rs l b = splL b none T) := Lib.hid (by rw [hT]; rfl)
  clear hS hR hI hb3 hO hbS hT HST
  go_wp2_with fail
  go_loopw [10, 25] (fun v10 i wr => ∃ k : Nat, k ≤ T.length ∧ i = .int .i64 k ∧ v10 = .int .i64 (splL b none (T.take k)) ∧ Hid (Below w3.heap.size w3 wr)) (fun _ i _ => T.length - (intOf i).toNat)
  case atStart => exact ⟨0, Nat.zero_le _, rfl, rfl, Lib.hid (Below.refl _ _)⟩
  case round =>
    obtain ⟨k, hk, rfl, rfl, HB⟩ := hrel
    by_cases hlt : k < T.length
    case neg =>
      obtain rfl : k = T.length := by omega
      rw [List.take_length]
      have HF := Lib.hid (Bl.trans HB3.out HB.out)
      go_wp2
      go_ret
      exact ⟨by rw [HG.out] <;> rfl, HF.out⟩
    obtain ⟨t, ht⟩ : ∃ z, T[k]? = some z := ⟨_, List.getElem?_eq_getElem hlt⟩
    have HT := Lib.hid ht
    have hbd := splL_bd b (T.take k) none
    rw [List.length_take] at hbd
    obtain ⟨b1, o1, hae, _, hb1', hc1'⟩ := (HRT.out wr HB.out).at TTk.ok.len ht TTk.ok.pos
    subst hae
    obtain ⟨ti, ta, tb, tf, tr, tm⟩ := t
    have c0 : wr.cell? ⟨b1, o1 + k * 6, none⟩ = some (.int .i64 ti) := hc1' 0 _ rfl
    have c1 : wr.cell? ⟨b1, o1 + k * 6 + 1, none⟩ = some (.int .i64 ta) := hc1' 1 _ rfl
    have c2 : wr.cell? ⟨b1, o1 + k * 6 + 2, none⟩ = some (.string tb) := hc1' 2 _ rfl
    have c3' : wr.cell? ⟨b1, o1 + k * 6 + 3, none⟩ = some (.string tf) := hc1' 3 _ rfl
    have c4 : wr.cell? ⟨b1, o1 + k * 6 + 4, none⟩ = some (.string tr) := hc1' 4 _ rfl
    have c5 : wr.cell? ⟨b1, o1 + k * 6 + 5, none⟩ = some (.int .i64 tm) := hc1' 5 _ rfl
    have hw1 : IntKind.i64.wrap ((k : Int) + 1) = ((k + 1 : Nat) : Int) := by rw [IntWalk.i64_in _ (by omega)]; omega
    obtain ⟨w5, hw5⟩ : ∃ w5, w5 = wr.alloc (.cells #[.int .i64 ti, .int .i64 ta, .string tb, .string tf, .string tr, .int .i64 tm] 171) := ⟨_, rfl⟩
    have hb5 : Below wr.heap.size wr w5 := by rw [hw5]; exact Bl.alloc (Below.refl _ _) _
    have hX5 : w5.heap[wr.heap.size]? = some (.cells #[.int .i64 ti, .int .i64 ta, .string tb, .string tf, .string tr, .int .i64 tm] 171 (0, 0)) := by rw [hw5]; exact blk_new wr _
    have HB5 := Lib.hid (Bl.trans HB.out hb5)
    have y0 := blk_cell hX5 0
    have y2 := blk_cell hX5 2
    simp at y0 y2
    have hz5 := blk_lt hX5
    obtain ⟨S, hS⟩ : ∃ S, S = splL b none (T.take k) := ⟨_, rfl⟩
    rw [← hS] at hbd ⊢
    have HS := Lib.hid hS
    have hs5 := blk_below HBS.out HB5.out
    have s3 : w5.cell? ⟨L.S, 3, none⟩ = some (.slice (some ⟨b1, o1, none⟩) T.length tc) := blk_cell hs5 3
    have ls5 := blk_lt hs5
    clear hS ht hc1' hb5 hX5 hs5
    cases k with
    | zero =>
      have HN : Hid (splL b none (T.take 1) = S + 0) := Lib.hid (by rw [splL_first HT.out b, HS.out]; rfl)
      have hws : IntKind.i64.wrap S = S := IntWalk.i64_in _ (by omega)
      simp only [Nat.zero_mul, Nat.add_zero] at c0 c1 c2 c3' c4 c5
      go_wp2_with fail
      rw [← hw5]
      clear hw5
      go_quiet (first | (go_at_call 105; exact Calls.quiet_of_same ((truthR_f _).mono fun _ _ h => ⟨h.1, h.2.symm⟩)))
      have HB6 := Lib.hid (Bl.drewN HB5.out nq)
      go_wp2
      go_roundw
      case rel => exact ⟨1, by omega, by go_num, by rw [HN.out] <;> simp, HB6⟩
      case measure => simp [intOf]; omega
    | succ k =>
      obtain ⟨q, hq⟩ : ∃ z, T[k]? = some z := ⟨_, List.getElem?_eq_getElem (by omega)⟩
      have HSX := Lib.hid (splL_next hq HT.out b)
      obtain ⟨b2, o2, hae2, _, hb2', hc2'⟩ := (HRT.out w5 HB5.out).at TTk.ok.len hq TTk.ok.pos
      injection hae2 with hae2
      injection hae2 with e1 e2 _
      subst e1 e2
      obtain ⟨qi, qa, qb, qf, qr, qm⟩ := q
      have q0 : w5.cell? ⟨b1, o1 + k * 6, none⟩ = some (.int .i64 qi) := hc2' 0 _ rfl
      have hk0 : (0 : Int) < ((k + 1 : Nat) : Int) := by omega
      have hks : IntKind.i64.wrap (((k + 1 : Nat) : Int) - 1) = (k : Int) := by rw [IntWalk.i64_in _ (by omega)]; omega
      rw [← HS.out] at HSX
      simp only at HSX
      clear hq hc2'
      by_cases htb : tb = b
      case neg =>
        rw [if_neg (fun h => htb h.2)] at HSX
        have hws : IntKind.i64.wrap S = S := IntWalk.i64_in _ (by omega)
        obtain ⟨hs1, hs2⟩ := str_ne htb
        clear htb
        go_wp2_with fail
        rw [← hw5]
        clear hw5
        go_quiet (first | (go_at_call 105; exact Calls.quiet_of_same ((truthR_f _).mono fun _ _ h => ⟨h.1, h.2.symm⟩)))
        have HB6 := Lib.hid (Bl.drewN HB5.out nq)
        go_wp2
        go_roundw
        case rel => exact ⟨k + 1 + 1, by omega, by go_num, by rw [HSX.out] <;> simp, HB6⟩
        case measure => simp [intOf]; omega
      case pos =>
        subst htb
        have hs1 : (tb.toList == tb.toList) = true := by simp
        by_cases hqi : qi = ti
        case neg =>
          rw [if_neg (fun h => hqi h.1)] at HSX
          have hws : IntKind.i64.wrap S = S := IntWalk.i64_in _ (by omega)
          have hqb : (qi == ti) = false := by simpa using hqi
          go_wp2_with fail
          rw [← hw5]
          clear hw5
          go_quiet (first | (go_at_call 105; exact Calls.quiet_of_same ((truthR_f _).mono fun _ _ h => ⟨h.1, h.2.symm⟩)))
          have HB6 := Lib.hid (Bl.drewN HB5.out nq)
          go_wp2
          go_roundw
          case rel => exact ⟨k + 1 + 1, by omega, by go_num, by rw [HSX.out] <;> simp, HB6⟩
          case measure => simp [intOf]; omega
        case pos =>
          subst hqi
          rw [if_pos ⟨rfl, rfl⟩] at HSX
          have hws : IntKind.i64.wrap (S + 1) = S + 1 := IntWalk.i64_in _ (by omega)
          go_wp2_with fail
          rw [← hw5]
          clear hw5
          go_quiet (first | (go_at_call 105; exact Calls.quiet_of_same ((truthR_t _).mono fun _ _ h => ⟨h.1, h.2.symm⟩)))
          have HB6 := Lib.hid (Bl.drewN HB5.out nq)
          go_wp2
          go_roundw
          case rel => exact ⟨k + 1 + 1, by omega, by go_num, by rw [HSX.out] <;> simp, HB6⟩
          case measure => simp [intOf]; omega
end Go.Proofs.YtcfeoapbbkfbnaaGreatDoor
namespace Go.Proofs.YtcfeoapbbkfbnaaGreatDoor
open Go.RowKit Go.Sort Go.Maps Go.Shelf Go.Lib

/-! plain law -/
theorem le_bb : ∀ a b : Bs, a ≤ b → a ≠ b → bytesBefore a b = true
  | [], [], _, h => absurd rfl h
  | [], _ :: _, _, _ => rfl
  | _ :: _, [], h, _ => absurd h (by simp)
  | a :: r, b :: s, h, hne => by
    rw [List.cons_le_cons_iff] at h
    simp only [bytesBefore, Bool.or_eq_true, decide_eq_true_eq, Bool.and_eq_true, beq_iff_eq]
    rcases h with h | ⟨rfl, h⟩
    · exact .inl h
    · exact .inr ⟨rfl, le_bb r s h fun e => hne (by rw [e])⟩
theorem bb_asym {a b : Bs} (h : bytesBefore a b = true) (k : bytesBefore b a = true) : False :=
  Sm.bb_ne h (List.le_antisymm (bb_le _ _ h) (bb_le _ _ k))
theorem strict_ext : ∀ a b : List Bs, (a.Pairwise fun x y => bytesBefore x y = true) → (b.Pairwise fun x y => bytesBefore x y = true) → (∀ x, x ∈ a ↔ x ∈ b) → a = b
  | [], [], _, _, _ => rfl
  | [], y :: b, _, _, h => by have := (h y).2 (List.mem_cons_self ..); simp at this
  | x :: a, [], _, _, h => by have := (h x).1 (List.mem_cons_self ..); simp at this
  | x :: a, y :: b, ha, hb, h => by
    obtain ⟨a1, a2⟩ := List.pairwise_cons.1 ha
    obtain ⟨b1, b2⟩ := List.pairwise_cons.1 hb
    have hxy : x = y := by
      rcases List.mem_cons.1 ((h x).1 (List.mem_cons_self ..)) with e | e
      · exact e
      · rcases List.mem_cons.1 ((h y).2 (List.mem_cons_self ..)) with e2 | e2
        · exact e2.symm
        · exact (bb_asym (b1 x e) (a1 y e2)).elim
    subst hxy
    rw [strict_ext a b a2 b2 fun z => ⟨fun hz => by
      rcases List.mem_cons.1 ((h z).1 (List.mem_cons_of_mem _ hz)) with e | e
      · exact absurd e.symm (Sm.bb_ne (a1 z hz))
      · exact e, fun hz => by
      rcases List.mem_cons.1 ((h z).2 (List.mem_cons_of_mem _ hz)) with e | e
      · exact absurd e.symm (Sm.bb_ne (b1 z hz))
      · exact e⟩]
theorem compact_upto {d : Array Bs} (hs : ∀ i j, i ≤ j → j < d.size → d[i]! ≤ d[j]!) : ∀ m, m ≤ d.size → (∀ x, x ∈ compactUpTo d m ↔ ∃ j, j < m ∧ d[j]! = x) ∧ (compactUpTo d m).Pairwise fun x y => bytesBefore x y = true
  | 0, _ => ⟨fun x => by simp [compactUpTo], by simp [compactUpTo]⟩
  | m + 1, hm => by
    obtain ⟨h1, h2⟩ := compact_upto hs m (by omega)
    rw [compactUpTo_succ]
    by_cases hk : keeps d m = true
    · rw [if_pos hk]
      refine ⟨fun x => ?_, ?_⟩
      · rw [List.mem_append, List.mem_singleton, h1]
        constructor
        · rintro (⟨j, hj, rfl⟩ | rfl)
          · exact ⟨j, by omega, rfl⟩
          · exact ⟨m, by omega, rfl⟩
        · rintro ⟨j, hj, rfl⟩
          by_cases e : j = m
          · subst e; exact .inr rfl
          · exact .inl ⟨j, by omega, rfl⟩
      · rw [List.pairwise_append]
        refine ⟨h2, by simp, fun x hx y hy => ?_⟩
        rw [List.mem_singleton] at hy
        subst hy
        obtain ⟨j, hj, rfl⟩ := (h1 x).1 hx
        have hne : d[m]! ≠ d[m - 1]! := by
          unfold keeps at hk
          rcases of_decide_eq_true hk with e | e
          · omega
          · exact e
        refine le_bb _ _ (hs j m (by omega) (by omega)) fun e => ?_
        have q1 := hs j (m - 1) (by omega) (by omega)
        have q2 := hs (m - 1) m (by omega) (by omega)
        rw [e] at q1
        exact hne (List.le_antisymm q1 q2)
    · rw [if_neg hk, List.append_nil]
      refine ⟨fun x => ?_, h2⟩
      rw [h1]
      have he : m ≠ 0 ∧ d[m]! = d[m - 1]! := by
        unfold keeps at hk
        rw [decide_eq_true_eq] at hk
        exact ⟨fun e => hk (.inl e), Classical.byContradiction fun e => hk (.inr e)⟩
      constructor
      · rintro ⟨j, hj, rfl⟩; exact ⟨j, by omega, rfl⟩
      · rintro ⟨j, hj, rfl⟩
        by_cases e : j = m
        · subst e; exact ⟨j - 1, by omega, he.2.symm⟩
        · exact ⟨j, by omega, rfl⟩
theorem compact_law {zs : List Bs} (hs : zs.Pairwise fun a b => a ≤ b) : (∀ x, x ∈ compact zs ↔ x ∈ zs) ∧ (compact zs).Pairwise fun x y => bytesBefore x y = true := by
  have hs2 : ∀ i j, i ≤ j → j < zs.toArray.size → zs.toArray[i]! ≤ zs.toArray[j]! := fun i j hij hj => by
    have hj' : j < zs.length := by simpa using hj
    have hi' : i < zs.length := by omega
    rw [getElem!_pos zs.toArray i (by simpa using hi'), getElem!_pos zs.toArray j hj]
    by_cases e : i = j
    · subst e; exact List.le_refl _
    · simpa using List.pairwise_iff_getElem.1 hs i j hi' hj' (by omega)
  obtain ⟨h1, h2⟩ := compact_upto hs2 zs.length (by simp)
  refine ⟨fun x => ?_, h2⟩
  show x ∈ compactUpTo zs.toArray zs.length ↔ _
  rw [h1]
  constructor
  · rintro ⟨j, hj, rfl⟩
    rw [getElem!_pos zs.toArray j (by simpa using hj)]
    simp
  · intro h
    obtain ⟨j, hj, rfl⟩ := List.mem_iff_getElem.1 h
    exact ⟨j, hj, by rw [getElem!_pos zs.toArray j (by simpa using hj)]; simp⟩
theorem msort_sorted (ss : List Bs) : (ss.mergeSort leB).Pairwise fun a b => a ≤ b := by
  have tr : ∀ a b c : List UInt8, leB a b = true → leB b c = true → leB a c = true := fun a b c h1 h2 => by simp only [leB, decide_eq_true_eq] at *; exact List.le_trans h1 h2
  have tot : ∀ a b : List UInt8, (leB a b || leB b a) = true := fun a b => by simp only [leB, Bool.or_eq_true, decide_eq_true_eq]; exact List.le_total a b
  exact (List.pairwise_mergeSort tr tot ss).imp fun h => by simpa [leB] using h
/-- names of the boards that took of a reel, as the log tells. -/
def namesO (T : List Tkn) (key : ByteArray) : List Bs := (T.filter fun t => decide (t.2.2.2.2.1 = key)).map fun t => bsOf t.2.2.1
theorem namesO_take {T : List Tkn} {k : Nat} {t : Tkn} (h : T[k]? = some t) (key : ByteArray) : namesO (T.take (k + 1)) key = namesO (T.take k) key ++ if t.2.2.2.2.1 = key then [bsOf t.2.2.1] else [] := by
  rw [List.take_add_one, h, Option.toList_some]
  unfold namesO
  rw [List.filter_append, List.map_append]
  congr 1
  by_cases e : t.2.2.2.2.1 = key
  · rw [if_pos e, List.filter_cons_of_pos (by simp [e])]; rfl
  · rw [if_neg e, List.filter_cons_of_neg (by simp [e])]; rfl
theorem namesO_len (T : List Tkn) (key : ByteArray) : (namesO T key).length ≤ T.length := by
  unfold namesO
  rw [List.length_map]
  exact List.length_filter_le _ _
def brdO (T : List Tkn) (key : ByteArray) : List Bs := compact ((namesO T key).mergeSort leB)
theorem brdO_law (T : List Tkn) (key : ByteArray) : (∀ x, x ∈ brdO T key ↔ ∃ t ∈ T, t.2.2.2.2.1 = key ∧ bsOf t.2.2.1 = x) ∧ (brdO T key).Pairwise fun x y => bytesBefore x y = true := by
  obtain ⟨h1, h2⟩ := compact_law (msort_sorted (namesO T key))
  refine ⟨fun x => ?_, h2⟩
  unfold brdO
  rw [h1, (List.mergeSort_perm _ _).mem_iff]
  unfold namesO
  constructor
  · intro h
    obtain ⟨t, ht, rfl⟩ := List.mem_map.1 h
    obtain ⟨a, b⟩ := List.mem_filter.1 ht
    exact ⟨t, a, of_decide_eq_true b, rfl⟩
  · rintro ⟨t, ht, e, rfl⟩
    exact List.mem_map.2 ⟨t, List.mem_filter.2 ⟨ht, decide_eq_true e⟩, rfl⟩
/-- the program's list of boards is the reference's. -/
theorem brdL_eq {rs : List Rel} {l : List Fed} {key : ByteArray} {M : List ByteArray} (h : BrdL rs l key M) : M = (brdO (runM 345686400000 (newM rs) 0 l).log key).map baOf := by
  have hb : ∀ b : ByteArray, baOf (bsOf b) = b := fun b => by unfold baOf bsOf; simp
  obtain ⟨h1, h2⟩ := brdO_law (runM 345686400000 (newM rs) 0 l).log key
  have : M.map bsOf = brdO (runM 345686400000 (newM rs) 0 l).log key := strict_ext _ _ h.sorted h2 fun x => by
    rw [h1]
    constructor
    · intro hx
      obtain ⟨b, hb1, rfl⟩ := List.mem_map.1 hx
      obtain ⟨o, ho, e⟩ := List.any_eq_true.1 ((h.mem b).1 hb1)
      obtain ⟨t, ht, e1, rfl⟩ := orgL_mem ho
      exact ⟨t, ht, ba_inj (by simpa using e), by rw [e1]⟩
    · rintro ⟨t, ht, e, rfl⟩
      refine List.mem_map.2 ⟨t.2.2.1, (h.mem _).2 (List.any_eq_true.2 ⟨(t.2.2.2.1, t.2.2.2.2.1, t.2.2.2.2.2), ?_, by simp [e]⟩), rfl⟩
      exact List.mem_map.2 ⟨t, List.mem_filter.2 ⟨ht, decide_eq_true rfl⟩, rfl⟩
  rw [← this, List.map_map]
  conv => lhs; rw [← List.map_id M]
  exact List.map_congr_left fun b _ => (hb b).symm
end Go.Proofs.YtcfeoapbbkfbnaaGreatDoor
namespace Go.Proofs.YtcfeoapbbkfbnaaGreatDoor
open Go.RowKit Go.Sort Go.Maps Go.Shelf Go.Lib

theorem own_enc {w : World} {B : Nat} {v : Value} {ss : List Bs} : OwnR TS w B v (ss.map baOf) ↔ w.ownsRow B 9 1 v ss.length (ss.map encStr) := by
  unfold OwnR
  rw [← flat_ba, List.length_map]
  exact Iff.rfl
theorem SortS_any (ss : List Bs) (B : Nat) (v : Value) (w : World) (h : OwnR TS w B v (ss.map baOf)) (hl : ss.length ≤ 1000000) :
    Calls Tryz.prog 136 #[v] w fun e w' => e = .returned (.tuple #[]) ∧ OwnR TS w' B v ((ss.mergeSort leB).map baOf) ∧ w.grownBy w' v.ownBlock := by
  by_cases h0 : ss = []
  · subst h0
    obtain ⟨a, cap, rfl, _, _⟩ := h.form
    exact (Tryz.slices_Sort_string_none a cap w).mono fun e w' ⟨he, hw⟩ => ⟨he, by subst hw; simpa using h, by subst hw; exact Gr.refl _ _⟩
  · obtain ⟨g, cap, cur, rfl, hB, hgb, _⟩ := h.blk (by intro e; exact h0 (List.map_eq_nil_iff.1 e))
    have h' := own_enc.1 h
    rw [List.length_map] at h' ⊢
    obtain ⟨hH, hlt, _⟩ := holds_own encStr h' rfl
    refine (Tryz.slices_Sort_string g 0 cap ss w hH hlt (by omega)).mono ?_
    rintro e w' ⟨rfl, q, os, rfl⟩
    refine ⟨rfl, ?_, grownBy_resorted _ _⟩
    have := own_resorted (q := q) (os := os) encStr h' rfl (m := ss.mergeSort fun x y => decide (x ≤ y)) (by simp)
    refine own_enc.2 ?_
    rw [show (ss.mergeSort leB).length = ss.length by simp]
    exact this
theorem grow_none (w : World) : grow w #[] = w := by
  unfold grow
  simp
theorem CompactS_any (zs : List Bs) (B : Nat) (v : Value) (w : World) (h : OwnR TS w B v (zs.map baOf)) (hl : zs.length ≤ 1000000) :
    Calls Tryz.prog 139 #[v] w fun e w' => (∃ v', e = .returned v' ∧ OwnR TS w' B v' ((compact zs).map baOf)) ∧ w.grownBy w' v.ownBlock := by
  by_cases h0 : zs = []
  · subst h0
    obtain ⟨a, cap, rfl, _, _⟩ := h.form
    exact (Tryz.slices_Compact_string_empty a cap w).mono fun e w' ⟨he, hw⟩ => ⟨⟨_, he, by subst hw; exact h⟩, by subst hw; exact Gr.refl _ _⟩
  · have hpos := List.length_pos_iff.2 h0
    obtain ⟨g, cap, cur, rfl, hB, hgb, hn1, hn2, _⟩ := h.blk (by intro e; exact h0 (List.map_eq_nil_iff.1 e))
    have h' := own_enc.1 h
    rw [List.length_map] at h' hn1 ⊢
    obtain ⟨hH, hlt, _⟩ := holds_own encStr h' rfl
    have hck : (compact zs).length ≤ zs.length := compact_length_le zs
    refine (Tryz.slices_Compact_string g 0 cap zs w hH (by omega) hn1).mono ?_
    rintro e w' ⟨rfl, q, rfl⟩
    have hm : (compact zs ++ List.replicate (zs.length - (compact zs).length) ([] : Bs)).length = zs.length := by
      rw [List.length_append, List.length_replicate]; omega
    have ho := own_resorted (q := q) (os := #[]) encStr h' rfl (m := compact zs ++ List.replicate (zs.length - (compact zs).length) []) hm
    rw [grow_none] at ho
    have ho2 : OwnR TS (putRow encStr (Sort.ahead w q) g 0 (compact zs ++ List.replicate (zs.length - (compact zs).length) []).toArray) B (.slice (some ⟨g, 0, none⟩) zs.length cap) ((compact zs ++ List.replicate (zs.length - (compact zs).length) []).map baOf) := own_enc.2 (by rw [hm]; exact ho)
    have hg := grownBy_resorted (n := q) (os := #[]) encStr (w := w) (g := g) (compact zs ++ List.replicate (zs.length - (compact zs).length) []).toArray
    rw [grow_none] at hg
    refine ⟨⟨_, rfl, ?_⟩, hg⟩
    have hk : ((compact zs).map baOf).length = (compact zs).length := List.length_map _
    have ht := top_ofR TS.ok (n := (compact zs).length) (l := (compact zs).map baOf) ho2 (by rw [List.length_map]; exact hm) hpos hck (by rw [List.map_append, ← hk, List.take_left])
    exact ht.own TS.ok
set_option maxHeartbeats 4000000 in
set_option maxRecDepth 100000 in
theorem rboards_any (L : Loc) (r : RSt) (N : Nat) (key : ByteArray) (w : World) (h : StR w L r N) (hT : r.T.length ≤ 1000000) :
    Calls Tryz.prog 106 #[.pointer (some ⟨L.S, 0, none⟩), .string key] w fun e w' => (∃ v, e = .returned v ∧ OwnR TS w' w.heap.size v ((brdO r.T key).map baOf)) ∧ Below w.heap.size w w' := by
  obtain ⟨tv, hb3, hO⟩ := h.tv
  have c3 : w.cell? ⟨L.S, 3, none⟩ = some tv := blk_cell hb3 3
  have lS := h.lt.1
  obtain ⟨T, hTT⟩ : ∃ T, T = r.T := ⟨_, rfl⟩
  rw [← hTT] at hO hT ⊢
  obtain ⟨ta, tc, rfl, _, _⟩ := hO.form
  have HT := Lib.hid (fun W (hW : Below w.heap.size w W) => hO.rec0.below hW)
  clear h hO hb3 hTT
  go_enter Tryz.func106, Tryz.ntmps106
  go_wp2_with fail
  go_loopw [5, 13] (fun ov i wr => ∃ k : Nat, k ≤ T.length ∧ i = .int .i64 k ∧ Hid (OwnR TS wr w.heap.size ov ((namesO (T.take k) key).map baOf)) ∧ Hid (Below w.heap.size w wr)) (fun _ i _ => T.length - (intOf i).toNat)
  case atStart => exact ⟨0, Nat.zero_le _, rfl, Lib.hid (OwnR.nil _ _), Lib.hid (Below.refl _ _)⟩
  case round =>
    obtain ⟨k, hk, rfl, HO, HB⟩ := hrel
    by_cases hlt : k < T.length
    case neg =>
      obtain rfl : k = T.length := by omega
      rw [List.take_length] at HO
      have hnl := namesO_len T key
      have HS := Lib.hid (SortS_any (namesO T key) w.heap.size _ wr HO.out (by omega))
      have HC := Lib.hid (fun v W (hW : OwnR TS W w.heap.size v (((namesO T key).mergeSort leB).map baOf)) => CompactS_any _ w.heap.size v W hW (by simp; omega))
      obtain ⟨oa, oc, hov, _, _⟩ := HO.out.form
      rw [List.length_map] at hov
      subst hov
      go_wp2_with fail
      refine HS.out.mono ?_
      rintro e w2 ⟨rfl, hO2, hg2⟩
      have HB2 := Lib.hid (HB.out.trans (app_belowR HO.out hg2 HB.out.size))
      have HC2 := Lib.hid (HC.out _ w2 hO2)
      have HO2 := Lib.hid hO2
      clear hg2 hO2 HC HS
      go_wp2_with fail
      refine HC2.out.mono ?_
      rintro e w3 ⟨⟨v, rfl, hO3⟩, hg3⟩
      have HF := Lib.hid (And.intro hO3 (HB2.out.trans (app_belowR HO2.out hg3 HB2.out.size)))
      clear hO3 hg3 HC2
      go_wp2
      go_ret
      exact ⟨⟨_, rfl, HF.out.1⟩, HF.out.2⟩
    obtain ⟨t, ht⟩ : ∃ z, T[k]? = some z := ⟨_, List.getElem?_eq_getElem hlt⟩
    have HSN := Lib.hid (namesO_take ht key)
    have hal : (namesO (T.take k) key).length ≤ 1000000 := by
      have h1 := namesO_len (T.take k) key
      rw [List.length_take] at h1
      omega
    obtain ⟨b1, o1, hae, _, hb1', hc1'⟩ := (HT.out wr HB.out).at TTk.ok.len ht TTk.ok.pos
    subst hae
    obtain ⟨ti, ta, tb, tf, tr, tm⟩ := t
    have c0 : wr.cell? ⟨b1, o1 + k * 6, none⟩ = some (.int .i64 ti) := hc1' 0 _ rfl
    have c1 : wr.cell? ⟨b1, o1 + k * 6 + 1, none⟩ = some (.int .i64 ta) := hc1' 1 _ rfl
    have c2 : wr.cell? ⟨b1, o1 + k * 6 + 2, none⟩ = some (.string tb) := hc1' 2 _ rfl
    have c3' : wr.cell? ⟨b1, o1 + k * 6 + 3, none⟩ = some (.string tf) := hc1' 3 _ rfl
    have c4 : wr.cell? ⟨b1, o1 + k * 6 + 4, none⟩ = some (.string tr) := hc1' 4 _ rfl
    have c5 : wr.cell? ⟨b1, o1 + k * 6 + 5, none⟩ = some (.int .i64 tm) := hc1' 5 _ rfl
    have hw1 : IntKind.i64.wrap ((k : Int) + 1) = ((k + 1 : Nat) : Int) := by rw [IntWalk.i64_in _ (by omega)]; omega
    obtain ⟨w5, hw5⟩ : ∃ w5, w5 = wr.alloc (.cells #[.int .i64 ti, .int .i64 ta, .string tb, .string tf, .string tr, .int .i64 tm] 171) := ⟨_, rfl⟩
    have hb5 : Below wr.heap.size wr w5 := by rw [hw5]; exact Bl.alloc (Below.refl _ _) _
    have hX5 : w5.heap[wr.heap.size]? = some (.cells #[.int .i64 ti, .int .i64 ta, .string tb, .string tf, .string tr, .int .i64 tm] 171 (0, 0)) := by rw [hw5]; exact blk_new wr _
    have y2 := blk_cell hX5 2
    have y4 := blk_cell hX5 4
    simp at y2 y4
    have hz5 := blk_lt hX5
    have HO5 := Lib.hid (And.intro (HO.out.below hb5) (Bl.trans HB.out hb5))
    have hsz := HB.out.size
    obtain ⟨oa, oc, hov, _, _⟩ := HO.out.form
    rw [List.length_map] at hov
    subst hov
    simp only at HSN
    clear ht hc1' hb5 hX5
    by_cases htb : tr = key
    case neg =>
      rw [if_neg htb, List.append_nil] at HSN
      obtain ⟨hq, hq2⟩ := str_ne htb
      clear htb
      go_wp2_with fail
      rw [← hw5]
      clear hw5
      go_wp2
      go_roundw
      case rel => exact ⟨k + 1, by omega, by go_num, Lib.hid (by rw [HSN.out]; exact HO5.out.1), Lib.hid HO5.out.2⟩
      case measure => simp [intOf]; omega
    case pos =>
      rw [if_pos htb] at HSN
      subst htb
      have hq : (tr.toList == tr.toList) = true := by simp
      subst hw5
      go_wp2_with (at_builtin; refine wp_app_rec TS.ok rfl _ _ rfl w.heap.size _ ((namesO (T.take k) tr).map baOf) rfl (HO5.out.1.alloc _) (wr.heap.size + 1) 1 tb rfl (blk_new' _ _ (by simp)) rfl (by rw [List.length_map]; exact hal) (by simp; omega) ?_)
      intro v9 w9 hO9 hA9 hb9
      have HO9 := Lib.hid hO9
      have HB9 := Lib.hid ((Bl.alloc HO5.out.2 _).trans hb9)
      clear hO9 hA9 hb9
      go_wp2
      go_roundw
      case rel => exact ⟨k + 1, by omega, by go_num, Lib.hid (by rw [HSN.out, List.map_append]; have e : baOf (bsOf tb) = tb := by { unfold baOf bsOf; simp }; rw [List.map_singleton, e]; exact HO9.out), HB9⟩
      case measure => simp [intOf]; omega
set_option maxHeartbeats 4000000 in
set_option maxRecDepth 100000 in
theorem BoardsOfR_any (rs : List Rel) (l : List Fed) (f : ByteArray) (vr vl : Value) (w : World) (rr : RecR TRe w 0 vr rs) (rl : RecR TFe w 0 vl l) (h : OkF rs l) (hln : l.length ≤ 900) :
    Calls Tryz.prog 57 #[vr, vl, .string f] w fun e w' => (∃ v, e = .returned v ∧ OwnR TS w' w.heap.size v ((brdO (runM 345686400000 (newM rs) 0 l).log f).map baOf)) ∧ Below w.heap.size w w' := by
  have HST := Lib.hid (stored_any rs l 345686400000 vr vl w rr rl h.rn h.rz hln h.lz)
  have HLN := Lib.hid hln
  obtain ⟨ra, rc, rfl, _, _⟩ := rr.form
  obtain ⟨la, lc, rfl, _, _⟩ := rl.form
  clear rr rl h hln
  go_enter Tryz.func57, Tryz.ntmps57
  go_wp2_with fail
  refine HST.out.mono ?_
  rintro e w3 ⟨L, ov, wv, rfl, ⟨r, N, hS, hR⟩, hI, -, -, hb3⟩
  have hfew : (runM 345686400000 (newM rs) 0 l).log.length ≤ 1000000 := by
    have h2 := hI.ll
    have h3 : l.length * l.length ≤ 900 * 900 := Nat.mul_le_mul HLN.out HLN.out
    omega
  have HLO := Lib.hid (rboards_any L r N f w3 hS (by rw [hR.log]; exact hfew))
  rw [hR.log] at HLO
  have HB3 := Lib.hid hb3
  clear hS hR hI hb3 hfew HST
  go_wp2_with fail
  refine HLO.out.mono ?_
  rintro e w4 ⟨⟨v, rfl, hO⟩, hb4⟩
  have HFF := Lib.hid (And.intro (hO.base HB3.out.size) (Bl.trans HB3.out hb4))
  clear hO hb4 HLO
  go_wp2
  go_ret
  exact ⟨⟨_, rfl, HFF.out.1⟩, HFF.out.2⟩
end Go.Proofs.YtcfeoapbbkfbnaaGreatDoor
