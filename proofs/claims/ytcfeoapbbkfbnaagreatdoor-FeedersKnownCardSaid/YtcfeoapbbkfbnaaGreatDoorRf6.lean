/- Which reels are idle: the reference's answer. Conditions: right reels and events, at most 900 events. -/
import Derived.Test.YtcfeoapbbkfbnaaGreatDoorRf5
namespace Go.Proofs.YtcfeoapbbkfbnaaGreatDoor
open Go.RowKit Go.Sort Go.Maps

set_option maxHeartbeats 8000000 in
set_option maxRecDepth 100000 in
theorem IdleOf_any (rs : List Rel) (l : List Fed) (t : Int) (vr vl : Value) (w : World) (rr : RecR TRe w 0 vr rs) (rl : RecR TFe w 0 vl l) (h : OkF rs l) (hln : l.length ≤ 900) :
    Calls Tryz.prog 33 #[vr, vl, .int .i64 t] w fun e w' => (∃ v, e = .returned v ∧ OwnR TS w' w.heap.size v (idleM (runM t (newM rs) 0 l) rs)) ∧ Below w.heap.size w w' := by
  have HST := Lib.hid (stored_any rs l t vr vl w rr rl h.rn h.rz hln h.lz)
  have HLN := Lib.hid hln
  have HRN := Lib.hid h.rn
  have HRZ := Lib.hid h.rz
  have RR := Lib.hid rr
  obtain ⟨A, hA⟩ : ∃ A, A = runM t (newM rs) 0 l := ⟨_, rfl⟩
  rw [← hA] at HST ⊢
  obtain ⟨ra, rc, rfl, _, _⟩ := rr.form
  obtain ⟨la, lc, rfl, _, _⟩ := rl.form
  clear rr rl h hln hA
  go_enter Tryz.func33, Tryz.ntmps33
  go_wp2_with fail
  refine HST.out.mono ?_
  rintro e w3 ⟨L, ov, wv, rfl, ⟨r, N, hS, hR⟩, hI, -, -, hb3⟩
  have HWH := Lib.hid (fun W (hW : Below w3.heap.size w3 W) (nm : ByteArray) => where_any L r N l.length A nm W (hS.low hW) hR hI HLN.out)
  have HS := Lib.hid hS
  have HR := Lib.hid hR
  have HI := Lib.hid hI
  have HB3 := Lib.hid hb3
  clear hS hR hI hb3 HST
  go_wp2_with fail
  go_loopw [10, 23] (fun ov v wr => ∃ k : Nat, k ≤ rs.length ∧ v = .int .i64 k ∧ Hid (OwnR TS wr w3.heap.size ov (idleM A (rs.take k)) ∧ Below w3.heap.size w3 wr)) (fun _ v _ => rs.length - (intOf v).toNat)
  case atStart => exact ⟨0, Nat.zero_le _, rfl, Lib.hid ⟨OwnR.nil _ _, Below.refl _ _⟩⟩
  case round =>
    obtain ⟨k, hk, rfl, HQ⟩ := hrel
    by_cases hlt : k < rs.length
    case neg =>
      obtain rfl : k = rs.length := by omega
      have HF := Lib.hid (show OwnR TS wr w.heap.size u10 (idleM A rs) ∧ Below w.heap.size w wr from ⟨by have := HQ.out.1; rw [List.take_length] at this; exact this.base HB3.out.size, Bl.trans HB3.out HQ.out.2⟩)
      clear HQ
      go_wp2
      go_ret
      exact ⟨⟨_, rfl, HF.out.1⟩, HF.out.2⟩
    obtain ⟨x, hx⟩ : ∃ z, rs[k]? = some z := ⟨_, List.getElem?_eq_getElem hlt⟩
    obtain ⟨b1, o1, hae, _, hb1, hc1⟩ := (RR.out.below (Bl.trans HB3.out HQ.out.2)).at TRe.ok.len hx TRe.ok.pos
    subst hae
    have hxz := HRZ.out x (List.mem_of_getElem? hx)
    have HADD : Hid (idleM A (rs.take (k + 1)) = idleM A (rs.take k) ++ (if idleB A x = true then [x.1] else [])) := Lib.hid (by rw [List.take_add_one, hx, Option.toList_some, idleM_add])
    have HFEW : Hid ((idleM A (rs.take k)).length ≤ 1000) := Lib.hid (by have h1 := idleM_few A (rs.take k); rw [List.length_take] at h1; have := HRN.out; omega)
    obtain ⟨nm, pt, ct⟩ := x
    have c0 : wr.cell? ⟨b1, o1 + k * 3, none⟩ = some (.string nm) := hc1 0 _ rfl
    have c1 : wr.cell? ⟨b1, o1 + k * 3 + 1, none⟩ = some (.string pt) := hc1 1 _ rfl
    have c2 : wr.cell? ⟨b1, o1 + k * 3 + 2, none⟩ = some (.int .i64 ct) := hc1 2 _ rfl
    have hw1 : IntKind.i64.wrap ((k : Int) + 1) = ((k + 1 : Nat) : Int) := by have := HRN.out; rw [IntWalk.i64_in _ (by omega)]; omega
    obtain ⟨w4, hw4⟩ : ∃ w4, w4 = wr.alloc (.cells #[.string nm, .string pt, .int .i64 ct] 73) := ⟨_, rfl⟩
    have hb4 : Below wr.heap.size wr w4 := by rw [hw4]; exact Bl.alloc (Below.refl _ _) _
    have hx4 : w4.heap[wr.heap.size]? = some (.cells #[.string nm, .string pt, .int .i64 ct] 73 (0, 0)) := by rw [hw4]; exact blk_new wr _
    have HB4 := Lib.hid (Bl.trans HQ.out.2 hb4)
    have HX4 := Lib.hid hx4
    have HO4 := Lib.hid (HQ.out.1.below hb4)
    have hS4 := HS.out.low HB4.out
    have hnm : nm.size ≤ maxLen := Nat.le_trans hxz.1 (by unfold maxLen; omega)
    have HNM := Lib.hid hnm
    have a1' : w4.cell? ⟨L.S, 1, none⟩ = some (.map (some L.m1)) := hS4.cells.2.1
    have x0' : w4.cell? ⟨wr.heap.size, 0, none⟩ = some (.string nm) := blk_cell hx4 0
    have a1 := cell_regrown a1'
    have x0 := cell_regrown x0'
    clear a1' x0'
    have HS4 := Lib.hid hS4
    obtain ⟨pv, hpv⟩ : ∃ pv, pv = A.pos nm := ⟨_, rfl⟩
    obtain ⟨pn, hpn⟩ : ∃ pn, pn = A.left nm := ⟨_, rfl⟩
    have HW4 : Hid (∀ d os, Calls Tryz.prog 84 #[.pointer (some ⟨L.S, 0, none⟩), .string nm] (grow (redrawn w4 d) os) fun e w'' => e = .returned (.string pv) ∧ ∃ p : Regrown, w'' = grow (redrawn w4 p.d) p.os) := Lib.hid fun d os => Calls.regrown_of (by rw [hpv]; exact HWH.out _ (Bl.trans HB4.out (below_regrown w4 d os)) nm)
    have hlf : ∀ d os, (Instr.lookup 128 (.map (some L.m1)) (.string nm) false).run Tryz.prog (grow (redrawn w4 d) os) = .ok (.int .i64 pn) (grow (redrawn w4 d) os) := fun d os => by rw [hpn, ← HR.out.left]; exact hS4.leftB nm hnm _ (below_regrown w4 d os)
    have lS := hS4.lt.1
    have lx := blk_lt hx4
    have HIB : Hid (idleB A (nm, pt, ct) = (decide (pv = ByteArray.empty) && decide (0 < pn))) := Lib.hid (by rw [hpv, hpn]; rfl)
    have HAPP : Hid (∀ W v9 w9, Below w3.heap.size w3 W → OwnR TS W w3.heap.size u10 (idleM A (rs.take k)) → idleB A (nm, pt, ct) = true → OwnR TS w9 w3.heap.size v9 (idleM A (rs.take k) ++ [nm]) → (W.alloc (.cells #[.string nm] 9)).grownBy w9 u10.ownBlock → OwnR TS w9 w3.heap.size v9 (idleM A (rs.take (k + 1))) ∧ Below w3.heap.size w3 w9) := Lib.hid fun W v9 w9 hW hO hB hO9 hg => ⟨by rw [HADD.out, if_pos hB]; exact hO9, Below.trans (Bl.alloc hW _) (app_belowR (hO.alloc _) hg (by have := hW.size; simp; omega))⟩
    have HN9 : Hid (idleB A (nm, pt, ct) = false → ∀ W, Below w4.heap.size w4 W → OwnR TS W w3.heap.size u10 (idleM A (rs.take (k + 1))) ∧ Below w3.heap.size w3 W) := Lib.hid fun h W hW => ⟨by rw [HADD.out, if_neg (by rw [h]; decide), List.append_nil]; exact HO4.out.below hW, Bl.trans HB4.out hW⟩
    clear hx hc1 hxz hb4 hx4 hS4 hnm hpv hpn HQ
    by_cases h0 : pv = ByteArray.empty
    case neg =>
      have h1 : ¬ pv.toList = [] := fun e => h0 ((ba_nil _).2 e)
      have h2 : pv.toList.isEmpty = false := by cases hq : pv.toList with | nil => exact absurd hq h1 | cons x y => rfl
      have HI0 : Hid (idleB A (nm, pt, ct) = false) := Lib.hid (by rw [HIB.out, decide_eq_false h0]; rfl)
      clear h0
      go_wp2_with fail
      rw [← hw4]
      clear hw4
      refine wp_region_quiet_below (by kernel_rfl) (by kernel_rfl) ?_
      repeat (go_big_quiet_step (exact HW4.out _ _))
      refine wpQuiet_nil ?_
      intro w5 hw'
      obtain ⟨⟨dq, osq⟩, hw''⟩ := hw'
      have HB45 : Hid (Below w4.heap.size w4 w5) := Lib.hid (hw'' ▸ below_regrown w4 dq osq)
      clear hw'' a1 x0 hlf HW4
      have HF9 := Lib.hid (HN9.out HI0.out _ HB45.out)
      clear HN9 HAPP
      go_wp2
      go_roundw
      case rel => exact ⟨k + 1, by omega, by go_num, HF9⟩
      case measure => simp [intOf]; omega
    have h1 := (ba_nil _).1 h0
    have h2 : pv.toList.isEmpty = true := by rw [h1]; rfl
    have HIB2 : Hid (idleB A (nm, pt, ct) = decide (0 < pn)) := Lib.hid (by rw [HIB.out, decide_eq_true h0]; rfl)
    clear h0
    by_cases hpp : 0 < pn
    case pos =>
      have HI1 : Hid (idleB A (nm, pt, ct) = true) := Lib.hid (by rw [HIB2.out, decide_eq_true hpp])
      go_wp2_with fail
      rw [← hw4]
      clear hw4
      refine wp_region_quiet_below (by kernel_rfl) (by kernel_rfl) ?_
      repeat (go_big_quiet_step (exact HW4.out _ _))
      refine wpQuiet_nil ?_
      intro w5 hw'
      obtain ⟨⟨dq, osq⟩, hw''⟩ := hw'
      have HB45 : Hid (Below w4.heap.size w4 w5) := Lib.hid (hw'' ▸ below_regrown w4 dq osq)
      clear hw'' a1 x0 hlf HW4
      have HB6 : Hid (Below w3.heap.size w3 w5) := Lib.hid (Bl.trans HB4.out HB45.out)
      have hx6 := blk_below HX4.out HB45.out
      have y0 : w5.cell? ⟨wr.heap.size, 0, none⟩ = some (.string nm) := blk_cell hx6 0
      have ly := blk_lt hx6
      have hal : (idleM A (rs.take k)).length ≤ 1000000 := by have := HFEW.out; omega
      have hzz := HB6.out.size
      have HO6 := Lib.hid (HO4.out.below HB45.out)
      clear hx6
      obtain ⟨oa, oc, hov, _, _⟩ := HO6.out.form
      subst hov
      go_wp2_with (at_builtin; refine wp_app_r TS.ok rfl _ _ rfl w3.heap.size _ (idleM A (rs.take k)) rfl (HO6.out.alloc _) w5.heap.size 1 nm rfl (blk_new w5 _) rfl hal (by simp; omega) ?_)
      intro v9 w9 hO9 hg9 _
      have HF9 := Lib.hid (HAPP.out w5 v9 w9 HB6.out HO6.out HI1.out hO9 hg9)
      clear hO9 hg9 HAPP
      go_wp2
      go_roundw
      case rel => exact ⟨k + 1, by omega, by go_num, HF9⟩
      case measure => simp [intOf]; omega
    case neg =>
      have HI0 : Hid (idleB A (nm, pt, ct) = false) := Lib.hid (by rw [HIB2.out, decide_eq_false hpp])
      go_wp2_with fail
      rw [← hw4]
      clear hw4
      refine wp_region_quiet_below (by kernel_rfl) (by kernel_rfl) ?_
      repeat (go_big_quiet_step (exact HW4.out _ _))
      refine wpQuiet_nil ?_
      intro w5 hw'
      obtain ⟨⟨dq, osq⟩, hw''⟩ := hw'
      have HB45 : Hid (Below w4.heap.size w4 w5) := Lib.hid (hw'' ▸ below_regrown w4 dq osq)
      clear hw'' a1 x0 hlf HW4
      have HF9 := Lib.hid (HN9.out HI0.out _ HB45.out)
      clear HN9 HAPP
      go_wp2
      go_roundw
      case rel => exact ⟨k + 1, by omega, by go_num, HF9⟩
      case measure => simp [intOf]; omega
end Go.Proofs.YtcfeoapbbkfbnaaGreatDoor
