/- Idle: the reels that are in no feeder and have components left. Conditions: at most 900 events. -/
import Derived.Test.YtcfeoapbbkfbnaaGreatDoorRp1
namespace Go.Proofs.YtcfeoapbbkfbnaaGreatDoor
open Go.RowKit Go.Sort Go.Maps

theorem askF_mom {E : Int} {mom : Bool} {e : Int} (h : askF E true mom e = 0) : E = 0 ∧ mom = true := by
  unfold askF at h
  split at h
  · rename_i h0
    rw [if_neg (by decide)] at h
    split at h
    · cases h
    · rename_i h2; exact ⟨h0, by simpa using h2⟩
  · rename_i h0; exact absurd h h0
/-- whether a reel is in no feeder and has components. -/
def idleB (A : Mdl) (x : Rel) : Bool := decide (A.pos x.1 = ByteArray.empty) && decide (0 < A.left x.1)
def idleM (A : Mdl) (rs : List Rel) : List ByteArray := (rs.filter (idleB A)).map (·.1)
theorem idleM_add (A : Mdl) (rs : List Rel) (x : Rel) : idleM A (rs ++ [x]) = idleM A rs ++ (if idleB A x = true then [x.1] else []) := by
  unfold idleM
  rw [List.filter_append, List.map_append]
  congr 1
  by_cases h : idleB A x = true
  · rw [if_pos h, List.filter_cons_of_pos h]; rfl
  · rw [if_neg h, List.filter_cons_of_neg h]; rfl
theorem idleM_few (A : Mdl) (rs : List Rel) : (idleM A rs).length ≤ rs.length := by
  unfold idleM
  rw [List.length_map]
  exact List.length_filter_le _ _
set_option maxHeartbeats 8000000 in
set_option maxRecDepth 100000 in
theorem Idle_any (rs : List Rel) (l : List Fed) (t : Int) (vr vl : Value) (w : World) (hlr : rs.length ≤ 1000000) (hl : l.length ≤ 900) (rr : RecR TRe w 0 vr rs) (rl : RecR TFe w 0 vl l) (hzr : RelZ rs) (hz : FedZ l) :
    Calls Tryz.prog 20 #[vr, vl, .int .i64 t] w fun e w' => (∃ v, e = .returned (.tuple #[v, .int .i64 (askF (feedsF rs l) true (inB 0 t 345686399999) 0)]) ∧ OwnR TS w' w.heap.size v (if askF (feedsF rs l) true (inB 0 t 345686399999) 0 = 0 then idleM (runM t (newM rs) 0 l) rs else [])) ∧ Below w.heap.size w w' := by
  have HFA := Lib.hid (momentFaultL_any rs l t vr vl w hlr (by omega) rr rl hzr hz)
  have RR := Lib.hid rr
  have RL := Lib.hid rl
  have HLN := Lib.hid hl
  obtain ⟨ra, rc, rfl, _, _⟩ := rr.form
  obtain ⟨la, lc, rfl, _, _⟩ := rl.form
  obtain ⟨E, hE⟩ : ∃ E, E = askF (feedsF rs l) true (inB 0 t 345686399999) 0 := ⟨_, rfl⟩
  rw [← hE] at HFA ⊢
  obtain ⟨A, hA⟩ : ∃ A, A = runM t (newM rs) 0 l := ⟨_, rfl⟩
  have HAT := Lib.hid (fun W (hW : Below w.heap.size w W) (h : OkF rs l) => storeAt_any rs l t _ _ W (RR.out.below hW) (RL.out.below hW) h HLN.out)
  have HAA := Lib.hid hA
  rw [← hA]
  by_cases h0 : E = 0
  case neg =>
    have hb : (E == 0) = false := by simp [h0]
    clear rr rl hE hA
    go_enter Tryz.func20, Tryz.ntmps20
    go_wp2_with fail
    refine HFA.out.mono ?_
    rintro e w2 ⟨rfl, hb2⟩
    have HB := Lib.hid hb2
    clear hb2
    go_wp2
    go_ret2
    exact ⟨⟨_, rfl, OwnR.nil _ _⟩, HB.out⟩
  have hok : OkF rs l := feedsF_right (askF_mom (hE ▸ h0)).1
  have HOK : Hid (OkF rs l) := Lib.hid hok
  have HRN := Lib.hid hok.rn
  have HRZ := Lib.hid hok.rz
  subst h0
  have HV : Hid (∀ W v, OwnR TS W w.heap.size v (idleM A rs) → OwnR TS W w.heap.size v (if (0 : Int) = 0 then idleM A rs else [])) := Lib.hid fun W v h => by rw [if_pos rfl]; exact h
  clear rr rl hE hA hok
  go_enter Tryz.func20, Tryz.ntmps20
  go_wp2_with fail
  refine HFA.out.mono ?_
  rintro e w2 ⟨rfl, hb1⟩
  have HB2 := Lib.hid hb1
  clear hb1
  go_wp2_with fail
  refine (HAT.out w2 HB2.out HOK.out).mono ?_
  rintro e w3 ⟨L, rfl, h3⟩
  obtain ⟨s, N, hS, hR⟩ := h3.st
  have hI := h3.inv
  rw [← HAA.out] at hR hI
  have HS := Lib.hid hS
  have HR := Lib.hid hR
  have HI := Lib.hid hI
  have HB3 := Lib.hid (Bl.trans HB2.out h3.bel)
  clear hS hR hI h3 HAT HFA
  go_wp2_with fail
  go_loopw [10, 28] (fun ov v wr => ∃ k : Nat, k ≤ rs.length ∧ v = .int .i64 k ∧ Hid (OwnR TS wr w3.heap.size ov (idleM A (rs.take k)) ∧ Below w3.heap.size w3 wr)) (fun _ v _ => rs.length - (intOf v).toNat)
  case atStart => exact ⟨0, Nat.zero_le _, rfl, Lib.hid ⟨OwnR.nil _ _, Below.refl _ _⟩⟩
  case round =>
    obtain ⟨k, hk, rfl, HQ⟩ := hrel
    by_cases hlt : k < rs.length
    case neg =>
      obtain rfl : k = rs.length := by omega
      have HF := Lib.hid (show OwnR TS wr w.heap.size u10 (idleM A rs) ∧ Below w.heap.size w wr from ⟨by have := HQ.out.1; rw [List.take_length] at this; exact this.base HB3.out.size, Bl.trans HB3.out HQ.out.2⟩)
      clear HQ
      go_wp2
      go_ret2
      exact ⟨⟨_, rfl, HV.out _ _ HF.out.1⟩, HF.out.2⟩
    obtain ⟨x, hx⟩ : ∃ z, rs[k]? = some z := ⟨_, List.getElem?_eq_getElem hlt⟩
    obtain ⟨b1, o1, hae, _, hb1, hc1⟩ := (RR.out.below (Bl.trans HB3.out HQ.out.2)).at TRe.ok.len hx TRe.ok.pos
    subst hae
    have hxz := HRZ.out x (List.mem_of_getElem? hx)
    have HADD : Hid (idleM A (rs.take (k + 1)) = idleM A (rs.take k) ++ (if idleB A x = true then [x.1] else [])) := Lib.hid (by rw [List.take_add_one, hx, Option.toList_some, idleM_add])
    have HFEW : Hid ((idleM A (rs.take k)).length ≤ 1000) := Lib.hid (by have h1 := idleM_few A (rs.take k); rw [List.length_take] at h1; have := HRN.out; omega)
    obtain ⟨nm, pt, ct⟩ := x
    have c0 : wr.cell? ⟨b1, o1 + k * 3, none⟩ = some (.string nm) := hc1 0 _ rfl
    have c1 : wr.cell? ⟨b1, o1 + k * 3 + 1, none⟩ = some (.string pt) := hc1 1 _ rfl
    have c2 : wr.cell? ⟨b1, o1 + k * 3 + 2, none⟩ = some (.int .i64 ct) := hc1 2 _ rfl
    have hw1 : IntKind.i64.wrap ((k : Int) + 1) = ((k + 1 : Nat) : Int) := by have := HRN.out; rw [IntWalk.i64_in _ (by omega)]; omega
    obtain ⟨w4, hw4⟩ : ∃ w4, w4 = wr.alloc (.cells #[.string nm, .string pt, .int .i64 ct] 73) := ⟨_, rfl⟩
    have hb4 : Below wr.heap.size wr w4 := by rw [hw4]; exact Bl.alloc (Below.refl _ _) _
    have hx4 : w4.heap[wr.heap.size]? = some (.cells #[.string nm, .string pt, .int .i64 ct] 73 (0, 0)) := by rw [hw4]; exact blk_new wr _
    have HB4 := Lib.hid (Bl.trans HQ.out.2 hb4)
    have HX4 := Lib.hid hx4
    have HO4 := Lib.hid (HQ.out.1.below hb4)
    have hS4 := HS.out.low HB4.out
    have hnm : nm.size ≤ maxLen := Nat.le_trans hxz.1 (by unfold maxLen; omega)
    have HNM := Lib.hid hnm
    obtain ⟨q, b, hlk, hqb⟩ : ∃ (q : ByteArray) (b : Bool), (∀ m, (Instr.lookup 125 (.map (some L.m1)) (.string nm) true).run Tryz.prog (w4.drewN m) = .ok (.tuple #[.string q, .bool b]) (w4.drewN m)) ∧ b = decide (A.pos nm ≠ ByteArray.empty) := by
      refine ⟨(s.P.get nm.data.toList).getD ByteArray.empty, s.P.has nm.data.toList, fun m => (hS4.low (Bl.drewN (Below.refl _ _) m)).sb.mP.look_ok TMs.ok nm hnm, ?_⟩
      unfold Sm.has
      rw [HR.out.pos]
      by_cases h0 : A.pos nm = ByteArray.empty
      · rw [if_pos h0, h0]; rfl
      · rw [if_neg h0]; simp [h0]
    have a1 : w4.cell? ⟨L.S, 1, none⟩ = some (.map (some L.m1)) := hS4.cells.2.1
    have x0 : w4.cell? ⟨wr.heap.size, 0, none⟩ = some (.string nm) := blk_cell hx4 0
    have lS := hS4.lt.1
    have lx := blk_lt hx4
    have hidb : idleB A (nm, pt, ct) = (!b && decide (0 < A.left nm)) := by rw [hqb]; unfold idleB; simp
    have HIB := Lib.hid hidb
    clear hx hc1 hxz hb4 hx4 hS4 hnm hqb hidb HQ
    go_wp2_with fail
    rw [← hw4]
    clear hw4
    go_quiet (fail)
    clear hlk a1 x0 lS lx
    have HB5 : Hid (Below w4.heap.size w4 (w4.drewN nq)) := Lib.hid (Bl.drewN (Below.refl _ _) _)
    have hS5 := HS.out.low (Bl.trans HB4.out HB5.out)
    have hx5 := blk_below HX4.out HB5.out
    have x0 : (w4.drewN nq).cell? ⟨wr.heap.size, 0, none⟩ = some (.string nm) := blk_cell hx5 0
    have a0 : (w4.drewN nq).cell? ⟨L.S, 0, none⟩ = some (.map (some L.m0)) := hS5.cells.1
    have lS := hS5.lt.1
    have lx := blk_lt hx5
    have HO5 := Lib.hid (HO4.out.below HB5.out)
    have HS5 := Lib.hid hS5
    have HX5 := Lib.hid hx5
    have HB35 := Lib.hid (Bl.trans HB4.out HB5.out)
    clear hS5 hx5 HO4 HB5 HB4 HX4
    generalize w4.drewN nq = w5 at *
    have HAPP : Hid (∀ W v9 w9, Below w3.heap.size w3 W → OwnR TS W w3.heap.size u10 (idleM A (rs.take k)) → idleB A (nm, pt, ct) = true → OwnR TS w9 w3.heap.size v9 (idleM A (rs.take k) ++ [nm]) → (W.alloc (.cells #[.string nm] 9)).grownBy w9 u10.ownBlock → OwnR TS w9 w3.heap.size v9 (idleM A (rs.take (k + 1))) ∧ Below w3.heap.size w3 w9) := Lib.hid fun W v9 w9 hW hO hB hO9 hg => ⟨by rw [HADD.out, if_pos hB]; exact hO9, Below.trans (Bl.alloc hW _) (app_belowR (hO.alloc _) hg (by have := hW.size; simp; omega))⟩
    have HN9 : Hid (idleB A (nm, pt, ct) = false → ∀ W, Below w5.heap.size w5 W → OwnR TS W w3.heap.size u10 (idleM A (rs.take (k + 1))) ∧ Below w3.heap.size w3 W) := Lib.hid fun h W hW => ⟨by rw [HADD.out, if_neg (by rw [h]; decide), List.append_nil]; exact HO5.out.below hW, Bl.trans HB35.out hW⟩
    cases b with
    | true =>
      have HI0 : Hid (idleB A (nm, pt, ct) = false) := Lib.hid (by rw [HIB.out]; rfl)
      go_wp2_with fail
      go_quiet (fail)
      have HF9 := Lib.hid (HN9.out HI0.out _ (Bl.drewN (Below.refl _ _) nq))
      clear HN9 HAPP
      go_wp2
      go_roundw
      case rel => exact ⟨k + 1, by omega, by go_num, HF9⟩
      case measure => simp [intOf]; omega
    | false =>
      obtain ⟨qk, hpq0⟩ := HS5.out.reelB nm HNM.out
      have hpq := fun m => hpq0 _ (Bl.drewN (Below.refl w5.heap.size w5) m)
      rw [HR.out.left] at hpq
      obtain ⟨pn, hpne⟩ : ∃ pn, pn = A.left nm := ⟨_, rfl⟩
      obtain ⟨pq, hpqe⟩ : ∃ pq, pq = ptO s.R nm := ⟨_, rfl⟩
      rw [← hpne, ← hpqe] at hpq
      have hfi : ∀ (a b : ByteArray) (m : Int) (W : World), (Instr.field 73 (.agg #[.string a, .string b, .int .i64 m]) 2).run Tryz.prog W = .ok (.int .i64 m) W := fun _ _ _ _ => rfl
      have HIB2 : Hid (idleB A (nm, pt, ct) = decide (0 < pn)) := Lib.hid (by rw [HIB.out, hpne]; rfl)
      clear hpq0 hpqe hpne
      by_cases hpp : 0 < pn
      · have HI1 : Hid (idleB A (nm, pt, ct) = true) := Lib.hid (by rw [HIB2.out, decide_eq_true hpp])
        go_wp2_with fail
        go_quiet (fail)
        have HB6 : Hid (Below w3.heap.size w3 (w5.drewN nq)) := Lib.hid (Bl.drewN HB35.out _)
        have hx6 := blk_below HX5.out (Bl.drewN (Below.refl w5.heap.size w5) nq)
        have y0 : (w5.drewN nq).cell? ⟨wr.heap.size, 0, none⟩ = some (.string nm) := blk_cell hx6 0
        have ly := blk_lt hx6
        have hal : (idleM A (rs.take k)).length ≤ 1000000 := by have := HFEW.out; omega
        have hzz := HB6.out.size
        have HO6 := Lib.hid (HO5.out.below (Bl.drewN (Below.refl w5.heap.size w5) nq))
        clear hx6 x0 a0 lx lS hpq
        generalize w5.drewN nq = w6 at *
        obtain ⟨oa, oc, hov, _, _⟩ := HO6.out.form
        subst hov
        go_wp2_with (at_builtin; refine wp_app_r TS.ok rfl _ _ rfl w3.heap.size _ (idleM A (rs.take k)) rfl (HO6.out.alloc _) w6.heap.size 1 nm rfl (blk_new w6 _) rfl hal (by simp; omega) ?_)
        intro v9 w9 hO9 hg9 _
        have HF9 := Lib.hid (HAPP.out w6 v9 w9 HB6.out HO6.out HI1.out hO9 hg9)
        clear hO9 hg9 HAPP
        go_wp2
        go_roundw
        case rel => exact ⟨k + 1, by omega, by go_num, HF9⟩
        case measure => simp [intOf]; omega
      · have HI0 : Hid (idleB A (nm, pt, ct) = false) := Lib.hid (by rw [HIB2.out, decide_eq_false hpp])
        go_wp2_with fail
        go_quiet (fail)
        have HF9 := Lib.hid (HN9.out HI0.out _ (Bl.drewN (Below.refl _ _) nq))
        clear HN9 HAPP
        go_wp2
        go_roundw
        case rel => exact ⟨k + 1, by omega, by go_num, HF9⟩
        case measure => simp [intOf]; omega
end Go.Proofs.YtcfeoapbbkfbnaaGreatDoor
