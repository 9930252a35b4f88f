/- The program's store does an event as the model tells. Conditions: an event as the checks let it through, at most 900 events before it. · A new store; reels are added; all events up to a moment: the walk of follow. Conditions: right reels and events, at most 900 events. -/
import Derived.Test.YtfhfncnnendnfaaGreatDoorReO
namespace Go.Proofs.YtfhfncnnendnfaaGreatDoor
open Go.RowKit Go.Sort Go.Maps

theorem RelP.put {s : Sts} {A : Mdl} (h : RelP s A) {e : Fed} (i : Int) (hk : e.kd = 1 ∨ e.kd = 2) (hf : e.fd ≠ ByteArray.empty) (hd : Hdr) : RelP { s with F := s.F.put e.fd.data.toList (hd, rowO s.F e.fd ++ [e.rl]), P := s.P.put e.rl.data.toList e.fd } (doM A i e) := by
  unfold doM
  rw [if_pos hk]
  refine ⟨h.left, h.part, fun g => ?_, fun x => ?_, h.org, h.spl, h.nm, h.spx, h.fw⟩
  · show rowO (s.F.put _ _) g = updR A.row e.fd (A.row e.fd ++ [e.rl]) g
    rw [rowO_put]
    unfold updR
    split
    · rw [h.row]
    · exact h.row g
  · show (s.P.put e.rl.data.toList e.fd).get x.data.toList = if updR A.pos e.rl e.fd x = ByteArray.empty then none else some (updR A.pos e.rl e.fd x)
    by_cases hx : x = e.rl
    · rw [hx, Sm.get_put_same, updR_at, if_neg hf]
    · rw [Sm.get_put_other (fun e1 => hx (ba_ext e1).symm), updR_ne _ _ hx]; exact h.pos x
theorem RelP.unload {s : Sts} {A : Mdl} (h : RelP s A) {e : Fed} (i : Int) (hk : e.kd = 3) (hnd : (A.row e.fd).Nodup) : RelP { s with P := delA s.P (A.row e.fd), F := s.F.del e.fd.data.toList } (doM A i e) := by
  unfold doM
  rw [if_neg (by omega), if_pos hk]
  refine ⟨h.left, h.part, fun g => ?_, fun x => ?_, h.org, h.spl, h.nm, h.spx, h.fw⟩
  · show rowO (s.F.del _) g = updR A.row e.fd [] g
    rw [rowO_del]
    unfold updR
    split
    · rfl
    · exact h.row g
  · exact posU_delA (l' := []) h.pos (by simp) hnd x
theorem RelP.count {s : Sts} {A : Mdl} (h : RelP s A) {e : Fed} (i : Int) (hk : e.kd = 5) : RelP { s with R := s.R.put e.rl.data.toList (((s.R.get e.rl.data.toList).getD TMr.z).1, ((s.R.get e.rl.data.toList).getD TMr.z).2.1, e.mn) } (doM A i e) := by
  unfold doM
  rw [if_neg (by omega), if_neg (by omega), if_neg (by omega)]
  refine ⟨?_, fun x => ?_, h.row, h.pos, h.org, h.spl, h.nm, h.spx, h.fw⟩
  · show lfO (s.R.put _ _) = _
    rw [lfO_put, h.left]
  · show ptO (s.R.put _ _) x = _
    rw [ptO_put, h.part]
theorem ba_eq_iff (a b : ByteArray) : a.toList = b.toList ↔ a = b := ⟨fun h => ba_ext (by rw [← ByteArray.toList_eq, ← ByteArray.toList_eq, h]), fun h => by rw [h]⟩
theorem refM_1 (A : Mdl) (a : Int) (fd rk : ByteArray) (mn : Int) (bd : ByteArray) : refM A (a, 1, fd, rk, mn, bd) = if A.row fd = [] ∧ A.pos rk = ByteArray.empty then 0 else 11 := by
  unfold refM; rw [if_pos (show (1 : Int) = 1 from rfl)]
theorem refM_2 (A : Mdl) (a : Int) (fd rk : ByteArray) (mn : Int) (bd : ByteArray) : refM A (a, 2, fd, rk, mn, bd) = if A.row fd = [] then 8 else if A.pos rk ≠ ByteArray.empty then 11 else if A.part rk ≠ A.part ((A.row fd).headD ByteArray.empty) then 10 else 0 := by
  unfold refM; rw [if_neg (show ¬ (2 : Int) = 1 by decide), if_pos (show (2 : Int) = 2 from rfl)]
theorem refM_3 (A : Mdl) (a : Int) (fd rk : ByteArray) (mn : Int) (bd : ByteArray) : refM A (a, 3, fd, rk, mn, bd) = if A.row fd = [] then 8 else 0 := by
  unfold refM; rw [if_neg (show ¬ (3 : Int) = 1 by decide), if_neg (show ¬ (3 : Int) = 2 by decide), if_pos (show (3 : Int) = 3 from rfl)]
theorem refM_5 (A : Mdl) (a : Int) (fd rk : ByteArray) (mn : Int) (bd : ByteArray) : refM A (a, 5, fd, rk, mn, bd) = 0 := by
  unfold refM; rw [if_neg (show ¬ (5 : Int) = 1 by decide), if_neg (show ¬ (5 : Int) = 2 by decide), if_neg (show ¬ (5 : Int) = 3 by decide), if_neg (show ¬ (5 : Int) = 4 by decide)]
set_option maxHeartbeats 16000000 in
set_option maxRecDepth 100000 in
theorem SDo_any (L : Loc) (s : Sts) (N n : Nat) (A : Mdl) (i : Int) (e : Fed) (w : World) (h : StM w L s N) (hN : N + 20000 ≤ 1000000000) (hR : RelP s A) (hI : InvM A n) (hn : n ≤ 900) (he : FedR e) (hlg : ∀ t ∈ A.log, t.1 < i) :
    Calls Tryz.prog 41 #[.pointer (some ⟨L.S, 0, none⟩), fedV e] w fun r w' => r = .returned (.int .i64 (refM A e)) ∧ ∃ s', StM w' L s' (N + 20000) ∧ RelP s' (stepM A i e) ∧ Kt L.B w w' := by
  have HE := Lib.hid he
  have HLG := Lib.hid hlg
  clear hlg
  obtain ⟨at', kd, fd, rk, mn, bd⟩ := e
  have hfd : fd.size ≤ maxLen := Nat.le_trans he.fd (by unfold maxLen; omega)
  have hrk : rk.size ≤ maxLen := Nat.le_trans he.rl (by unfold maxLen; omega)
  have hk : kd = 1 ∨ kd = 2 ∨ kd = 3 ∨ kd = 4 ∨ kd = 5 := by have h1 : 1 ≤ kd := he.k1; have h2 : kd ≤ 5 := he.k5; omega
  obtain ⟨w1, hw1⟩ : ∃ w1, w1 = w.alloc (.cells #[.int .i64 at', .int .i64 kd, .string fd, .string rk, .int .i64 mn, .string bd] 38) := ⟨_, rfl⟩
  have hb1 : Below w.heap.size w w1 := by rw [hw1]; exact Bl.alloc (Below.refl _ _) _
  have hx1 : w1.heap[w.heap.size]? = some (.cells #[.int .i64 at', .int .i64 kd, .string fd, .string rk, .int .i64 mn, .string bd] 38 (0, 0)) := by rw [hw1]; exact blk_new w _
  have h1 := h.low hb1
  obtain ⟨l, hl⟩ : ∃ l, l = A.row fd := ⟨_, rfl⟩
  obtain ⟨hd, hlkf, hO, -⟩ := h1.rowB fd hfd
  rw [hR.row, ← hl] at hO
  obtain ⟨ra, rc, hv, _, _⟩ := hO.form
  rw [hv] at hlkf hO
  have hlf : ∀ m, (Instr.lookup 58 (.map (some L.m2)) (.string fd) false).run Tryz.prog (w1.drewN m) = .ok (.slice ra l.length rc) (w1.drewN m) := fun m => hlkf _ (Bl.drewN (Below.refl _ _) m)
  obtain ⟨pv, lies, hlp, hpl⟩ : ∃ (pv : ByteArray) (lies : Bool), (∀ W, Below w1.heap.size w1 W → (Instr.lookup 57 (.map (some L.m1)) (.string rk) true).run Tryz.prog W = .ok (.tuple #[.string pv, .bool lies]) W) ∧ (lies = true ↔ A.pos rk ≠ ByteArray.empty) := by
    refine ⟨(s.P.get rk.data.toList).getD ByteArray.empty, s.P.has rk.data.toList, fun W hW => (h1.sb.mP.below hW).look_ok TMs.ok rk hrk, ?_⟩
    unfold Sm.has
    rw [hR.pos]
    by_cases h0 : A.pos rk = ByteArray.empty
    · rw [if_pos h0]; simp [h0]
    · rw [if_neg h0]; simp [h0]
  have hST : stepM A i (at', kd, fd, rk, mn, bd) = if refM A (at', kd, fd, rk, mn, bd) = 0 then doM A i (at', kd, fd, rk, mn, bd) else A := rfl
  have H1 := Lib.hid h1
  have HX1 := Lib.hid hx1
  have HB1 := Lib.hid hb1
  have HRR := Lib.hid hR
  have HII := Lib.hid hI
  have HST := Lib.hid hST
  have HL := Lib.hid hl
  have HN := Lib.hid hN
  have HFD := Lib.hid hfd
  have HRK := Lib.hid hrk
  have HNN := Lib.hid hn
  have HPL := Lib.hid hpl
  have HLP := Lib.hid hlp
  have HO := Lib.hid hO
  have c2 : w1.cell? ⟨L.S, 2, none⟩ = some (.map (some L.m2)) := h1.cells.2.2.1
  have x2 : w1.cell? ⟨w.heap.size, 2, none⟩ = some (.string fd) := blk_cell hx1 2
  have lS := h1.lt.1
  have lx := blk_lt hx1
  -- behind the two looks: a later world
  have HW : Hid (∀ W, Below w1.heap.size w1 W → W.cell? ⟨L.S, 0, none⟩ = some (.map (some L.m0)) ∧ W.cell? ⟨L.S, 1, none⟩ = some (.map (some L.m1)) ∧ W.cell? ⟨L.S, 2, none⟩ = some (.map (some L.m2)) ∧ W.cell? ⟨w.heap.size, 0, none⟩ = some (.int .i64 at') ∧ W.cell? ⟨w.heap.size, 1, none⟩ = some (.int .i64 kd) ∧ W.cell? ⟨w.heap.size, 2, none⟩ = some (.string fd) ∧ W.cell? ⟨w.heap.size, 3, none⟩ = some (.string rk) ∧ W.cell? ⟨w.heap.size, 4, none⟩ = some (.int .i64 mn) ∧ W.cell? ⟨w.heap.size, 5, none⟩ = some (.string bd) ∧ L.S < W.heap.size ∧ w.heap.size < W.heap.size) := Lib.hid fun W hW => by
    have h2 := h1.low hW
    have h3 := blk_below hx1 hW
    exact ⟨h2.cells.1, h2.cells.2.1, h2.cells.2.2.1, blk_cell h3 0, blk_cell h3 1, blk_cell h3 2, blk_cell h3 3, blk_cell h3 4, blk_cell h3 5, h2.lt.1, blk_lt h3⟩
  -- what is answered where nothing is done
  have HNO : Hid (∀ W R, Below w1.heap.size w1 W → refM A (at', kd, fd, rk, mn, bd) = R → R ≠ 0 → ∃ s', StM W L s' (N + 20000) ∧ RelP s' (stepM A i (at', kd, fd, rk, mn, bd)) ∧ Kt L.B w W) := Lib.hid fun W R hW e1 e2 => by
    refine ⟨s, (h1.low hW).mono (by omega) hN, ?_, (Kt.of_below hb1).trans (Kt.of_below hW)⟩
    rw [hST, e1, if_neg e2]
    exact hR
  change Calls _ _ #[_, .agg #[.int .i64 at', .int .i64 kd, .string fd, .string rk, .int .i64 mn, .string bd]] _ _
  clear h h1 hO hv hx1 hb1 hlkf hl hN hR hI he hfd hrk hn hST hpl hlp
  rcases hk with rfl | rfl | rfl | rfl | rfl
  all_goals (
    go_enter Tryz.func41, Tryz.ntmps41
    go_wp2_with fail
    rw [← hw1]
    clear hw1
    go_quiet (fail)
    clear c2 x2 lS lx hlf
    have HB2 : Hid (Below w1.heap.size w1 (w1.drewN nq)) := Lib.hid (Bl.drewN (Below.refl _ _) _)
    obtain ⟨c0, c1, c2, x0, x1, x2, x3, x4, x5, lS, lx⟩ := HW.out _ HB2.out
    generalize w1.drewN nq = w2 at *
    have hlp2 : ∀ m, (Instr.lookup 57 (.map (some L.m1)) (.string rk) true).run Tryz.prog (w2.drewN m) = .ok (.tuple #[.string pv, .bool lies]) (w2.drewN m) := fun m => HLP.out _ (Bl.trans HB2.out (Bl.drewN (Below.refl _ _) _))
    go_wp2_with fail
    go_quiet (fail)
    clear c0 c1 c2 x0 x1 x2 x3 x4 x5 lS lx hlp2
    have HB3 : Hid (Below w1.heap.size w1 (w2.drewN nq)) := Lib.hid (Bl.trans HB2.out (Bl.drewN (Below.refl _ _) _))
    obtain ⟨c0, c1, c2, x0, x1, x2, x3, x4, x5, lS, lx⟩ := HW.out _ HB3.out
    generalize w2.drewN nq = w3 at *
    clear HB2
    have HKT : Hid (∀ W, Kt L.B w3 W → Kt L.B w W) := Lib.hid fun W hW => (Kt.of_below HB1.out).trans ((Kt.of_below HB3.out).trans hW)
    have H3 := Lib.hid (H1.out.low HB3.out))
  · by_cases hl0 : l = []
    · cases lies
      · have hp0 : A.pos rk = ByteArray.empty := Classical.byContradiction fun h0 => by have := HPL.out.2 h0; cases this
        have HR0 : Hid (refM A (at', 1, fd, rk, mn, bd) = 0) := Lib.hid (by rw [refM_1, ← HL.out, if_pos ⟨hl0, hp0⟩])
        have HPU := Lib.hid (put_any L s N (at', 1, fd, rk, mn, bd) w3 H3.out (by have := HN.out; omega) HFD.out HRK.out (by rw [HRR.out.row]; have h1 := HII.out.ln fd; have h2 := HNN.out; show (A.row fd).length ≤ _; omega))
        clear hp0
        subst hl0
        go_wp2_with fail
        refine HPU.out.mono ?_
        rintro e w4 ⟨rfl, hd4, h4, hk4⟩
        have HF := Lib.hid (And.intro (h4.mono (show N + 2 ≤ N + 20000 by omega) HN.out) (HKT.out _ hk4))
        have HRP := Lib.hid (HRR.out.put (e := (at', 1, fd, rk, mn, bd)) i (.inl rfl) (HE.out.fnz (by show ¬ (1 : Int) = 5; omega)) hd4)
        clear h4 hk4 HPU
        go_wp2
        go_ret
        exact ⟨ret_int HR0.out.symm, _, HF.out.1, by rw [HST.out, if_pos HR0.out]; exact HRP.out, HF.out.2⟩
      · have HR0 : Hid (refM A (at', 1, fd, rk, mn, bd) = 11) := Lib.hid (by rw [refM_1, if_neg (fun h => HPL.out.1 rfl h.2)])
        subst hl0
        go_wp2
        go_ret
        exact ⟨ret_int HR0.out.symm, HNO.out _ _ HB3.out HR0.out (by decide)⟩
    · have HR0 : Hid (refM A (at', 1, fd, rk, mn, bd) = 11) := Lib.hid (by rw [refM_1, ← HL.out, if_neg (fun h => hl0 h.1)])
      have hp1 : (0 : Int) < (l.length : Int) := by have := List.length_pos_iff.2 hl0; omega
      have hp2 : 0 < l.length := by omega
      clear hl0
      go_wp2
      go_ret
      exact ⟨ret_int HR0.out.symm, HNO.out _ _ HB3.out HR0.out (by decide)⟩
  · by_cases hl0 : l = []
    · have HR0 : Hid (refM A (at', 2, fd, rk, mn, bd) = 8) := Lib.hid (by rw [refM_2, ← HL.out, if_pos hl0])
      subst hl0
      go_wp2
      go_ret
      exact ⟨ret_int HR0.out.symm, HNO.out _ _ HB3.out HR0.out (by decide)⟩
    have hp1 : (0 : Int) < (l.length : Int) := by have := List.length_pos_iff.2 hl0; omega
    have hp2 : 0 < l.length := by omega
    have hp3 : ((l.length : Int) == 0) = false := by simp; omega
    have hp4 : ¬ (l.length : Int) = 0 := by omega
    have hp5 : ¬ l.length = 0 := by omega
    have HL0 := Lib.hid hl0
    clear hl0
    cases lies
    case true =>
      have HR0 : Hid (refM A (at', 2, fd, rk, mn, bd) = 11) := Lib.hid (by rw [refM_2, ← HL.out, if_neg HL0.out, if_pos (HPL.out.1 rfl)])
      go_wp2
      go_ret
      exact ⟨ret_int HR0.out.symm, HNO.out _ _ HB3.out HR0.out (by decide)⟩
    have hp0 : A.pos rk = ByteArray.empty := Classical.byContradiction fun h0 => by have := HPL.out.2 h0; cases this
    obtain ⟨x, r, hxr⟩ : ∃ x r, l = x :: r := by
      cases l with
      | nil => exact absurd rfl HL0.out
      | cons x r => exact ⟨x, r, rfl⟩
    have hxs : x.size ≤ maxLen := Nat.le_trans (HII.out.sz fd x (by rw [← HL.out, hxr]; simp)) (by unfold maxLen; omega)
    have hO3 := HO.out.below HB3.out
    obtain ⟨g, o, cap, hva, d0⟩ := hO3.at (k := 0) (x := x) (by rw [hxr]; rfl)
    injection hva with e1 e2 e3
    subst e1 e3
    rw [Nat.add_zero] at d0
    have lg := World.block_lt_of_cell? _ _ d0
    simp only at lg
    obtain ⟨qk1, hq1⟩ := H3.out.reelB rk HRK.out
    obtain ⟨qk2, hq2⟩ := H3.out.reelB x hxs
    have hq1a := fun m => hq1 _ (Bl.drewN (Below.refl w3.heap.size w3) m)
    have hq2a := fun m => hq2 _ (Bl.drewN (Below.refl w3.heap.size w3) m)
    obtain ⟨p1, hp1e⟩ : ∃ p, p = ptO s.R rk := ⟨_, rfl⟩
    obtain ⟨p2, hp2e⟩ : ∃ p, p = ptO s.R x := ⟨_, rfl⟩
    obtain ⟨n1, hn1e⟩ : ∃ p, p = lfO s.R rk := ⟨_, rfl⟩
    obtain ⟨n2, hn2e⟩ : ∃ p, p = lfO s.R x := ⟨_, rfl⟩
    rw [← hp1e, ← hn1e] at hq1a
    rw [← hp2e, ← hn2e] at hq2a
    have HP12 : Hid (p1 = A.part rk ∧ p2 = A.part (l.headD ByteArray.empty)) := Lib.hid ⟨by rw [hp1e, HRR.out.part], by rw [hp2e, HRR.out.part, hxr]; rfl⟩
    have hfi : ∀ (a b : ByteArray) (m : Int) (W : World), (Instr.field 35 (.agg #[.string a, .string b, .int .i64 m]) 1).run Tryz.prog W = .ok (.string b) W := fun _ _ _ _ => rfl
    have HXR := Lib.hid hxr
    have HP0 := Lib.hid hp0
    clear hxs hO3 hq1 hq2 hp1e hp2e hn1e hn2e hxr e2 hp0
    by_cases hpp : p1 = p2
    · have hpb : (p1.toList == p2.toList) = true := by rw [hpp]; simp
      have hpe : p1.toList = p2.toList := by rw [hpp]
      have HR0 : Hid (refM A (at', 2, fd, rk, mn, bd) = 0) := Lib.hid (by rw [refM_2, ← HL.out, if_neg HL0.out, if_neg (fun h => h HP0.out), if_neg (fun h => h (by rw [← HP12.out.1, ← HP12.out.2, hpp]))])
      clear hpp
      go_wp2_with fail
      go_quiet (fail)
      clear c0 c1 c2 x0 x1 x2 x3 x4 x5 lS lx d0 lg hq1a hq2a hfi hpb hpe
      have HB4 : Hid (Below w3.heap.size w3 (w3.drewN nq)) := Lib.hid (Bl.drewN (Below.refl _ _) _)
      obtain ⟨c0, c1, c2, x0, x1, x2, x3, x4, x5, lS, lx⟩ := HW.out _ (Bl.trans HB3.out HB4.out)
      have HPU := Lib.hid (put_any L s N (at', 2, fd, rk, mn, bd) (w3.drewN nq) (H3.out.low HB4.out) (by have := HN.out; omega) HFD.out HRK.out (by rw [HRR.out.row]; have h1 := HII.out.ln fd; have h2 := HNN.out; show (A.row fd).length ≤ _; omega))
      generalize w3.drewN nq = w4 at *
      go_wp2_with fail
      refine HPU.out.mono ?_
      rintro e w5 ⟨rfl, hd4, h4, hk4⟩
      have HF := Lib.hid (And.intro (h4.mono (show N + 2 ≤ N + 20000 by omega) HN.out) (HKT.out _ ((Kt.of_below HB4.out).trans hk4)))
      have HRP := Lib.hid (HRR.out.put (e := (at', 2, fd, rk, mn, bd)) i (.inr rfl) (HE.out.fnz (by show ¬ (2 : Int) = 5; omega)) hd4)
      clear h4 hk4 HPU
      go_wp2
      go_ret
      exact ⟨ret_int HR0.out.symm, _, HF.out.1, by rw [HST.out, if_pos HR0.out]; exact HRP.out, HF.out.2⟩
    · have hpe : ¬ p1.toList = p2.toList := fun h => hpp ((ba_eq_iff _ _).1 h)
      have hpb : (p1.toList == p2.toList) = false := by simpa using hpe
      have HR0 : Hid (refM A (at', 2, fd, rk, mn, bd) = 10) := Lib.hid (by rw [refM_2, ← HL.out, if_neg HL0.out, if_neg (fun h => h HP0.out), if_pos (fun h => hpp (by rw [HP12.out.1, HP12.out.2, h]))])
      clear hpp
      go_wp2_with fail
      go_quiet (fail)
      have HB4 : Hid (Below w1.heap.size w1 (w3.drewN nq)) := Lib.hid (Bl.trans HB3.out (Bl.drewN (Below.refl _ _) _))
      go_wp2
      go_ret
      exact ⟨ret_int HR0.out.symm, HNO.out _ _ HB4.out HR0.out (by decide)⟩
  · by_cases hl0 : l = []
    · have HR0 : Hid (refM A (at', 3, fd, rk, mn, bd) = 8) := Lib.hid (by rw [refM_3, ← HL.out, if_pos hl0])
      subst hl0
      go_wp2
      go_ret
      exact ⟨ret_int HR0.out.symm, HNO.out _ _ HB3.out HR0.out (by decide)⟩
    have hp3 : ((l.length : Int) == 0) = false := by have := List.length_pos_iff.2 hl0; simp; omega
    have hp4 : ¬ (l.length : Int) = 0 := by simpa using hp3
    have hp5 : ¬ l.length = 0 := by omega
    have HR0 : Hid (refM A (at', 3, fd, rk, mn, bd) = 0) := Lib.hid (by rw [refM_3, ← HL.out, if_neg hl0])
    have hll : l.length ≤ 900 := by rw [HL.out]; exact Nat.le_trans (HII.out.ln fd) HNN.out
    have HUL : Hid (RelP { s with P := delA s.P l, F := s.F.del fd.data.toList } (doM A i (at', 3, fd, rk, mn, bd))) := Lib.hid (by
      have := HRR.out.unload (e := (at', 3, fd, rk, mn, bd)) i rfl (HII.out.nd fd)
      rw [HL.out]; exact this)
    have HNM : Hid (∀ x ∈ l, x.size ≤ maxLen) := Lib.hid fun x hx => Nat.le_trans (HII.out.sz fd x (by rw [← HL.out]; exact hx)) (by unfold maxLen; omega)
    clear hl0
    go_wp2_with fail
    clear hp3 hp4 hp5
    go_loopw [77] (fun v wr => ∃ k : Nat, k ≤ l.length ∧ v = .int .i64 k ∧ Hid (StM wr L { s with P := delA s.P (l.take k) } N ∧ Kt L.B w3 wr ∧ OwnO wr L.B (.slice ra l.length rc) l)) (fun v _ => l.length - (intOf v).toNat)
    case atStart => exact ⟨0, Nat.zero_le _, rfl, Lib.hid ⟨H3.out, Kt.refl _ _, HO.out.below HB3.out⟩⟩
    case round =>
      obtain ⟨k, hk, rfl, HI⟩ := hrel
      have hxr := (HI.out.2.1.fix (blk_below HX1.out HB3.out) (by decide))
      clear c0 c1 c2 x0 x1 x2 x3 x4 x5 lS lx
      have lS := HI.out.1.lt.1
      have lx := blk_lt hxr
      by_cases hlt : k < l.length
      · obtain ⟨x, hx⟩ : ∃ x, l[k]? = some x := ⟨_, List.getElem?_eq_getElem hlt⟩
        have HX := Lib.hid hx
        have c1 : wr.cell? ⟨L.S, 1, none⟩ = some (.map (some L.m1)) := HI.out.1.cells.2.1
        obtain ⟨g, o, cap, hva, d0⟩ := HI.out.2.2.at hx
        injection hva with e1 e2 e3
        subst e1 e3
        have lg := World.block_lt_of_cell? _ _ d0
        simp only at lg
        have hxs := HNM.out x (List.mem_of_getElem? hx)
        obtain ⟨w4, hr4, h4, hk4, hg4⟩ := HI.out.1.delP x hxs 0
        have HN4 : Hid (StM w4 L { s with P := delA s.P (l.take (k + 1)) } N ∧ Kt L.B w3 w4 ∧ OwnO w4 L.B (.slice (some ⟨g, o, none⟩) l.length rc) l) := Lib.hid ⟨by
          rw [List.take_add_one, HX.out, Option.toList_some, delA_app]; exact h4, HI.out.2.1.trans hk4, HI.out.2.2.keep fun b hb => by
          injection hb with hb
          subst hb
          obtain ⟨_, cur, hc⟩ := (ownO_k L.B).blk HI.out.2.2 rfl
          exact hg4.block g (blk_lt hc) fun e => by injection e with e; exact HI.out.1.sb.mP.noCells _ _ (e ▸ hc)⟩
        have hw1 : IntKind.i64.wrap ((k : Int) + 1) = ((k + 1 : Nat) : Int) := by rw [IntWalk.i64_in _ (by omega)]; omega
        clear hx h4 hk4 hg4 hxr e2 hxs
        go_wp2
        go_roundw
        case rel => exact ⟨k + 1, by omega, by go_num, HN4⟩
        case measure => simp [intOf]; omega
      · obtain rfl : k = l.length := by omega
        have hI := HI.out
        rw [List.take_length] at hI
        have c2 : wr.cell? ⟨L.S, 2, none⟩ = some (.map (some L.m2)) := hI.1.cells.2.2.1
        have x2 : wr.cell? ⟨w.heap.size, 2, none⟩ = some (.string fd) := blk_cell hxr 2
        have hdw : Below wr.heap.size wr wr.drew := Below.drew (Below.refl _ _)
        obtain ⟨w4, hr4, h4, hk4⟩ := (hI.1.low hdw).delF fd HFD.out 0
        have HF := Lib.hid (And.intro (h4.mono (show N ≤ N + 20000 by omega) HN.out) (HKT.out _ (hI.2.1.trans ((Kt.of_below hdw).trans hk4))))
        clear hI hdw h4 hk4 hxr
        go_wp2_with fail
        go_region
        go_wp2
        go_ret
        exact ⟨ret_int HR0.out.symm, _, HF.out.1, by rw [HST.out, if_pos HR0.out]; exact HUL.out, HF.out.2⟩
  · have HU := Lib.hid (use_any L s N n A i (at', 4, fd, rk, mn, bd) w3 H3.out HN.out HRR.out HII.out HNN.out HE.out rfl HLG.out)
    go_wp2_with fail
    refine HU.out.mono ?_
    rintro e w4 ⟨rfl, s4, h4, hr4, hk4⟩
    have HF := Lib.hid (And.intro h4 (And.intro hr4 (HKT.out _ hk4)))
    clear h4 hr4 hk4 HU
    go_wp2
    go_ret
    exact ⟨rfl, s4, HF.out.1, HF.out.2.1, HF.out.2.2⟩
  · have HR0 : Hid (refM A (at', 5, fd, rk, mn, bd) = 0) := Lib.hid (refM_5 ..)
    have HU := Lib.hid (set_any L s N rk mn w3 H3.out (by have := HN.out; omega) HRK.out)
    go_wp2_with fail
    refine HU.out.mono ?_
    rintro e w4 ⟨rfl, h4, hk4⟩
    have HF := Lib.hid (And.intro (h4.mono (show N + 1 ≤ N + 20000 by omega) HN.out) (HKT.out _ hk4))
    clear h4 hk4 HU
    go_wp2
    go_ret
    exact ⟨ret_int HR0.out.symm, _, HF.out.1, by rw [HST.out, if_pos HR0.out]; exact HRR.out.count (e := (at', 5, fd, rk, mn, bd)) i rfl, HF.out.2⟩
end Go.Proofs.YtfhfncnnendnfaaGreatDoor
namespace Go.Proofs.YtfhfncnnendnfaaGreatDoor
open Go.RowKit Go.Sort Go.Maps

theorem newM_snoc (rs : List Rel) (x : Rel) : newM (rs ++ [x]) = ⟨updL (newM rs).left x.1 x.2.2, updR (newM rs).part x.1 x.2.1, fun _ => [], fun _ => ByteArray.empty, []⟩ := by
  unfold newM
  congr 1
  · funext y
    unfold updL
    rw [List.reverse_append]
    show (((x :: rs.reverse).find? _).map _).getD 0 = _
    rw [List.find?_cons]
    by_cases h : y = x.1
    · rw [if_pos h, decide_eq_true h.symm]; rfl
    · rw [if_neg h, decide_eq_false (fun e => h e.symm)]
  · funext y
    unfold updR
    rw [List.reverse_append]
    show (((x :: rs.reverse).find? _).map _).getD ByteArray.empty = _
    rw [List.find?_cons]
    by_cases h : y = x.1
    · rw [if_pos h, decide_eq_true h.symm]; rfl
    · rw [if_neg h, decide_eq_false (fun e => h e.symm)]
/-- a store with reels alone. -/
def onlyR (R : Sm Rel) : Sts := ⟨R, [], [], [], []⟩
theorem relP_new : RelP (onlyR []) (newM []) := ⟨rfl, fun _ => rfl, fun _ => rfl, fun _ => rfl, fun _ => rfl, fun _ => ⟨Int.le_refl _, Int.le_refl _⟩, fun p hp => by simp [onlyR] at hp, fun _ => rfl, Nat.le_refl _⟩
theorem relP_add {R : Sm Rel} {rs : List Rel} (h : RelP (onlyR R) (newM rs)) (x : Rel) : RelP (onlyR (R.put x.1.data.toList x)) (newM (rs ++ [x])) := by
  obtain ⟨a, b, n⟩ := x
  rw [newM_snoc]
  refine ⟨?_, fun y => ?_, fun _ => rfl, fun _ => rfl, fun _ => rfl, fun _ => ⟨Int.le_refl _, Int.le_refl _⟩, fun p hp => by simp [onlyR] at hp, fun _ => rfl, Nat.le_refl _⟩
  · show lfO (R.put a.data.toList (a, b, n)) = updL (newM rs).left a n
    rw [lfO_put]
    have := h.left
    rw [show lfO R = (newM rs).left from this]
  · show ptO (R.put a.data.toList (a, b, n)) y = updR (newM rs).part a b y
    unfold updR ptO
    by_cases hy : y = a
    · subst hy; rw [Sm.get_put_same, if_pos rfl]; rfl
    · rw [Sm.get_put_other (fun e => hy (ba_ext e).symm), if_neg hy]; exact h.part y
set_option maxHeartbeats 4000000 in
set_option maxRecDepth 100000 in
theorem NewStore_any (B : Nat) (w : World) (hB : B ≤ w.heap.size) : Calls Tryz.prog 39 #[] w fun e w' => ∃ L : Loc, L.B = B ∧ e = .returned (.pointer (some ⟨L.S, 0, none⟩)) ∧ StM w' L (onlyR []) 0 ∧ Below w.heap.size w w' := by
  have hmm := @run_makeMap Tryz.prog
  obtain ⟨w5, hw5⟩ : ∃ w5, w5 = (((((w.alloc (.map #[] 0)).alloc (.map #[] 0)).alloc (.map #[] 0)).alloc (.map #[] 0)).alloc (.map #[] 0)).alloc (.cells #[.map (some w.heap.size), .map (some (w.heap.size + 1)), .map (some (w.heap.size + 1 + 1)), .map (some (w.heap.size + 1 + 1 + 1)), .map (some (w.heap.size + 1 + 1 + 1 + 1))] 62) := ⟨_, rfl⟩
  have hb : Below w.heap.size w w5 := by rw [hw5]; exact Bl.alloc (Bl.alloc (Bl.alloc (Bl.alloc (Bl.alloc (Bl.alloc (Below.refl _ _) _) _) _) _) _) _
  have h0 : w5.heap[w.heap.size]? = some (.map #[] 0) := by rw [hw5]; exact blk_old (blk_old (blk_old (blk_old (blk_old (blk_new w _) _) _) _) _) _
  have h1 : w5.heap[w.heap.size + 1]? = some (.map #[] 0) := by rw [hw5]; exact blk_old (blk_old (blk_old (blk_old (blk_new' _ _ (by simp)) _) _) _) _
  have h2 : w5.heap[w.heap.size + 1 + 1]? = some (.map #[] 0) := by rw [hw5]; exact blk_old (blk_old (blk_old (blk_new' _ _ (by simp)) _) _) _
  have h3 : w5.heap[w.heap.size + 1 + 1 + 1]? = some (.map #[] 0) := by rw [hw5]; exact blk_old (blk_old (blk_new' _ _ (by simp)) _) _
  have h4 : w5.heap[w.heap.size + 1 + 1 + 1 + 1]? = some (.map #[] 0) := by rw [hw5]; exact blk_old (blk_new' _ _ (by simp)) _
  have hS : w5.heap[w.heap.size + 1 + 1 + 1 + 1 + 1]? = some (.cells #[.map (some w.heap.size), .map (some (w.heap.size + 1)), .map (some (w.heap.size + 1 + 1)), .map (some (w.heap.size + 1 + 1 + 1)), .map (some (w.heap.size + 1 + 1 + 1 + 1))] 62 (0, 0)) := by rw [hw5]; exact blk_new' _ _ (by simp)
  have HF : Hid (StM w5 ⟨w.heap.size + 1 + 1 + 1 + 1 + 1, w.heap.size, w.heap.size + 1, w.heap.size + 1 + 1, w.heap.size + 1 + 1 + 1, w.heap.size + 1 + 1 + 1 + 1, B⟩ (onlyR []) 0 ∧ Below w.heap.size w w5) := Lib.hid ⟨⟨by omega, ⟨Nat.le_refl _, Nat.le_refl _, Nat.le_refl _, Nat.le_refl _, Nat.le_refl _⟩, ⟨⟨by simp only; omega, by simp only; omega, by simp only; omega, by simp only; omega, by simp only; omega, by simp only; omega⟩, ⟨by simp only; omega, by simp only; omega, by simp only; omega, by simp only; omega, by simp only; omega, by simp only; omega, by simp only; omega, by simp only; omega, by simp only; omega, by simp only; omega⟩, hS, MapS.of_blk h0, MapS.of_blk h1, MapS.of_blk h2, MapS.of_blk h3, MapS.of_blk h4⟩, ⟨fun p hp => by simp [onlyR] at hp, fun p hp => by simp [onlyR] at hp⟩, ⟨fun p hp => by simp [onlyR] at hp, fun p hp => by simp [onlyR] at hp⟩⟩, hb⟩
  clear hb h0 h1 h2 h3 h4 hS hB
  go_enter Tryz.func39, Tryz.ntmps39
  go_wp2_with fail
  rw [← hw5]
  clear hw5 hmm
  go_ret
  exact ⟨_, rfl, rfl, HF.out⟩
set_option maxHeartbeats 4000000 in
set_option maxRecDepth 100000 in
theorem Add_any (L : Loc) (s : Sts) (N : Nat) (x : Rel) (w : World) (h : StM w L s N) (hN : N + 1 ≤ 1000000000) (hx : x.1.size ≤ maxLen) :
    Calls Tryz.prog 40 #[.pointer (some ⟨L.S, 0, none⟩), .agg #[.string x.1, .string x.2.1, .int .i64 x.2.2]] w fun e w' => e = .returned (.tuple #[]) ∧ StM w' L { s with R := s.R.put x.1.data.toList x } (N + 1) ∧ Kt L.B w w' := by
  obtain ⟨a, b, n⟩ := x
  obtain ⟨w1, hw1⟩ : ∃ w1, w1 = w.alloc (.cells #[.string a, .string b, .int .i64 n] 35) := ⟨_, rfl⟩
  have hb1 : Below w.heap.size w w1 := by rw [hw1]; exact Bl.alloc (Below.refl _ _) _
  have hx1 : w1.heap[w.heap.size]? = some (.cells #[.string a, .string b, .int .i64 n] 35 (0, 0)) := by rw [hw1]; exact blk_new w _
  have hd : Below w1.heap.size w1 w1.drew := Below.drew (Below.refl _ _)
  obtain ⟨w3, hr3, h3, hk3⟩ := ((h.low hb1).low hd).putR hN a hx (a, b, n)
  have e0 : w1.cell? ⟨L.S, 0, none⟩ = some (.map (some L.m0)) := (h.low hb1).cells.1
  have d0 : w1.cell? ⟨w.heap.size, 0, none⟩ = some (.string a) := blk_cell hx1 0
  have d1 : w1.cell? ⟨w.heap.size, 1, none⟩ = some (.string b) := blk_cell hx1 1
  have d2 : w1.cell? ⟨w.heap.size, 2, none⟩ = some (.int .i64 n) := blk_cell hx1 2
  have HF := Lib.hid (And.intro h3 (Kt.trans (Kt.of_below hb1) (Kt.trans (Kt.of_below hd) hk3)))
  have lx := blk_lt hx1
  have lS2 : L.S < w1.heap.size := (h.low hb1).lt.1
  clear h h3 hk3 hb1 hd hx1 hx
  go_enter Tryz.func40, Tryz.ntmps40
  go_wp2_with fail
  rw [← hw1]
  clear hw1
  go_region
  go_wp2
  go_end0
  exact ⟨rfl, HF.out⟩
end Go.Proofs.YtfhfncnnendnfaaGreatDoor
