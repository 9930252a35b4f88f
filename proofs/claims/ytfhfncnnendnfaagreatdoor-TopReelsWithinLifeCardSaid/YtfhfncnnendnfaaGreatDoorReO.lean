/- The program's store and the model: what they have in common; where a use stands. No conditions. · The program's store uses components. Conditions: an event as the checks let it through, at most 900 events before it. -/
import Derived.Test.YtfhfncnnendnfaaGreatDoorReM
namespace Go.Proofs.YtfhfncnnendnfaaGreatDoor
open Go.RowKit Go.Sort Go.Maps

def ptO (R : Sm Rel) (x : ByteArray) : ByteArray := ((R.get x.data.toList).getD TMr.z).2.1
theorem lfO_put (R : Sm Rel) (k : ByteArray) (a b : ByteArray) (n : Int) : lfO (R.put k.data.toList (a, b, n)) = updL (lfO R) k n := by
  funext x
  unfold lfO updL
  by_cases h : x = k
  · subst h; rw [Sm.get_put_same, if_pos rfl]; rfl
  · rw [Sm.get_put_other (fun e => h (ba_ext e).symm), if_neg h]
theorem ptO_put (R : Sm Rel) (k : ByteArray) (n : Int) (x : ByteArray) : ptO (R.put k.data.toList (((R.get k.data.toList).getD TMr.z).1, ((R.get k.data.toList).getD TMr.z).2.1, n)) x = ptO R x := by
  unfold ptO
  by_cases h : x = k
  · subst h; rw [Sm.get_put_same]; rfl
  · rw [Sm.get_put_other (fun e => h (ba_ext e).symm)]
/-- from where a board has its components. -/
def orgL (log : List Tkn) (b : ByteArray) : List Org := (log.filter fun t => decide (t.2.2.1 = b)).map fun t => (t.2.2.2.1, t.2.2.2.2.1, t.2.2.2.2.2)
theorem orgL_app (log : List Tkn) (i : Int) (e : Fed) (lg : List (ByteArray × Int)) (b : ByteArray) : orgL (log ++ logU i e lg) b = orgL log b ++ (if b = e.bd then lg.reverse.map (fun p => (e.fd, p.1, p.2)) else []) := by
  unfold orgL
  rw [List.filter_append, List.map_append]
  congr 1
  unfold logU
  rw [List.filter_map]
  by_cases h : b = e.bd
  · have hh : lg.reverse.filter ((fun t : Tkn => decide (t.2.2.1 = b)) ∘ fun p => (i, e.at, e.bd, e.fd, p.1, p.2)) = lg.reverse := List.filter_eq_self.2 fun p _ => decide_eq_true (show e.bd = b from h.symm)
    rw [if_pos h, hh, List.map_map]
    rfl
  · have hh : lg.reverse.filter ((fun t : Tkn => decide (t.2.2.1 = b)) ∘ fun p => (i, e.at, e.bd, e.fd, p.1, p.2)) = [] := List.filter_eq_nil_iff.2 fun p _ => by
      show ¬ decide (e.bd = b) = true
      rw [decide_eq_false (fun e1 : e.bd = b => h e1.symm)]; exact Bool.false_ne_true
    rw [if_neg h, hh]
    rfl
theorem orgL_len (log : List Tkn) (b : ByteArray) : (orgL log b).length ≤ log.length := by
  unfold orgL
  rw [List.length_map]
  exact List.length_filter_le _ _
/-- the program's store holds what the model tells. -/
structure RelP (s : Sts) (A : Mdl) : Prop where
  left : lfO s.R = A.left
  part : ∀ x, ptO s.R x = A.part x
  row : ∀ f, rowO s.F f = A.row f
  pos : ∀ x, s.P.get x.data.toList = if A.pos x = ByteArray.empty then none else some (A.pos x)
  org : ∀ b, rowOr s.O b = orgL A.log b
  spl : ∀ b : ByteArray, 0 ≤ (s.X.get b.data.toList).getD 0 ∧ (s.X.get b.data.toList).getD 0 ≤ A.log.length
  nm : ∀ p ∈ s.O, p.1.length ≤ 1000
  spx : ∀ b : ByteArray, (s.X.get b.data.toList).getD 0 = splL b none A.log
  fw : s.O.length ≤ A.log.length
theorem takeP_logge : ∀ (fuel : Nat) (n : Int) (left : Lf) (l : List ByteArray) (lg : List (ByteArray × Int)), lg.length ≤ (takeP fuel n left l lg).2.2.length
  | 0, _, _, _, _ => Nat.le_refl _
  | fuel + 1, n, left, l, lg => by
    by_cases hn : n ≤ 0
    · rw [takeP_done hn]; exact Nat.le_refl _
    · cases l with
      | nil => rw [takeP_nil]; exact Nat.le_refl _
      | cons k r =>
        rw [takeP_cons hn]
        have := takeP_logge fuel (n - min n (left k)) (updL left k (left k - min n (left k))) (dropE (updL left k (left k - min n (left k))) (k :: r)) ((k, min n (left k)) :: lg)
        simp only [List.length_cons] at this
        omega
theorem takeP_step {fuel : Nat} {n : Int} {left : Lf} {k : ByteArray} {r : List ByteArray} {lg : List (ByteArray × Int)} (h : 0 < n) (hf : n ≤ fuel) (hk : 0 < left k) : ∃ fuel', takeP fuel n left (k :: r) lg = takeP fuel' (n - min n (left k)) (updL left k (left k - min n (left k))) (dropE (updL left k (left k - min n (left k))) (k :: r)) ((k, min n (left k)) :: lg) ∧ n - min n (left k) ≤ fuel' := by
  cases fuel with
  | zero => omega
  | succ f => exact ⟨f, takeP_cons (by omega), by omega⟩
/-- where a use stands: how many are still to be taken, what is left, what was taken. -/
structure UsI (L : Loc) (s : Sts) (N : Nat) (fd bd : ByteArray) (l : List ByteArray) (T : Lf × List ByteArray × List (ByteArray × Int)) (w wr : World) (n c : Int) (fuel : Nat) (left : Lf) (l' : List ByteArray) (lg : List (ByteArray × Int)) (s' : Sts) : Prop where
  tk : takeP fuel n left l' lg = T
  fu : 0 ≤ n ∧ n ≤ fuel
  dr : dropE left l' = l'
  su : n ≤ sumL left l'
  nn : ∀ x, 0 ≤ left x ∧ left x ≤ 100000
  nd : l'.Nodup
  ne : l' ≠ []
  c : c = lg.length
  st : StM wr L s' (N + 1 + 3 * lg.length)
  lf : lfO s'.R = left
  pt : ∀ x, ptO s'.R x = ptO s.R x
  rw : ∀ g, rowO s'.F g = if g = fd then l' else rowO s.F g
  ps : ∃ ds, l = ds ++ l' ∧ s'.P = delA s.P ds
  or : ∀ b, rowOr s'.O b = rowOr s.O b ++ (if b = bd then lg.reverse.map (fun p => (fd, p.1, p.2)) else [])
  sp : s'.X = s.X
  nm : ∀ p ∈ s'.O, p.1.length ≤ 1000
  fw : s'.O.length ≤ s.O.length + lg.length
  kt : Kt L.B w wr
theorem UsI.few {L : Loc} {s : Sts} {N : Nat} {fd bd : ByteArray} {l : List ByteArray} {T : Lf × List ByteArray × List (ByteArray × Int)} {w wr : World} {n c : Int} {fuel : Nat} {left : Lf} {l' : List ByteArray} {lg : List (ByteArray × Int)} {s' : Sts} (h : UsI L s N fd bd l T w wr n c fuel left l' lg s') : lg.length ≤ T.2.2.length := by
  rw [← h.tk]; exact takeP_logge _ _ _ _ _
set_option maxRecDepth 100000 in
/-- rows and reels as they are looked up, in all later worlds. -/
theorem StM.rowB {w : World} {L : Loc} {s : Sts} {N : Nat} (h : StM w L s N) (k : ByteArray) (hk : k.size ≤ maxLen) : ∃ hd, (∀ W, Below w.heap.size w W → (Instr.lookup 58 (.map (some L.m2)) (.string k) false).run Tryz.prog W = .ok (hdrV hd) W) ∧ OwnO w L.B (hdrV hd) (rowO s.F k) ∧ Apart s.F k.data.toList (hdrV hd) := by
  obtain ⟨hd, h1, h2, h3⟩ := h.rowF k hk
  refine ⟨hd, fun W hW => ?_, h2, h3⟩
  have e1 := h.sb.mF.look TMh.ok k hk
  have e2 := (h.sb.mF.below hW).look TMh.ok k hk
  rw [show (Instr.lookup TMh.t (.map (some L.m2)) (.string k) false).run Tryz.prog w = _ from h1] at e1
  injection e1 with e1 _
  rw [e1]; exact e2
set_option maxRecDepth 100000 in
theorem StM.rowOB {w : World} {L : Loc} {s : Sts} {N : Nat} (h : StM w L s N) (k : ByteArray) (hk : k.size ≤ maxLen) : ∃ hd, (∀ W, Below w.heap.size w W → (Instr.lookup 59 (.map (some L.m3)) (.string k) false).run Tryz.prog W = .ok (hdrV hd) W) ∧ OwnR TOr w L.B (hdrV hd) (Go.Proofs.YtfhfncnnendnfaaGreatDoor.rowOr s.O k) ∧ Apart s.O k.data.toList (hdrV hd) := by
  obtain ⟨hd, h1, h2, h3⟩ := h.rowOr k hk
  refine ⟨hd, fun W hW => ?_, h2, h3⟩
  have e1 := h.sb.mO.look TMo.ok k hk
  have e2 := (h.sb.mO.below hW).look TMo.ok k hk
  rw [show (Instr.lookup TMo.t (.map (some L.m3)) (.string k) false).run Tryz.prog w = _ from h1] at e1
  injection e1 with e1 _
  rw [e1]; exact e2
theorem StM.reelB {w : World} {L : Loc} {s : Sts} {N : Nat} (h : StM w L s N) (k : ByteArray) (hk : k.size ≤ maxLen) : ∃ qk, ∀ W, Below w.heap.size w W → (Instr.lookup 56 (.map (some L.m0)) (.string k) false).run Tryz.prog W = .ok (.agg #[.string qk, .string (ptO s.R k), .int .i64 (lfO s.R k)]) W := by
  refine ⟨((s.R.get k.data.toList).getD TMr.z).1, fun W hW => ?_⟩
  exact (h.sb.mR.below hW).look TMr.ok k hk
end Go.Proofs.YtfhfncnnendnfaaGreatDoor
namespace Go.Proofs.YtfhfncnnendnfaaGreatDoor
open Go.RowKit Go.Sort Go.Maps

theorem posU_delA {P : Sm ByteArray} {pos : ByteArray → ByteArray} {l ds l' : List ByteArray} (h : ∀ x : ByteArray, P.get x.data.toList = if pos x = ByteArray.empty then none else some (pos x)) (hl : l = ds ++ l') (hnd : l.Nodup) (x : ByteArray) : (delA P ds).get x.data.toList = if posU pos l l' x = ByteArray.empty then none else some (posU pos l l' x) := by
  rw [delA_get]
  by_cases hx : x ∈ ds
  · have h1 : x ∈ l := by rw [hl]; exact List.mem_append_left _ hx
    have h2 : x ∉ l' := fun h2 => by
      rw [hl, List.nodup_append] at hnd
      exact hnd.2.2 x hx x h2 rfl
    rw [if_pos (memR_iff.2 hx), posU_gone h1 h2, if_pos rfl]
  · have hb : memR x ds = false := by
      cases hb : memR x ds with
      | false => rfl
      | true => exact absurd (memR_iff.1 hb) hx
    rw [hb, if_neg Bool.false_ne_true, posU_stay, h]
    rintro ⟨h1, h2⟩
    rw [hl, List.mem_append] at h1
    rcases h1 with h1 | h1
    · exact hx h1
    · exact h2 h1
set_option maxHeartbeats 16000000 in
set_option maxRecDepth 100000 in
theorem use_any (L : Loc) (s : Sts) (N n : Nat) (A : Mdl) (i : Int) (e : Fed) (w : World) (h : StM w L s N) (hN : N + 20000 ≤ 1000000000) (hR : RelP s A) (hI : InvM A n) (hn : n ≤ 900) (he : FedR e) (h4 : e.kd = 4) (hlg : ∀ t ∈ A.log, t.1 < i) :
    Calls Tryz.prog 57 #[.pointer (some ⟨L.S, 0, none⟩), fedV e] w fun r w' => r = .returned (.int .i64 (refM A e)) ∧ ∃ s', StM w' L s' (N + 20000) ∧ RelP s' (stepM A i e) ∧ Kt L.B w w' := by
  have HE := Lib.hid he
  have HLG := Lib.hid hlg
  clear hlg
  obtain ⟨e0, he0⟩ : ∃ e0, e0 = e := ⟨_, rfl⟩
  obtain ⟨at', kd, fd, rk, mn, bd⟩ := e
  have hk4 : kd = 4 := h4
  subst hk4
  have hfd : fd.size ≤ maxLen := Nat.le_trans he.fd (by unfold maxLen; omega)
  have hbd : bd.size ≤ maxLen := Nat.le_trans he.bd (by unfold maxLen; omega)
  have hm1 : 1 ≤ mn := he.use rfl
  have hm2 : mn ≤ 100000 := he.m1
  obtain ⟨w1, hw1⟩ : ∃ w1, w1 = w.alloc (.cells #[.int .i64 at', .int .i64 4, .string fd, .string rk, .int .i64 mn, .string bd] 38) := ⟨_, rfl⟩
  have hb1 : Below w.heap.size w w1 := by rw [hw1]; exact Bl.alloc (Below.refl _ _) _
  have hx1 : w1.heap[w.heap.size]? = some (.cells #[.int .i64 at', .int .i64 4, .string fd, .string rk, .int .i64 mn, .string bd] 38 (0, 0)) := by rw [hw1]; exact blk_new w _
  have h1 := h.low hb1
  obtain ⟨l, hl⟩ : ∃ l, l = A.row fd := ⟨_, rfl⟩
  obtain ⟨hd, hlk0, hO, -⟩ := h1.rowF fd hfd
  rw [hR.row, ← hl] at hO
  obtain ⟨ra, rc, hv, _, _⟩ := hO.form
  have hRF : refM A (at', 4, fd, rk, mn, bd) = if l = [] then 8 else if sumL A.left l < mn then 16 else 0 := by rw [hl]; rfl
  have hST : stepM A i (at', 4, fd, rk, mn, bd) = if refM A (at', 4, fd, rk, mn, bd) = 0 then doM A i (at', 4, fd, rk, mn, bd) else A := rfl
  obtain ⟨RF, hRFe⟩ : ∃ RF, RF = refM A (at', 4, fd, rk, mn, bd) := ⟨_, rfl⟩
  rw [← hRFe] at hRF hST ⊢
  have HLK : Hid (∀ m, (Instr.lookup 58 (.map (some L.m2)) (.string fd) false).run Tryz.prog (w1.drewN m) = .ok (.slice ra l.length rc) (w1.drewN m)) := Lib.hid fun m => by
    have h2 := (h1.sb.mF.below (Bl.drewN (Below.refl _ _) m)).look TMh.ok fd hfd
    have h3 := h1.sb.mF.look TMh.ok fd hfd
    rw [show (Instr.lookup TMh.t (.map (some L.m2)) (.string fd) false).run Tryz.prog w1 = _ from hlk0] at h3
    injection h3 with h3 _
    rw [← hv, h3]; exact h2
  have H1 := Lib.hid h1
  have HX1 := Lib.hid hx1
  have HB1 := Lib.hid hb1
  have HRR := Lib.hid hR
  have HII := Lib.hid hI
  have HRF := Lib.hid hRF
  have HST := Lib.hid hST
  have HL := Lib.hid hl
  have HN := Lib.hid hN
  have HFD := Lib.hid hfd
  have HBD := Lib.hid hbd
  have HM := Lib.hid (And.intro hm1 hm2)
  have HNN := Lib.hid hn
  have HE0 := Lib.hid he0
  have c2 : w1.cell? ⟨L.S, 2, none⟩ = some (.map (some L.m2)) := h1.cells.2.2.1
  have x2 : w1.cell? ⟨w.heap.size, 2, none⟩ = some (.string fd) := blk_cell hx1 2
  have x4 : w1.cell? ⟨w.heap.size, 4, none⟩ = some (.int .i64 mn) := blk_cell hx1 4
  have lS := h1.lt.1
  have lx := blk_lt hx1
  have HLEFT : Hid (∀ W, Below w1.heap.size w1 W → Calls Tryz.prog 70 #[.pointer (some ⟨L.S, 0, none⟩), .string fd] W fun e w' => e = .returned (.int .i64 (sumL A.left l)) ∧ w' = W) := Lib.hid fun W hW => by
    have h2 := h1.low hW
    have h3 := left_any L.S L.m0 L.m1 L.m2 L.m3 L.m4 L.B fd W s.R s.F h2.sb.blk h2.sb.mR h2.sb.mF (fun p hp => h2.rf.own p hp) hfd
      (fun x hx => Nat.le_trans (hI.sz fd x (by rw [← hR.row]; exact hx)) (by unfold maxLen; omega)) (by rw [hR.row]; have := hI.ln fd; omega) (fun x => by rw [hR.left]; exact hI.lf x)
    rw [sumO_L, hR.left, hR.row, ← hl] at h3
    exact h3.mono fun _ _ h => ⟨h.1, h.2.symm⟩
  have HX2 : Hid (∀ W, Below w1.heap.size w1 W → W.cell? ⟨w.heap.size, 2, none⟩ = some (.string fd) ∧ W.cell? ⟨w.heap.size, 4, none⟩ = some (.int .i64 mn) ∧ w.heap.size < W.heap.size) := Lib.hid fun W hW => by
    have h2 := blk_below hx1 hW
    exact ⟨blk_cell h2 2, blk_cell h2 4, blk_lt h2⟩
  change Calls _ _ #[_, .agg #[.int .i64 at', .int .i64 4, .string fd, .string rk, .int .i64 mn, .string bd]] _ _
  clear h h1 hO hv hx1 hb1 hlk0 hl hN hR hI he hfd hbd hm1 hm2 hn hRF hST hRFe he0 h4
  have hlk := HLK.out
  by_cases hl0 : l = []
  · have HRE : Hid (RF = 8) := Lib.hid (by rw [HRF.out, if_pos hl0])
    subst hl0
    go_enter Tryz.func57, Tryz.ntmps57
    go_wp2_with fail
    rw [← hw1]
    clear hw1
    go_quiet (fail)
    go_wp2
    go_ret
    refine ⟨ret_int HRE.out.symm, s, (H1.out.low (Bl.drewN (Below.refl _ _) _)).mono (by omega) HN.out, ?_, (Kt.of_below HB1.out).trans (Kt.of_below (Bl.drewN (Below.refl _ _) _))⟩
    rw [HST.out, HRE.out]
    exact HRR.out
  have hlp : ((l.length : Int) == 0) = false := by
    have : 0 < l.length := List.length_pos_iff.2 hl0
    simp; omega
  have hlp2 : ¬ (l.length : Int) = 0 := by simpa using hlp
  have hlp3 : ¬ l.length = 0 := by omega
  by_cases hsm : sumL A.left l < mn
  · have HRE : Hid (RF = 16) := Lib.hid (by rw [HRF.out, if_neg hl0, if_pos hsm])
    have hsd : decide (sumL A.left l < mn) = true := decide_eq_true hsm
    go_enter Tryz.func57, Tryz.ntmps57
    go_wp2_with fail
    rw [← hw1]
    clear hw1
    go_quiet (fail)
    clear c2 x2 x4 lx hlk
    have HB2 : Hid (Below w1.heap.size w1 (w1.drewN nq)) := Lib.hid (Bl.drewN (Below.refl _ _) _)
    obtain ⟨x2, x4, lx⟩ := HX2.out _ HB2.out
    generalize w1.drewN nq = w2 at *
    go_wp2_with fail
    go_quiet ((go_at_call 70; exact Calls.quiet_of_same (HLEFT.out _ (Bl.trans HB2.out (Bl.drewN (Below.refl _ _) _)))))
    have HB3 : Hid (Below w1.heap.size w1 (w2.drewN nq)) := Lib.hid (Bl.trans HB2.out (Bl.drewN (Below.refl _ _) _))
    go_wp2
    go_ret
    refine ⟨ret_int HRE.out.symm, s, (H1.out.low HB3.out).mono (by omega) HN.out, ?_, (Kt.of_below HB1.out).trans (Kt.of_below HB3.out)⟩
    rw [HST.out, HRE.out]
    exact HRR.out
  have HRE : Hid (RF = 0) := Lib.hid (by rw [HRF.out, if_neg hl0, if_neg hsm])
  have hsd : decide (sumL A.left l < mn) = false := decide_eq_false hsm
  have HL0 := Lib.hid hl0
  have HSM := Lib.hid hsm
  go_enter Tryz.func57, Tryz.ntmps57
  go_wp2_with fail
  rw [← hw1]
  clear hw1
  go_quiet (fail)
  clear c2 x2 x4 lx hlk
  have HB2 : Hid (Below w1.heap.size w1 (w1.drewN nq)) := Lib.hid (Bl.drewN (Below.refl _ _) _)
  obtain ⟨x2, x4, lx⟩ := HX2.out _ HB2.out
  generalize w1.drewN nq = w2 at *
  go_wp2_with fail
  go_quiet ((go_at_call 70; exact Calls.quiet_of_same (HLEFT.out _ (Bl.trans HB2.out (Bl.drewN (Below.refl _ _) _)))))
  clear x2 x4 lx
  have HB3 : Hid (Below w1.heap.size w1 (w2.drewN nq)) := Lib.hid (Bl.trans HB2.out (Bl.drewN (Below.refl _ _) _))
  obtain ⟨x2, x4, lx⟩ := HX2.out _ HB3.out
  generalize w2.drewN nq = w3 at *
  clear HB2
  -- the row is cleared
  have hI := HII.out
  have hl := HL.out
  have hne : rowO s.F fd ≠ [] := by rw [HRR.out.row, ← hl]; exact HL0.out
  have hnm : ∀ x ∈ l, x.size ≤ maxLen := fun x hx => Nat.le_trans (hI.sz fd x (by rw [← hl]; exact hx)) (by unfold maxLen; omega)
  have HNM := Lib.hid hnm
  have HC0 := Lib.hid (clear_any L s N fd w3 (H1.out.low HB3.out) (by have := HN.out; omega) HFD.out hne (by rw [HRR.out.row, ← hl]; exact hnm))
  obtain ⟨T, hT⟩ : ∃ T, T = takeP mn.toNat mn A.left (dropE A.left l) [] := ⟨_, rfl⟩
  have hmn : mn ≤ sumL A.left l := by have := HSM.out; omega
  have hsf := dropE_suffix A.left l
  have hndl : l.Nodup := by rw [hl]; exact hI.nd fd
  have hTl : T.2.2.length ≤ l.length := by
    rw [hT]
    have := takeP_log mn.toNat mn A.left (dropE A.left l) [] (dropE_idem _ _) (by rw [dropE_sum]; exact hmn) (fun x _ => (hI.lf x).1) (hndl.sublist hsf.sublist)
    have h2 := hsf.length_le
    simp only [List.length_nil] at this
    omega
  have hTU : useT A (at', 4, fd, rk, mn, bd) = T := by
    rw [hT, hl]
    exact useT_P hI (e := (at', 4, fd, rk, mn, bd)) (by show mn ≤ sumL A.left (A.row fd); rw [← hl]; exact hmn) (by show 0 ≤ mn; have := HM.out.1; omega)
  have hmt : (mn.toNat : Int) = mn := Int.toNat_of_nonneg (by have := HM.out.1; omega)
  have hT1 : 1 ≤ T.2.2.length := by
    obtain ⟨k, r, hkr⟩ : ∃ k r, dropE A.left l = k :: r := by
      cases hdd : dropE A.left l with
      | nil => exact absurd hdd (dropE_some HL0.out)
      | cons k r => exact ⟨k, r, rfl⟩
    have hkp : 0 < A.left k := head_pos (n := mn) (r := r) (by have := HM.out.1; omega) (by rw [← hkr]; exact dropE_idem _ _) (by rw [← hkr, dropE_sum]; exact hmn) (hI.lf k).1
    obtain ⟨f', h1, _⟩ := takeP_step (fuel := mn.toNat) (n := mn) (left := A.left) (k := k) (r := r) (lg := []) (by have := HM.out.1; omega) (by omega) hkp
    rw [hT, hkr, h1]
    exact takeP_logge f' _ _ _ [(k, _)]
  have HT := Lib.hid (And.intro hT (And.intro hTl (And.intro hTU hT1)))
  have HND := Lib.hid hndl
  have HMN := Lib.hid (And.intro hmn hmt)
  have hll : l.length ≤ 900 := by have h1 := hI.ln fd; have h2 := HNN.out; rw [← hl] at h1; omega
  have HLL := Lib.hid hll
  clear hI hl hne hnm hT hmn hsf hndl hTl hTU hT1 hlp hlp2 hlp3 hsd hmt hll
  go_wp2_with fail
  refine HC0.out.mono ?_
  rintro e w4 ⟨rfl, hdc, ds, hds, h4, hk4⟩
  rw [HRR.out.row, HRR.out.left, ← HL.out] at h4 hds
  have HI0 : Hid (UsI L s N fd bd l T w1 w4 mn 0 mn.toNat A.left (dropE A.left l) [] { s with F := s.F.put fd.data.toList (hdc, dropE A.left l), P := delA s.P ds }) := Lib.hid ⟨HT.out.1.symm, ⟨by have := HM.out.1; omega, by have := HMN.out.2; omega⟩, dropE_idem _ _, by rw [dropE_sum]; exact HMN.out.1, HII.out.lf, HND.out.sublist (dropE_suffix _ _).sublist, dropE_some HL0.out, rfl, h4, HRR.out.left, fun _ => rfl, fun g => rowO_put _ _ _ _ _, ⟨ds, hds, rfl⟩, fun b => by split <;> simp, rfl, HRR.out.nm, Nat.le_refl _, (Kt.of_below HB3.out).trans hk4⟩
  have HDO : Hid (doM A i (at', 4, fd, rk, mn, bd) = ⟨T.1, A.part, updR A.row fd T.2.1, posU A.pos l T.2.1, A.log ++ logU i (at', 4, fd, rk, mn, bd) T.2.2⟩) := Lib.hid (by
    unfold doM
    rw [if_neg (by show ¬ ((4 : Int) = 1 ∨ (4 : Int) = 2); omega), if_neg (by show ¬ (4 : Int) = 3; omega), if_pos (show (4 : Int) = 4 from rfl), HT.out.2.2.1, HL.out])
  clear h4 hk4 hds HC0
  go_wp2_with fail
  clear x2 x4 lx
  go_loopw [5, 6] (fun v5 v6 wr => ∃ (n' c : Int) (fuel : Nat) (left' : Lf) (l' : List ByteArray) (lg : List (ByteArray × Int)) (s' : Sts), v5 = .int .i64 n' ∧ v6 = .int .i64 c ∧ Hid (UsI L s N fd bd l T w1 wr n' c fuel left' l' lg s')) (fun v5 _ _ => (intOf v5).toNat)
  case atStart => exact ⟨mn, 0, _, _, _, _, _, rfl, rfl, HI0⟩
  case round =>
    obtain ⟨n', c, fuel, left', l', lg, s', rfl, rfl, HI⟩ := hrel
    have hI := HI.out
    have hxb := hI.kt.fix HX1.out (by decide)
    have hfew := hI.few
    have lxr := blk_lt hxb
    have lSr := hI.st.lt.1
    by_cases hn0 : 0 < n'
    case neg =>
      have hn1 : n' = 0 := by have := hI.fu.1; omega
      subst hn1
      have HTE : Hid (T = (left', l', lg)) := Lib.hid (by rw [← hI.tk, takeP_done (Int.le_refl _)])
      have a4 : wr.cell? ⟨L.S, 4, none⟩ = some (.map (some L.m4)) := hI.st.cells.2.2.2.2
      have x5 : wr.cell? ⟨w.heap.size, 5, none⟩ = some (.string bd) := blk_cell hxb 5
      have hdw : Below wr.heap.size wr wr.drew := Below.drew (Below.refl _ _)
      have hlkx := (hI.st.low hdw).sb.mX.look TMi.ok bd HBD.out
      obtain ⟨xv, hxv⟩ : ∃ xv, xv = (s'.X.get bd.data.toList).getD 0 := ⟨_, rfl⟩
      have hlkx2 : (Instr.lookup 60 (.map (some L.m4)) (.string bd) false).run Tryz.prog wr.drew = .ok (.int .i64 xv) wr.drew := by rw [hxv]; exact hlkx
      have hxb2 := HRR.out.spl bd
      rw [← hI.sp, ← hxv] at hxb2
      have hlogn := HII.out.ll
      have hnn2 : n * n ≤ 900 * 900 := Nat.mul_le_mul HNN.out HNN.out
      have hcb : 1 ≤ c ∧ c ≤ 900 := by
        have h1 := HT.out.2.2.2
        have h2 := HT.out.2.1
        have h3 := HLL.out
        rw [HTE.out] at h1 h2
        simp only at h1 h2
        have := hI.c
        omega
      have hw1 : IntKind.i64.wrap (c - 1) = c - 1 := IntWalk.i64_in _ (by omega)
      have hw2 : IntKind.i64.wrap (xv + (c - 1)) = xv + (c - 1) := IntWalk.i64_in _ (by omega)
      obtain ⟨w7, hr7, h7, hk7⟩ := (hI.st.low hdw).putX (by have h1 := HN.out; have h2 := HT.out.2.1; have h3 := HLL.out; omega) bd HBD.out (xv + (c - 1))
      have HE7 : Hid (∃ s7, StM w7 L s7 (N + 20000) ∧ RelP s7 (stepM A i (at', 4, fd, rk, mn, bd)) ∧ Kt L.B w w7) := Lib.hid (by
        refine ⟨_, h7.mono (by have h2 := HT.out.2.1; have h3 := HLL.out; omega) HN.out, ?_, (Kt.of_below HB1.out).trans (hI.kt.trans ((Kt.of_below hdw).trans hk7))⟩
        rw [HST.out, if_pos HRE.out, HDO.out, HTE.out]
        obtain ⟨ds', e1, e2⟩ := hI.ps
        refine ⟨hI.lf, fun x => (hI.pt x).trans (HRR.out.part x), fun g => ?_, fun x => ?_, fun b => ?_, fun b => ?_, hI.nm, fun b => ?_, ?_⟩
        · show rowO s'.F g = updR A.row fd l' g
          rw [hI.rw]
          unfold updR
          split
          · rfl
          · exact HRR.out.row g
        · show s'.P.get x.data.toList = if posU A.pos l l' x = ByteArray.empty then none else some (posU A.pos l l' x)
          rw [e2]
          exact posU_delA HRR.out.pos e1 HND.out x
        · show rowOr s'.O b = orgL (A.log ++ logU i (at', 4, fd, rk, mn, bd) lg) b
          rw [hI.or, orgL_app, HRR.out.org]
        · show 0 ≤ ((s'.X.put bd.data.toList (xv + (c - 1))).get b.data.toList).getD 0 ∧ ((s'.X.put bd.data.toList (xv + (c - 1))).get b.data.toList).getD 0 ≤ ((A.log ++ logU i (at', 4, fd, rk, mn, bd) lg).length : Int)
          have hlen : ((A.log ++ logU i (at', 4, fd, rk, mn, bd) lg).length : Int) = A.log.length + c := by
            unfold logU
            rw [List.length_append, List.length_map, List.length_reverse, hI.c]; omega
          rw [hlen]
          by_cases hb : b = bd
          · subst hb
            rw [Sm.get_put_same]
            show 0 ≤ xv + (c - 1) ∧ xv + (c - 1) ≤ _
            omega
          · rw [Sm.get_put_other (fun e => hb (ba_ext e).symm), hI.sp]
            have := HRR.out.spl b
            omega
        · show ((s'.X.put bd.data.toList (xv + (c - 1))).get b.data.toList).getD 0 = splL b none (A.log ++ logU i (at', 4, fd, rk, mn, bd) lg)
          have hlne : lg ≠ [] := fun e => by have h1 := hI.c; rw [e] at h1; simp at h1; omega
          rw [splL_app b i (at', 4, fd, rk, mn, bd) lg A.log none HLG.out (fun e => by cases e) hlne]
          by_cases hb : b = bd
          · subst hb
            rw [Sm.get_put_same, if_pos rfl, ← HRR.out.spx, ← hI.sp, ← hxv, ← hI.c]
            rfl
          · rw [Sm.get_put_other (fun e => hb (ba_ext e).symm), hI.sp, HRR.out.spx, if_neg (fun e => hb e.symm)]
            omega
        · show s'.O.length ≤ (A.log ++ logU i (at', 4, fd, rk, mn, bd) lg).length
          have h1 := hI.fw
          have h2 := HRR.out.fw
          unfold logU
          rw [List.length_append, List.length_map, List.length_reverse]
          omega)
      clear hI hxb hfew hlkx hxv hxb2 hlogn hnn2 hcb h7 hk7 hdw
      go_wp2_with fail
      go_region
      go_wp2
      go_ret
      exact ⟨ret_int HRE.out.symm, HE7.out⟩
    obtain ⟨x, r, rfl⟩ : ∃ x r, l' = x :: r := by
      cases l' with
      | nil => exact absurd rfl hI.ne
      | cons x r => exact ⟨x, r, rfl⟩
    have hmem : x ∈ l := by obtain ⟨ds', e, _⟩ := hI.ps; rw [e]; simp
    have hxs := HNM.out x hmem
    have HXS := Lib.hid hxs
    obtain ⟨hdf, hlkf, hOf, -⟩ := hI.st.rowB fd HFD.out
    rw [hI.rw, if_pos rfl] at hOf
    obtain ⟨g, o, cap, hvf, d0⟩ := hOf.at (k := 0) rfl
    rw [Nat.add_zero] at d0
    obtain ⟨qk, hlkq⟩ := hI.st.reelB x hxs
    rw [hI.lf] at hlkq
    obtain ⟨qp, hqp⟩ : ∃ qp, qp = ptO s'.R x := ⟨_, rfl⟩
    obtain ⟨qn, hqn⟩ : ∃ qn, qn = left' x := ⟨_, rfl⟩
    rw [← hqp, ← hqn] at hlkq
    have HLKQ := Lib.hid hlkq
    have hkp : 0 < qn := by rw [hqn]; exact head_pos hn0 hI.dr hI.su (hI.nn x).1
    have hqb : qn ≤ 100000 := by rw [hqn]; exact (hI.nn x).2
    have HQN := Lib.hid hqn
    obtain ⟨ln, hln⟩ : ∃ ln, ln = (x :: r).length := ⟨_, rfl⟩
    have hlp : 0 < ln := by rw [hln]; simp
    rw [hvf, ← hln] at hlkf
    have hlk2 : ∀ m, (Instr.lookup 58 (.map (some L.m2)) (.string fd) false).run Tryz.prog (wr.drewN m) = .ok (.slice (some ⟨g, o, none⟩) ln cap) (wr.drewN m) := fun m => hlkf _ (Bl.drewN (Below.refl _ _) m)
    have a2 : wr.cell? ⟨L.S, 2, none⟩ = some (.map (some L.m2)) := hI.st.cells.2.2.1
    have x2 : wr.cell? ⟨w.heap.size, 2, none⟩ = some (.string fd) := blk_cell hxb 2
    have lg2 := World.block_lt_of_cell? _ _ d0
    simp only at lg2
    obtain ⟨n1, hn1⟩ : ∃ n1, min n' qn = n1 := ⟨_, rfl⟩
    have hn1b : 1 ≤ n1 ∧ n1 ≤ n' ∧ n1 ≤ qn := by omega
    have hw1 : IntKind.i64.wrap (qn - n1) = qn - n1 := IntWalk.i64_in _ (by omega)
    have hnb : n' ≤ 100000000 := by
      have h1 := (sumL_bound hI.nn (x :: r)).2
      have h2 := hI.su
      have h3 : (x :: r).length ≤ l.length := by obtain ⟨ds', e, _⟩ := hI.ps; rw [e]; simp
      have h4 := HLL.out
      omega
    have hcb : 0 ≤ c ∧ c ≤ 900 := by
      have h1 := HT.out.2.1
      have h2 := HLL.out
      have := hI.c
      omega
    have hw2 : IntKind.i64.wrap (n' - n1) = n' - n1 := IntWalk.i64_in _ (by omega)
    have hw3 : IntKind.i64.wrap (c + 1) = c + 1 := IntWalk.i64_in _ (by omega)
    have HB := Lib.hid (And.intro hn1b (And.intro hcb (And.intro hn0 hfew)))
    have HXB := Lib.hid hxb
    clear hI hxb hfew hmem hxs hlkf hOf hvf hlkq hqp hqn hln hqb hcb
    go_wp2_with fail
    go_quiet (fail)
    have HB4 : Hid (Below wr.heap.size wr (wr.drewN nq)) := Lib.hid (Bl.drewN (Below.refl _ _) _)
    have hs4a := HI.out.st.low HB4.out
    have a0 : (wr.drewN nq).cell? ⟨L.S, 0, none⟩ = some (.map (some L.m0)) := hs4a.cells.1
    have hlq := HLKQ.out _ HB4.out
    have lSa := hs4a.lt.1
    obtain ⟨M0, hM0⟩ : ∃ M0, M0 = N + 1 + 3 * lg.length := ⟨_, rfl⟩
    rw [← hM0] at hs4a
    have HM0 : Hid (M0 = N + 1 + 3 * lg.length ∧ M0 + 3 ≤ 1000000000) := Lib.hid ⟨hM0, by have h1 := HN.out; have h2 := HT.out.2.1; have h3 := HLL.out; have h4 := HB.out.2.2.2; omega⟩
    have HSE := Lib.hid (set_any L s' M0 x (qn - n1) (wr.drewN nq) hs4a (by have := HM0.out.2; omega) HXS.out)
    have hfi : ∀ W, (Instr.field 35 (.agg #[.string qk, .string qp, .int .i64 qn]) 2).run Tryz.prog W = .ok (.int .i64 qn) W := fun _ => rfl
    clear hs4a hM0 hlk2 a2 x2 d0 lg2
    generalize wr.drewN nq = w4a at *
    go_wp2_with fail
    refine HSE.out.mono ?_
    rintro e w4 ⟨rfl, h4, hk4⟩
    have HN1 := Lib.hid hn1
    clear hw1 hn1 a0 hlq hfi HSE
    obtain ⟨s4, hs4⟩ : ∃ s4 : Sts, s4 = { s' with R := s'.R.put x.data.toList (((s'.R.get x.data.toList).getD TMr.z).1, ((s'.R.get x.data.toList).getD TMr.z).2.1, qn - n1) } := ⟨_, rfl⟩
    rw [← hs4] at h4
    obtain ⟨M, hM⟩ : ∃ M, M = M0 + 1 := ⟨_, rfl⟩
    rw [← hM] at h4
    have HM : Hid (M + 1 ≤ 1000000000) := Lib.hid (by have := HM0.out.2; omega)
    have H4 : Hid (StM w4 L s4 M ∧ Kt L.B wr w4) := Lib.hid ⟨h4, (Kt.of_below HB4.out).trans hk4⟩
    obtain ⟨lo, hlo⟩ : ∃ lo, lo = rowOr s4.O bd := ⟨_, rfl⟩
    obtain ⟨hdo, hlko, hoo, hao⟩ := h4.rowOB bd HBD.out
    rw [← hlo] at hoo
    have HLKO := Lib.hid hlko
    have hlol : lo.length ≤ 1000000 := by
      have e1 : lo = rowOr s'.O bd := by rw [hlo, hs4]
      rw [e1, HI.out.or, HRR.out.org, if_pos rfl, List.length_append, List.length_map, List.length_reverse]
      have h1 := orgL_len A.log bd
      have h2 := HII.out.ll
      have h3 : n * n ≤ 900 * 900 := Nat.mul_le_mul HNN.out HNN.out
      have h4 := HB.out.2.2.2
      have h5 := HT.out.2.1
      have h6 := HLL.out
      omega
    have HOO : Hid (OwnR TOr w4 L.B (hdrV hdo) lo ∧ Apart s4.O bd.data.toList (hdrV hdo) ∧ lo.length ≤ 1000000) := Lib.hid ⟨hoo, hao, hlol⟩
    have HLO := Lib.hid hlo
    have HX4 := Lib.hid ((Kt.trans (Kt.of_below HB4.out) hk4).fix HXB.out (by decide))
    have HRD : Hid (∀ W, Kt L.B w4 W → W.heap[L.S]? = some (.cells #[.map (some L.m0), .map (some L.m1), .map (some L.m2), .map (some L.m3), .map (some L.m4)] 62 (0, 0)) → W.cell? ⟨L.S, 3, none⟩ = some (.map (some L.m3)) ∧ W.cell? ⟨w.heap.size, 2, none⟩ = some (.string fd) ∧ W.cell? ⟨w.heap.size, 5, none⟩ = some (.string bd)) := Lib.hid fun W hK hS => by
      have hx := hK.fix HX4.out (by decide)
      exact ⟨blk_cell hS 3, blk_cell hx 2, blk_cell hx 5⟩
    have HS4 := Lib.hid hs4
    have HMM := Lib.hid hM
    clear h4 hk4 hlko hoo hao hlol hlo hs4 hM
    go_wp2_with fail
    refine wp_region_app (by kernel_rfl) [63, 64, 65, 66, 67, 68, 69, 70, 71, 72, 73, 74, 75, 76, 77, 78, 79, 80, 81, 82] (fun i => ([some (.pointer (some ⟨L.S, 0, none⟩)), some (.pointer (some ⟨L.S, 0, none⟩)), some (.pointer (some ⟨L.S, 3, none⟩)), some (.map (some L.m3)), some (.pointer (some ⟨w.heap.size, 5, none⟩)), some (.string bd), some (.pointer (some ⟨L.S, 0, none⟩)), some (.pointer (some ⟨L.S, 0, none⟩)), some (.pointer (some ⟨L.S, 3, none⟩)), some (.map (some L.m3)), some (.pointer (some ⟨w.heap.size, 5, none⟩)), some (.string bd), some (hdrV hdo), some (.pointer (some ⟨w.heap.size, 2, none⟩)), some (.string fd), some (.string x), some (.int .i64 n1), some (.agg #[.string fd, .string x, .int .i64 n1]), none, none, none] : List (Option Value)).getD i none) 18 19 20 1000 81 82 0
      (fun W => Below w4.heap.size w4 W) (fun W => Hid ((∃ hdo', StM W L { s4 with O := s4.O.put bd.data.toList (hdo', lo ++ [(fd, x, n1)]) } (M + 1)) ∧ Kt L.B w4 W))
      (fun W => W.cell? ⟨L.S, 3, none⟩ = some (.map (some L.m3)) ∧ W.cell? ⟨w.heap.size, 2, none⟩ = some (.string fd) ∧ W.cell? ⟨w.heap.size, 5, none⟩ = some (.string bd))
      (fun v W => ∃ hdo', v = hdrV hdo' ∧ Hid (StO W L s4 bd.data.toList v (lo ++ [(fd, x, n1)]) M ∧ Kt L.B w4 W)) (fun v W => ∃ g, v = .slice (some ⟨g, 0, none⟩) 1 1 ∧ W.heap[g]? = some (.cells #[.string fd, .string x, .int .i64 n1] 146 (0, 0))) (fun _ _ => True)
      (by kernel_rfl) (by kernel_rfl) (by rfl) (by rfl) (by rfl) (by decide) (by decide) ⟨rfl, rfl, fun h => absurd h (by decide)⟩ rfl rfl rfl (fun h => absurd h (by decide))
      (fun l hcl h => hcl.no h 19 ⟨18, .data⟩ rfl rfl (by simp) rfl) (fun l hcl h => hcl.no h 20 ⟨19, .data⟩ rfl rfl (by simp) rfl) (fun h => absurd h (by decide))
      (fun o ho => by obtain rfl := Option.some.inj ho; exact ⟨⟨⟨18, .data⟩, by simp, rfl, rfl⟩, fun h => absurd h (by decide)⟩) (fun o ho => by obtain rfl := Option.some.inj ho; exact ⟨⟨19, .data⟩, by simp, rfl, rfl⟩)
      (Below.drew (Below.refl _ _)) (fun v W W' ⟨g, h1, h2⟩ hb => ⟨g, h1, blk_below h2 hb⟩) (fun _ _ _ _ _ => trivial) (fun W hW => HRD.out W (Kt.of_below hW) (blk_below H4.out.1.sb.blk hW)) (fun v W ⟨hd4, _, h⟩ => HRD.out W h.out.2 h.out.1.sb.blk) (fun W h => (h.out.1.elim fun hd4 h4 => HRD.out W h.out.2 h4.sb.blk)) ?_ ?_ (fun h => absurd h (by decide)) ?_ ?_ ?_
    · intro listed f i o v W ho hc hdep hR hPre hcl hli hV
      obtain ⟨r1, r2, r3⟩ := hR
      match i, ho, hc with
      | 0, ho, hc =>
        obtain rfl := Option.some.inj ho
        obtain rfl := Option.some.inj hc
        refine ⟨rfl, fun q hq => ?_⟩
        have e0 := hq.tmp 0
        simp at e0
        simp [execOp, e0, go_sem]
      | 1, ho, hc =>
        obtain rfl := Option.some.inj ho
        obtain rfl := Option.some.inj hc
        refine ⟨rfl, fun q hq => ?_⟩
        have e63 := hq.tmp 63
        simp at e63
        have d63 : f 63 = .pointer (some ⟨L.S, 0, none⟩) := hV 0 _ (by decide) (hdep ⟨0, .data⟩ (by simp) rfl) rfl
        simp [execOp, e63, d63, go_sem]
      | 2, ho, hc =>
        obtain rfl := Option.some.inj ho
        obtain rfl := Option.some.inj hc
        refine ⟨rfl, fun q hq => ?_⟩
        have e64 := hq.tmp 64
        simp at e64
        have d64 : f 64 = .pointer (some ⟨L.S, 0, none⟩) := hV 1 _ (by decide) (hdep ⟨1, .data⟩ (by simp) rfl) rfl
        simp [execOp, e64, d64, go_sem]
      | 3, ho, hc =>
        obtain rfl := Option.some.inj ho
        obtain rfl := Option.some.inj hc
        refine ⟨rfl, fun q hq => ?_⟩
        have e65 := hq.tmp 65
        simp at e65
        have d65 : f 65 = .pointer (some ⟨L.S, 3, none⟩) := hV 2 _ (by decide) (hdep ⟨2, .data⟩ (by simp) rfl) rfl
        simp [execOp, e65, d65, r1, go_sem]
      | 4, ho, hc =>
        obtain rfl := Option.some.inj ho
        obtain rfl := Option.some.inj hc
        refine ⟨rfl, fun q hq => ?_⟩
        have e3 := hq.tmp 3
        simp at e3
        simp [execOp, e3, go_sem]
      | 5, ho, hc =>
        obtain rfl := Option.some.inj ho
        obtain rfl := Option.some.inj hc
        refine ⟨rfl, fun q hq => ?_⟩
        have e67 := hq.tmp 67
        simp at e67
        have d67 : f 67 = .pointer (some ⟨w.heap.size, 5, none⟩) := hV 4 _ (by decide) (hdep ⟨4, .data⟩ (by simp) rfl) rfl
        simp [execOp, e67, d67, r3, go_sem]
      | 6, ho, hc =>
        obtain rfl := Option.some.inj ho
        obtain rfl := Option.some.inj hc
        refine ⟨rfl, fun q hq => ?_⟩
        have e0 := hq.tmp 0
        simp at e0
        simp [execOp, e0, go_sem]
      | 7, ho, hc =>
        obtain rfl := Option.some.inj ho
        obtain rfl := Option.some.inj hc
        refine ⟨rfl, fun q hq => ?_⟩
        have e69 := hq.tmp 69
        simp at e69
        have d69 : f 69 = .pointer (some ⟨L.S, 0, none⟩) := hV 6 _ (by decide) (hdep ⟨6, .data⟩ (by simp) rfl) rfl
        simp [execOp, e69, d69, go_sem]
      | 8, ho, hc =>
        obtain rfl := Option.some.inj ho
        obtain rfl := Option.some.inj hc
        refine ⟨rfl, fun q hq => ?_⟩
        have e70 := hq.tmp 70
        simp at e70
        have d70 : f 70 = .pointer (some ⟨L.S, 0, none⟩) := hV 7 _ (by decide) (hdep ⟨7, .data⟩ (by simp) rfl) rfl
        simp [execOp, e70, d70, go_sem]
      | 9, ho, hc =>
        obtain rfl := Option.some.inj ho
        obtain rfl := Option.some.inj hc
        refine ⟨rfl, fun q hq => ?_⟩
        have e71 := hq.tmp 71
        simp at e71
        have d71 : f 71 = .pointer (some ⟨L.S, 3, none⟩) := hV 8 _ (by decide) (hdep ⟨8, .data⟩ (by simp) rfl) rfl
        simp [execOp, e71, d71, r1, go_sem]
      | 10, ho, hc =>
        obtain rfl := Option.some.inj ho
        obtain rfl := Option.some.inj hc
        refine ⟨rfl, fun q hq => ?_⟩
        have e3 := hq.tmp 3
        simp at e3
        simp [execOp, e3, go_sem]
      | 11, ho, hc =>
        obtain rfl := Option.some.inj ho
        obtain rfl := Option.some.inj hc
        refine ⟨rfl, fun q hq => ?_⟩
        have e73 := hq.tmp 73
        simp at e73
        have d73 : f 73 = .pointer (some ⟨w.heap.size, 5, none⟩) := hV 10 _ (by decide) (hdep ⟨10, .data⟩ (by simp) rfl) rfl
        simp [execOp, e73, d73, r3, go_sem]
      | 12, ho, hc =>
        obtain rfl := Option.some.inj ho
        obtain rfl := Option.some.inj hc
        refine ⟨rfl, fun q hq => ?_⟩
        have e72 := hq.tmp 72
        simp at e72
        have d72 : f 72 = .map (some L.m3) := hV 9 _ (by decide) (hdep ⟨9, .data⟩ (by simp) rfl) rfl
        have e74 := hq.tmp 74
        simp at e74
        have d74 : f 74 = .string bd := hV 11 _ (by decide) (hdep ⟨11, .data⟩ (by simp) rfl) rfl
        have hlk := HLKO.out W (hPre (hcl.no hli 19 ⟨12, .data⟩ rfl rfl (by simp) rfl))
        simp [execOp, e72, d72, e74, d74, hlk, go_sem]
      | 13, ho, hc =>
        obtain rfl := Option.some.inj ho
        obtain rfl := Option.some.inj hc
        refine ⟨rfl, fun q hq => ?_⟩
        have e3 := hq.tmp 3
        simp at e3
        simp [execOp, e3, go_sem]
      | 14, ho, hc =>
        obtain rfl := Option.some.inj ho
        obtain rfl := Option.some.inj hc
        refine ⟨rfl, fun q hq => ?_⟩
        have e76 := hq.tmp 76
        simp at e76
        have d76 : f 76 = .pointer (some ⟨w.heap.size, 2, none⟩) := hV 13 _ (by decide) (hdep ⟨13, .data⟩ (by simp) rfl) rfl
        simp [execOp, e76, d76, r2, go_sem]
      | 15, ho, hc =>
        obtain rfl := Option.some.inj ho
        obtain rfl := Option.some.inj hc
        refine ⟨rfl, fun q hq => ?_⟩
        have e7 := hq.tmp 7
        simp at e7
        simp [execOp, e7, go_sem]
      | 16, ho, hc =>
        obtain rfl := Option.some.inj ho
        obtain rfl := Option.some.inj hc
        refine ⟨rfl, fun q hq => ?_⟩
        have e8 := hq.tmp 8
        simp at e8
        simp [execOp, e8, go_sem]
      | 17, ho, hc =>
        obtain rfl := Option.some.inj ho
        obtain rfl := Option.some.inj hc
        refine ⟨rfl, fun q hq => ?_⟩
        have e77 := hq.tmp 77
        simp at e77
        have d77 : f 77 = .string fd := hV 14 _ (by decide) (hdep ⟨14, .data⟩ (by simp) rfl) rfl
        have e78 := hq.tmp 78
        simp at e78
        have d78 : f 78 = .string x := hV 15 _ (by decide) (hdep ⟨15, .data⟩ (by simp) rfl) rfl
        have e79 := hq.tmp 79
        simp at e79
        have d79 : f 79 = .int .i64 n1 := hV 16 _ (by decide) (hdep ⟨16, .data⟩ (by simp) rfl) rfl
        simp [execOp, e77, d77, e78, d78, e79, d79, go_sem]
      | 18, ho, hc => exact absurd hc (by simp)
      | 19, ho, hc => exact absurd hc (by simp)
      | 20, ho, hc => exact absurd hc (by simp)
      | (_ + 21), ho, hc => exact absurd hc (by simp)
    · intro listed f o W ho hdep hP hV
      obtain rfl := Option.some.inj ho
      have hbA := Bl.alloc (Below.refl W.heap.size W) (.cells #[.string fd, .string x, .int .i64 n1] 146)
      refine ⟨rfl, .slice (some ⟨W.heap.size, 0, none⟩) 1 1, W.alloc (.cells #[.string fd, .string x, .int .i64 n1] 146), fun q hq => ?_, Bl.trans hP hbA, ⟨W.heap.size, rfl, blk_new W _⟩, hbA⟩
      have e80 := hq.tmp 80
      simp at e80
      have d80 : f 80 = .agg #[.string fd, .string x, .int .i64 n1] := hV 17 _ (by decide) (hdep ⟨17, .data⟩ (by simp) rfl) rfl
      simp [execOp, e80, d80, go_sem]
    · intro listed f o W ho hdep hP hS _ hV
      obtain rfl := Option.some.inj ho
      obtain ⟨g, hg1, hg2⟩ := hS
      have d75 : f 75 = hdrV hdo := hV 12 _ (by decide) (hdep ⟨12, .data⟩ (by simp) rfl) rfl
      refine ⟨rfl, fun K hK => ?_⟩
      obtain ⟨v', w', hr, h2, h3, h4⟩ := (HOO.out.1.below hP).app TOr.ok 144 g 1 (fd, x, n1) hg2 rfl HOO.out.2.2 (Nat.le_trans H4.out.1.lt.2 hP.size)
      refine oper_append (.tmp 75) (.tmp 81) 144 rfl (hdrV hdo) (.slice (some ⟨g, 0, none⟩) 1 1) v' (by rw [← d75]; simp [putsA_eval]) (by rw [← hg1]; simp [putsA_eval]) hr (hK v' w' ?_)
      obtain ⟨hF, hk⟩ := (H4.out.1.low hP).turnO (HOO.out.1.below hP) HOO.out.2.1 h2 h3 h4
      obtain ⟨hd4, rfl⟩ := hdr_ofR h2
      exact ⟨hd4, rfl, Lib.hid ⟨hF, (Kt.of_below hP).trans hk⟩⟩
    · intro listed f o W ho hdep hMid hV
      obtain rfl := Option.some.inj ho
      obtain ⟨hd4, e4, hF⟩ := hMid
      have hF1 := hF.out.1
      rw [e4] at hF1
      obtain ⟨w5, hr5, h5, hk5⟩ := hF1.put HM.out HBD.out
      refine ⟨rfl, w5, fun q hq => ?_, Lib.hid ⟨⟨hd4, h5⟩, hF.out.2.trans hk5⟩⟩
      have e66 := hq.tmp 66
      have e68 := hq.tmp 68
      have e82 := hq.tmp 82
      simp at e66 e68 e82
      have d66 : f 66 = .map (some L.m3) := hV 3 _ (by decide) (hdep ⟨3, .data⟩ (by simp) rfl) rfl
      have d68 : f 68 = .string bd := hV 5 _ (by decide) (hdep ⟨5, .data⟩ (by simp) rfl) rfl
      simp [execOp, e66, e68, e82, d66, d68, e4, hr5, go_sem]
    intro f w5 hP hV
    clear hV
    unfold putsA
    simp only [List.mapIdx_toArray, List.mapIdx_cons, List.mapIdx_nil, List.contains_cons]
    simp
    obtain ⟨⟨hdo', h5⟩, hk5⟩ := hP.out
    obtain ⟨s5, hs5⟩ : ∃ s5 : Sts, s5 = { s4 with O := s4.O.put bd.data.toList (hdo', lo ++ [(fd, x, n1)]) } := ⟨_, rfl⟩
    rw [← hs5] at h5
    have hx5 := hk5.fix HX4.out (by decide)
    have x2 : w5.cell? ⟨w.heap.size, 2, none⟩ = some (.string fd) := blk_cell hx5 2
    have lx5 := blk_lt hx5
    have hF5 : rowO s5.F fd = x :: r := by rw [hs5]; show rowO s4.F fd = _; rw [HS4.out]; show rowO s'.F fd = _; rw [HI.out.rw, if_pos rfl]
    have hR5 : lfO s5.R = updL left' x (left' x - n1) := by rw [hs5]; show lfO s4.R = _; rw [HS4.out]; show lfO (s'.R.put _ _) = _; rw [lfO_put, HI.out.lf, HQN.out]
    have HCL := Lib.hid (clear_any L s5 (M + 1) fd w5 h5 (by have h1 := HM0.out.2; have h2 := HMM.out; omega) HFD.out (by rw [hF5]; simp) (by rw [hF5]; intro y hy; obtain ⟨ds', e, _⟩ := HI.out.ps; exact HNM.out y (by rw [e]; exact List.mem_append_right _ hy)))
    have H5 := Lib.hid (And.intro hF5 (And.intro hR5 (And.intro hs5 (H4.out.2.trans hk5))))
    clear h5 hk5 hP hx5 hF5 hR5 hs5
    go_wp2_with fail
    refine HCL.out.mono ?_
    rintro e w6 ⟨rfl, hdc', ds', hds', h6, hk6⟩
    rw [H5.out.1, H5.out.2.1] at h6 hds'
    have HNX : Hid (∃ fuel' s6, UsI L s N fd bd l T w1 w6 (n' - n1) (c + 1) fuel' (updL left' x (left' x - n1)) (dropE (updL left' x (left' x - n1)) (x :: r)) ((x, n1) :: lg) s6) := Lib.hid (by
      have hI := HI.out
      have hq := HQN.out
      have hb := HB.out
      have hmin : n1 = min n' (left' x) := by rw [← hq]; exact HN1.out.symm
      obtain ⟨fuel', e1, e2⟩ := takeP_step (fuel := fuel) (n := n') (left := left') (k := x) (r := r) (lg := lg) hn0 hI.fu.2 (by rw [← hq]; exact hkp)
      rw [← hmin] at e1 e2
      have hxr : x ∉ r := (List.nodup_cons.1 hI.nd).1
      have hsfx := dropE_suffix (updL left' x (left' x - n1)) (x :: r)
      obtain ⟨ds1, f1, f2⟩ := hI.ps
      refine ⟨fuel', _, ⟨e1.symm.trans hI.tk, ⟨by omega, e2⟩, dropE_idem _ _, ?_, fun y => ?_, hI.nd.sublist hsfx.sublist, dropE_some (by simp), ?_, h6.mono ?_ ?_, H5.out.2.1, fun y => ?_, fun g' => ?_, ⟨ds1 ++ ds', ?_, ?_⟩, fun b => ?_, ?_, ?_, ?_, hI.kt.trans (H5.out.2.2.2.trans hk6)⟩⟩
      · rw [dropE_sum]
        show _ ≤ updL left' x (left' x - n1) x + sumL (updL left' x (left' x - n1)) r
        rw [updL_at, sumL_upd left' x _ r hxr]
        have h1 : sumL left' (x :: r) = left' x + sumL left' r := rfl
        have h2 := hI.su
        omega
      · have h1 := hI.nn y
        unfold updL
        split
        · have := hI.nn x; omega
        · exact h1
      · rw [hI.c]; simp
      · have h1 := HM0.out.1; have h2 := HMM.out; simp only [List.length_cons]; omega
      · have h1 := HM0.out; simp only [List.length_cons]; omega
      · show ptO s5.R y = _
        rw [H5.out.2.2.1]
        show ptO s4.R y = _
        rw [HS4.out]
        show ptO (s'.R.put _ _) y = _
        rw [ptO_put, hI.pt]
      · show rowO (s5.F.put fd.data.toList (hdc', _)) g' = _
        rw [rowO_put]
        by_cases hg : g' = fd
        · rw [if_pos hg, if_pos hg]
        · rw [if_neg hg, if_neg hg, H5.out.2.2.1]
          show rowO s4.F g' = _
          rw [HS4.out]
          show rowO s'.F g' = _
          rw [hI.rw, if_neg hg]
      · rw [f1, List.append_assoc, ← hds']
      · show delA s5.P ds' = _
        rw [H5.out.2.2.1]
        show delA s4.P ds' = _
        rw [HS4.out]
        show delA s'.P ds' = _
        rw [f2, delA_app]
      · show rowOr s5.O b = _
        rw [H5.out.2.2.1]
        show rowOr (s4.O.put bd.data.toList (hdo', lo ++ [(fd, x, n1)])) b = _
        rw [rowOr_put]
        have e3 : rowOr s4.O b = rowOr s'.O b := by rw [HS4.out]
        by_cases hb : b = bd
        · subst hb
          rw [if_pos rfl, if_pos rfl, HLO.out, e3, hI.or, if_pos rfl]
          simp
        · rw [if_neg hb, e3, hI.or, if_neg hb, if_neg hb]
      · show s5.X = _
        rw [H5.out.2.2.1]
        show s4.X = _
        rw [HS4.out]
        show s'.X = _
        exact hI.sp
      · rw [H5.out.2.2.1]
        intro p hp
        have hp2 : p ∈ s4.O.put bd.data.toList (hdo', lo ++ [(fd, x, n1)]) := hp
        have e3 : s4.O = s'.O := by rw [HS4.out]
        rw [e3] at hp2
        rcases (Sm.ins_mem p).1 hp2 with rfl | hp3
        · have h1 : bd.size ≤ 1000 := HE.out.bd
          have h2 : bd.data.toList.length = bd.size := Array.length_toList
          show bd.data.toList.length ≤ 1000
          omega
        · exact hI.nm p (List.mem_filter.1 hp3).1
      · rw [H5.out.2.2.1]
        show (s4.O.put bd.data.toList (hdo', lo ++ [(fd, x, n1)])).length ≤ _
        have e3 : s4.O = s'.O := by rw [HS4.out]
        have h1 := Sm.put_le s4.O bd.data.toList (hdo', lo ++ [(fd, x, n1)])
        have h2 := hI.fw
        rw [e3] at h1 ⊢
        rw [List.length_cons]
        omega)
    clear h6 hk6 hds' HCL H5
    go_wp2_with fail
    go_roundw
    case rel => obtain ⟨fuel', s6, h⟩ := HNX.out; exact ⟨_, _, fuel', _, _, _, s6, rfl, rfl, Lib.hid h⟩
    case measure => simp [intOf]; omega
end Go.Proofs.YtfhfncnnendnfaaGreatDoor
