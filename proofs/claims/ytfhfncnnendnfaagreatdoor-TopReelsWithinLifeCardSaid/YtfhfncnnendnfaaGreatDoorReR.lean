/- All events up to a moment: the walk of follow, of storeAt. Conditions: right reels and events, at most 900 events. -/
import Derived.Test.YtfhfncnnendnfaaGreatDoorReQ
namespace Go.Proofs.YtfhfncnnendnfaaGreatDoor
open Go.RowKit Go.Sort Go.Maps

/-- a world in which, from B on, only blocks of types that no store has have turned; nothing below B0. -/
structure Kf (B0 B : Nat) (w w' : World) : Prop where
  os : w'.os = w.os
  tape : w'.tape = w.tape
  output : w'.output = w.output
  size : w.heap.size ≤ w'.heap.size
  block : ∀ i, i < w.heap.size → (i < B0 ∨ (B ≤ i ∧ ¬ Fix w i)) → w'.heap[i]? = w.heap[i]?
theorem Kf.of_below {B0 B : Nat} {w w' : World} (h : Below w.heap.size w w') : Kf B0 B w w' := ⟨h.os, h.tape, h.output, h.size, fun i hi _ => h.block i hi⟩
theorem Kf.below {B0 B : Nat} {a b : World} (h : Kf B0 B a b) (hB : B0 ≤ a.heap.size) : Below B0 a b := ⟨h.os, h.tape, h.output, h.size, fun i hi => h.block i (Nat.lt_of_lt_of_le hi hB) (.inl hi)⟩
theorem noFix_str {w : World} {i : Nat} {cur : Array Value} {t : TypeId} (h : w.heap[i]? = some (.cells cur t (0, 0))) (ht : t = 9 ∨ t = 146 ∨ t = 62) : ¬ Fix w i := by
  rintro ⟨c', t', e, h1, h2, h3, h4, h5⟩
  rw [h] at e
  injection e with e
  injection e with _ e _
  rcases ht with rfl | rfl | rfl
  · exact h1 e.symm
  · exact h2 e.symm
  · exact h5 e.symm
theorem StM.other {w w' : World} {L : Loc} {s : Sts} {N B0 B : Nat} (h : StM w L s N) (hk : Kf B0 B w w') (hB : B ≤ L.B) : StM w' L s N := by
  obtain ⟨b1, b2, b3, b4, b5, b6⟩ := h.sb.b
  have hm : ∀ {α : Type} {T : Mty α} {b : Nat} {l : Sm α}, MapS T w b l → B ≤ b → MapS T w' b l := fun {α T b l} hM hb => hM.keep (hk.block b hM.lt (.inr ⟨hb, hM.noFix⟩))
  refine ⟨h.big, h.ln, ⟨h.sb.b, h.sb.ne, (hk.block _ (blk_lt h.sb.blk) (.inr ⟨by omega, noFix_str h.sb.blk (.inr (.inr rfl))⟩)).trans h.sb.blk, hm h.sb.mR (by omega), hm h.sb.mP (by omega), hm h.sb.mF (by omega), hm h.sb.mO (by omega), hm h.sb.mX (by omega)⟩,
    ⟨fun p hp => (h.rf.own p hp).keep fun k e => ?_, h.rf.sep⟩, ⟨fun p hp => (ownR_k TOr L.B).keep (h.ro.own p hp) fun k e => ?_, h.ro.sep⟩⟩
  · obtain ⟨h1, cur, hc⟩ := (ownO_k L.B).blk (h.rf.own p hp) e
    exact hk.block k (blk_lt hc) (.inr ⟨by omega, noFix_str hc (.inl rfl)⟩)
  · obtain ⟨h1, cur, hc⟩ := (ownR_k TOr L.B).blk (h.ro.own p hp) e
    exact hk.block k (blk_lt hc) (.inr ⟨by omega, noFix_str hc (.inr (.inl rfl))⟩)
/-- what a closure that follow tells of each event must keep and do. -/
structure ClD (fid : Nat) (cargs : Value → Value → Array Value) (l : List Fed) (B0 : Nat) (w0 : World) (J : Nat → Mdl → World → Prop) : Prop where
  st : ∀ k A W W', w0.heap.size ≤ W.heap.size → J k A W → Kt w0.heap.size W W' → J k A W'
  call : ∀ (k : Nat) (A : Mdl) (e : Fed) (W : World), l[k]? = some e → w0.heap.size ≤ W.heap.size → J k A W →
    Calls Tryz.prog fid (cargs (.int .i64 k) (.int .i64 (refM A e))) W fun r W' => r = .returned (.tuple #[]) ∧ J (k + 1) (stepM A k e) W' ∧ Kf B0 w0.heap.size W W'
/-- where follow stands among the events. -/
structure FlI (rs : List Rel) (l : List Fed) (at' : Int) (B0 : Nat) (w0 : World) (J : Nat → Mdl → World → Prop) (L : Loc) (k : Nat) (A : Mdl) (s : Sts) (wr : World) : Prop where
  rest : runM at' (newM rs) 0 l = runM at' A k (l.drop k)
  inv : InvM A k
  st : StM wr L s (rs.length + 20000 * k)
  rel : RelP s A
  bel : Below B0 w0 wr
  LB : L.B = w0.heap.size
  j : J k A wr
  lg : LogB A k
structure FlH (rs : List Rel) (l : List Fed) (at' : Int) (B0 : Nat) (w0 : World) (J : Nat → Mdl → World → Prop) (L : Loc) (k : Nat) (A : Mdl) (e : Fed) (s : Sts) (wr : World) : Prop where
  rest : runM at' (newM rs) 0 l = runM at' (stepM A k e) (k + 1) (l.drop (k + 1))
  inv : InvM (stepM A k e) (k + 1)
  st : StM wr L s (rs.length + 20000 * (k + 1))
  rel : RelP s (stepM A k e)
  bel : Below B0 w0 wr
  LB : L.B = w0.heap.size
  j : J k A wr
  lg : LogB (stepM A k e) (k + 1)
section
variable {fid : Nat} {cargs : Value → Value → Array Value} {rs : List Rel} {l : List Fed} {at' : Int} {B0 : Nat} {w0 : World} {J : Nat → Mdl → World → Prop} {L : Loc} {k : Nat} {A : Mdl} {e : Fed} {s : Sts} {wr : World}
theorem FlI.alloc (C : ClD fid cargs l B0 w0 J) (hB : B0 ≤ w0.heap.size) (h : FlI rs l at' B0 w0 J L k A s wr) (o : Obj) : FlI rs l at' B0 w0 J L k A s (wr.alloc o) := by
  have hb : Below wr.heap.size wr (wr.alloc o) := Bl.alloc (Below.refl _ _) o
  have hz := h.bel.size
  exact ⟨h.rest, h.inv, h.st.low hb, h.rel, h.bel.trans (hb.mono (by omega)), h.LB, C.st _ _ _ _ hz h.j (Kt.of_below hb), h.lg⟩
theorem FlI.call (C : ClD fid cargs l B0 w0 J) (hB : B0 ≤ w0.heap.size) (h : FlI rs l at' B0 w0 J L k A s wr) (hs : l[k]? = some e) (h1 : ¬ at' < e.at) (he : FedR e) (hk : k ≤ 900) (hrs : rs.length ≤ 1000) :
    Calls Tryz.prog 41 #[.pointer (some ⟨L.S, 0, none⟩), fedV e] wr fun r w' => r = .returned (.int .i64 (refM A e)) ∧ ∃ s', FlH rs l at' B0 w0 J L k A e s' w' := by
  refine (SDo_any L s _ k A k e wr h.st (by omega) h.rel h.inv hk he h.lg).mono ?_
  rintro r w' ⟨rfl, s', h2, h3, h4⟩
  have hz := h.bel.size
  have hlt := h.st.lt.2
  exact ⟨rfl, s', h.rest.trans (runM_go hs h1), h.inv.step he _, by rw [show rs.length + 20000 * (k + 1) = rs.length + 20000 * k + 20000 by omega]; exact h2, h3, h.bel.trans ((h4.below hlt).mono (by rw [h.LB]; exact hB)), h.LB, C.st _ _ _ _ hz h.j (by rw [← h.LB]; exact h4), h.lg.step e⟩
theorem FlH.call (C : ClD fid cargs l B0 w0 J) (hB : B0 ≤ w0.heap.size) (h : FlH rs l at' B0 w0 J L k A e s wr) (hs : l[k]? = some e) :
    Calls Tryz.prog fid (cargs (.int .i64 k) (.int .i64 (refM A e))) wr fun r w' => r = .returned (.tuple #[]) ∧ FlI rs l at' B0 w0 J L (k + 1) (stepM A k e) s w' := by
  have hz := h.bel.size
  refine (C.call k A e wr hs hz h.j).mono ?_
  rintro r w' ⟨rfl, h1, h2⟩
  exact ⟨rfl, h.rest, h.inv, h.st.other h2 (by rw [h.LB]; exact Nat.le_refl _), h.rel, h.bel.trans (h2.below (by omega)), h.LB, h1, h.lg⟩
end
/-- what follow leaves. -/
structure FlE (rs : List Rel) (l : List Fed) (at' : Int) (B0 : Nat) (w0 : World) (J : Nat → Mdl → World → Prop) (L : Loc) (w' : World) : Prop where
  st : ∃ s N, StM w' L s N ∧ RelP s (runM at' (newM rs) 0 l)
  inv : InvM (runM at' (newM rs) 0 l) l.length
  LB : L.B = w0.heap.size
  bel : Below B0 w0 w'
  j : ∃ k, k ≤ l.length ∧ (∀ e ∈ l.drop k, at' < e.at) ∧ J k (runM at' (newM rs) 0 l) w'
set_option maxHeartbeats 8000000 in
set_option maxRecDepth 100000 in
theorem followR_any (fid : Nat) (caps : Array Value) (cargs : Value → Value → Array Value) (x y : Value)
    (hcl : (fid = 26 ∧ caps = #[] ∧ cargs = fun a b => #[a, b]) ∨ False)
    (rs : List Rel) (l : List Fed) (at' : Int) (vr vl : Value) (w : World) (B0 : Nat) (J : Nat → Mdl → World → Prop) (hB0 : B0 ≤ w.heap.size) (C : ClD fid cargs l B0 w J) (rr : ∀ W, Below B0 w W → RecR TRe W 0 vr rs) (rl : ∀ W, Below B0 w W → RecR TFe W 0 vl l)
    (hrn : rs.length ≤ 1000) (hrs : ∀ x ∈ rs, x.1.size ≤ 1000 ∧ 0 ≤ x.2.2 ∧ x.2.2 ≤ 100000) (hln : l.length ≤ 900) (hl : ∀ e ∈ l, FedR e) (hS : FedS l) (hJ : ∀ W, Below w.heap.size w W → J 0 (newM rs) W) :
    Calls Tryz.prog 25 #[vr, vl, .int .i64 at', .func (.func fid) #[] caps] w fun e w' => ∃ L : Loc, e = .returned (.pointer (some ⟨L.S, 0, none⟩)) ∧ FlE rs l at' B0 w J L w' := by
  obtain ⟨ra, rc, rfl, _, _⟩ := (rr w (Below.refl _ _)).form
  obtain ⟨la, lc, rfl, _, _⟩ := (rl w (Below.refl _ _)).form
  have RR := Lib.hid rr
  have RL := Lib.hid rl
  have HRS := Lib.hid hrs
  have HL := Lib.hid hl
  have HSS := Lib.hid hS
  have HJ := Lib.hid hJ
  have HC := Lib.hid C
  have HB0 := Lib.hid hB0
  have HRN := Lib.hid hrn
  have HLN := Lib.hid hln
  have HIN := Lib.hid (newM_inv (rs := rs) fun x hx => (hrs x hx).2)
  clear rr rl hrs hl hS hJ C hB0 hrn hln
  rcases hcl with ⟨rfl, rfl, rfl⟩ | hF
  all_goals first | exact False.elim (by assumption) | skip
  all_goals (
    go_enter Tryz.func25, Tryz.ntmps25
    go_wp2_with fail
    refine (NewStore_any w.heap.size w (Nat.le_refl _)).mono ?_
    rintro e w2 ⟨L, hLB, rfl, h2, hb2⟩
    have HI0 : Hid (∃ R, StM w2 L (onlyR R) 0 ∧ RelP (onlyR R) (newM (rs.take 0)) ∧ Below w.heap.size w w2) := Lib.hid ⟨[], h2, relP_new, hb2⟩
    have HLB := Lib.hid hLB
    clear h2 hb2 hLB
    go_wp2_with fail
    go_loopw [17] (fun v wr => ∃ k : Nat, k ≤ rs.length ∧ v = .int .i64 k ∧ Hid (∃ R, StM wr L (onlyR R) k ∧ RelP (onlyR R) (newM (rs.take k)) ∧ Below w.heap.size w wr)) (fun v _ => rs.length - (intOf v).toNat)
    case atStart => exact ⟨0, Nat.zero_le _, rfl, HI0⟩
    case round =>
      obtain ⟨k, hk, rfl, HI⟩ := hrel
      by_cases hlt : k < rs.length
      case pos =>
        obtain ⟨R, h3, h4, h5⟩ := HI.out
        obtain ⟨z, hz⟩ : ∃ z, rs[k]? = some z := ⟨_, List.getElem?_eq_getElem hlt⟩
        obtain ⟨b1, o1, hae, _, hb1, hc1⟩ := (RR.out wr (h5.mono HB0.out)).at TRe.ok.len hz TRe.ok.pos
        subst hae
        have hzz := HRS.out z (List.mem_of_getElem? hz)
        have HZ := Lib.hid hz
        obtain ⟨a, b, n⟩ := z
        have c0 : wr.cell? ⟨b1, o1 + k * 3, none⟩ = some (.string a) := hc1 0 _ rfl
        have c1 : wr.cell? ⟨b1, o1 + k * 3 + 1, none⟩ = some (.string b) := hc1 1 _ rfl
        have c2 : wr.cell? ⟨b1, o1 + k * 3 + 2, none⟩ = some (.int .i64 n) := hc1 2 _ rfl
        have hw1 : IntKind.i64.wrap ((k : Int) + 1) = ((k + 1 : Nat) : Int) := by have := HRN.out; rw [IntWalk.i64_in _ (by omega)]; omega
        have hbA : Below wr.heap.size wr (wr.alloc (.cells #[.string a, .string b, .int .i64 n] 35)) := Bl.alloc (Below.refl _ _) _
        have HA := Lib.hid (Add_any L (onlyR R) k (a, b, n) _ (h3.low hbA) (by have := HRN.out; omega) (Nat.le_trans hzz.1 (by unfold maxLen; omega)))
        have H4 := Lib.hid (And.intro h4 (And.intro h5 (And.intro hbA (h3.low hbA).lt.2)))
        clear hz hc1 h3 h4 h5 hzz hbA
        go_wp2_with fail
        refine HA.out.mono ?_
        rintro e w4 ⟨rfl, h6, hk6⟩
        have HN : Hid (∃ R, StM w4 L (onlyR R) (k + 1) ∧ RelP (onlyR R) (newM (rs.take (k + 1))) ∧ Below w.heap.size w w4) := Lib.hid ⟨_, h6, by
          rw [List.take_add_one, HZ.out, Option.toList_some]
          exact relP_add H4.out.1 (a, b, n), (H4.out.2.1.trans (H4.out.2.2.1.mono H4.out.2.1.size)).trans ((hk6.below H4.out.2.2.2).mono (by rw [HLB.out]; exact Nat.le_refl _))⟩
        clear h6 hk6 HA H4
        go_wp2
        go_roundw
        case rel => exact ⟨k + 1, by omega, by go_num, HN⟩
        case measure => simp [intOf]; omega
      case neg =>
        obtain rfl : k = rs.length := by omega
        have HF0 : Hid (∃ s, FlI rs l at' B0 w J L 0 (newM rs) s wr) := Lib.hid (by
          obtain ⟨R, h3, h4, h5⟩ := HI.out
          rw [List.take_length] at h4
          exact ⟨onlyR R, rfl, HIN.out, by rw [Nat.mul_zero, Nat.add_zero]; exact h3, h4, h5.mono HB0.out, HLB.out, HJ.out _ h5, fun t ht => by simp [newM] at ht⟩)
        clear HI HI0
        go_wp2_with fail
        go_loopw [27] (fun v wr => ∃ (k : Nat) (A : Mdl), k ≤ l.length ∧ v = .int .i64 k ∧ Hid (∃ s, FlI rs l at' B0 w J L k A s wr)) (fun v _ => l.length - (intOf v).toNat)
        case atStart => exact ⟨0, newM rs, Nat.zero_le _, rfl, HF0⟩
        case round =>
          obtain ⟨k, A, hk, rfl, HI⟩ := hrel
          by_cases hlt : k < l.length
          case pos =>
            obtain ⟨e, he⟩ : ∃ z, l[k]? = some z := ⟨_, List.getElem?_eq_getElem hlt⟩
            obtain ⟨s, hI⟩ := HI.out
            obtain ⟨b1, o1, hae, _, hb1, hc1⟩ := (RL.out wr hI.bel).at TFe.ok.len he TFe.ok.pos
            subst hae
            have HER := Lib.hid (HL.out e (List.mem_of_getElem? he))
            have HE := Lib.hid he
            obtain ⟨t, kd, fd, rk, mn, bd⟩ := e
            have c0 : wr.cell? ⟨b1, o1 + k * 6, none⟩ = some (.int .i64 t) := hc1 0 _ rfl
            have c1 : wr.cell? ⟨b1, o1 + k * 6 + 1, none⟩ = some (.int .i64 kd) := hc1 1 _ rfl
            have c2 : wr.cell? ⟨b1, o1 + k * 6 + 2, none⟩ = some (.string fd) := hc1 2 _ rfl
            have c3 : wr.cell? ⟨b1, o1 + k * 6 + 3, none⟩ = some (.string rk) := hc1 3 _ rfl
            have c4 : wr.cell? ⟨b1, o1 + k * 6 + 4, none⟩ = some (.int .i64 mn) := hc1 4 _ rfl
            have c5 : wr.cell? ⟨b1, o1 + k * 6 + 5, none⟩ = some (.string bd) := hc1 5 _ rfl
            have hw1 : IntKind.i64.wrap ((k : Int) + 1) = ((k + 1 : Nat) : Int) := by have := HLN.out; rw [IntWalk.i64_in _ (by omega)]; omega
            have HIA := Lib.hid (hI.alloc HC.out HB0.out (.cells #[.int .i64 t, .int .i64 kd, .string fd, .string rk, .int .i64 mn, .string bd] 38))
            clear he hc1 hI
            by_cases hat : at' < t
            case pos =>
              have HEND : Hid (FlE rs l at' B0 w J L (wr.alloc (.cells #[.int .i64 t, .int .i64 kd, .string fd, .string rk, .int .i64 mn, .string bd] 38))) := Lib.hid (by
                have hI := HIA.out
                have hst : runM at' (newM rs) 0 l = A := hI.rest.trans (runM_stop HSS.out HE.out hat)
                have hinv := hI.inv.mono (Nat.le_of_lt hlt)
                refine ⟨⟨s, _, hI.st, by rw [hst]; exact hI.rel⟩, by rw [hst]; exact hinv, hI.LB, hI.bel, k, hk, fun q hq => ?_, by rw [hst]; exact hI.j⟩
                obtain ⟨j, hj⟩ := List.getElem?_of_mem hq
                rw [List.getElem?_drop] at hj
                by_cases h0 : j = 0
                · subst h0
                  rw [Nat.add_zero, HE.out] at hj
                  injection hj with hj
                  rw [← hj]; exact hat
                · obtain ⟨h1, e1⟩ := List.getElem?_eq_some_iff.1 HE.out
                  obtain ⟨h2, e2⟩ := List.getElem?_eq_some_iff.1 hj
                  have := List.pairwise_iff_getElem.1 HSS.out k (k + j) h1 h2 (by omega)
                  rw [e1, e2] at this
                  have h3 : t ≤ q.at := this
                  omega)
              have hgt : (t > at') := hat
              go_wp2
              go_ret
              exact ⟨L, rfl, HEND.out⟩
            case neg =>
              have HD := Lib.hid (HIA.out.call HC.out HB0.out HE.out hat HER.out (by have := HLN.out; omega) HRN.out)
              go_wp2_with fail
              refine HD.out.mono ?_
              rintro r w5 ⟨rfl, s', hF⟩
              have HF := Lib.hid (hF.call HC.out HB0.out HE.out)
              clear hF HD HIA
              generalize refM A (t, kd, fd, rk, mn, bd) = RR1 at HF ⊢
              generalize stepM A k (t, kd, fd, rk, mn, bd) = A1 at HF
              go_wp2_with fail
              refine HF.out.mono ?_
              rintro r w6 ⟨rfl, hI⟩
              have HI2 : Hid (∃ s, FlI rs l at' B0 w J L (k + 1) A1 s w6) := Lib.hid ⟨s', hI⟩
              clear hI HF
              go_wp2
              go_roundw
              case rel => exact ⟨k + 1, A1, by omega, by go_num, HI2⟩
              case measure => simp [intOf]; omega
          case neg =>
            obtain rfl : k = l.length := by omega
            have HEND : Hid (FlE rs l at' B0 w J L wr) := Lib.hid (by
              obtain ⟨s, hI⟩ := HI.out
              have hst : runM at' (newM rs) 0 l = A := by rw [hI.rest, List.drop_length]; rfl
              exact ⟨⟨s, _, hI.st, by rw [hst]; exact hI.rel⟩, by rw [hst]; exact hI.inv, hI.LB, hI.bel, l.length, Nat.le_refl _, fun q hq => by rw [List.drop_length] at hq; simp at hq, by rw [hst]; exact hI.j⟩)
            go_wp2
            go_ret
            exact ⟨L, rfl, HEND.out⟩)
end Go.Proofs.YtfhfncnnendnfaaGreatDoor
