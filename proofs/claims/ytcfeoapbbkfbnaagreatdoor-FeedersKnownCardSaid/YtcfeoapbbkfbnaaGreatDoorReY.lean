/- The reference's store behind all events up to a moment, and which are refused. Conditions: right reels and events, at most 900 events. -/
import Derived.Test.YtcfeoapbbkfbnaaGreatDoorReX
namespace Go.Proofs.YtcfeoapbbkfbnaaGreatDoor
open Go.RowKit Go.Sort Go.Maps

theorem relR_new : RelR ⟨[], [], [], []⟩ (newM []) := ⟨rfl, fun _ => rfl, fun _ => rfl, rfl⟩
theorem relR_add {P : Sm ByteArray} {V : Sm Int} {rs : List Rel} (h : RelR ⟨P, V, [], []⟩ (newM rs)) (x : Rel) : RelR ⟨P.put x.1.data.toList x.2.1, V.put x.1.data.toList x.2.2, [], []⟩ (newM (rs ++ [x])) := by
  obtain ⟨a, b, n⟩ := x
  rw [newM_snoc]
  refine ⟨?_, fun y => ?_, fun _ => rfl, rfl⟩
  · show lfI (V.put a.data.toList n) = updL (newM rs).left a n
    rw [lfI_put]
    have := h.left
    rw [show lfI V = (newM rs).left from this]
  · show ptR (P.put a.data.toList b) y = updR (newM rs).part a b y
    unfold updR ptR
    by_cases hy : y = a
    · subst hy; rw [Sm.get_put_same, if_pos rfl]; rfl
    · rw [Sm.get_put_other (fun e => hy (ba_ext e).symm), if_neg hy]; exact h.part y
set_option maxHeartbeats 4000000 in
set_option maxRecDepth 100000 in
theorem newStoreR_any (rs : List Rel) (vr : Value) (w : World) (rr : RecR TRe w 0 vr rs) (hrn : rs.length ≤ 1000) (hrs : ∀ x ∈ rs, x.1.size ≤ 1000) :
    Calls Tryz.prog 118 #[vr] w fun e w' => ∃ (L : Loc) (r : RSt), L.B = w.heap.size ∧ e = .returned (.pointer (some ⟨L.S, 0, none⟩)) ∧ StR w' L r (2 * rs.length) ∧ RelR r (newM rs) ∧ Below w.heap.size w w' := by
  obtain ⟨ra, rc, rfl, _, _⟩ := rr.form
  have hmm := @run_makeMap Tryz.prog
  obtain ⟨w5, hw5⟩ : ∃ w5, w5 = (((w.alloc (.map #[] 0)).alloc (.map #[] 0)).alloc (.map #[] 0)).alloc (.cells #[.map (some w.heap.size), .map (some (w.heap.size + 1)), .map (some (w.heap.size + 1 + 1)), .slice none 0 0] 140) := ⟨_, rfl⟩
  have hb : Below w.heap.size w w5 := by rw [hw5]; exact Bl.alloc (Bl.alloc (Bl.alloc (Bl.alloc (Below.refl _ _) _) _) _) _
  have h0 : w5.heap[w.heap.size]? = some (.map #[] 0) := by rw [hw5]; exact blk_old (blk_old (blk_old (blk_new w _) _) _) _
  have h1 : w5.heap[w.heap.size + 1]? = some (.map #[] 0) := by rw [hw5]; exact blk_old (blk_old (blk_new' _ _ (by simp)) _) _
  have h2 : w5.heap[w.heap.size + 1 + 1]? = some (.map #[] 0) := by rw [hw5]; exact blk_old (blk_new' _ _ (by simp)) _
  have hS : w5.heap[w.heap.size + 1 + 1 + 1]? = some (.cells #[.map (some w.heap.size), .map (some (w.heap.size + 1)), .map (some (w.heap.size + 1 + 1)), .slice none 0 0] 140 (0, 0)) := by rw [hw5]; exact blk_new' _ _ (by simp)
  obtain ⟨L, hL⟩ : ∃ L : Loc, L = ⟨w.heap.size + 1 + 1 + 1, w.heap.size, w.heap.size + 1, w.heap.size + 1 + 1, 0, 0, w.heap.size⟩ := ⟨_, rfl⟩
  have HF : Hid (∃ P V, StR w5 L ⟨P, V, [], []⟩ (2 * 0) ∧ RelR ⟨P, V, [], []⟩ (newM (rs.take 0)) ∧ Below w.heap.size w w5) := Lib.hid ⟨[], [], ⟨by omega, ⟨Nat.zero_le _, Nat.zero_le _, Nat.zero_le _⟩, by rw [hL]; exact ⟨by simp only; omega, by simp only; omega, by simp only; omega, by simp only; omega⟩, by rw [hL]; exact ⟨by simp only; omega, by simp only; omega, by simp only; omega⟩, ⟨_, by rw [hL]; exact hS, OwnR.nil _ _⟩, by rw [hL]; exact MapS.of_blk h0, by rw [hL]; exact MapS.of_blk h1, by rw [hL]; exact MapS.of_blk h2, fun p hp => by simp at hp⟩, relR_new, hb⟩
  have HLS : Hid (L.S = w.heap.size + 1 + 1 + 1 ∧ L.B = w.heap.size) := Lib.hid (by rw [hL]; exact ⟨rfl, rfl⟩)
  have RR := Lib.hid rr
  have HRS := Lib.hid hrs
  have HRN := Lib.hid hrn
  clear hb h0 h1 h2 hS hL rr hrs hrn
  go_enter Tryz.func118, Tryz.ntmps118
  go_wp2_with fail
  rw [← hw5, ← HLS.out.1]
  clear hw5 hmm
  go_loopw [13] (fun v wr => ∃ k : Nat, k ≤ rs.length ∧ v = .int .i64 k ∧ Hid (∃ P V, StR wr L ⟨P, V, [], []⟩ (2 * k) ∧ RelR ⟨P, V, [], []⟩ (newM (rs.take k)) ∧ Below w.heap.size w wr)) (fun v _ => rs.length - (intOf v).toNat)
  case atStart => exact ⟨0, Nat.zero_le _, rfl, HF⟩
  case round =>
    obtain ⟨k, hk, rfl, HI⟩ := hrel
    by_cases hlt : k < rs.length
    case pos =>
      obtain ⟨P, V, h3, h4, h5⟩ := HI.out
      obtain ⟨z, hz⟩ : ∃ z, rs[k]? = some z := ⟨_, List.getElem?_eq_getElem hlt⟩
      obtain ⟨b1, o1, hae, _, hb1, hc1⟩ := (RR.out.below h5).at TRe.ok.len hz TRe.ok.pos
      subst hae
      have hzz := HRS.out z (List.mem_of_getElem? hz)
      have HZ := Lib.hid hz
      obtain ⟨a, b, n⟩ := z
      have c0 : wr.cell? ⟨b1, o1 + k * 3, none⟩ = some (.string a) := hc1 0 _ rfl
      have c1 : wr.cell? ⟨b1, o1 + k * 3 + 1, none⟩ = some (.string b) := hc1 1 _ rfl
      have c2 : wr.cell? ⟨b1, o1 + k * 3 + 2, none⟩ = some (.int .i64 n) := hc1 2 _ rfl
      have hw1 : IntKind.i64.wrap ((k : Int) + 1) = ((k + 1 : Nat) : Int) := by have := HRN.out; rw [IntWalk.i64_in _ (by omega)]; omega
      have hbA : Below wr.heap.size wr (wr.alloc (.cells #[.string a, .string b, .int .i64 n] 73)) := Bl.alloc (Below.refl _ _) _
      have HA := Lib.hid (come_any L ⟨P, V, [], []⟩ (2 * k) (a, b, n) _ (h3.low hbA) (by have := HRN.out; omega) (Nat.le_trans hzz (by unfold maxLen; omega)))
      have H4 := Lib.hid (And.intro h4 (And.intro h5 (And.intro hbA (h3.low hbA).lt.2)))
      clear hz hc1 h3 h4 h5 hzz hbA
      go_wp2_with fail
      refine HA.out.mono ?_
      rintro e w4 ⟨rfl, h6, hk6⟩
      have HN : Hid (∃ P V, StR w4 L ⟨P, V, [], []⟩ (2 * (k + 1)) ∧ RelR ⟨P, V, [], []⟩ (newM (rs.take (k + 1))) ∧ Below w.heap.size w w4) := Lib.hid ⟨_, _, h6, by
        rw [List.take_add_one, HZ.out, Option.toList_some]
        exact relR_add H4.out.1 (a, b, n), (H4.out.2.1.trans (H4.out.2.2.1.mono H4.out.2.1.size)).trans ((hk6.below H4.out.2.2.2).mono (by rw [HLS.out.2]; exact Nat.le_refl _))⟩
      clear h6 hk6 HA H4
      go_wp2
      go_roundw
      case rel => exact ⟨k + 1, by omega, by go_num, HN⟩
      case measure => simp [intOf]; omega
    case neg =>
      obtain rfl : k = rs.length := by omega
      have HE : Hid (∃ (L' : Loc) (r : RSt), L'.B = w.heap.size ∧ Ending.returned (.pointer (some ⟨L.S, 0, none⟩)) = .returned (.pointer (some ⟨L'.S, 0, none⟩)) ∧ StR wr L' r (2 * rs.length) ∧ RelR r (newM rs) ∧ Below w.heap.size w wr) := Lib.hid (by
        obtain ⟨P, V, h3, h4, h5⟩ := HI.out
        rw [List.take_length] at h4
        exact ⟨L, _, HLS.out.2, rfl, h3, h4, h5⟩)
      clear HI
      go_wp2
      go_ret
      exact HE.out
def TNq : Rty Int := { e := 3, S := 22, k := 1, b := 8, z := .int .i64 0, f := fun n => [.int .i64 n] }
theorem TNq.ok : TNq.Ok := ⟨by kernel_rfl, Tryz.underlying22, rfl, by decide, fun _ => rfl, fun x u hu => by simp [TNq] at hu; subst hu; rfl, by decide⟩
def TEq : Rty Int := { e := 35, S := 85, k := 1, b := 8, z := .int .i64 0, f := fun n => [.int .i64 n] }
theorem TEq.ok : TEq.Ok := ⟨by kernel_rfl, Tryz.underlying85, rfl, by decide, fun _ => rfl, fun x u hu => by simp [TEq] at hu; subst hu; rfl, by decide⟩
/-- which events are refused, and why. -/
def refsM (at' : Int) : Mdl → Nat → List Fed → List (Int × Int)
  | _, _, [] => []
  | A, i, e :: l => if at' < e.at then refsM at' A (i + 1) l else if refM A e = 0 then refsM at' (stepM A i e) (i + 1) l else ((i : Int), refM A e) :: refsM at' (stepM A i e) (i + 1) l
theorem refsM_skip {at' : Int} {l : List Fed} {k : Nat} {e : Fed} {A : Mdl} (hs : l[k]? = some e) (h : at' < e.at) : refsM at' A k (l.drop k) = refsM at' A (k + 1) (l.drop (k + 1)) := by
  obtain ⟨hk, he⟩ := List.getElem?_eq_some_iff.1 hs
  rw [List.drop_eq_getElem_cons hk, he, refsM, if_pos h]
theorem refsM_ok {at' : Int} {l : List Fed} {k : Nat} {e : Fed} {A : Mdl} (hs : l[k]? = some e) (h : ¬ at' < e.at) (h0 : refM A e = 0) : refsM at' A k (l.drop k) = refsM at' (stepM A k e) (k + 1) (l.drop (k + 1)) := by
  obtain ⟨hk, he⟩ := List.getElem?_eq_some_iff.1 hs
  rw [List.drop_eq_getElem_cons hk, he, refsM, if_neg h, if_pos h0]
theorem refsM_no {at' : Int} {l : List Fed} {k : Nat} {e : Fed} {A : Mdl} (hs : l[k]? = some e) (h : ¬ at' < e.at) (h0 : refM A e ≠ 0) : refsM at' A k (l.drop k) = ((k : Int), refM A e) :: refsM at' (stepM A k e) (k + 1) (l.drop (k + 1)) := by
  obtain ⟨hk, he⟩ := List.getElem?_eq_some_iff.1 hs
  rw [List.drop_eq_getElem_cons hk, he, refsM, if_neg h, if_neg h0]
/-- events in the log are those before. -/
def LogB (A : Mdl) (k : Nat) : Prop := ∀ t ∈ A.log, t.1 < (k : Int)
theorem LogB.mono {A : Mdl} {k m : Nat} (h : LogB A k) (hm : k ≤ m) : LogB A m := fun t ht => by have := h t ht; omega
theorem LogB.step {A : Mdl} {k : Nat} (h : LogB A k) (e : Fed) : LogB (stepM A k e) (k + 1) := by
  unfold stepM
  split
  · unfold doM
    split
    · exact h.mono (Nat.le_succ k)
    split
    · exact h.mono (Nat.le_succ k)
    split
    · intro t ht
      rcases List.mem_append.1 ht with ht | ht
      · have := h t ht; omega
      · unfold logU at ht
        obtain ⟨p, _, rfl⟩ := List.mem_map.1 ht
        show (k : Int) < ((k + 1 : Nat) : Int)
        omega
    · exact h.mono (Nat.le_succ k)
  · exact h.mono (Nat.le_succ k)
theorem OwnR.kt {α : Type} {T : Rty α} {w w' : World} {B B' : Nat} {v : Value} {l : List α} (h : OwnR T w B v l) (hK : Kt B' w w') (ht : T.e ≠ 9 ∧ T.e ≠ 81 ∧ T.e ≠ 140 ∧ T.e ≠ 171 ∧ T.e ≠ 130) : OwnR T w' B v l :=
  (ownR_k T B).keep h fun k e => by
    obtain ⟨_, cur, hc⟩ := (ownR_k T B).blk h e
    exact hK.block k (blk_lt hc) (.inr ⟨cur, _, hc, ht⟩)
section
variable {w w' : World} {L : Loc} {r : RSt} {N : Nat}
/-- a row of another type has grown. -/
theorem StR.fixed (h : StR w L r N) {row : Option Nat} (hg : w.grownBy w' row) (hn : ∀ g, row = some g → Fix w g) : StR w' L r N := by
  obtain ⟨tv, h1, h2⟩ := h.tv
  have hno : ∀ {g : Nat} {cur : Array Value} {t : TypeId}, w.heap[g]? = some (.cells cur t (0, 0)) → (t = 9 ∨ t = 140 ∨ t = 171) → some g ≠ row := fun {g cur t} hc ht e => by
    obtain ⟨cur', t', hc', f1, f2, f3, f4, f5⟩ := hn g e.symm
    rw [hc] at hc'
    injection hc' with hc'
    injection hc' with _ hc' _
    subst hc'
    rcases ht with rfl | rfl | rfl
    · exact f1 rfl
    · exact f3 rfl
    · exact f4 rfl
  have hm : ∀ {α : Type} {T : Mty α} {b : Nat} {l : Sm α}, MapS T w b l → MapS T w' b l := fun {α T b l} hM => hM.kept hg fun e => hM.noFix (hn b e.symm)
  refine ⟨h.big, h.ln, h.b, h.ne, ⟨tv, (hg.block L.S (blk_lt h1) (hno h1 (.inr (.inl rfl)))).trans h1, (ownR_k TTk L.B).keep h2 fun k e => ?_⟩, hm h.mP, hm h.mV, hm h.mF, fun p hp => (h.rf p hp).keep fun k e => ?_⟩
  · obtain ⟨_, cur, hc⟩ := (ownR_k TTk L.B).blk h2 e
    exact hg.block k (blk_lt hc) (hno hc (.inr (.inr rfl)))
  · obtain ⟨_, cur, hc⟩ := (ownO_k L.B).blk (h.rf p hp) e
    exact hg.block k (blk_lt hc) (hno hc (.inl rfl))
end
theorem own_fix {α : Type} {T : Rty α} {w : World} {B : Nat} {v : Value} {l : List α} (h : OwnR T w B v l) (ht : T.e ≠ 9 ∧ T.e ≠ 81 ∧ T.e ≠ 140 ∧ T.e ≠ 171 ∧ T.e ≠ 130) : ∀ g, v.ownBlock = some g → Fix w g := fun g e => by
  obtain ⟨_, cur, hc⟩ := (ownR_k T B).blk h e
  exact ⟨cur, _, hc, ht⟩
theorem own_apart {α β : Type} {T : Rty α} {U : Rty β} {w w' : World} {B C : Nat} {v u : Value} {l : List α} {m : List β} (h : OwnR T w B v l) (hu : OwnR U w C u m) (hg : w.grownBy w' u.ownBlock) (hne : T.e ≠ U.e) : OwnR T w' B v l :=
  (ownR_k T B).keep h fun k e => by
    obtain ⟨_, cur, hc⟩ := (ownR_k T B).blk h e
    refine hg.block k (blk_lt hc) fun e1 => ?_
    obtain ⟨_, cur', hc'⟩ := (ownR_k U C).blk hu e1.symm
    rw [hc] at hc'
    injection hc' with hc'
    injection hc' with _ hc' _
    exact hne hc'
/-- where stored stands. -/
structure SdI (rs : List Rel) (l : List Fed) (at' : Int) (w0 : World) (L : Loc) (k : Nat) (A : Mdl) (r : RSt) (ov wv : Value) (rf : List (Int × Int)) (wr : World) : Prop where
  rest : runM at' (newM rs) 0 l = runM at' A k (l.drop k)
  refs : refsM at' (newM rs) 0 l = rf ++ refsM at' A k (l.drop k)
  inv : InvM A k
  logb : LogB A k
  st : StR wr L r (2 * rs.length + 200000 * k)
  rel : RelR r A
  few : rf.length ≤ k
  own1 : OwnR TNq wr w0.heap.size ov (rf.map (·.1))
  own2 : OwnR TEq wr w0.heap.size wv (rf.map (·.2))
  bel : Below w0.heap.size w0 wr
  LB : L.B = w0.heap.size
set_option maxHeartbeats 8000000 in
set_option maxRecDepth 100000 in
theorem stored_any (rs : List Rel) (l : List Fed) (at' : Int) (vr vl : Value) (w : World) (rr : RecR TRe w 0 vr rs) (rl : RecR TFe w 0 vl l)
    (hrn : rs.length ≤ 1000) (hrs : ∀ x ∈ rs, x.1.size ≤ 1000 ∧ 0 ≤ x.2.2 ∧ x.2.2 ≤ 100000) (hln : l.length ≤ 900) (hl : ∀ e ∈ l, FedR e) :
    Calls Tryz.prog 82 #[vr, vl, .int .i64 at'] w fun e w' => ∃ (L : Loc) (ov wv : Value), e = .returned (.tuple #[.pointer (some ⟨L.S, 0, none⟩), ov, wv]) ∧ (∃ r N, StR w' L r N ∧ RelR r (runM at' (newM rs) 0 l)) ∧ InvM (runM at' (newM rs) 0 l) l.length ∧
      OwnR TNq w' w.heap.size ov ((refsM at' (newM rs) 0 l).map (·.1)) ∧ OwnR TEq w' w.heap.size wv ((refsM at' (newM rs) 0 l).map (·.2)) ∧ Below w.heap.size w w' := by
  obtain ⟨ra, rc, rfl, _, _⟩ := rr.form
  obtain ⟨la, lc, rfl, _, _⟩ := rl.form
  have HNS := Lib.hid (newStoreR_any rs _ w rr hrn fun x hx => (hrs x hx).1)
  have RL := Lib.hid rl
  have HL := Lib.hid hl
  have HLN := Lib.hid hln
  have HRN := Lib.hid hrn
  have HIN := Lib.hid (newM_inv (rs := rs) fun x hx => (hrs x hx).2)
  clear rr rl hrn hrs hln hl
  go_enter Tryz.func82, Tryz.ntmps82
  go_wp2_with fail
  refine HNS.out.mono ?_
  rintro e w2 ⟨L, r, hLB, rfl, h2, hr2, hb2⟩
  have HI0 : Hid (∃ r, SdI rs l at' w L 0 (newM rs) r (.slice none 0 0) (.slice none 0 0) [] w2) := Lib.hid ⟨r, rfl, rfl, HIN.out, fun t ht => by simp [newM] at ht, by rw [Nat.mul_zero, Nat.add_zero]; exact h2, hr2, Nat.le_refl _, OwnR.nil _ _, OwnR.nil _ _, hb2, hLB⟩
  clear h2 hr2 hb2 hLB HNS
  go_wp2_with fail
  go_loopw [10, 11, 19] (fun ov wv v wr => ∃ (k : Nat) (A : Mdl) (rf : List (Int × Int)), k ≤ l.length ∧ v = .int .i64 k ∧ Hid (∃ r, SdI rs l at' w L k A r ov wv rf wr)) (fun _ _ v _ => l.length - (intOf v).toNat)
  case atStart => exact ⟨0, newM rs, [], Nat.zero_le _, rfl, HI0⟩
  case round =>
    obtain ⟨k, A, rf, hk, rfl, HI⟩ := hrel
    by_cases hlt : k < l.length
    case neg =>
      obtain rfl : k = l.length := by omega
      have HE : Hid ((∃ r N, StR wr L r N ∧ RelR r (runM at' (newM rs) 0 l)) ∧ InvM (runM at' (newM rs) 0 l) l.length ∧ OwnR TNq wr w.heap.size u10 ((refsM at' (newM rs) 0 l).map (·.1)) ∧ OwnR TEq wr w.heap.size u11 ((refsM at' (newM rs) 0 l).map (·.2)) ∧ Below w.heap.size w wr) := Lib.hid (by
        obtain ⟨r, hI⟩ := HI.out
        have h1 : runM at' (newM rs) 0 l = A := by rw [hI.rest, List.drop_length]; rfl
        have h2 : refsM at' (newM rs) 0 l = rf := by rw [hI.refs, List.drop_length]; show rf ++ [] = rf; simp
        rw [h1, h2]
        exact ⟨⟨r, _, hI.st, hI.rel⟩, hI.inv, hI.own1, hI.own2, hI.bel⟩)
      clear HI
      go_wp2
      go_ret3
      exact ⟨L, _, _, rfl, HE.out⟩
    obtain ⟨e, he⟩ : ∃ z, l[k]? = some z := ⟨_, List.getElem?_eq_getElem hlt⟩
    obtain ⟨r, hI⟩ := HI.out
    obtain ⟨b1, o1, hae, _, hb1, hc1⟩ := (RL.out.below hI.bel).at TFe.ok.len he TFe.ok.pos
    subst hae
    have HER := Lib.hid (HL.out e (List.mem_of_getElem? he))
    have HE := Lib.hid he
    obtain ⟨t, kd, fd, rk, mn, bd⟩ := e
    have c0 : wr.cell? ⟨b1, o1 + k * 6, none⟩ = some (.int .i64 t) := hc1 0 _ rfl
    have c1 : wr.cell? ⟨b1, o1 + k * 6 + 1, none⟩ = some (.int .i64 kd) := hc1 1 _ rfl
    have c2 : wr.cell? ⟨b1, o1 + k * 6 + 2, none⟩ = some (.string fd) := hc1 2 _ rfl
    have c3 : wr.cell? ⟨b1, o1 + k * 6 + 3, none⟩ = some (.string rk) := hc1 3 _ rfl
    have c4 : wr.cell? ⟨b1, o1 + k * 6 + 4, none⟩ = some (.int .i64 mn) := hc1 4 _ rfl
    have c5 : wr.cell? ⟨b1, o1 + k * 6 + 5, none⟩ = some (.string bd) := hc1 5 _ rfl
    have hw1 : IntKind.i64.wrap ((k : Int) + 1) = ((k + 1 : Nat) : Int) := by have := HLN.out; rw [IntWalk.i64_in _ (by omega)]; omega
    have hbA : Below wr.heap.size wr (wr.alloc (.cells #[.int .i64 t, .int .i64 kd, .string fd, .string rk, .int .i64 mn, .string bd] 76)) := Bl.alloc (Below.refl _ _) _
    have HIA : Hid (SdI rs l at' w L k A r u10 u11 rf (wr.alloc (.cells #[.int .i64 t, .int .i64 kd, .string fd, .string rk, .int .i64 mn, .string bd] 76))) := Lib.hid ⟨hI.rest, hI.refs, hI.inv, hI.logb, hI.st.low hbA, hI.rel, hI.few, hI.own1.below hbA, hI.own2.below hbA, Bl.trans hI.bel hbA, hI.LB⟩
    clear he hc1 hI hbA
    by_cases hat : at' < t
    case pos =>
      have hgt : t > at' := hat
      have HN : Hid (∃ r, SdI rs l at' w L (k + 1) A r u10 u11 rf (wr.alloc (.cells #[.int .i64 t, .int .i64 kd, .string fd, .string rk, .int .i64 mn, .string bd] 76))) := Lib.hid ⟨r, by
        have hI := HIA.out
        exact ⟨hI.rest.trans (runM_skip HE.out hat), hI.refs.trans (by rw [refsM_skip HE.out hat]), hI.inv.mono (Nat.le_succ k), hI.logb.mono (Nat.le_succ k), hI.st.mono (by omega) (by have h1 := HRN.out; have h2 := HLN.out; omega), hI.rel, Nat.le_succ_of_le hI.few, hI.own1, hI.own2, hI.bel, hI.LB⟩⟩
      clear HIA
      go_wp2
      go_roundw
      case rel => exact ⟨k + 1, A, rf, by omega, by go_num, HN⟩
      case measure => simp [intOf]; omega
    case neg =>
      have HAT : Hid (t ≤ at') := Lib.hid (Int.not_lt.1 hat)
      have hIA := HIA.out
      have HD := Lib.hid (rdo_any L r _ k A k (t, kd, fd, rk, mn, bd) _ hIA.st (by have h1 := HRN.out; have h2 := HLN.out; omega) hIA.rel hIA.inv (by have h2 := HLN.out; omega) HER.out (fun q hq => by have := hIA.logb q hq; omega))
      obtain ⟨R, hR⟩ : ∃ R, R = refM A (t, kd, fd, rk, mn, bd) := ⟨_, rfl⟩
      rw [← hR] at HD
      have HRR := Lib.hid hR
      clear hIA hR
      change Hid (Calls _ _ #[_, _, .agg #[.int .i64 t, .int .i64 kd, .string fd, .string rk, .int .i64 mn, .string bd]] _ _) at HD
      go_wp2_with fail
      refine HD.out.mono ?_
      rintro z w5 ⟨rfl, r5, h5, hr5, hk5⟩
      have HS5 : Hid (∀ rf', refsM at' A k (l.drop k) = rf' ++ refsM at' (stepM A k (t, kd, fd, rk, mn, bd)) (k + 1) (l.drop (k + 1)) → rf'.length ≤ 1 → ∀ ov wv W, StR W L r5 (2 * rs.length + 200000 * (k + 1)) → OwnR TNq W w.heap.size ov ((rf ++ rf').map (·.1)) → OwnR TEq W w.heap.size wv ((rf ++ rf').map (·.2)) → Below w.heap.size w W → SdI rs l at' w L (k + 1) (stepM A k (t, kd, fd, rk, mn, bd)) r5 ov wv (rf ++ rf') W) := Lib.hid fun rf' e1 e2 ov wv W hs o1 o2 hb => by
        have hI := HIA.out
        exact ⟨hI.rest.trans (runM_go HE.out (Int.not_lt.2 HAT.out)), hI.refs.trans (by rw [e1, List.append_assoc]), hI.inv.step HER.out _, hI.logb.step _, hs, hr5, by rw [List.length_append]; have := hI.few; omega, o1, o2, hb, hI.LB⟩
      have H5 : Hid (StR w5 L r5 (2 * rs.length + 200000 * (k + 1)) ∧ OwnR TNq w5 w.heap.size u10 (rf.map (·.1)) ∧ OwnR TEq w5 w.heap.size u11 (rf.map (·.2)) ∧ Below w.heap.size w w5) := Lib.hid (by
        have hI := HIA.out
        refine ⟨by rw [show 2 * rs.length + 200000 * (k + 1) = 2 * rs.length + 200000 * k + 200000 by omega]; exact h5, hI.own1.kt hk5 (by decide), hI.own2.kt hk5 (by decide), hI.bel.trans ((hk5.below hI.st.lt.2).mono (by rw [hI.LB]; exact Nat.le_refl _))⟩)
      have HFW : Hid (rf.length ≤ 900) := Lib.hid (by have h1 := HIA.out.few; have h2 := HLN.out; omega)
      clear h5 hr5 hk5 HD HIA
      by_cases hr0 : R = 0
      case pos =>
        have HN : Hid (∃ r, SdI rs l at' w L (k + 1) (stepM A k (t, kd, fd, rk, mn, bd)) r u10 u11 rf w5) := Lib.hid ⟨r5, by
          have h1 := HS5.out [] (by rw [refsM_ok HE.out (Int.not_lt.2 HAT.out) (by rw [← HRR.out]; exact hr0)]; rfl) (Nat.zero_le _) u10 u11 w5 H5.out.1 (by rw [List.append_nil]; exact H5.out.2.1) (by rw [List.append_nil]; exact H5.out.2.2.1) H5.out.2.2.2
          rw [List.append_nil] at h1
          exact h1⟩
        subst hr0
        clear HS5 H5
        go_wp2
        go_roundw
        case rel => exact ⟨k + 1, _, rf, by omega, by go_num, HN⟩
        case measure => simp [intOf]; omega
      case neg =>
        have hrb : (R == 0) = false := by simp [hr0]
        have HREF : Hid (refsM at' A k (l.drop k) = [((k : Int), R)] ++ refsM at' (stepM A k (t, kd, fd, rk, mn, bd)) (k + 1) (l.drop (k + 1))) := Lib.hid (by rw [refsM_no HE.out (Int.not_lt.2 HAT.out) (by rw [← HRR.out]; exact hr0), ← HRR.out]; rfl)
        obtain ⟨oa, oc, hov, _, _⟩ := H5.out.2.1.form
        obtain ⟨wa, wc, hwv, _, _⟩ := H5.out.2.2.1.form
        rw [List.length_map] at hov hwv
        subst hov hwv
        have hsz := H5.out.2.2.2.size
        have h1l : (rf.map (·.1)).length ≤ 1000000 := by rw [List.length_map]; have := HFW.out; omega
        have h2l : (rf.map (·.2)).length ≤ 1000000 := by rw [List.length_map]; have := HFW.out; omega
        have hbA1 : Below w5.heap.size w5 (w5.alloc (.cells #[.int .i64 (k : Int)] 3)) := Bl.alloc (Below.refl _ _) _
        go_wp2_with (at_builtin; refine wp_app_r TNq.ok rfl _ _ rfl w.heap.size _ (rf.map (·.1)) rfl (H5.out.2.1.alloc _) w5.heap.size 1 (k : Int) rfl (blk_new w5 _) rfl h1l (by simp; omega) ?_)
        intro v8 w8 hO8 hg8 hb8
        have hs8 := (H5.out.1.low hbA1).fixed hg8 (own_fix (H5.out.2.1.below hbA1) (by decide))
        have hp8 := own_apart (H5.out.2.2.1.below hbA1) (H5.out.2.1.below hbA1) hg8 (by decide)
        have hB8 : Below w.heap.size w w8 := Below.trans (Bl.trans H5.out.2.2.2 hbA1) (app_belowR (H5.out.2.1.below hbA1) hg8 (by simp; omega))
        have H8 := Lib.hid (And.intro hs8 (And.intro hO8 (And.intro hp8 hB8)))
        have hz8 := hB8.size
        obtain ⟨a8, n8, c8, rfl⟩ : ∃ a n c, v8 = .slice a n c := (by obtain ⟨a, c, h, _, _⟩ := hO8.form; exact ⟨a, _, c, h⟩)
        have hbA2 : Below w8.heap.size w8 (w8.alloc (.cells #[.int .i64 R] 35)) := Bl.alloc (Below.refl _ _) _
        clear hs8 hO8 hp8 hB8 hg8 hb8
        go_wp2_with (at_builtin; refine wp_app_r TEq.ok rfl _ _ rfl w.heap.size _ (rf.map (·.2)) rfl (H8.out.2.2.1.alloc _) w8.heap.size 1 R rfl (blk_new w8 _) rfl h2l (by simp; omega) ?_)
        intro v9 w9 hO9 hg9 hb9
        have hs9 := (H8.out.1.low hbA2).fixed hg9 (own_fix (H8.out.2.2.1.below hbA2) (by decide))
        have hp9 := own_apart (H8.out.2.1.below hbA2) (H8.out.2.2.1.below hbA2) hg9 (by decide)
        have hB9 : Below w.heap.size w w9 := Below.trans (Bl.trans H8.out.2.2.2 hbA2) (app_belowR (H8.out.2.2.1.below hbA2) hg9 (by simp; omega))
        obtain ⟨a9, n9, c9, rfl⟩ : ∃ a n c, v9 = .slice a n c := (by obtain ⟨a, c, h, _, _⟩ := hO9.form; exact ⟨a, _, c, h⟩)
        have HN : Hid (∃ r, SdI rs l at' w L (k + 1) (stepM A k (t, kd, fd, rk, mn, bd)) r (.slice a8 n8 c8) (.slice a9 n9 c9) (rf ++ [((k : Int), R)]) w9) := Lib.hid ⟨r5, HS5.out [((k : Int), R)] HREF.out (Nat.le_refl _) _ _ w9 hs9 (by rw [List.map_append]; exact hp9) (by rw [List.map_append]; exact hO9) hB9⟩
        clear hs9 hO9 hp9 hB9 hg9 hb9 HS5 H5 H8 hbA1 hbA2
        go_wp2
        go_roundw
        case rel => exact ⟨k + 1, _, _, by omega, by go_num, HN⟩
        case measure => simp [intOf]; omega
end Go.Proofs.YtcfeoapbbkfbnaaGreatDoor
