/- The reference's store: empty first reels are taken out of a feeder. Conditions: at most 900 reels a feeder, names of at most 2^47 bytes. · The reference's store uses components, one by one. Conditions: an event as the checks let it through, at most 900 events before it. -/
import Derived.Test.YtcfeoapbbkfbnaaGreatDoorReT
namespace Go.Proofs.YtcfeoapbbkfbnaaGreatDoor
open Go.RowKit Go.Sort Go.Maps

theorem CloneSr_any (l : List ByteArray) (v : Value) (w : World) (hl : l.length ≤ 100000) (rl : RecR TS w 0 v l) :
    Calls Tryz.prog 156 #[v] w fun e w' => ∃ v', e = .returned v' ∧ OwnR TS w' w.heap.size v' l ∧ Below w.heap.size w w' := by
  obtain ⟨a, cap, rfl, hc1, hc2⟩ := rl.form
  by_cases h0 : l = []
  · subst h0
    cases a with
    | none =>
      refine (Tryz.slices_Clone_string_nil _ cap w).mono ?_
      rintro e w' ⟨rfl, rfl⟩
      exact ⟨_, rfl, OwnR.nil _ _, Below.refl _ _⟩
    | some a =>
      refine (Tryz.slices_Clone_string_zero a cap w).mono ?_
      rintro e w' ⟨v', rfl, h1, _, h2⟩
      exact ⟨v', rfl, h1, h2⟩
  · obtain ⟨y, hy⟩ : ∃ y, l[0]? = some y := ⟨_, List.getElem?_eq_getElem (List.length_pos_iff.2 h0)⟩
    obtain ⟨b, o, rfl, _, _, _⟩ := strs_at rl hy
    refine (Tryz.slices_Clone_string b o l.length cap l w (Nat.le_refl _) (by omega) (strs_cells rl)).mono ?_
    rintro e w' ⟨v', rfl, h1, _, h2⟩
    refine ⟨v', rfl, ?_, h2⟩
    rw [List.take_length] at h1
    unfold OwnR
    rw [strs_flat]
    exact h1
theorem put_has {α : Type} {l : Sm α} {k : Bs} {u v : α} (h : l.get k = some u) : (l.put k v).length ≤ l.length := by
  unfold Sm.put
  rw [Sm.ins_length]
  have := List.length_filter_lt_length_iff_exists (l := l) (p := fun p : Bs × α => decide (p.1 ≠ k))
  have h2 := this.2 ⟨(k, u), Sm.get_mem h, by simp⟩
  unfold Sm.del
  omega
/-- where drop stands. -/
structure DrI (L : Loc) (s : RSt) (N : Nat) (f : ByteArray) (w wr : World) (v : Value) (n : Nat) (F' : Fds) (l' : List ByteArray) : Prop where
  len : n = l'.length
  drop : dropE (lfI s.V) (rowO s.F f) = dropE (lfI s.V) l'
  own : OwnO wr L.B v l'
  row : rowO F' f = l'
  oth : ∀ g, g ≠ f → rowO F' g = rowO s.F g
  sub : l' <:+ rowO s.F f
  st : StR wr L { s with F := F' } N
  kt : Kt L.B w wr
set_option maxHeartbeats 8000000 in
set_option maxRecDepth 100000 in
theorem drop_any (L : Loc) (s : RSt) (N : Nat) (f : ByteArray) (w : World) (h : StR w L s N) (hf : f.size ≤ maxLen) (hn : ∀ x ∈ rowO s.F f, x.size ≤ maxLen) (hlen : (rowO s.F f).length ≤ 900) :
    Calls Tryz.prog 186 #[.pointer (some ⟨L.S, 0, none⟩), .string f] w fun e w' => e = .returned (.tuple #[]) ∧ ∃ F', StR w' L { s with F := F' } N ∧ (∀ g, rowO F' g = if g = f then dropE (lfI s.V) (rowO s.F f) else rowO s.F g) ∧ Kt L.B w w' := by
  have c2 := h.cells.2.2
  obtain ⟨hd, hlk, hO⟩ := h.rowB f hf
  obtain ⟨a0, cap0, hv, _, _⟩ := hO.form
  have hlk0 := hlk w (Below.refl _ _)
  obtain ⟨n0, hn0⟩ : ∃ n0, n0 = (rowO s.F f).length := ⟨_, rfl⟩
  rw [hv, ← hn0] at hlk0
  rw [hv, ← hn0] at hO
  have HI0 : Hid (DrI L s N f w w (.slice a0 n0 cap0) n0 s.F (rowO s.F f)) := Lib.hid ⟨hn0, rfl, hO, rfl, fun _ _ => rfl, List.suffix_refl _, h, Kt.refl _ _⟩
  have HF := Lib.hid hf
  have HNM := Lib.hid hn
  have HLN := Lib.hid hlen
  have lS := h.lt.1
  have HEND : Hid (∀ wr W v n F' l', DrI L s N f w wr v n F' l' → dropE (lfI s.V) l' = l' → Below wr.heap.size wr W → ∃ F', StR W L { s with F := F' } N ∧ (∀ g, rowO F' g = if g = f then dropE (lfI s.V) (rowO s.F f) else rowO s.F g) ∧ Kt L.B w W) := Lib.hid fun wr W v n F' l' hI e hW => by
    refine ⟨F', hI.st.low hW, fun g => ?_, hI.kt.trans (Kt.of_below hW)⟩
    by_cases hg : g = f
    · rw [if_pos hg, hg, hI.row, hI.drop, e]
    · rw [if_neg hg, hI.oth g hg]
  clear h hlk hO hv hn hlen hf hn0
  go_enter Tryz.func186, Tryz.ntmps186
  go_wp2_with fail
  clear hlk0 c2
  go_loopw [4] (fun v4 wr => ∃ (a : Option Addr) (n cap : Nat) (F' : Fds) (l' : List ByteArray), v4 = .slice a n cap ∧ Hid (DrI L s N f w wr (.slice a n cap) n F' l')) (fun v4 _ => slLen v4)
  case atStart => exact ⟨_, _, _, _, _, rfl, HI0⟩
  case round =>
    obtain ⟨a, n, cap, F', l', rfl, HI⟩ := hrel
    by_cases h1 : n ≤ 1
    case pos =>
      have HD : Hid (dropE (lfI s.V) l' = l') := Lib.hid (by
        have := HI.out.len
        match l', this with
        | [], _ => rfl
        | [x], _ => rfl
        | x :: y :: t, h => simp at h; omega)
      have h2 : n = 0 ∨ n = 1 := by omega
      clear h1
      rcases h2 with rfl | rfl
      all_goals (
        go_wp2_with fail
        go_quiet (fail)
        have HE := Lib.hid (HEND.out _ _ _ _ _ _ HI.out HD.out (Bl.drewN (Below.refl _ _) nq))
        go_wp2
        go_end0
        exact ⟨rfl, HE.out⟩)
    case neg =>
      have hI := HI.out
      obtain ⟨x, y, r, rfl⟩ : ∃ x y r, l' = x :: y :: r := by
        have := hI.len
        match l', this with
        | [], h => simp at h; omega
        | [x], h => simp at h; omega
        | x :: y :: t, h => exact ⟨x, y, t, rfl⟩
      obtain ⟨g, o, cap2, hv2, d0⟩ := hI.own.at (k := 0) rfl
      injection hv2 with e1 e2 e3
      subst e1
      clear e2 e3
      rw [Nat.add_zero] at d0
      have hcap : n ≤ cap := by
        obtain ⟨a3, c3, e3, h3, -⟩ := hI.own.form
        injection e3 with _ e3 e4
        rw [e3, e4]; exact h3
      have hxs : x.size ≤ maxLen := HNM.out x (hI.sub.subset (by simp))
      have hlr2 : ∀ m, (Instr.lookup 128 (.map (some L.m1)) (.string x) false).run Tryz.prog (wr.drewN m) = .ok (.int .i64 (lfI s.V x)) (wr.drewN m) := fun m => hI.st.leftB x hxs _ (Bl.drewN (Below.refl _ _) m)
      obtain ⟨qn, hqn⟩ : ∃ qn, qn = lfI s.V x := ⟨_, rfl⟩
      rw [← hqn] at hlr2
      have HQN := Lib.hid hqn
      have a1 := hI.st.cells.2.1
      have lSr := hI.st.lt.1
      have lg2 := World.block_lt_of_cell? _ _ d0
      simp only at lg2
      have hn2 : (1 : Int) < (n : Int) := by omega
      have hn3 : 1 < n := by omega
      clear hI hxs hqn h1
      by_cases hq0 : qn = 0
      case neg =>
        have hqf : (qn == 0) = false := by simp [hq0]
        have HD : Hid (dropE (lfI s.V) (x :: y :: r) = x :: y :: r) := Lib.hid (dropE_pos _ (by rw [← HQN.out]; exact hq0))
        go_wp2_with fail
        go_quiet (fail)
        have HE := Lib.hid (HEND.out _ _ _ _ _ _ HI.out HD.out (Bl.drewN (Below.refl _ _) nq))
        go_wp2
        go_end0
        exact ⟨rfl, HE.out⟩
      case pos =>
        subst hq0
        go_wp2_with fail
        go_quiet (fail)
        have HB2 : Hid (Below wr.heap.size wr (wr.drewN nq)) := Lib.hid (Bl.drewN (Below.refl _ _) nq)
        have hI := HI.out
        have b2 : (wr.drewN nq).cell? ⟨L.S, 2, none⟩ = some (.map (some L.m2)) := hI.st.cells.2.2
        have lS3 : L.S < (wr.drewN nq).heap.size := lSr
        have lg3 : g < (wr.drewN nq).heap.size := lg2
        have hrn : n = (y :: r).length + 1 := by rw [hI.len]; rfl
        have hT : OwnO (wr.drewN nq) L.B (.slice (some ⟨g, o + 1, none⟩) (n - 1) (cap - 1)) (y :: r) := by
          have h1 := hI.own.below HB2.out
          rw [hrn] at h1 ⊢
          exact OwnO.tail h1
        have HTL := Lib.hid hT
        have hyl : (y :: r).length ≤ 900 := by have h1 := hI.sub.length_le; have h2 := HLN.out; simp only [List.length_cons] at h1 ⊢; omega
        have HYL := Lib.hid hyl
        have HST : Hid (∀ W v w2, Below (wr.drewN nq).heap.size (wr.drewN nq) W → OwnR TS w2 W.heap.size v (y :: r) → Below W.heap.size W w2 → ∃ hdc w5, v = hdrV hdc ∧ (Instr.mapUpdate 126 (.map (some L.m2)) (.string f) (hdrV hdc)).run Tryz.prog w2 = .ok () w5 ∧ Hid (DrI L s N f w w5 (hdrV hdc) (n - 1) (F'.put f.data.toList (hdc, y :: r)) (y :: r)) ∧ w2.cell? ⟨L.S, 2, none⟩ = some (.map (some L.m2)) ∧ L.S < w2.heap.size) := Lib.hid fun W v w2 hW hO2 hb2 => by
          have hI := HI.out
          have hB2 := Bl.trans (Bl.trans HB2.out hW) hb2
          have h2 := hI.st.low hB2
          have hOO : OwnO w2 L.B v (y :: r) := OwnO.of_own (hO2.base (Nat.le_trans hI.st.lt.2 (Bl.trans HB2.out hW).size))
          obtain ⟨hdc, rfl⟩ := hdr_ofO hOO
          have hhas : ∃ u, F'.get f.data.toList = some u := by
            have h3 := hI.row
            unfold rowO at h3
            cases hg : F'.get f.data.toList with
            | none => rw [hg] at h3; cases h3
            | some u => exact ⟨u, rfl⟩
          obtain ⟨u, hu⟩ := hhas
          obtain ⟨w5, hr5, h5, hk5⟩ := h2.putF h2.big f HF.out hdc (y :: r) hOO (Nat.le_refl _) (Nat.le_trans (put_has hu) h2.ln.2.2)
          have hO5 : OwnO w5 L.B (hdrV hdc) (y :: r) := h5.rf (f.data.toList, hdc, y :: r) ((Sm.ins_mem _).2 (.inl rfl))
          refine ⟨hdc, w5, rfl, hr5, Lib.hid ⟨?_, ?_, hO5, ?_, fun g' hg' => ?_, ?_, h5, hI.kt.trans ((Kt.of_below hB2).trans hk5)⟩, h2.cells.2.2, h2.lt.1⟩
          · rw [hI.len]; rfl
          · rw [hI.drop]
            show (if lfI s.V x = 0 then _ else _) = _
            rw [if_pos HQN.out.symm]
          · rw [rowO_put, if_pos rfl]
          · rw [rowO_put, if_neg hg', hI.oth g' hg']
          · exact (List.suffix_cons _ _).trans hI.sub
        have hc2 : ¬ cap = 1 := by omega
        have hc3 : ¬ cap - 1 = 0 := by omega
        have hn1 : 1 ≤ n := by omega
        have hn1i : (1 : Int) ≤ (n : Int) := by omega
        have hn4 : n - 1 < n := by omega
        clear hI hT hyl hrn hlr2 a1 d0 lg2 lSr HB2
        generalize wr.drewN nq = W1 at *
        have HCL : Hid (∀ W, Below W1.heap.size W1 W → Calls Tryz.prog 156 #[.slice (some ⟨g, o + 1, none⟩) (n - 1) (cap - 1)] W fun e w' => ∃ v', e = .returned v' ∧ OwnR TS w' W.heap.size v' (y :: r) ∧ Below W.heap.size W w') := Lib.hid fun W hW => CloneSr_any (y :: r) _ W (by have := HYL.out; omega) (HTL.out.below hW).rec
        have hdd : Below W1.heap.size W1 W1.drew := Below.drew (Below.refl _ _)
        go_wp2_with fail
        go_region_law (refine step_goN rfl 156 #[.tmp 37] _ rfl (enters_of Tryz.func156 (by kernel_rfl) rfl) #[.slice (some ⟨g, o + 1, none⟩) (n - 1) (cap - 1)] (by simp [Act.eval, Act.put]) _ (HCL.out _ hdd) ?_; rintro e w2 ⟨cv, rfl, HCO, hb2⟩; refine ⟨_, rfl, ?_⟩; obtain ⟨hdc, w5, rfl, hr5, HS5, b5, lS5⟩ := HST.out _ _ _ hdd HCO hb2; clear HCO hb2)
        all_goals (
          have hI5 := HS5.out
          obtain ⟨hd5, hlk5, hO5⟩ := hI5.st.rowB f HF.out
          have hrow5 : rowO (F'.put f.data.toList (hdc, y :: r)) f = y :: r := hI5.row
          rw [show rowO (RSt.F { s with F := F'.put f.data.toList (hdc, y :: r) }) f = y :: r from hrow5] at hO5
          obtain ⟨a5, c5, hv5, _, _⟩ := hO5.form
          obtain ⟨n5, hn5⟩ : ∃ n5, n5 = (y :: r).length := ⟨_, rfl⟩
          rw [hv5, ← hn5] at hO5
          have hlk6 := hlk5 w5 (Below.refl _ _)
          rw [hv5, ← hn5] at hlk6
          have HN5 : Hid (DrI L s N f w w5 (.slice a5 n5 c5) n5 (F'.put f.data.toList (hdc, y :: r)) (y :: r)) := Lib.hid ⟨hn5, hI5.drop, hO5, hI5.row, hI5.oth, hI5.sub, hI5.st, hI5.kt⟩
          have hlt5 : n5 < n := by have := hI5.len; rw [← hn5] at this; omega
          have d2 : w5.cell? ⟨L.S, 2, none⟩ = some (.map (some L.m2)) := hI5.st.cells.2.2
          have lS6 := hI5.st.lt.1
          clear hI5 hlk5 hrow5 hO5 hv5 hn5 hr5 b5
          go_wp2
          go_roundw
          case rel => exact ⟨_, _, _, _, _, rfl, HN5⟩
          case measure => simp [slLen]; omega)
end Go.Proofs.YtcfeoapbbkfbnaaGreatDoor
namespace Go.Proofs.YtcfeoapbbkfbnaaGreatDoor
open Go.RowKit Go.Sort Go.Maps

/-- the reference's store, told which value its row of what was taken has; the row itself apart. -/
structure StRt (w : World) (L : Loc) (r : RSt) (N : Nat) (tv : Value) : Prop where
  big : N ≤ 1000000000
  ln : r.P.length ≤ N ∧ r.V.length ≤ N ∧ r.F.length ≤ N
  b : L.B ≤ L.S ∧ L.B ≤ L.m0 ∧ L.B ≤ L.m1 ∧ L.B ≤ L.m2
  ne : L.m0 ≠ L.m1 ∧ L.m0 ≠ L.m2 ∧ L.m1 ≠ L.m2
  blk : w.heap[L.S]? = some (.cells #[.map (some L.m0), .map (some L.m1), .map (some L.m2), tv] 140 (0, 0))
  mP : MapS TMs w L.m0 r.P
  mV : MapS TMi w L.m1 r.V
  mF : MapS TMh w L.m2 (hdS r.F)
  rf : ∀ p ∈ r.F, OwnO w L.B (hdrV p.2.1) p.2.2
section
variable {w w' : World} {L : Loc} {r : RSt} {N : Nat} {tv : Value}
theorem StR.open (h : StR w L r N) : ∃ tv, StRt w L r N tv ∧ OwnR TTk w L.B tv r.T := by
  obtain ⟨tv, h1, h2⟩ := h.tv
  exact ⟨tv, ⟨h.big, h.ln, h.b, h.ne, h1, h.mP, h.mV, h.mF, h.rf⟩, h2⟩
theorem StRt.close (h : StRt w L r N tv) {T : List Tkn} (ho : OwnR TTk w L.B tv T) : StR w L { r with T := T } N := ⟨h.big, h.ln, h.b, h.ne, ⟨tv, h.blk, ho⟩, h.mP, h.mV, h.mF, h.rf⟩
theorem StRt.lt (h : StRt w L r N tv) : L.S < w.heap.size ∧ L.B ≤ w.heap.size := ⟨blk_lt h.blk, Nat.le_trans h.b.1 (Nat.le_of_lt (blk_lt h.blk))⟩
theorem StRt.low (h : StRt w L r N tv) (hb : Below w.heap.size w w') : StRt w' L r N tv := ⟨h.big, h.ln, h.b, h.ne, blk_below h.blk hb, h.mP.below hb, h.mV.below hb, h.mF.below hb, fun p hp => (h.rf p hp).below hb⟩
/-- a block of another type has turned. -/
theorem StRt.offT (h : StRt w L r N tv) {row : Option Nat} (hg : w.grownBy w' row) (hn : ∀ g, row = some g → ∃ cur, w.heap[g]? = some (.cells cur 171 (0, 0))) : StRt w' L r N tv := by
  have hm : ∀ {α : Type} {T : Mty α} {b : Nat} {l : Sm α}, MapS T w b l → MapS T w' b l := fun {α T b l} hM => hM.kept hg fun e => by
    obtain ⟨cur, hc⟩ := hn b e.symm
    exact hM.noCells cur _ hc
  refine ⟨h.big, h.ln, h.b, h.ne, (hg.block L.S (blk_lt h.blk) fun e => ?_).trans h.blk, hm h.mP, hm h.mV, hm h.mF, fun p hp => (h.rf p hp).keep fun k e => ?_⟩
  · obtain ⟨cur, hc⟩ := hn L.S e.symm
    rw [h.blk] at hc
    injection hc with hc
    injection hc with _ hc _
    exact absurd hc (by decide)
  · obtain ⟨_, cur, hc⟩ := (ownO_k L.B).blk (h.rf p hp) e
    refine hg.block k (blk_lt hc) fun e1 => ?_
    obtain ⟨cur', hc'⟩ := hn k e1.symm
    rw [hc] at hc'
    injection hc' with hc'
    injection hc' with _ hc' _
    exact absurd hc' (by decide)
theorem StRt.row (h : StRt w L r N tv) {v : Value} {T : List Tkn} (hO : OwnR TTk w L.B v T) (hg : w.grownBy w' v.ownBlock) : StRt w' L r N tv :=
  h.offT hg fun g e => by
    obtain ⟨_, cur, hc⟩ := (ownR_k TTk L.B).blk hO e
    exact ⟨cur, hc⟩
theorem Kt.of_rowT {B : Nat} {v : Value} {l : List Tkn} (hO : OwnR TTk w B v l) (hg : w.grownBy w' v.ownBlock) : Kt B w w' := by
  cases e : v.ownBlock with
  | none => rw [e] at hg; exact Kt.of_below (Gr.below_none hg)
  | some g =>
    rw [e] at hg
    obtain ⟨h1, cur, h2⟩ := (ownR_k TTk B).blk hO e
    refine Kt.of_gr hg h1 ?_
    rintro ⟨cur', t, h3, _, _, _, h4, _⟩
    rw [h2] at h3
    injection h3 with h3
    injection h3 with _ h3 _
    exact h4 h3.symm
/-- the row of what was taken is put back. -/
theorem StRt.put (h : StRt w L r N tv) {a : Option Addr} {n c : Nat} {T : List Tkn} (hO : OwnR TTk w L.B (.slice a n c) T) : StR (w.setCell ⟨L.S, 3, none⟩ (.slice a n c)) L { r with T := T } N ∧ Kt L.B w (w.setCell ⟨L.S, 3, none⟩ (.slice a n c)) := by
  have hg : w.grownBy (w.setCell ⟨L.S, 3, none⟩ (.slice a n c)) (some L.S) := Gr.set (Gr.refl _ _) _ _ (.inl rfl) _
  have hk : ∀ k, k < w.heap.size → k ≠ L.S → (w.setCell ⟨L.S, 3, none⟩ (.slice a n c)).heap[k]? = w.heap[k]? := fun k h1 h2 => hg.block k h1 fun e => h2 (by injection e)
  have hm : ∀ {α : Type} {T : Mty α} {b : Nat} {l : Sm α}, MapS T w b l → MapS T (w.setCell ⟨L.S, 3, none⟩ (.slice a n c)) b l := fun {α T b l} hM => hM.keep (hk b hM.lt fun e => hM.noCells _ _ (e ▸ h.blk))
  refine ⟨⟨h.big, h.ln, h.b, h.ne, ⟨_, blk_set h.blk 3 _, (ownR_k TTk L.B).keep hO fun k e => ?_⟩, hm h.mP, hm h.mV, hm h.mF, fun p hp => (h.rf p hp).keep fun k e => ?_⟩, Kt.of_gr hg h.b.1 ?_⟩
  · obtain ⟨_, cur, hc⟩ := (ownR_k TTk L.B).blk hO e
    refine hk k (blk_lt hc) fun e1 => ?_
    subst e1
    rw [h.blk] at hc
    injection hc with hc
    injection hc with _ hc _
    exact absurd hc (by decide)
  · obtain ⟨_, cur, hc⟩ := (ownO_k L.B).blk (h.rf p hp) e
    refine hk k (blk_lt hc) fun e1 => ?_
    subst e1
    rw [h.blk] at hc
    injection hc with hc
    injection hc with _ hc _
    exact absurd hc (by decide)
  · rintro ⟨cur', t, h3, _, _, h4, _⟩
    rw [h.blk] at h3
    injection h3 with h3
    injection h3 with _ h3 _
    exact h4 h3.symm
end
theorem takeO_zero (left : Lf) (l : List ByteArray) (lg : List (ByteArray × Int)) : takeO 0 left l lg = (left, dropE left l, lg) := rfl
theorem takeO_succ {n : Nat} {left : Lf} {l : List ByteArray} {x : ByteArray} {r : List ByteArray} {lg : List (ByteArray × Int)} (h : dropE left l = x :: r) : takeO (n + 1) left l lg = takeO n (updL left x (left x - 1)) (x :: r) (addT lg x) := by
  rw [takeO, h]
/-- where the reference's use stands: so many are taken. -/
structure UrI (L : Loc) (s : RSt) (N : Nat) (i : Int) (e : Fed) (l : List ByteArray) (T : Lf × List ByteArray × List (ByteArray × Int)) (w wr : World) (j m : Nat) (left : Lf) (l' : List ByteArray) (lg : List (ByteArray × Int)) (s' : RSt) : Prop where
  jm : (j : Int) + m = e.mn
  tk : takeO m left l' lg = T
  nn : ∀ x, -(j : Int) ≤ left x ∧ left x ≤ 100000
  ne : l' ≠ []
  sf : l' <:+ l
  st : StR wr L s' (N + j)
  lf : lfI s'.V = left
  pt : s'.P = s.P
  rw : ∀ g, rowO s'.F g = if g = e.fd then l' else rowO s.F g
  lT : s'.T = s.T ++ logU i e lg
  lb : lg.length ≤ j ∧ ∀ p ∈ lg, 0 ≤ p.2 ∧ p.2 ≤ j
  kt : Kt L.B w wr
theorem logU_cons (i : Int) (e : Fed) (x : ByteArray) (n : Int) (lg : List (ByteArray × Int)) : logU i e ((x, n) :: lg) = logU i e lg ++ [(i, e.at, e.bd, e.fd, x, n)] := by
  unfold logU
  rw [List.reverse_cons, List.map_append]
  rfl
theorem addT_few {lg : List (ByteArray × Int)} {x : ByteArray} {j : Nat} (h : lg.length ≤ j ∧ ∀ p ∈ lg, 0 ≤ p.2 ∧ p.2 ≤ j) : (addT lg x).length ≤ j + 1 ∧ ∀ p ∈ addT lg x, 0 ≤ p.2 ∧ p.2 ≤ ((j + 1 : Nat) : Int) := by
  have hall : ∀ p ∈ lg, 0 ≤ p.2 ∧ p.2 ≤ ((j + 1 : Nat) : Int) := fun p hp => by have := h.2 p hp; omega
  have hnew : ((x, 1) :: lg).length ≤ j + 1 ∧ ∀ p ∈ (x, (1 : Int)) :: lg, 0 ≤ p.2 ∧ p.2 ≤ ((j + 1 : Nat) : Int) := ⟨by have := h.1; simp only [List.length_cons]; omega, fun p hp => by
    rcases List.mem_cons.1 hp with rfl | hp
    · simp only; omega
    · exact hall p hp⟩
  cases lg with
  | nil => exact hnew
  | cons q r =>
    obtain ⟨y, m⟩ := q
    rw [addT]
    split
    · refine ⟨by have := h.1; simp only [List.length_cons] at this ⊢; omega, fun p hp => ?_⟩
      rcases List.mem_cons.1 hp with rfl | hp
      · have := h.2 (y, m) (List.mem_cons_self ..); simp only at this ⊢; omega
      · exact hall p (List.mem_cons_of_mem _ hp)
    · exact hnew
set_option maxHeartbeats 16000000 in
set_option maxRecDepth 100000 in
theorem ruse_any (L : Loc) (s : RSt) (N n : Nat) (A : Mdl) (i : Int) (e : Fed) (w : World) (h : StR w L s N) (hN : N + 200000 ≤ 1000000000) (hR : RelR s A) (hI : InvM A n) (hn : n ≤ 900) (he : FedR e) (h4 : e.kd = 4) (hrf : refM A e = 0) (hev : ∀ t ∈ A.log, t.1 ≠ i) :
    Calls Tryz.prog 157 #[.pointer (some ⟨L.S, 0, none⟩), .int .i64 i, fedV e] w fun r w' => r = .returned (.tuple #[]) ∧ ∃ s', StR w' L s' (N + 200000) ∧ RelR s' (doM A i e) ∧ Kt L.B w w' := by
  obtain ⟨at', kd, fd, rk, mn, bd⟩ := e
  have hk4 : kd = 4 := h4
  subst hk4
  have hfd : fd.size ≤ maxLen := Nat.le_trans he.fd (by unfold maxLen; omega)
  have hm1 : 1 ≤ mn := he.use rfl
  have hm2 : mn ≤ 100000 := he.m1
  obtain ⟨w1, hw1⟩ : ∃ w1, w1 = w.alloc (.cells #[.int .i64 at', .int .i64 4, .string fd, .string rk, .int .i64 mn, .string bd] 76) := ⟨_, rfl⟩
  have hb1 : Below w.heap.size w w1 := by rw [hw1]; exact Bl.alloc (Below.refl _ _) _
  have hx1 : w1.heap[w.heap.size]? = some (.cells #[.int .i64 at', .int .i64 4, .string fd, .string rk, .int .i64 mn, .string bd] 76 (0, 0)) := by rw [hw1]; exact blk_new w _
  have h1 := h.low hb1
  obtain ⟨l, hl⟩ : ∃ l, l = A.row fd := ⟨_, rfl⟩
  rw [refM_4, ← hl] at hrf
  have hl0 : l ≠ [] := fun e => by rw [if_pos e] at hrf; cases hrf
  obtain ⟨T, hT⟩ : ∃ T, T = takeO mn.toNat A.left l [] := ⟨_, rfl⟩
  have hmt : (mn.toNat : Int) = mn := Int.toNat_of_nonneg (by omega)
  have HDO : Hid (doM A i (at', 4, fd, rk, mn, bd) = ⟨T.1, A.part, updR A.row fd T.2.1, posU A.pos l T.2.1, A.log ++ logU i (at', 4, fd, rk, mn, bd) T.2.2⟩) := Lib.hid (by
    unfold doM
    rw [if_neg (by show ¬ ((4 : Int) = 1 ∨ (4 : Int) = 2); omega), if_neg (by show ¬ (4 : Int) = 3; omega), if_pos (show (4 : Int) = 4 from rfl), hT, hl]
    rfl)
  have HI0 : Hid (UrI L s N i (at', 4, fd, rk, mn, bd) l T w1 w1 0 mn.toNat A.left l [] s) := Lib.hid ⟨by show ((0 : Nat) : Int) + _ = mn; omega, hT.symm, fun x => by have := hI.lf x; omega, hl0, List.suffix_refl _, h1, hR.left, rfl, fun g => by
      by_cases hg : g = fd
      · rw [if_pos hg, hg, hR.row, hl]
      · rw [if_neg hg], by unfold logU; simp, ⟨Nat.le_refl _, fun p hp => by simp at hp⟩, Kt.refl _ _⟩
  have HX1 := Lib.hid hx1
  have HB1 := Lib.hid hb1
  have HRR := Lib.hid hR
  have HII := Lib.hid hI
  have HN := Lib.hid hN
  have HFD := Lib.hid hfd
  have HM := Lib.hid (And.intro hm1 (And.intro hm2 hmt))
  have HNN := Lib.hid hn
  have HEV := Lib.hid hev
  have hll : l.length ≤ 900 := by rw [hl]; exact Nat.le_trans (hI.ln fd) hn
  have HLL := Lib.hid hll
  have HNM : Hid (∀ x ∈ l, x.size ≤ maxLen) := Lib.hid fun x hx => Nat.le_trans (hI.sz fd x (by rw [← hl]; exact hx)) (by unfold maxLen; omega)
  have x4 : w1.cell? ⟨w.heap.size, 4, none⟩ = some (.int .i64 mn) := blk_cell hx1 4
  have lS := h1.lt.1
  have lx := blk_lt hx1
  change Calls _ _ #[_, _, .agg #[.int .i64 at', .int .i64 4, .string fd, .string rk, .int .i64 mn, .string bd]] _ _
  clear h h1 hx1 hb1 hl hl0 hN hR hI he hfd hn hrf hev h4 hT hmt hll
  go_enter Tryz.func157, Tryz.ntmps157
  go_wp2_with fail
  rw [← hw1]
  clear hw1
  go_wp2_with fail
  clear x4 lS lx
  go_loopw [10] (fun v wr => ∃ (j m : Nat) (left : Lf) (l' : List ByteArray) (lg : List (ByteArray × Int)) (s' : RSt), v = .int .i64 j ∧ j ≤ mn.toNat ∧ Hid (UrI L s N i (at', 4, fd, rk, mn, bd) l T w1 wr j m left l' lg s')) (fun v _ => mn.toNat - (intOf v).toNat)
  case atStart => exact ⟨0, _, _, _, _, _, rfl, Nat.zero_le _, HI0⟩
  case round =>
    obtain ⟨j, m, left, l', lg, s', rfl, hjm, HI⟩ := hrel
    have hI := HI.out
    have hxb := hI.kt.fix HX1.out (by decide)
    have lxr := blk_lt hxb
    have lSr := hI.st.lt.1
    have x2 : wr.cell? ⟨w.heap.size, 2, none⟩ = some (.string fd) := blk_cell hxb 2
    have hj1 : (j : Int) + m = mn := hI.jm
    have hrow : rowO s'.F fd = l' := by rw [hI.rw, if_pos rfl]
    have HDR := Lib.hid (drop_any L s' (N + j) fd wr hI.st HFD.out (by rw [hrow]; intro y hy; exact HNM.out y (hI.sf.subset hy)) (by rw [hrow]; exact Nat.le_trans hI.sf.length_le HLL.out))
    rw [hrow, hI.lf] at HDR
    have HXB := Lib.hid hxb
    have HMT := Lib.hid HM.out.2.2
    by_cases hm0 : m = 0
    case pos =>
      subst hm0
      have hjn : ¬ (j : Int) < mn := by omega
      have HTE : Hid (T = (left, dropE left l', lg)) := Lib.hid (by rw [← hI.tk]; rfl)
      clear hI hxb hrow
      go_wp2_with fail
      refine HDR.out.mono ?_
      rintro e w4 ⟨rfl, F', h4, hF', hk4⟩
      have HE : Hid (∃ s', StR w4 L s' (N + 200000) ∧ RelR s' (doM A i (at', 4, fd, rk, mn, bd)) ∧ Kt L.B w w4) := Lib.hid (by
        have hI := HI.out
        refine ⟨_, h4.mono (by have := HM.out.2.1; omega) HN.out, ?_, (Kt.of_below HB1.out).trans (hI.kt.trans hk4)⟩
        rw [HDO.out, HTE.out]
        refine ⟨hI.lf, fun x => ?_, fun g => ?_, ?_⟩
        · show ptR s'.P x = _
          rw [hI.pt]; exact HRR.out.part x
        · show rowO F' g = updR A.row fd (dropE left l') g
          rw [hF']
          unfold updR
          by_cases hg : g = fd
          · rw [if_pos hg, if_pos hg]
          · rw [if_neg hg, if_neg hg, hI.rw, if_neg hg]; exact HRR.out.row g
        · show s'.T = _
          rw [hI.lT, HRR.out.log])
      clear h4 hF' hk4 HDR
      go_wp2
      go_end0
      exact ⟨rfl, HE.out⟩
    obtain ⟨m', rfl⟩ : ∃ m', m = m' + 1 := ⟨m - 1, by omega⟩
    have hjn : (j : Int) < mn := by omega
    obtain ⟨x, r, hxr⟩ : ∃ x r, dropE left l' = x :: r := by
      cases hd : dropE left l' with
      | nil => exact absurd hd (dropE_some hI.ne)
      | cons x r => exact ⟨x, r, rfl⟩
    rw [hxr] at HDR
    have hsx : (x :: r) <:+ l := by rw [← hxr]; exact (dropE_suffix _ _).trans hI.sf
    have hxs := HNM.out x (hsx.subset (by simp))
    have hlx := hI.nn x
    have HTK : Hid (takeO m' (updL left x (left x - 1)) (x :: r) (addT lg x) = T) := Lib.hid (by rw [← hI.tk, takeO_succ hxr])
    have HXS := Lib.hid hxs
    have HSX := Lib.hid hsx
    obtain ⟨qn, hqn⟩ : ∃ qn, qn = left x := ⟨_, rfl⟩
    rw [← hqn] at hlx
    have HQN := Lib.hid hqn
    have hjb : j ≤ 100000 := by have := HM.out.2.1; omega
    have hw1 : IntKind.i64.wrap (qn - 1) = qn - 1 := IntWalk.i64_in _ (by omega)
    have hw2 : IntKind.i64.wrap ((j : Int) + 1) = ((j + 1 : Nat) : Int) := by rw [IntWalk.i64_in _ (by omega)]; omega
    clear hI hxb hrow hxr hsx hxs hqn
    go_wp2_with fail
    refine HDR.out.mono ?_
    rintro e w2 ⟨rfl, F2, h2, hF2, hk2⟩
    have HK2 := Lib.hid (HI.out.kt.trans hk2)
    have hxb2 := hk2.fix HXB.out (by decide)
    have hrow2 : rowO F2 fd = x :: r := by rw [hF2, if_pos rfl]
    obtain ⟨hd2, hlk2, hO2⟩ := h2.rowB fd HFD.out
    rw [show rowO (RSt.F { s' with F := F2 }) fd = x :: r from hrow2] at hO2
    obtain ⟨g, o, cap, hv2, d0⟩ := hO2.at (k := 0) rfl
    rw [Nat.add_zero] at d0
    obtain ⟨ln, hln⟩ : ∃ ln, ln = (x :: r).length := ⟨_, rfl⟩
    have hlp : 0 < ln := by rw [hln]; simp
    rw [hv2, ← hln] at hlk2
    have hlk3 : ∀ m, (Instr.lookup 126 (.map (some L.m2)) (.string fd) false).run Tryz.prog (w2.drewN m) = .ok (.slice (some ⟨g, o, none⟩) ln cap) (w2.drewN m) := fun m => hlk2 _ (Bl.drewN (Below.refl _ _) m)
    have a2 : w2.cell? ⟨L.S, 2, none⟩ = some (.map (some L.m2)) := h2.cells.2.2
    have y2 : w2.cell? ⟨w.heap.size, 2, none⟩ = some (.string fd) := blk_cell hxb2 2
    have lg2 := World.block_lt_of_cell? _ _ d0
    simp only at lg2
    have lS2 := h2.lt.1
    have lx2 := blk_lt hxb2
    have H2 := Lib.hid (And.intro h2 (And.intro hF2 hxb2))
    clear h2 hF2 hk2 hxb2 hrow2 hlk2 hO2 hv2 hln HDR x2 lxr lSr
    go_wp2_with fail
    go_quiet (fail)
    have HB3 : Hid (Below w2.heap.size w2 (w2.drewN nq)) := Lib.hid (Bl.drewN (Below.refl _ _) _)
    have h3 := H2.out.1.low HB3.out
    have hlq := h3.leftB x HXS.out _ (Below.refl _ _)
    rw [show lfI (RSt.V { s' with F := F2 }) x = qn by rw [HQN.out, ← HI.out.lf]] at hlq
    obtain ⟨w4, hr4, h4, hk4⟩ := h3.putV (by have := HN.out; omega) x HXS.out (qn - 1)
    have b1 : (w2.drewN nq).cell? ⟨L.S, 1, none⟩ = some (.map (some L.m1)) := h3.cells.2.1
    have lS3 := h3.lt.1
    obtain ⟨s4, hs4⟩ : ∃ s4 : RSt, s4 = { s' with F := F2, V := s'.V.put x.data.toList (qn - 1) } := ⟨_, rfl⟩
    obtain ⟨M, hM⟩ : ∃ M, M = N + j + 1 := ⟨_, rfl⟩
    have h4' : StR w4 L s4 M := by rw [hs4, hM]; exact h4
    obtain ⟨tv, ht4, ho4⟩ := h4'.open
    have hT4 : s4.T = A.log ++ logU i (at', 4, fd, rk, mn, bd) lg := by rw [hs4]; show s'.T = _; rw [HI.out.lT, HRR.out.log]
    have HT4 := Lib.hid (And.intro ht4 (And.intro ho4 (And.intro hT4 (And.intro hs4 hM))))
    have HK4 := Lib.hid (HK2.out.trans ((Kt.of_below HB3.out).trans hk4))
    have hx4 := HK4.out.fix HX1.out (by decide)
    have HX4 := Lib.hid hx4
    obtain ⟨ta, tc, htv, _, _⟩ := ho4.form
    obtain ⟨tl, htl⟩ : ∃ tl, tl = s4.T.length := ⟨_, rfl⟩
    rw [← htl] at htv
    subst htv
    have c3 : w4.cell? ⟨L.S, 3, none⟩ = some (.slice ta tl tc) := blk_cell ht4.blk 3
    have htlb : tl ≤ 910000 := by
      have h5 := HII.out.ll
      have h6 : n * n ≤ 900 * 900 := Nat.mul_le_mul HNN.out HNN.out
      have h7 := HI.out.lb.1
      rw [htl, hT4]
      unfold logU
      rw [List.length_append, List.length_map, List.length_reverse]
      omega
    have lS4 := ht4.lt.1
    have lx4 := blk_lt hx4
    have HTL := Lib.hid htl
    clear hlk3 a2 y2 d0 lg2 lS2 lx2 h3 h4 h4' hk4 hs4 hM ht4 ho4 hT4 hx4 htl
    generalize w2.drewN nq = w3 at *
    have hF2 := H2.out.2.1
    have HNX : Hid (∀ w5 T', StR w5 L { s4 with T := T' } M → Kt L.B w4 w5 → T' = A.log ++ logU i (at', 4, fd, rk, mn, bd) (addT lg x) → UrI L s N i (at', 4, fd, rk, mn, bd) l T w1 w5 (j + 1) m' (updL left x (left x - 1)) (x :: r) (addT lg x) { s4 with T := T' }) := Lib.hid fun w5 T' h5 hk5 hT5 => by
      have hI := HI.out
      have hs4 := HT4.out.2.2.2.1
      refine ⟨by show ((j + 1 : Nat) : Int) + m' = mn; omega, HTK.out, fun y => ?_, by simp, HSX.out, by rw [show N + (j + 1) = M by rw [HT4.out.2.2.2.2]; omega]; exact h5, ?_, ?_, fun g' => ?_, ?_, addT_few hI.lb, HK4.out.trans hk5⟩
      · have h1 := hI.nn y
        have h2 := hI.nn x
        unfold updL
        split <;> omega
      · show lfI s4.V = _
        rw [hs4]
        show lfI (s'.V.put _ _) = _
        rw [lfI_put, hI.lf, HQN.out]
      · show s4.P = _
        rw [hs4]
        exact hI.pt
      · show rowO s4.F g' = if g' = fd then _ else _
        rw [hs4]
        show rowO F2 g' = _
        rw [H2.out.2.1]
        by_cases hg : g' = fd
        · rw [if_pos hg, if_pos hg]
        · rw [if_neg hg, if_neg hg, hI.rw, if_neg hg]
      · show T' = _
        rw [hT5, HRR.out.log]
    clear hF2
    -- what was taken last
    have HLAST : Hid ((∃ q lg', lg = q :: lg' ∧ q.1 = x) ∨ (addT lg x = (x, 1) :: lg ∧ (tl = 0 ∨ ∃ k0 t, tl = k0 + 1 ∧ s4.T[k0]? = some t ∧ (t.1 ≠ i ∨ t.2.2.2.2.1 ≠ x)))) := Lib.hid (by
      have hT4 := HT4.out.2.2.1
      cases lg with
      | nil =>
        refine .inr ⟨rfl, ?_⟩
        by_cases h0 : tl = 0
        · exact .inl h0
        · obtain ⟨k0, hk0⟩ : ∃ k0, tl = k0 + 1 := ⟨tl - 1, by omega⟩
          have hlt : k0 < s4.T.length := by rw [← HTL.out]; omega
          refine .inr ⟨k0, s4.T[k0], hk0, List.getElem?_eq_getElem hlt, .inl (HEV.out _ ?_)⟩
          have : s4.T = A.log := by rw [hT4]; unfold logU; simp
          rw [← this]
          exact List.getElem_mem _
      | cons q lg' =>
        obtain ⟨y, mm⟩ := q
        by_cases hy : y = x
        · exact .inl ⟨_, _, rfl, hy⟩
        · refine .inr ⟨by rw [addT, if_neg hy], .inr ?_⟩
          have hT5 : s4.T = (A.log ++ logU i (at', 4, fd, rk, mn, bd) lg') ++ [(i, at', bd, fd, y, mm)] := by rw [hT4, logU_cons, List.append_assoc]
          have hlen : tl = (A.log ++ logU i (at', 4, fd, rk, mn, bd) lg').length + 1 := by rw [HTL.out, hT5, List.length_append]; rfl
          exact ⟨_, (i, at', bd, fd, y, mm), hlen, by rw [hT5]; simp, .inr hy⟩)
    rcases HLAST.out with ⟨⟨y, mm⟩, lg', hlg, hyx⟩ | ⟨hadd, hno⟩
    case inl =>
      have hyx2 : y = x := hyx
      subst hyx2
      subst hlg
      have hT5 : s4.T = (A.log ++ logU i (at', 4, fd, rk, mn, bd) lg') ++ [(i, at', bd, fd, y, mm)] := by rw [HT4.out.2.2.1, logU_cons, List.append_assoc]
      obtain ⟨k0, hk0⟩ : ∃ k0, k0 = (A.log ++ logU i (at', 4, fd, rk, mn, bd) lg').length := ⟨_, rfl⟩
      have hlen : tl = k0 + 1 := by rw [HTL.out, hT5, List.length_append, hk0]; rfl
      have hg0 : s4.T[k0]? = some (i, at', bd, fd, y, mm) := by rw [hT5, hk0]; simp
      obtain ⟨g, cap, cur, hv, hgB, hgb, _⟩ := HT4.out.2.1.blk (fun e => by rw [e] at hT5; simp at hT5)
      injection hv with e1 e2 e3
      subst e1
      obtain ⟨q0, -⟩ := HT4.out.2.1.cellf TTk.ok HTL.out hg0 (fo := 0) (v := .int .i64 i) rfl
      obtain ⟨q4, -⟩ := HT4.out.2.1.cellf TTk.ok HTL.out hg0 (fo := 4) (v := .string y) rfl
      obtain ⟨q5, f5⟩ := HT4.out.2.1.cellf TTk.ok HTL.out hg0 (fo := 5) (v := .int .i64 mm) rfl
      simp only [TTk, Nat.add_zero] at q0 q4 q5 f5
      have hmm := HI.out.lb.2 (y, mm) (List.mem_cons_self ..)
      have hw3 : IntKind.i64.wrap ((tl : Int) - 1) = (k0 : Int) := by rw [IntWalk.i64_in _ (by omega)]; omega
      have hw4 : IntKind.i64.wrap (mm + 1) = mm + 1 := IntWalk.i64_in _ (by simp only at hmm; omega)
      have hk1 : (k0 : Int) < (tl : Int) := by omega
      have hk2 : k0 < tl := by omega
      have lg4 := blk_lt hgb
      have hgrow : w4.grownBy (w4.setCell ⟨g, k0 * 6 + 5, none⟩ (.int .i64 (mm + 1))) (some g) := Gr.set (Gr.refl _ _) _ _ (.inl rfl) _
      have hO5 : OwnR TTk (w4.setCell ⟨g, k0 * 6 + 5, none⟩ (.int .i64 (mm + 1))) L.B (.slice (some ⟨g, 0, none⟩) tl tc) (s4.T.set k0 (i, at', bd, fd, y, mm + 1)) := HT4.out.2.1.setf TTk.ok HTL.out hg0 (fo := 5) (by decide) rfl
      have hS5 := (HT4.out.1.row HT4.out.2.1 hgrow).close hO5
      have HU5 := Lib.hid (HNX.out _ _ hS5 (Kt.of_rowT HT4.out.2.1 hgrow) (by
        rw [addT, if_pos rfl, logU_cons, hT5, List.set_append_right _ _ (by omega), ← hk0, Nat.sub_self, List.append_assoc]
        rfl))
      clear hT5 hk0 hlen hg0 hgB hgb hmm hgrow hO5 hS5 e2 e3
      go_wp2
      go_roundw
      case rel => exact ⟨j + 1, m', _, _, _, _, by go_num, by omega, HU5⟩
      case measure => simp [intOf]; omega
    case inr =>
      have HADD := Lib.hid hadd
      have HTV : Hid (∀ W, Below w4.heap.size w4 W → W.cell? ⟨L.S, 3, none⟩ = some (.slice ta tl tc)) := Lib.hid fun W hW => blk_cell (blk_below HT4.out.1.blk hW) 3
      have HOO : Hid (OwnR TTk w4 L.B (.slice ta tl tc) s4.T ∧ s4.T.length ≤ 1000000) := Lib.hid ⟨HT4.out.2.1, by rw [← HTL.out]; omega⟩
      have HRD : Hid (∀ W, Kt L.B w4 W → W.cell? ⟨w.heap.size, 0, none⟩ = some (.int .i64 at') ∧ W.cell? ⟨w.heap.size, 2, none⟩ = some (.string fd) ∧ W.cell? ⟨w.heap.size, 5, none⟩ = some (.string bd)) := Lib.hid fun W hK => by
        have hx := hK.fix HX4.out (by decide)
        exact ⟨blk_cell hx 0, blk_cell hx 2, blk_cell hx 5⟩
      have HU5 : Hid (∀ w5, StR w5 L { s4 with T := s4.T ++ [(i, at', bd, fd, x, 1)] } M → Kt L.B w4 w5 → UrI L s N i (at', 4, fd, rk, mn, bd) l T w1 w5 (j + 1) m' (updL left x (left x - 1)) (x :: r) (addT lg x) { s4 with T := s4.T ++ [(i, at', bd, fd, x, 1)] }) := Lib.hid fun w5 h5 hk5 => HNX.out _ _ h5 hk5 (by rw [HADD.out, logU_cons, HT4.out.2.2.1, List.append_assoc])
      clear hadd
      rcases hno with h0 | ⟨k0, t, hlen, hg0, ht⟩
      case inl =>
        have hw3 : IntKind.i64.wrap ((tl : Int) - 1) = -1 := by rw [h0]; rfl
        clear h0
        go_wp2_with fail
        refine wp_region_app (by kernel_rfl) [75, 76, 77, 78, 79, 80, 81, 82, 83, 84, 85, 86, 87, 88, 89, 90, 91, 92] (fun ii => ([some (.pointer (some ⟨L.S, 0, none⟩)), some (.pointer (some ⟨L.S, 0, none⟩)), some (.pointer (some ⟨L.S, 0, none⟩)), some (.pointer (some ⟨L.S, 3, none⟩)), some (.slice ta tl tc), some (.int .i64 i), some (.pointer (some ⟨w.heap.size, 0, none⟩)), some (.int .i64 at'), some (.pointer (some ⟨w.heap.size, 5, none⟩)), some (.string bd), some (.pointer (some ⟨w.heap.size, 2, none⟩)), some (.string fd), some (.string x), some (.agg #[.int .i64 i, .int .i64 at', .string bd, .string fd, .string x, .int .i64 1]), none, none, some (.pointer (some ⟨L.S, 0, none⟩)), some (.pointer (some ⟨L.S, 3, none⟩)), none] : List (Option Value)).getD ii none) 14 15 18 1000 89 90 0
          (fun W => Below w4.heap.size w4 W) (fun W => Hid (StR W L { s4 with T := s4.T ++ [(i, at', bd, fd, x, 1)] } M ∧ Kt L.B w4 W))
          (fun W => W.cell? ⟨w.heap.size, 0, none⟩ = some (.int .i64 at') ∧ W.cell? ⟨w.heap.size, 2, none⟩ = some (.string fd) ∧ W.cell? ⟨w.heap.size, 5, none⟩ = some (.string bd))
          (fun v W => (∃ a n c, v = .slice a n c) ∧ Hid (OwnR TTk W L.B v (s4.T ++ [(i, at', bd, fd, x, 1)]) ∧ StRt W L s4 M (.slice ta tl tc) ∧ Kt L.B w4 W)) (fun v W => ∃ g, v = .slice (some ⟨g, 0, none⟩) 1 1 ∧ W.heap[g]? = some (.cells #[.int .i64 i, .int .i64 at', .string bd, .string fd, .string x, .int .i64 1] 171 (0, 0))) (fun _ _ => True)
          (by kernel_rfl) (by kernel_rfl) (by rfl) (by rfl) (by rfl) (by decide) (by decide) ⟨rfl, rfl, fun h => absurd h (by decide)⟩ rfl rfl rfl (fun h => absurd h (by decide))
          (fun l hcl h => hcl.no h 15 ⟨14, .data⟩ rfl rfl (by simp) rfl) (fun l hcl h => hcl.no h 18 ⟨15, .data⟩ rfl rfl (by simp) rfl) (fun h => absurd h (by decide))
          (fun o ho => by obtain rfl := Option.some.inj ho; exact ⟨⟨⟨14, .data⟩, by simp, rfl, rfl⟩, fun h => absurd h (by decide)⟩) (fun o ho => by obtain rfl := Option.some.inj ho; exact ⟨⟨15, .data⟩, by simp, rfl, rfl⟩)
          (Below.drew (Below.refl _ _)) (fun v W W' ⟨g, h1, h2⟩ hb => ⟨g, h1, blk_below h2 hb⟩) (fun _ _ _ _ _ => trivial) (fun W hW => HRD.out W (Kt.of_below hW)) (fun v W h => HRD.out W h.2.out.2.2) (fun W h => HRD.out W h.out.2) ?_ ?_ (fun h => absurd h (by decide)) ?_ ?_ ?_
        · intro listed f i' o v W ho hc hdep hR hPre hcl hli hV
          obtain ⟨r1, r2, r3⟩ := hR
          match i', ho, hc with
          | 0, ho, hc =>
            obtain rfl := Option.some.inj ho
            obtain rfl := Option.some.inj hc
            refine ⟨rfl, fun q hq => ?_⟩
            have e0 := hq.tmp 0
            simp at e0
            simp [execOp, e0, go_sem]
          | 1, ho, hc =>
            obtain rfl := Option.some.inj ho
            obtain rfl := Option.some.inj hc
            refine ⟨rfl, fun q hq => ?_⟩
            have e0 := hq.tmp 0
            simp at e0
            simp [execOp, e0, go_sem]
          | 2, ho, hc =>
            obtain rfl := Option.some.inj ho
            obtain rfl := Option.some.inj hc
            refine ⟨rfl, fun q hq => ?_⟩
            have e76 := hq.tmp 76
            simp at e76
            have d76 : f 76 = .pointer (some ⟨L.S, 0, none⟩) := hV 1 _ (by decide) (hdep ⟨1, .data⟩ (by simp) rfl) rfl
            simp [execOp, e76, d76, go_sem]
          | 3, ho, hc =>
            obtain rfl := Option.some.inj ho
            obtain rfl := Option.some.inj hc
            refine ⟨rfl, fun q hq => ?_⟩
            have e77 := hq.tmp 77
            simp at e77
            have d77 : f 77 = .pointer (some ⟨L.S, 0, none⟩) := hV 2 _ (by decide) (hdep ⟨2, .data⟩ (by simp) rfl) rfl
            simp [execOp, e77, d77, go_sem]
          | 4, ho, hc =>
            obtain rfl := Option.some.inj ho
            obtain rfl := Option.some.inj hc
            refine ⟨rfl, fun q hq => ?_⟩
            have e78 := hq.tmp 78
            simp at e78
            have d78 : f 78 = .pointer (some ⟨L.S, 3, none⟩) := hV 3 _ (by decide) (hdep ⟨3, .data⟩ (by simp) rfl) rfl
            have hlk : W.cell? ⟨L.S, 3, none⟩ = some (.slice ta tl tc) := HTV.out W (hPre (hcl.no hli 15 ⟨4, .data⟩ rfl rfl (by simp) rfl))
            simp [execOp, e78, d78, hlk, go_sem]
          | 5, ho, hc =>
            obtain rfl := Option.some.inj ho
            obtain rfl := Option.some.inj hc
            refine ⟨rfl, fun q hq => ?_⟩
            have e1 := hq.tmp 1
            simp at e1
            simp [execOp, e1, go_sem]
          | 6, ho, hc =>
            obtain rfl := Option.some.inj ho
            obtain rfl := Option.some.inj hc
            refine ⟨rfl, fun q hq => ?_⟩
            have e5 := hq.tmp 5
            simp at e5
            simp [execOp, e5, go_sem]
          | 7, ho, hc =>
            obtain rfl := Option.some.inj ho
            obtain rfl := Option.some.inj hc
            refine ⟨rfl, fun q hq => ?_⟩
            have e81 := hq.tmp 81
            simp at e81
            have d81 : f 81 = .pointer (some ⟨w.heap.size, 0, none⟩) := hV 6 _ (by decide) (hdep ⟨6, .data⟩ (by simp) rfl) rfl
            simp [execOp, e81, d81, r1, go_sem]
          | 8, ho, hc =>
            obtain rfl := Option.some.inj ho
            obtain rfl := Option.some.inj hc
            refine ⟨rfl, fun q hq => ?_⟩
            have e5 := hq.tmp 5
            simp at e5
            simp [execOp, e5, go_sem]
          | 9, ho, hc =>
            obtain rfl := Option.some.inj ho
            obtain rfl := Option.some.inj hc
            refine ⟨rfl, fun q hq => ?_⟩
            have e83 := hq.tmp 83
            simp at e83
            have d83 : f 83 = .pointer (some ⟨w.heap.size, 5, none⟩) := hV 8 _ (by decide) (hdep ⟨8, .data⟩ (by simp) rfl) rfl
            simp [execOp, e83, d83, r3, go_sem]
          | 10, ho, hc =>
            obtain rfl := Option.some.inj ho
            obtain rfl := Option.some.inj hc
            refine ⟨rfl, fun q hq => ?_⟩
            have e5 := hq.tmp 5
            simp at e5
            simp [execOp, e5, go_sem]
          | 11, ho, hc =>
            obtain rfl := Option.some.inj ho
            obtain rfl := Option.some.inj hc
            refine ⟨rfl, fun q hq => ?_⟩
            have e85 := hq.tmp 85
            simp at e85
            have d85 : f 85 = .pointer (some ⟨w.heap.size, 2, none⟩) := hV 10 _ (by decide) (hdep ⟨10, .data⟩ (by simp) rfl) rfl
            simp [execOp, e85, d85, r2, go_sem]
          | 12, ho, hc =>
            obtain rfl := Option.some.inj ho
            obtain rfl := Option.some.inj hc
            refine ⟨rfl, fun q hq => ?_⟩
            have e6 := hq.tmp 6
            simp at e6
            simp [execOp, e6, go_sem]
          | 13, ho, hc =>
            obtain rfl := Option.some.inj ho
            obtain rfl := Option.some.inj hc
            refine ⟨rfl, fun q hq => ?_⟩
            have e80 := hq.tmp 80
            simp at e80
            have d80 : f 80 = .int .i64 i := hV 5 _ (by decide) (hdep ⟨5, .data⟩ (by simp) rfl) rfl
            have e82 := hq.tmp 82
            simp at e82
            have d82 : f 82 = .int .i64 at' := hV 7 _ (by decide) (hdep ⟨7, .data⟩ (by simp) rfl) rfl
            have e84 := hq.tmp 84
            simp at e84
            have d84 : f 84 = .string bd := hV 9 _ (by decide) (hdep ⟨9, .data⟩ (by simp) rfl) rfl
            have e86 := hq.tmp 86
            simp at e86
            have d86 : f 86 = .string fd := hV 11 _ (by decide) (hdep ⟨11, .data⟩ (by simp) rfl) rfl
            have e87 := hq.tmp 87
            simp at e87
            have d87 : f 87 = .string x := hV 12 _ (by decide) (hdep ⟨12, .data⟩ (by simp) rfl) rfl
            simp [execOp, e80, d80, e82, d82, e84, d84, e86, d86, e87, d87, hq.const, go_sem]
          | 16, ho, hc =>
            obtain rfl := Option.some.inj ho
            obtain rfl := Option.some.inj hc
            refine ⟨rfl, fun q hq => ?_⟩
            have e75 := hq.tmp 75
            simp at e75
            have d75 : f 75 = .pointer (some ⟨L.S, 0, none⟩) := hV 0 _ (by decide) (hdep ⟨0, .data⟩ (by simp) rfl) rfl
            simp [execOp, e75, d75, go_sem]
          | 17, ho, hc =>
            obtain rfl := Option.some.inj ho
            obtain rfl := Option.some.inj hc
            refine ⟨rfl, fun q hq => ?_⟩
            have e91 := hq.tmp 91
            simp at e91
            have d91 : f 91 = .pointer (some ⟨L.S, 0, none⟩) := hV 16 _ (by decide) (hdep ⟨16, .data⟩ (by simp) rfl) rfl
            simp [execOp, e91, d91, go_sem]
          | 14, ho, hc => exact absurd hc (by simp)
          | 15, ho, hc => exact absurd hc (by simp)
          | 18, ho, hc => exact absurd hc (by simp)
          | (_ + 19), ho, hc => exact absurd hc (by simp)
        · intro listed f o W ho hdep hP hV
          obtain rfl := Option.some.inj ho
          have hbA := Bl.alloc (Below.refl W.heap.size W) (.cells #[.int .i64 i, .int .i64 at', .string bd, .string fd, .string x, .int .i64 1] 171)
          refine ⟨rfl, .slice (some ⟨W.heap.size, 0, none⟩) 1 1, W.alloc (.cells #[.int .i64 i, .int .i64 at', .string bd, .string fd, .string x, .int .i64 1] 171), fun q hq => ?_, Bl.trans hP hbA, ⟨W.heap.size, rfl, blk_new W _⟩, hbA⟩
          have e88 := hq.tmp 88
          simp at e88
          have d88 : f 88 = .agg #[.int .i64 i, .int .i64 at', .string bd, .string fd, .string x, .int .i64 1] := hV 13 _ (by decide) (hdep ⟨13, .data⟩ (by simp) rfl) rfl
          simp [execOp, e88, d88, go_sem]
        · intro listed f o W ho hdep hP hS _ hV
          obtain rfl := Option.some.inj ho
          obtain ⟨g, hg1, hg2⟩ := hS
          have d79 : f 79 = .slice ta tl tc := hV 4 _ (by decide) (hdep ⟨4, .data⟩ (by simp) rfl) rfl
          refine ⟨rfl, fun K hK => ?_⟩
          obtain ⟨v', w', hr, h2, h3, h4⟩ := (HOO.out.1.below hP).app TTk.ok 138 g 1 (i, at', bd, fd, x, 1) hg2 rfl HOO.out.2 (Nat.le_trans HT4.out.1.lt.2 hP.size)
          refine oper_append (.tmp 79) (.tmp 89) 138 rfl (.slice ta tl tc) (.slice (some ⟨g, 0, none⟩) 1 1) v' (by rw [← d79]; simp [putsA_eval]) (by rw [← hg1]; simp [putsA_eval]) hr (hK v' w' ?_)
          refine ⟨(by obtain ⟨a, c, h, _, _⟩ := h2.form; exact ⟨a, _, c, h⟩), Lib.hid ⟨h2, (HT4.out.1.low hP).row (HOO.out.1.below hP) h3, (Kt.of_below hP).trans (Kt.of_rowT (HOO.out.1.below hP) h3)⟩⟩
        · intro listed f o W ho hdep hMid hV
          obtain rfl := Option.some.inj ho
          obtain ⟨⟨a9, n9, c9, e9⟩, hF⟩ := hMid
          have hF1 := hF.out
          rw [e9] at hF1
          have hS1 := hF1.2.1.put hF1.1
          have c3 : W.cell? ⟨L.S, 3, none⟩ = some (.slice ta tl tc) := blk_cell hF1.2.1.blk 3
          have f3 := blk_free hF1.2.1.blk 3
          refine ⟨rfl, W.setCell ⟨L.S, 3, none⟩ (.slice a9 n9 c9), fun q hq => ?_, Lib.hid ⟨hS1.1, hF1.2.2.trans hS1.2⟩⟩
          have e92 := hq.tmp 92
          have e90 := hq.tmp 90
          simp at e92 e90
          have d92 : f 92 = .pointer (some ⟨L.S, 3, none⟩) := hV 17 _ (by decide) (hdep ⟨17, .data⟩ (by simp) rfl) rfl
          simp [execOp, e92, e90, d92, e9, c3, f3, go_sem]
        intro f w5 hP hV
        clear hV
        unfold putsA
        simp only [List.mapIdx_toArray, List.mapIdx_cons, List.mapIdx_nil, List.contains_cons]
        simp
        have HF5 := Lib.hid (HU5.out _ hP.out.1 hP.out.2)
        clear hP
        go_wp2_with fail
        go_roundw
        case rel => exact ⟨j + 1, m', _, _, _, _, by go_num, by omega, HF5⟩
        case measure => simp [intOf]; omega
      case' inr =>
        obtain ⟨gT, cap, cur, hv, hgB, hgb, _⟩ := HT4.out.2.1.blk (fun e => by rw [e] at hg0; simp at hg0)
        injection hv with e1 e2 e3
        subst e1
        obtain ⟨q0, -⟩ := HT4.out.2.1.cellf TTk.ok HTL.out hg0 (fo := 0) (v := .int .i64 t.1) rfl
        obtain ⟨q4, -⟩ := HT4.out.2.1.cellf TTk.ok HTL.out hg0 (fo := 4) (v := .string t.2.2.2.2.1) rfl
        simp only [TTk, Nat.add_zero] at q0 q4
        have hw3 : IntKind.i64.wrap ((tl : Int) - 1) = (k0 : Int) := by rw [IntWalk.i64_in _ (by omega)]; omega
        have hk1 : (k0 : Int) < (tl : Int) := by omega
        have hk2 : k0 < tl := by omega
        have lg4 := blk_lt hgb
        obtain ⟨te, hte⟩ : ∃ te, te = t.1 := ⟨_, rfl⟩
        obtain ⟨tr, htr⟩ : ∃ tr, tr = t.2.2.2.2.1 := ⟨_, rfl⟩
        rw [← hte] at q0 ht
        rw [← htr] at q4 ht
        clear hgB hgb e2 e3 hte htr hg0 hlen
        by_cases hti : te = i
        case' pos =>
          have htx : ¬ tr.toList = x.toList := fun h => (ht.resolve_left (fun h2 => h2 hti)) ((ba_eq_iff _ _).1 h)
          have htb : (tr.toList == x.toList) = false := by simpa using htx
          have hti2 : i = te := hti.symm
          subst hti2
          clear ht
          go_wp2_with fail
        case' neg =>
          have htb : (te == i) = false := by simp [hti]
          clear ht
          go_wp2_with fail
      all_goals (
        refine wp_region_app (by kernel_rfl) [75, 76, 77, 78, 79, 80, 81, 82, 83, 84, 85, 86, 87, 88, 89, 90, 91, 92] (fun ii => ([some (.pointer (some ⟨L.S, 0, none⟩)), some (.pointer (some ⟨L.S, 0, none⟩)), some (.pointer (some ⟨L.S, 0, none⟩)), some (.pointer (some ⟨L.S, 3, none⟩)), some (.slice (some ⟨gT, 0, none⟩) tl tc), some (.int .i64 i), some (.pointer (some ⟨w.heap.size, 0, none⟩)), some (.int .i64 at'), some (.pointer (some ⟨w.heap.size, 5, none⟩)), some (.string bd), some (.pointer (some ⟨w.heap.size, 2, none⟩)), some (.string fd), some (.string x), some (.agg #[.int .i64 i, .int .i64 at', .string bd, .string fd, .string x, .int .i64 1]), none, none, some (.pointer (some ⟨L.S, 0, none⟩)), some (.pointer (some ⟨L.S, 3, none⟩)), none] : List (Option Value)).getD ii none) 14 15 18 1000 89 90 0
          (fun W => Below w4.heap.size w4 W) (fun W => Hid (StR W L { s4 with T := s4.T ++ [(i, at', bd, fd, x, 1)] } M ∧ Kt L.B w4 W))
          (fun W => W.cell? ⟨w.heap.size, 0, none⟩ = some (.int .i64 at') ∧ W.cell? ⟨w.heap.size, 2, none⟩ = some (.string fd) ∧ W.cell? ⟨w.heap.size, 5, none⟩ = some (.string bd))
          (fun v W => (∃ a n c, v = .slice a n c) ∧ Hid (OwnR TTk W L.B v (s4.T ++ [(i, at', bd, fd, x, 1)]) ∧ StRt W L s4 M (.slice (some ⟨gT, 0, none⟩) tl tc) ∧ Kt L.B w4 W)) (fun v W => ∃ g, v = .slice (some ⟨g, 0, none⟩) 1 1 ∧ W.heap[g]? = some (.cells #[.int .i64 i, .int .i64 at', .string bd, .string fd, .string x, .int .i64 1] 171 (0, 0))) (fun _ _ => True)
          (by kernel_rfl) (by kernel_rfl) (by rfl) (by rfl) (by rfl) (by decide) (by decide) ⟨rfl, rfl, fun h => absurd h (by decide)⟩ rfl rfl rfl (fun h => absurd h (by decide))
          (fun l hcl h => hcl.no h 15 ⟨14, .data⟩ rfl rfl (by simp) rfl) (fun l hcl h => hcl.no h 18 ⟨15, .data⟩ rfl rfl (by simp) rfl) (fun h => absurd h (by decide))
          (fun o ho => by obtain rfl := Option.some.inj ho; exact ⟨⟨⟨14, .data⟩, by simp, rfl, rfl⟩, fun h => absurd h (by decide)⟩) (fun o ho => by obtain rfl := Option.some.inj ho; exact ⟨⟨15, .data⟩, by simp, rfl, rfl⟩)
          (Below.drew (Below.refl _ _)) (fun v W W' ⟨g, h1, h2⟩ hb => ⟨g, h1, blk_below h2 hb⟩) (fun _ _ _ _ _ => trivial) (fun W hW => HRD.out W (Kt.of_below hW)) (fun v W h => HRD.out W h.2.out.2.2) (fun W h => HRD.out W h.out.2) ?_ ?_ (fun h => absurd h (by decide)) ?_ ?_ ?_
        · intro listed f i' o v W ho hc hdep hR hPre hcl hli hV
          obtain ⟨r1, r2, r3⟩ := hR
          match i', ho, hc with
          | 0, ho, hc =>
            obtain rfl := Option.some.inj ho
            obtain rfl := Option.some.inj hc
            refine ⟨rfl, fun q hq => ?_⟩
            have e0 := hq.tmp 0
            simp at e0
            simp [execOp, e0, go_sem]
          | 1, ho, hc =>
            obtain rfl := Option.some.inj ho
            obtain rfl := Option.some.inj hc
            refine ⟨rfl, fun q hq => ?_⟩
            have e0 := hq.tmp 0
            simp at e0
            simp [execOp, e0, go_sem]
          | 2, ho, hc =>
            obtain rfl := Option.some.inj ho
            obtain rfl := Option.some.inj hc
            refine ⟨rfl, fun q hq => ?_⟩
            have e76 := hq.tmp 76
            simp at e76
            have d76 : f 76 = .pointer (some ⟨L.S, 0, none⟩) := hV 1 _ (by decide) (hdep ⟨1, .data⟩ (by simp) rfl) rfl
            simp [execOp, e76, d76, go_sem]
          | 3, ho, hc =>
            obtain rfl := Option.some.inj ho
            obtain rfl := Option.some.inj hc
            refine ⟨rfl, fun q hq => ?_⟩
            have e77 := hq.tmp 77
            simp at e77
            have d77 : f 77 = .pointer (some ⟨L.S, 0, none⟩) := hV 2 _ (by decide) (hdep ⟨2, .data⟩ (by simp) rfl) rfl
            simp [execOp, e77, d77, go_sem]
          | 4, ho, hc =>
            obtain rfl := Option.some.inj ho
            obtain rfl := Option.some.inj hc
            refine ⟨rfl, fun q hq => ?_⟩
            have e78 := hq.tmp 78
            simp at e78
            have d78 : f 78 = .pointer (some ⟨L.S, 3, none⟩) := hV 3 _ (by decide) (hdep ⟨3, .data⟩ (by simp) rfl) rfl
            have hlk : W.cell? ⟨L.S, 3, none⟩ = some (.slice (some ⟨gT, 0, none⟩) tl tc) := HTV.out W (hPre (hcl.no hli 15 ⟨4, .data⟩ rfl rfl (by simp) rfl))
            simp [execOp, e78, d78, hlk, go_sem]
          | 5, ho, hc =>
            obtain rfl := Option.some.inj ho
            obtain rfl := Option.some.inj hc
            refine ⟨rfl, fun q hq => ?_⟩
            have e1 := hq.tmp 1
            simp at e1
            simp [execOp, e1, go_sem]
          | 6, ho, hc =>
            obtain rfl := Option.some.inj ho
            obtain rfl := Option.some.inj hc
            refine ⟨rfl, fun q hq => ?_⟩
            have e5 := hq.tmp 5
            simp at e5
            simp [execOp, e5, go_sem]
          | 7, ho, hc =>
            obtain rfl := Option.some.inj ho
            obtain rfl := Option.some.inj hc
            refine ⟨rfl, fun q hq => ?_⟩
            have e81 := hq.tmp 81
            simp at e81
            have d81 : f 81 = .pointer (some ⟨w.heap.size, 0, none⟩) := hV 6 _ (by decide) (hdep ⟨6, .data⟩ (by simp) rfl) rfl
            simp [execOp, e81, d81, r1, go_sem]
          | 8, ho, hc =>
            obtain rfl := Option.some.inj ho
            obtain rfl := Option.some.inj hc
            refine ⟨rfl, fun q hq => ?_⟩
            have e5 := hq.tmp 5
            simp at e5
            simp [execOp, e5, go_sem]
          | 9, ho, hc =>
            obtain rfl := Option.some.inj ho
            obtain rfl := Option.some.inj hc
            refine ⟨rfl, fun q hq => ?_⟩
            have e83 := hq.tmp 83
            simp at e83
            have d83 : f 83 = .pointer (some ⟨w.heap.size, 5, none⟩) := hV 8 _ (by decide) (hdep ⟨8, .data⟩ (by simp) rfl) rfl
            simp [execOp, e83, d83, r3, go_sem]
          | 10, ho, hc =>
            obtain rfl := Option.some.inj ho
            obtain rfl := Option.some.inj hc
            refine ⟨rfl, fun q hq => ?_⟩
            have e5 := hq.tmp 5
            simp at e5
            simp [execOp, e5, go_sem]
          | 11, ho, hc =>
            obtain rfl := Option.some.inj ho
            obtain rfl := Option.some.inj hc
            refine ⟨rfl, fun q hq => ?_⟩
            have e85 := hq.tmp 85
            simp at e85
            have d85 : f 85 = .pointer (some ⟨w.heap.size, 2, none⟩) := hV 10 _ (by decide) (hdep ⟨10, .data⟩ (by simp) rfl) rfl
            simp [execOp, e85, d85, r2, go_sem]
          | 12, ho, hc =>
            obtain rfl := Option.some.inj ho
            obtain rfl := Option.some.inj hc
            refine ⟨rfl, fun q hq => ?_⟩
            have e6 := hq.tmp 6
            simp at e6
            simp [execOp, e6, go_sem]
          | 13, ho, hc =>
            obtain rfl := Option.some.inj ho
            obtain rfl := Option.some.inj hc
            refine ⟨rfl, fun q hq => ?_⟩
            have e80 := hq.tmp 80
            simp at e80
            have d80 : f 80 = .int .i64 i := hV 5 _ (by decide) (hdep ⟨5, .data⟩ (by simp) rfl) rfl
            have e82 := hq.tmp 82
            simp at e82
            have d82 : f 82 = .int .i64 at' := hV 7 _ (by decide) (hdep ⟨7, .data⟩ (by simp) rfl) rfl
            have e84 := hq.tmp 84
            simp at e84
            have d84 : f 84 = .string bd := hV 9 _ (by decide) (hdep ⟨9, .data⟩ (by simp) rfl) rfl
            have e86 := hq.tmp 86
            simp at e86
            have d86 : f 86 = .string fd := hV 11 _ (by decide) (hdep ⟨11, .data⟩ (by simp) rfl) rfl
            have e87 := hq.tmp 87
            simp at e87
            have d87 : f 87 = .string x := hV 12 _ (by decide) (hdep ⟨12, .data⟩ (by simp) rfl) rfl
            simp [execOp, e80, d80, e82, d82, e84, d84, e86, d86, e87, d87, hq.const, go_sem]
          | 16, ho, hc =>
            obtain rfl := Option.some.inj ho
            obtain rfl := Option.some.inj hc
            refine ⟨rfl, fun q hq => ?_⟩
            have e75 := hq.tmp 75
            simp at e75
            have d75 : f 75 = .pointer (some ⟨L.S, 0, none⟩) := hV 0 _ (by decide) (hdep ⟨0, .data⟩ (by simp) rfl) rfl
            simp [execOp, e75, d75, go_sem]
          | 17, ho, hc =>
            obtain rfl := Option.some.inj ho
            obtain rfl := Option.some.inj hc
            refine ⟨rfl, fun q hq => ?_⟩
            have e91 := hq.tmp 91
            simp at e91
            have d91 : f 91 = .pointer (some ⟨L.S, 0, none⟩) := hV 16 _ (by decide) (hdep ⟨16, .data⟩ (by simp) rfl) rfl
            simp [execOp, e91, d91, go_sem]
          | 14, ho, hc => exact absurd hc (by simp)
          | 15, ho, hc => exact absurd hc (by simp)
          | 18, ho, hc => exact absurd hc (by simp)
          | (_ + 19), ho, hc => exact absurd hc (by simp)
        · intro listed f o W ho hdep hP hV
          obtain rfl := Option.some.inj ho
          have hbA := Bl.alloc (Below.refl W.heap.size W) (.cells #[.int .i64 i, .int .i64 at', .string bd, .string fd, .string x, .int .i64 1] 171)
          refine ⟨rfl, .slice (some ⟨W.heap.size, 0, none⟩) 1 1, W.alloc (.cells #[.int .i64 i, .int .i64 at', .string bd, .string fd, .string x, .int .i64 1] 171), fun q hq => ?_, Bl.trans hP hbA, ⟨W.heap.size, rfl, blk_new W _⟩, hbA⟩
          have e88 := hq.tmp 88
          simp at e88
          have d88 : f 88 = .agg #[.int .i64 i, .int .i64 at', .string bd, .string fd, .string x, .int .i64 1] := hV 13 _ (by decide) (hdep ⟨13, .data⟩ (by simp) rfl) rfl
          simp [execOp, e88, d88, go_sem]
        · intro listed f o W ho hdep hP hS _ hV
          obtain rfl := Option.some.inj ho
          obtain ⟨g, hg1, hg2⟩ := hS
          have d79 : f 79 = .slice (some ⟨gT, 0, none⟩) tl tc := hV 4 _ (by decide) (hdep ⟨4, .data⟩ (by simp) rfl) rfl
          refine ⟨rfl, fun K hK => ?_⟩
          obtain ⟨v', w', hr, h2, h3, h4⟩ := (HOO.out.1.below hP).app TTk.ok 138 g 1 (i, at', bd, fd, x, 1) hg2 rfl HOO.out.2 (Nat.le_trans HT4.out.1.lt.2 hP.size)
          refine oper_append (.tmp 79) (.tmp 89) 138 rfl (.slice (some ⟨gT, 0, none⟩) tl tc) (.slice (some ⟨g, 0, none⟩) 1 1) v' (by rw [← d79]; simp [putsA_eval]) (by rw [← hg1]; simp [putsA_eval]) hr (hK v' w' ?_)
          refine ⟨(by obtain ⟨a, c, h, _, _⟩ := h2.form; exact ⟨a, _, c, h⟩), Lib.hid ⟨h2, (HT4.out.1.low hP).row (HOO.out.1.below hP) h3, (Kt.of_below hP).trans (Kt.of_rowT (HOO.out.1.below hP) h3)⟩⟩
        · intro listed f o W ho hdep hMid hV
          obtain rfl := Option.some.inj ho
          obtain ⟨⟨a9, n9, c9, e9⟩, hF⟩ := hMid
          have hF1 := hF.out
          rw [e9] at hF1
          have hS1 := hF1.2.1.put hF1.1
          have c3 : W.cell? ⟨L.S, 3, none⟩ = some (.slice (some ⟨gT, 0, none⟩) tl tc) := blk_cell hF1.2.1.blk 3
          have f3 := blk_free hF1.2.1.blk 3
          refine ⟨rfl, W.setCell ⟨L.S, 3, none⟩ (.slice a9 n9 c9), fun q hq => ?_, Lib.hid ⟨hS1.1, hF1.2.2.trans hS1.2⟩⟩
          have e92 := hq.tmp 92
          have e90 := hq.tmp 90
          simp at e92 e90
          have d92 : f 92 = .pointer (some ⟨L.S, 3, none⟩) := hV 17 _ (by decide) (hdep ⟨17, .data⟩ (by simp) rfl) rfl
          simp [execOp, e92, e90, d92, e9, c3, f3, go_sem]
        intro f w5 hP hV
        clear hV
        unfold putsA
        simp only [List.mapIdx_toArray, List.mapIdx_cons, List.mapIdx_nil, List.contains_cons]
        simp
        have HF5 := Lib.hid (HU5.out _ hP.out.1 hP.out.2)
        clear hP
        go_wp2_with fail
        go_roundw
        case rel => exact ⟨j + 1, m', _, _, _, _, by go_num, by omega, HF5⟩
        case measure => simp [intOf]; omega)
end Go.Proofs.YtcfeoapbbkfbnaaGreatDoor
