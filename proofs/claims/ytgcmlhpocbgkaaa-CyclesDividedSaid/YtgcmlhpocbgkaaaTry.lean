/- The contract of ShortestOf's inner search: it does what dfs says. Condition: at most 9 points, coordinates within 2^41. -/
import Derived.Test.YtgcmlhpocbgkaaaShort
import Derived.Deep.RegionHeld2
namespace Go.Proofs.Ytgcmlhpocbgkaaa
open Go.RowKit Go.Sort

def tryV (gL gS gP gB gT : Nat) : Value := .func (.func 48) #[] #[.pointer (some ⟨gL, 0, none⟩), .pointer (some ⟨gS, 0, none⟩), .pointer (some ⟨gP, 0, none⟩), .pointer (some ⟨gB, 0, none⟩), .pointer (some ⟨gT, 0, none⟩)]
/-- the five boxes of the search. -/
structure Bx (w : World) (lo gS gP gB gL gT : Nat) (st : Pt) (vp : Value) (acc : List Nat × Int) : Prop where
  hlo : lo ≤ w.heap.size
  ord : gS < gP ∧ gP < gB ∧ gB < gL ∧ gL < gT ∧ gT < lo
  hS : w.heap[gS]? = some (.cells #[.int .i64 st.1, .int .i64 st.2] 27 (0, 0))
  hP : w.heap[gP]? = some (.cells #[vp] 29 (0, 0))
  hB : ∃ vb, w.heap[gB]? = some (.cells #[vb] 22 (0, 0)) ∧ Own w lo vb (nats acc.1)
  hL : w.heap[gL]? = some (.cells #[.int .i64 acc.2] 3 (0, 0))
  hT : w.heap[gT]? = some (.cells #[tryV gL gS gP gB gT] 79 (0, 0))
/-- what a search changes: two boxes, and nothing else of old. -/
structure Tw (gB gL : Nat) (w w' : World) : Prop where
  os : w'.os = w.os
  tape : w'.tape = w.tape
  output : w'.output = w.output
  size : w.heap.size ≤ w'.heap.size
  block : ∀ i, i < w.heap.size → i ≠ gB → i ≠ gL → w'.heap[i]? = w.heap[i]?
theorem Tw.of_below {gB gL : Nat} {w w' : World} (h : Below w.heap.size w w') : Tw gB gL w w' := ⟨h.os, h.tape, h.output, h.size, fun i hi _ _ => h.block i hi⟩
theorem Tw.trans {gB gL : Nat} {a b c : World} (h : Tw gB gL a b) (k : Tw gB gL b c) : Tw gB gL a c :=
  ⟨k.os.trans h.os, k.tape.trans h.tape, k.output.trans h.output, Nat.le_trans h.size k.size, fun i hi h1 h2 => (k.block i (Nat.lt_of_lt_of_le hi h.size) h1 h2).trans (h.block i hi h1 h2)⟩
theorem Tw.below {gB gL : Nat} {w0 w w' : World} (h : Below w0.heap.size w0 w) (k : Tw gB gL w w') (h1 : w0.heap.size ≤ gB) (h2 : w0.heap.size ≤ gL) : Below w0.heap.size w0 w' :=
  ⟨k.os.trans h.os, k.tape.trans h.tape, k.output.trans h.output, Nat.le_trans h.size k.size, fun i hi => (k.block i (Nat.lt_of_lt_of_le hi h.size) (by omega) (by omega)).trans (h.block i hi)⟩
theorem Tw.blk {gB gL g : Nat} {w w' : World} {o : Obj} (k : Tw gB gL w w') (h : w.heap[g]? = some o) (h1 : g ≠ gB) (h2 : g ≠ gL) : w'.heap[g]? = some o := (k.block g (blk_lt h) h1 h2).trans h
theorem Tw.refl (gB gL : Nat) (w : World) : Tw gB gL w w := ⟨rfl, rfl, rfl, Nat.le_refl _, fun _ _ _ _ => rfl⟩
theorem Tw.own {gB gL lo : Nat} {w w' : World} {v : Value} {l : List Int} (k : Tw gB gL w w') (h : Own w lo v l) (h1 : gB < lo) (h2 : gL < lo) : Own w' lo v l := by
  refine ⟨h.1, ?_⟩
  rcases h.2 with hn | ⟨g, cap, cur, hv, hb, hg, rest⟩
  · exact .inl hn
  · exact .inr ⟨g, cap, cur, hv, hb, k.blk hg (by omega) (by omega), rest⟩
theorem Bx.below {w w' : World} {lo gS gP gB gL gT : Nat} {st : Pt} {vp : Value} {acc : List Nat × Int} (h : Bx w lo gS gP gB gL gT st vp acc) (hb : Below w.heap.size w w') : Bx w' lo gS gP gB gL gT st vp acc := by
  obtain ⟨a, b, c, d, ⟨vb, e1, e2⟩, f, g⟩ := h
  exact ⟨Nat.le_trans a hb.size, b, blk_below c hb, blk_below d hb, ⟨vb, blk_below e1 hb, e2.below hb⟩, blk_below f hb, blk_below g hb⟩

theorem Bx.put {w : World} {lo gS gP gB gL gT : Nat} {st : Pt} {vp : Value} {acc : List Nat × Int} (h : Bx w lo gS gP gB gL gT st vp acc) {vo : Value} {o : List Nat} (ho : Own w lo vo (nats o)) (s : Int) :
    Bx ((w.setCell ⟨gB, 0, none⟩ vo).setCell ⟨gL, 0, none⟩ (.int .i64 s)) lo gS gP gB gL gT st vp (o, s) ∧ Tw gB gL w ((w.setCell ⟨gB, 0, none⟩ vo).setCell ⟨gL, 0, none⟩ (.int .i64 s)) := by
  obtain ⟨a, ⟨g1, g2, g3, g4, g5⟩, c, d, ⟨vb, e1, e2⟩, f, g⟩ := h
  refine ⟨⟨by simpa [World.setCell] using a, ⟨g1, g2, g3, g4, g5⟩, blk_far (blk_far c gB 0 _ (by omega)) gL 0 _ (by omega), blk_far (blk_far d gB 0 _ (by omega)) gL 0 _ (by omega), ⟨vo, blk_far ?_ gL 0 _ (by omega), ?_⟩, ?_, blk_far (blk_far g gB 0 _ (by omega)) gL 0 _ (by omega)⟩, ?_⟩
  · have := blk_set e1 0 vo
    simpa using this
  · exact ownsRow_setCell_below (ownsRow_setCell_below ho (by show gB < lo; omega) _) (by show gL < lo; omega) _
  · have := blk_set (blk_far f gB 0 vo (by omega)) 0 (.int .i64 s)
    simpa using this
  · exact ⟨rfl, rfl, rfl, by simp [World.setCell], fun i hi h1 h2 => (Below.heap_setCell _ ⟨gL, 0, none⟩ _ i h2).trans (Below.heap_setCell _ ⟨gB, 0, none⟩ _ i h1)⟩

/-- append of one number, as a step of a region that draws. -/
theorem step_app_int {ops : Array Oper} {o : Oper} {a : Act} {w : World} {K : Act → World → Prop} {Q : Exit → Act → World → Prop} {E : Prop}
    (hg : o.guard = none) (s x : Operand) (hop : o.op = Op.call { callee := Callee.builtin Builtin.append, args := #[s, x], argTypes := #[22, 22] })
    (B : Nat) (v : Value) (l : List Int) (hs : a.eval s = v) (hown : Own w B v l)
    (g c : Nat) (y : Int) (hx : a.eval x = .slice (some ⟨g, 0, none⟩) 1 c) (hc : w.cell? ⟨g, 0, none⟩ = some (.int .i64 y)) (hlen : l.length ≤ 1000000) (hB : B ≤ w.heap.size)
    (hK : ∀ v' w', Own w' B v' (l ++ [y]) → Below B w w' → K (a.put o.dst v') w') :
    if Region.wanted o (yielded ops a.tmps) = true then Oper.wp Try.prog o a w K Q else E := by
  have hw : Region.wanted o (yielded ops a.tmps) = true := by simp [Region.wanted, hg]
  rw [if_pos hw]
  obtain ⟨i, hi, hz0, hz1, hz2⟩ := info_parts info_int
  obtain ⟨v', w', hrun, r1, r2, _⟩ := run_append_own (P := Try.prog) w B 22 o.type 3 i _ 1 8 Try.underlying22 hi hz0 hz1 hz2 rfl (by decide) v l.length (ics l) hown ⟨g, 0, none⟩ 1 c [.int .i64 y] rfl (by
    intro j u hj
    cases j with
    | zero => simp at hj; subst hj; simpa [Addr.add] using hc
    | succ j => simp at hj) (by intro u hu; simp at hu; subst hu; rfl) (by unfold maxLen; omega) (by omega) hB
  unfold Oper.wp
  simp [execOp, hop, resolve, invoke, builtin, hs, hx, hrun, Result.andThen]
  refine hK v' w' ?_ (app_below hown r2 hB)
  unfold Own
  rw [List.length_append, show ics (l ++ [y]) = ics l ++ [.int .i64 y] by simp [ics]]
  exact r1

/-- the contract of the search with so many points to come. -/
def TryF (st : Pt) (P : List Pt) (vp : Value) (w0 : World) (lo gS gP gB gL gT f : Nat) : Prop :=
  ∀ (o : List Nat) (a : Pt) (s : Int) (acc : List Nat × Int) (vo : Value) (w : World), o.length + f = P.length → Bd a → 0 ≤ s → s ≤ o.length * 8796093022208 → Below w0.heap.size w0 w → Bx w lo gS gP gB gL gT st vp acc → Own w lo vo (nats o) →
    Calls Try.prog 48 #[vo, ptv a, .int .i64 s, .pointer (some ⟨gL, 0, none⟩), .pointer (some ⟨gS, 0, none⟩), .pointer (some ⟨gP, 0, none⟩), .pointer (some ⟨gB, 0, none⟩), .pointer (some ⟨gT, 0, none⟩)] w fun e w' =>
      e = .returned (.tuple #[]) ∧ Bx w' lo gS gP gB gL gT st vp (dfs st P f o a s acc) ∧ Tw gB gL w w'

set_option maxHeartbeats 4000000 in
set_option maxRecDepth 100000 in
theorem try_step (st : Pt) (P : List Pt) (vp : Value) (w0 : World) (lo gS gP gB gL gT f : Nat) (hst : Bd st) (hPb : ∀ p ∈ P, Bd p) (hn : P.length ≤ 9) (rp : Pts w0 0 vp P) (h0 : w0.heap.size ≤ gS)
    (ih : ∀ f', f = f' + 1 → TryF st P vp w0 lo gS gP gB gL gT f') : TryF st P vp w0 lo gS gP gB gL gT f := by
  intro o a s acc vo w hof ha hs1 hs2 hw0 hbx ho
  obtain ⟨va, cap, rfl, hc1, hc2⟩ := Pts.form rp
  obtain ⟨oa, ocap, rfl, hoc1, hoc2⟩ := Ints.form ho.ints0
  obtain ⟨sx, sy⟩ := st
  obtain ⟨ax, ay⟩ := a
  have hX9 := blk_new w (.cells #[.int .i64 ax, .int .i64 ay] 27)
  have hb1 := Bl.alloc (Below.refl w.heap.size w) (.cells #[.int .i64 ax, .int .i64 ay] 27)
  have hbx1 := hbx.below hb1
  obtain ⟨bL0, _⟩ : (w.alloc (.cells #[.int .i64 ax, .int .i64 ay] 27)).cell? ⟨gL, 0, none⟩ = some (.int .i64 acc.2) ∧ True := ⟨blk_cell hbx1.hL 0, trivial⟩
  obtain ⟨c1, c2⟩ := blk2 hX9
  obtain ⟨c3, c4⟩ := blk2 hbx1.hS
  have cL := (show (w.alloc (.cells #[.int .i64 ax, .int .i64 ay] 27)).cell? ⟨gL, 0, none⟩ = some (.int .i64 acc.2) from blk_cell hbx1.hL 0)
  have hlo := hbx.hlo
  obtain ⟨g1, g2, g3, g4, g5⟩ := hbx.ord
  unfold ptv
  rw [nats_len] at *
  have e1 := cell_regrown c1
  have e2 := cell_regrown c2
  have e3 := cell_regrown c3
  have e4 := cell_regrown c4
  have e5 := cell_regrown cL
  have hd := dist_bd ha hst
  by_cases hret : 0 ≤ acc.2 ∧ acc.2 ≤ s + dist (ax, ay) (sx, sy)
  · obtain ⟨hr1, hr2⟩ := hret
    have d1 : decide (0 ≤ acc.2) = true := by simpa using hr1
    have HD : Hid (dfs (sx, sy) P f o (ax, ay) s acc = acc) := Lib.hid (by cases f <;> simp only [dfs] <;> rw [if_pos ⟨hr1, hr2⟩])
    go_enter Try.func48, Try.ntmps48
    go_wp2
    refine wp_region_quiet_below (by kernel_rfl) (by kernel_rfl) ?_
    repeat (go_big_quiet_step ((go_at_call 42; exact Calls.regrown_of (Apart_xy _ _ _ _ _ (by with_reducible assumption) (by with_reducible assumption)))))
    refine wpQuiet_nil ?_
    intro w6 hw'
    obtain ⟨⟨dq, osq⟩, hw''⟩ := hw'
    have hb6 := hw'' ▸ below_regrown (w.alloc (.cells #[.int .i64 ax, .int .i64 ay] 27)) dq osq
    have hbx6 := hbx1.below hb6
    have hX6 := blk_below hX9 hb6
    have hb06 := Bl.trans hb1 hb6
    clear hw''
    go_wp2
    refine bodyPost_ret (results_none rfl _ _ _) rfl ?_
    exact ⟨rfl, by rw [HD.out]; exact hbx6, Tw.of_below hb06⟩
  · have HNR := Lib.hid hret
    have hnr : acc.2 < 0 ∨ (0 ≤ acc.2 ∧ s + dist (ax, ay) (sx, sy) < acc.2) := by omega
    clear hret
    rcases hnr with hneg | ⟨hneg, hlt⟩
    case' neg.inl =>
      have d1 : decide (0 ≤ acc.2) = false := by simpa using hneg
      go_enter Try.func48, Try.ntmps48
      go_wp2
      refine wp_region_quiet_below (by kernel_rfl) (by kernel_rfl) ?_
      repeat (go_big_quiet_step ((go_at_call 42; exact Calls.regrown_of (Apart_xy _ _ _ _ _ (by with_reducible assumption) (by with_reducible assumption)))))
      refine wpQuiet_nil ?_
      intro w6 hw'
      obtain ⟨⟨dq, osq⟩, hw''⟩ := hw'
      have hb6 := hw'' ▸ below_regrown (w.alloc (.cells #[.int .i64 ax, .int .i64 ay] 27)) dq osq
      have hbx6 := hbx1.below hb6
      have hX6 := blk_below hX9 hb6
      have hb06 := Bl.trans hb1 hb6
      clear hw''
      clear e1 e2 e3 e4 e5 c1 c2 c3 c4 cL bL0 hbx1 hX9 hb6 hb1 
    case' neg.inr =>
      have d1 : decide (0 ≤ acc.2) = true := by simpa using hneg
      go_enter Try.func48, Try.ntmps48
      go_wp2
      refine wp_region_quiet_below (by kernel_rfl) (by kernel_rfl) ?_
      repeat (go_big_quiet_step ((go_at_call 42; exact Calls.regrown_of (Apart_xy _ _ _ _ _ (by with_reducible assumption) (by with_reducible assumption)))))
      refine wpQuiet_nil ?_
      intro w6 hw'
      obtain ⟨⟨dq, osq⟩, hw''⟩ := hw'
      have hb6 := hw'' ▸ below_regrown (w.alloc (.cells #[.int .i64 ax, .int .i64 ay] 27)) dq osq
      have hbx6 := hbx1.below hb6
      have hX6 := blk_below hX9 hb6
      have hb06 := Bl.trans hb1 hb6
      clear hw''
      clear e1 e2 e3 e4 e5 c1 c2 c3 c4 cL bL0 hbx1 hX9 hb6 hb1
      have hle : ¬ (acc.2 ≤ s + dist (ax, ay) (sx, sy)) := by omega
    all_goals (
      have cP : w6.cell? ⟨gP, 0, none⟩ = some (.slice va P.length cap) := blk_cell hbx6.hP 0
      have hsz6 := hb06.size
      cases f with
      | zero =>
        have ho0 : o.length = P.length := by omega
        have HD : Hid (dfs (sx, sy) P 0 o (ax, ay) s acc = (o, s + dist (ax, ay) (sx, sy))) := Lib.hid (by simp only [dfs]; rw [if_neg HNR.out])
        obtain ⟨x1, x2⟩ := blk2 hX6
        obtain ⟨x3, x4⟩ := blk2 hbx6.hS
        go_wp2_with fail
        refine (Apart_xy ax ay sx sy _ ha hst).mono ?_
        rintro e w7 ⟨rfl, hb7⟩
        have hbx7 := hbx6.below hb7
        have ho7 := (ho.below hb06).below hb7
        obtain ⟨vb, hB7, _⟩ := hbx7.hB
        have z1 : w7.cell? ⟨gB, 0, none⟩ = some vb := blk_cell hB7 0
        have z2 := blk_free hB7 0
        have z3 : w7.cell? ⟨gL, 0, none⟩ = some (.int .i64 acc.2) := blk_cell hbx7.hL 0
        have z4 := blk_free hbx7.hL 0
        obtain ⟨p1, p2⟩ := hbx7.put ho7 (s + dist (ax, ay) (sx, sy))
        have z5 : (w7.setCell ⟨gB, 0, none⟩ (.slice oa o.length ocap)).cell? ⟨gL, 0, none⟩ = some (.int .i64 acc.2) := blk_cell (blk_far hbx7.hL gB 0 _ (by omega)) 0
        have z6 := blk_free (blk_far hbx7.hL gB 0 (.slice oa o.length ocap) (by omega)) 0
        go_wp2
        refine bodyPost_ret (results_none rfl _ _ _) rfl ?_
        rw [ho0] at p1 p2
        exact ⟨rfl, by rw [HD.out]; exact p1, (Tw.of_below (Bl.trans hb06 hb7)).trans p2⟩
      | succ f' =>
        have hone : o.length ≠ P.length := by omega
        have heq : (((o.length : Nat) : Int) == ((P.length : Nat) : Int)) = false := by simp; omega
        have HD : Hid (dfs (sx, sy) P (f' + 1) o (ax, ay) s acc = (List.range P.length).foldl (fun acc (k : Nat) => if memB (k : Int) (nats o) then acc else dfs (sx, sy) P f' (o ++ [k]) (pt P k) (s + dist (ax, ay) (pt P k)) acc) acc) := Lib.hid (by simp only [dfs]; rw [if_neg HNR.out])
        have HIH := Lib.hid (ih f' rfl)
        clear ih
        go_wp2
        go_loopg [37] P.length (fun gk iv wr => ∃ k : Nat, gk = P.length - k ∧ k ≤ P.length ∧ iv = .int .i64 k ∧ Bx wr lo gS gP gB gL gT (sx, sy) (.slice va P.length cap) ((List.range k).foldl (fun acc (k : Nat) => if memB (k : Int) (nats o) then acc else dfs (sx, sy) P f' (o ++ [k]) (pt P k) (s + dist (ax, ay) (pt P k)) acc) acc) ∧
            Tw gB gL w wr ∧ wr.heap[w.heap.size]? = some (.cells #[.int .i64 ax, .int .i64 ay] 27 (0, 0)))
        case atStart => exact ⟨0, by omega, Nat.zero_le _, rfl, hbx6, Tw.of_below hb06, hX6⟩
        case round =>
          clear hbx6 hX6 hb06 cP
          obtain ⟨k, rfl, hk, rfl, hbk, htw, hXk⟩ := hrel
          by_cases hlt : k < P.length
          · obtain ⟨p, hp⟩ : ∃ p, P[k]? = some p := ⟨_, List.getElem?_eq_getElem hlt⟩
            have hpB : Bd p := hPb p (List.mem_of_getElem? hp)
            have hptk : pt P k = p := by unfold pt; rw [List.getD_eq_getElem?_getD, hp]; rfl
            have hnew : (List.range (k + 1)).foldl (fun acc (k : Nat) => if memB (k : Int) (nats o) then acc else dfs (sx, sy) P f' (o ++ [k]) (pt P k) (s + dist (ax, ay) (pt P k)) acc) acc = if memB (k : Int) (nats o) then ((List.range k).foldl (fun acc (k : Nat) => if memB (k : Int) (nats o) then acc else dfs (sx, sy) P f' (o ++ [k]) (pt P k) (s + dist (ax, ay) (pt P k)) acc) acc) else dfs (sx, sy) P f' (o ++ [k]) p (s + dist (ax, ay) p) ((List.range k).foldl (fun acc (k : Nat) => if memB (k : Int) (nats o) then acc else dfs (sx, sy) P f' (o ++ [k]) (pt P k) (s + dist (ax, ay) (pt P k)) acc) acc) := by
              rw [List.range_succ, List.foldl_append, ← hptk]; rfl
            generalize (List.range k).foldl (fun acc (k : Nat) => if memB (k : Int) (nats o) then acc else dfs (sx, sy) P f' (o ++ [k]) (pt P k) (s + dist (ax, ay) (pt P k)) acc) acc = ack at *
            have hw0r := htw.below hw0 (by omega) (by omega)
            have hor := htw.own ho (by omega) (by omega)
            obtain ⟨px, py⟩ := p
            obtain ⟨b2, o2, rfl, _, hl2, hx2, hx3⟩ := Pts.at rp hp
            have y2 := ((bcell hw0r).1 b2 (o2 + k * 2) hl2).trans hx2
            have y3 := ((bcell hw0r).1 b2 (o2 + k * 2 + 1) hl2).trans hx3
            clear hp hx2 hx3 hptk
            have HN := Lib.hid hnew
            clear hnew
            go_wp2_with fail
            have hb8 := Bl.alloc (Below.refl wr.heap.size wr) (.cells #[.int .i64 px, .int .i64 py] 27)
            have hX12 := blk_new wr (.cells #[.int .i64 px, .int .i64 py] 27)
            have hX8 := blk_below hXk hb8
            have hbx8 := hbk.below hb8
            have ho8 := hor.below hb8
            have hw08 := Bl.trans hw0r hb8
            have htw8 := htw.trans (Tw.of_below hb8)
            generalize hw8 : wr.alloc (.cells #[.int .i64 px, .int .i64 py] 27) = w8 at *
            clear hw8
            refine (Contains_any (nats o) k _ _ (by rw [nats_len]; omega) ho8.ints0).mono ?_
            rintro e w9 ⟨rfl, hw9⟩
            rw [hw9]
            cases hmem : memB (k : Int) (nats o)
            · have hdp := dist_bd ha hpB
              have hko : k ∉ o := memB_nats.1 hmem
              have hB : Below w8.heap.size w8 w8.drew := Below.drew (Below.refl _ _)
              have hBd : Below w8.heap.size w8 (w8.alloc (.cells #[.int .i64 k] 3)).drew := Below.drew (Bl.alloc (Below.refl _ _) _)
              have lw := blk_lt hX8
              have lwr := blk_lt hX12
              have cT : w8.cell? ⟨gT, 0, none⟩ = some (.func (.func 48) #[] #[.pointer (some ⟨gL, 0, none⟩), .pointer (some ⟨gS, 0, none⟩), .pointer (some ⟨gP, 0, none⟩), .pointer (some ⟨gB, 0, none⟩), .pointer (some ⟨gT, 0, none⟩)]) := blk_cell hbx8.hT 0
              obtain ⟨c1, c2⟩ := blk2 hX8
              obtain ⟨c3, c4⟩ := blk2 hX12
              have HC : ∀ W, Below w8.heap.size w8 W → W.cell? ⟨gT, 0, none⟩ = some (.func (.func 48) #[] #[.pointer (some ⟨gL, 0, none⟩), .pointer (some ⟨gS, 0, none⟩), .pointer (some ⟨gP, 0, none⟩), .pointer (some ⟨gB, 0, none⟩), .pointer (some ⟨gT, 0, none⟩)]) ∧ W.cell? ⟨w.heap.size, 0, none⟩ = some (.int .i64 ax) ∧ W.cell? ⟨w.heap.size, 1, none⟩ = some (.int .i64 ay) ∧ W.cell? ⟨wr.heap.size, 0, none⟩ = some (.int .i64 px) ∧ W.cell? ⟨wr.heap.size, 1, none⟩ = some (.int .i64 py) := fun W hW =>
                ⟨((bcell hW).1 _ _ (by have := hbx8.hlo; omega)).trans cT, ((bcell hW).1 _ _ lw).trans c1, ((bcell hW).1 _ _ lw).trans c2, ((bcell hW).1 _ _ lwr).trans c3, ((bcell hW).1 _ _ lwr).trans c4⟩
              have HGd := Lib.hid (show ∀ w2, Below (w8.alloc (.cells #[.int .i64 k] 3)).drew.heap.size (w8.alloc (.cells #[.int .i64 k] 3)).drew w2 → w2.heap[w8.heap.size]? = some (.cells #[.int .i64 k] 3 (0, 0)) from fun w2 h => blk_below (show (w8.alloc (.cells #[.int .i64 k] 3)).drew.heap[w8.heap.size]? = _ from blk_new w8 _) h)
              have HGl := Lib.hid (show ∀ W w2, Below (World.alloc W (.cells #[.int .i64 k] 3)).heap.size (W.alloc (.cells #[.int .i64 k] 3)) w2 → w2.heap[W.heap.size]? = some (.cells #[.int .i64 k] 3 (0, 0)) from fun W w2 h => blk_below (blk_new W _) h)
              have HClone := Lib.hid (show ∀ W, Below w8.heap.size w8 W → Calls Try.prog 40 #[.slice oa o.length ocap] W fun e w' => (∃ a' c', e = .returned (.slice a' o.length c') ∧ Own w' w8.heap.size (.slice a' o.length c') (nats o)) ∧ Below W.heap.size W w' ∧ Below w8.heap.size w8 w' from fun W hW =>
                (Clone_any (nats o) _ W (by rw [nats_len]; omega) (ho8.ints0.below hW)).mono fun e w' ⟨v', h1, h2, h3⟩ => by
                  obtain ⟨a', c', rfl, _, _⟩ := Ints.form h2.ints0
                  have h4 := own_base h2 hW.size
                  rw [nats_len] at h1 h4
                  exact ⟨⟨a', c', h1, h4⟩, h3, Bl.trans hW h3⟩)
              have HApart := Lib.hid (show ∀ W, Below w8.heap.size w8 W → Calls Try.prog 42 #[.agg #[.int .i64 ax, .int .i64 ay], .agg #[.int .i64 px, .int .i64 py]] W fun e w' => e = .returned (.int .i64 (dist (ax, ay) (px, py))) ∧ Below W.heap.size W w' ∧ Below w8.heap.size w8 w' from fun W hW =>
                (Apart_xy ax ay px py W ha hpB).mono fun e w' ⟨h1, h2⟩ => ⟨h1, h2, Bl.trans hW h2⟩)
              have HSelf := Lib.hid (show ∀ W v, Below w8.heap.size w8 W → Own W w8.heap.size v (nats (o ++ [k])) → Calls Try.prog 48 #[v, .agg #[.int .i64 px, .int .i64 py], .int .i64 (s + dist (ax, ay) (px, py)), .pointer (some ⟨gL, 0, none⟩), .pointer (some ⟨gS, 0, none⟩), .pointer (some ⟨gP, 0, none⟩), .pointer (some ⟨gB, 0, none⟩), .pointer (some ⟨gT, 0, none⟩)] W fun e w' =>
                  e = .returned (.tuple #[]) ∧ Bx w' lo gS gP gB gL gT (sx, sy) (.slice (some ⟨b2, o2, none⟩) P.length cap) (dfs (sx, sy) P f' (o ++ [k]) (px, py) (s + dist (ax, ay) (px, py)) ack) ∧ Tw gB gL w8 w' from fun W v hW hv =>
                (HIH.out (o ++ [k]) (px, py) (s + dist (ax, ay) (px, py)) ack v W (by simp; omega) hpB (by omega) (by simp; omega) (Bl.trans hw08 hW) (hbx8.below hW) (own_base hv hbx8.hlo)).mono fun e w' ⟨h1, h2, h3⟩ => ⟨h1, h2, (Tw.of_below hW).trans h3⟩)
              have HCs : ∀ W, Tw gB gL w8 W → W.cell? ⟨gT, 0, none⟩ = some (.func (.func 48) #[] #[.pointer (some ⟨gL, 0, none⟩), .pointer (some ⟨gS, 0, none⟩), .pointer (some ⟨gP, 0, none⟩), .pointer (some ⟨gB, 0, none⟩), .pointer (some ⟨gT, 0, none⟩)]) ∧ W.cell? ⟨w.heap.size, 0, none⟩ = some (.int .i64 ax) ∧ W.cell? ⟨w.heap.size, 1, none⟩ = some (.int .i64 ay) ∧ W.cell? ⟨wr.heap.size, 0, none⟩ = some (.int .i64 px) ∧ W.cell? ⟨wr.heap.size, 1, none⟩ = some (.int .i64 py) := fun W hW =>
                have q1 := hW.blk hX8 (by omega) (by omega)
                have q2 := hW.blk hX12 (by have := hbk.hlo; omega) (by have := hbk.hlo; omega)
                ⟨blk_cell (hW.blk hbx8.hT (by omega) (by omega)) 0, blk_cell q1 0, blk_cell q1 1, blk_cell q2 0, blk_cell q2 1⟩
              have HCh := Lib.hid HC
              have HCsh := Lib.hid HCs
              have HW8 := Lib.hid hX8
              have HT8 := Lib.hid htw8
              have hol : o.length ≤ 1000000 := by omega
              have hwr : IntKind.i64.wrap (s + dist (ax, ay) (px, py)) = s + dist (ax, ay) (px, py) := IntWalk.i64_in _ (by omega)
              clear HC HCs hX8 hX12 c1 c2 c3 c4 cT hbx8 hbk htw htw8 y2 y3 HIH hor ho8 hw0r hw08 hXk
              go_wp2
              go_region_held2 (fun W : World => W.cell? ⟨gT, 0, none⟩ = some (.func (.func 48) #[] #[.pointer (some ⟨gL, 0, none⟩), .pointer (some ⟨gS, 0, none⟩), .pointer (some ⟨gP, 0, none⟩), .pointer (some ⟨gB, 0, none⟩), .pointer (some ⟨gT, 0, none⟩)]) ∧ W.cell? ⟨w.heap.size, 0, none⟩ = some (.int .i64 ax) ∧ W.cell? ⟨w.heap.size, 1, none⟩ = some (.int .i64 ay) ∧ W.cell? ⟨wr.heap.size, 0, none⟩ = some (.int .i64 px) ∧ W.cell? ⟨wr.heap.size, 1, none⟩ = some (.int .i64 py))
                (first | exact HCh.out _ hB | exact HCh.out _ hBd | exact HCh.out _ (Bl.alloc hB _) | exact HCsh.out _ hSelf.2)
                (first
                  | (refine step_app_int rfl (.tmp 48) (.tmp 50) rfl w8.heap.size _ (nats o) rfl (by first | exact hO | exact hO.alloc _) _ _ k rfl (by first | exact blk_cell hG 0 | (rw [blk_cell (blk_new _ _) 0]; rfl)) (by rw [nats_len]; exact hol) (by first | exact hB.size | exact (Bl.alloc hB _).size) ?_; intro vA wA hOA hbA; rw [← nats_snoc] at hOA; have hB := (by first | exact hB.trans hbA | exact (Bl.alloc hB _).trans hbA))
                  | (go_at_call 40; refine (HClone.out _ (by first | exact hB | exact hBd | exact Bl.alloc hB _)).mono ?_; rintro e wC ⟨⟨aC, cC, rfl, hO⟩, hb, hB⟩; first | have hG := HGd.out _ hb | have hG := HGl.out _ _ hb | have hG := blk_below hG hb | skip)
                  | (go_at_call 42; refine (HApart.out _ (by first | exact hB | exact hBd | exact Bl.alloc hB _)).mono ?_; rintro e wD ⟨rfl, hb, hB⟩; (first | have hG := HGd.out _ hb | have hG := HGl.out _ _ hb | have hG := blk_below hG hb | skip); (first | have hO := hO.below hb | have hO := (hO.alloc _).below hb | skip); (first | have hOA := hOA.below hb | skip))
                  | (go_at_call 48; (try rw [hwr]); refine (HSelf.out _ _ hB hOA).mono ?_; rintro e wE ⟨rfl, hSelf⟩))
              all_goals (
                go_wp2
                go_roundg (P.length - (k + 1))
                case rel => exact ⟨k + 1, rfl, by omega, by go_num, by rw [HN.out, hmem]; exact hSelf.1, HT8.out.trans hSelf.2, hSelf.2.blk HW8.out (by omega) (by omega)⟩
                case measure => omega)
            · go_wp2
              go_roundg (P.length - (k + 1))
              case rel => exact ⟨k + 1, rfl, by omega, by go_num, by rw [HN.out, hmem]; exact hbx8, htw8, hX8⟩
              case measure => omega
          · have hkn : k = P.length := by omega
            subst hkn
            go_wp2
            go_end0
            exact ⟨rfl, by rw [HD.out]; exact hbk, htw⟩)
end Go.Proofs.Ytgcmlhpocbgkaaa
