/- Shifts and bits of small sets, in the walk's words. Condition: sets below 2^62. · The contract of finder.next. Condition: at most 10 points, coordinates within 2^41, a table within 2^53. -/
import Derived.Test.YtbkglhakhahfpaaGreatDoorDp
import Derived.Test.YtbkglhakhahfpaaGreatDoorBt
import Derived.Laws.BitsAllLaws
namespace Go.Proofs.YtbkglhakhahfpaaGreatDoor
open Go.RowKit Go.Sort

theorem bits_clr (s k : Nat) (hs : s < 4611686018427387904) (hk : k ≤ 60) : bits .andNot .i64 (s : Int) ((pw k : Nat) : Int) = ((clr s k : Nat) : Int) := by
  have h1 := pw_le hk
  show IntKind.i64.wrap ((BitVec.ofInt 64 (s : Int) &&& ~~~ BitVec.ofInt 64 ((pw k : Nat) : Int)).toNat : Int) = _
  rw [BitVec.toNat_and, BitVec.toNat_not, ofInt_i64 _ (by omega), ofInt_i64 _ (by omega)]
  have h2 : s &&& (2 ^ 64 - 1 - pw k) = clr s k := by
    unfold clr pw
    congr 1
  have h3 : clr s k ≤ s := Nat.and_le_left
  rw [h2, IntWalk.i64_in _ (by omega)]
theorem sub_pw {n s : Nat} (h : Sub n s) : s < pw n := Nat.lt_pow_two_of_testBit _ (fun i hi => by
  cases hb : s.testBit i with
  | false => rfl
  | true => have := h i hb; omega)
theorem pw_10 {n : Nat} (h : n ≤ 10) : pw n ≤ 1024 := Nat.le_trans (Nat.pow_le_pow_right (by omega) h) (by decide)

/-- what a finder has in memory: a start, points, and a table of ways, of which m rows are made. -/
def Tab (w : World) (gl n : Nat) (r : Nat → Nat) (m : Nat) (T : Nat → Nat → Int) : Prop :=
  (∃ rows : Array Value, w.heap[gl]? = some (.cells rows 22 (0, 0)) ∧ rows.size = n ∧ ∀ k, k < m → rows[k]? = some (.slice (some ⟨r k, 0, none⟩) (pw n) (pw n))) ∧
  (∀ k, k < m → ∃ cs : Array Value, w.heap[r k]? = some (.cells cs 3 (0, 0)) ∧ cs.size = pw n ∧ ∀ s, s < pw n → cs[s]? = some (.int .i64 (T k s))) ∧
  (∀ k, k < m → gl < r k) ∧ (∀ i j, i < m → j < m → r i = r j → i = j)
theorem Tab.below {w w' : World} {gl n m : Nat} {r : Nat → Nat} {T : Nat → Nat → Int} (h : Tab w gl n r m T) (hb : Below w.heap.size w w') : Tab w' gl n r m T := by
  obtain ⟨⟨rows, h1, h2, h3⟩, h4, h5, h6⟩ := h
  refine ⟨⟨rows, blk_below h1 hb, h2, h3⟩, fun k hk => ?_, h5, h6⟩
  obtain ⟨cs, g1, g2, g3⟩ := h4 k hk
  exact ⟨cs, blk_below g1 hb, g2, g3⟩
theorem Tab.row {w : World} {gl n m : Nat} {r : Nat → Nat} {T : Nat → Nat → Int} (h : Tab w gl n r m T) {k : Nat} (hk : k < m) : w.cell? ⟨gl, k, none⟩ = some (.slice (some ⟨r k, 0, none⟩) (pw n) (pw n)) := by
  obtain ⟨⟨rows, h1, h2, h3⟩, _⟩ := h
  exact (blk_cell h1 k).trans (h3 k hk)
theorem Tab.at {w : World} {gl n m : Nat} {r : Nat → Nat} {T : Nat → Nat → Int} (h : Tab w gl n r m T) {k s : Nat} (hk : k < m) (hs : s < pw n) : w.cell? ⟨r k, s, none⟩ = some (.int .i64 (T k s)) ∧ w.frozen? ⟨r k, s, none⟩ = false := by
  obtain ⟨_, h4, _⟩ := h
  obtain ⟨cs, g1, g2, g3⟩ := h4 k hk
  exact ⟨(blk_cell g1 s).trans (g3 s hs), blk_free g1 s⟩
def upd (T : Nat → Nat → Int) (k s : Nat) (v : Int) : Nat → Nat → Int := fun k' s' => if k' = k ∧ s' = s then v else T k' s'
theorem Tab.set {w : World} {gl n m : Nat} {r : Nat → Nat} {T : Nat → Nat → Int} (h : Tab w gl n r m T) {k s : Nat} (hk : k < m) (hs : s < pw n) (v : Int) : Tab (w.setCell ⟨r k, s, none⟩ (.int .i64 v)) gl n r m (upd T k s v) := by
  obtain ⟨⟨rows, h1, h2, h3⟩, h4, h5, h6⟩ := h
  refine ⟨⟨rows, blk_far h1 _ _ _ (by have := h5 k hk; omega), h2, h3⟩, fun k' hk' => ?_, h5, h6⟩
  obtain ⟨cs, g1, g2, g3⟩ := h4 k' hk'
  by_cases e : k' = k
  · subst e
    refine ⟨cs.setIfInBounds s (.int .i64 v), blk_set g1 s _, by simpa using g2, fun s' hs' => ?_⟩
    by_cases e2 : s' = s
    · subst e2
      have : s' < cs.size := by omega
      simp [this, upd]
    · rw [Array.getElem?_setIfInBounds_ne (by omega), g3 s' hs']
      simp [upd, e2]
  · refine ⟨cs, blk_far g1 _ _ _ (fun hh => e (h6 k' k hk' hk hh)), g2, fun s' hs' => ?_⟩
    rw [g3 s' hs']
    simp [upd, e]
end Go.Proofs.YtbkglhakhahfpaaGreatDoor
namespace Go.Proofs.YtbkglhakhahfpaaGreatDoor
open Go.RowKit Go.Sort

def Fin (w : World) (F : Nat) (st : Pt) (vp : Value) (gl n : Nat) : Prop := w.heap[F]? = some (.cells #[.int .i64 st.1, .int .i64 st.2, vp, .slice (some ⟨gl, 0, none⟩) n n] 289 (0, 0))
theorem Fin.below {w w' : World} {F : Nat} {st : Pt} {vp : Value} {gl n : Nat} (h : Fin w F st vp gl n) (hb : Below w.heap.size w w') : Fin w' F st vp gl n := blk_below h hb
theorem Fin.cells {w : World} {F : Nat} {st : Pt} {vp : Value} {gl n : Nat} (h : Fin w F st vp gl n) : w.cell? ⟨F, 0, none⟩ = some (.int .i64 st.1) ∧ w.cell? ⟨F, 1, none⟩ = some (.int .i64 st.2) ∧ w.cell? ⟨F, 2, none⟩ = some vp ∧ w.cell? ⟨F, 3, none⟩ = some (.slice (some ⟨gl, 0, none⟩) n n) :=
  ⟨blk_cell h 0, blk_cell h 1, blk_cell h 2, blk_cell h 3⟩

set_option maxHeartbeats 2000000 in
set_option maxRecDepth 100000 in
theorem next_any (st a : Pt) (P : List Pt) (vp : Value) (F gl set : Nat) (r : Nat → Nat) (T : Nat → Nat → Int) (w : World) (hPb : ∀ p ∈ P, Bd p) (ha : Bd a) (hn : P.length ≤ 10)
    (hF : Fin w F st vp gl P.length) (hT : Tab w gl P.length r P.length T) (hbd : ∀ k, k < P.length → set.testBit k = true → 0 ≤ T k (clr set k) ∧ T k (clr set k) ≤ 9007199254740992) (hsub : Sub P.length set) (rp : Pts w 0 vp P) :
    Calls Tryz.prog 219 #[.pointer (some ⟨F, 0, none⟩), ptv a, .int .i64 set] w fun e w' => e = .returned (.tuple #[.int .i64 (scanTo P T a set P.length).1, .int .i64 (scanTo P T a set P.length).2]) ∧ Below w.heap.size w w' := by
  obtain ⟨ax, ay⟩ := a
  obtain ⟨va, cap, rfl, hc1, hc2⟩ := Pts.form rp
  have hspw := sub_pw hsub
  have hpw := pw_10 hn
  have hs62 : set < 4611686018427387904 := by omega
  unfold ptv
  have lF := blk_lt hF
  obtain ⟨_, _, kF2, kF3⟩ := hF.cells
  go_enter Tryz.func219, Tryz.ntmps219
  go_wp2
  go_loopg [6, 7, 16] P.length (fun gk p l i wr => ∃ k : Nat, gk = P.length - k ∧ k ≤ P.length ∧ i = .int .i64 k ∧ p = .int .i64 (scanTo P T (ax, ay) set k).1 ∧ l = .int .i64 (scanTo P T (ax, ay) set k).2 ∧ Below w.heap.size w wr ∧ wr.heap[w.heap.size]? = some (.cells #[.int .i64 ax, .int .i64 ay] 81 (0, 0)))
  case atStart => exact ⟨0, by omega, Nat.zero_le _, rfl, rfl, rfl, Bl.alloc (Below.refl _ _) _, blk_new w _⟩
  case round =>
    obtain ⟨k, rfl, hk, rfl, rfl, rfl, hb, hA⟩ := hrel
    have hnew : scanTo P T (ax, ay) set (k + 1) = if set.testBit k then (if (scanTo P T (ax, ay) set k).1 < 0 ∨ dist (ax, ay) (pt P k) + T k (clr set k) < (scanTo P T (ax, ay) set k).2 then ((k : Int), dist (ax, ay) (pt P k) + T k (clr set k)) else scanTo P T (ax, ay) set k) else scanTo P T (ax, ay) set k := rfl
    by_cases hlt : k < P.length
    · obtain ⟨p, hp⟩ : ∃ p, P[k]? = some p := ⟨_, List.getElem?_eq_getElem hlt⟩
      have hpB : Bd p := hPb p (List.mem_of_getElem? hp)
      have hptk : pt P k = p := by unfold pt; rw [List.getD_eq_getElem?_getD, hp]; rfl
      rw [hptk] at hnew
      obtain ⟨px, py⟩ := p
      obtain ⟨b2, o2, rfl, _, hl2, hx2, hx3⟩ := Pts.at rp hp
      have y2 := ((bcell hb).1 b2 (o2 + k * 2) hl2).trans hx2
      have y3 := ((bcell hb).1 b2 (o2 + k * 2 + 1) hl2).trans hx3
      have k2 := ((bcell hb).1 F 2 lF).trans kF2
      have k3 := ((bcell hb).1 F 3 lF).trans kF3
      have r1 := op_shr set k (by omega)
      have r2 := bits_and1' set k hs62
      clear hp hx2 hx3 hptk
      cases hbit : set.testBit k
      · have r3 := bitN_no hbit
        have HNEW : Hid (scanTo P T (ax, ay) set k = scanTo P T (ax, ay) set (k + 1)) := Lib.hid (by rw [hnew, hbit]; rfl)
        clear hnew hbit
        generalize scanTo P T (ax, ay) set k = q at *
        generalize hq2 : scanTo P T (ax, ay) set (k + 1) = q2 at *
        have HQ2 := Lib.hid hq2
        clear hq2
        go_wp2
        go_roundg (P.length - (k + 1))
        case rel => exact ⟨k + 1, rfl, by omega, by go_num, by rw [HQ2.out, ← HNEW.out], by rw [HQ2.out, ← HNEW.out], Bl.alloc hb _, blk_old hA _⟩
        case measure => omega
      · have r3 := bitN_yes hbit
        have r4 := wrap_pw k (by omega)
        have r5 := bits_clr set k hs62 (by omega)
        have hclr : clr set k < pw P.length := Nat.lt_of_le_of_lt (Nat.and_le_left) hspw
        obtain ⟨t0, t1⟩ := hbd k hlt hbit
        have hTr := hT.row hlt
        have hTa := (hT.at hlt hclr).1
        have lgl : gl < w.heap.size := World.block_lt_of_cell? w ⟨gl, k, none⟩ hTr
        have lrk : r k < w.heap.size := World.block_lt_of_cell? w ⟨r k, clr set k, none⟩ hTa
        rw [hbit] at hnew
        simp only [if_true] at hnew
        have HNEW := Lib.hid hnew
        clear hnew hbit hT
        generalize hq : scanTo P T (ax, ay) set k = q at *
        have HQ := Lib.hid hq
        clear hq
        obtain ⟨qp, ql⟩ := q
        simp only at *
        have hA2 := blk2 (blk_old hA (.cells #[.int .i64 px, .int .i64 py] 81))
        have hX2 := blk2 (blk_new wr (.cells #[.int .i64 px, .int .i64 py] 81))
        have c1 := ((bcell hb).1 gl k lgl).trans hTr
        have c2 := ((bcell hb).1 (r k) (clr set k) lrk).trans hTa
        have hd := dist_bd ha hpB
        have hsz := hb.size
        have e1 := cell_regrown hA2.1
        have e2 := cell_regrown hA2.2
        have e3 := cell_regrown hX2.1
        have e4 := cell_regrown hX2.2
        have e5 := cell_regrown (show (wr.alloc (.cells #[.int .i64 px, .int .i64 py] 81)).cell? ⟨F, 3, none⟩ = _ from (World.cell?_alloc_past _ _ _ (by omega)).trans k3)
        have e6 := cell_regrown (show (wr.alloc (.cells #[.int .i64 px, .int .i64 py] 81)).cell? ⟨gl, k, none⟩ = _ from (World.cell?_alloc_past _ _ _ (by omega)).trans c1)
        have e7 := cell_regrown (show (wr.alloc (.cells #[.int .i64 px, .int .i64 py] 81)).cell? ⟨r k, clr set k, none⟩ = _ from (World.cell?_alloc_past _ _ _ (by omega)).trans c2)
        have hck : ((clr set k : Nat) : Int) < ((pw P.length : Nat) : Int) := by omega
        clear hA2 hX2 c1 c2 k2 k3 kF2 kF3
        go_wp2
        refine wp_region_quiet_below (by kernel_rfl) (by kernel_rfl) ?_
        repeat (go_big_quiet_step ((go_at_call 212; exact Calls.regrown_of (distance_xy _ _ _ _ _ (by with_reducible assumption) (by with_reducible assumption)))))
        refine wpQuiet_nil ?_
        intro w6 hw'
        obtain ⟨⟨dq, osq⟩, hw''⟩ := hw'
        have hb6 := hw'' ▸ below_regrown (wr.alloc (.cells #[.int .i64 px, .int .i64 py] 81)) dq osq
        clear hw'' e1 e2 e3 e4 e5 e6 e7
        have hb6' := (Bl.alloc (Below.refl wr.heap.size wr) (.cells #[.int .i64 px, .int .i64 py] 81)).trans (hb6.mono (by simp))
        generalize dist (ax, ay) (px, py) + T k (clr set k) = v at *
        by_cases hq0 : qp < 0
        · have HN : Hid (scanTo P T (ax, ay) set (k + 1) = ((k : Int), v)) := Lib.hid (by rw [HNEW.out, if_pos (.inl hq0)])
          go_wp2
          go_roundg (P.length - (k + 1))
          case rel => exact ⟨k + 1, rfl, by omega, by go_num, by rw [HN.out], by rw [HN.out], Bl.trans hb hb6', blk_below hA hb6'⟩
          case measure => omega
        · by_cases hvl : v < ql
          · have HN : Hid (scanTo P T (ax, ay) set (k + 1) = ((k : Int), v)) := Lib.hid (by rw [HNEW.out, if_pos (.inr hvl)])
            go_wp2
            go_roundg (P.length - (k + 1))
            case rel => exact ⟨k + 1, rfl, by omega, by go_num, by rw [HN.out], by rw [HN.out], Bl.trans hb hb6', blk_below hA hb6'⟩
            case measure => omega
          · have HN : Hid (scanTo P T (ax, ay) set (k + 1) = (qp, ql)) := Lib.hid (by rw [HNEW.out, if_neg (by omega)])
            go_wp2
            go_roundg (P.length - (k + 1))
            case rel => exact ⟨k + 1, rfl, by omega, by go_num, by rw [HN.out], by rw [HN.out], Bl.trans hb hb6', blk_below hA hb6'⟩
            case measure => omega
    · have hkn : k = P.length := by omega
      subst hkn
      clear hnew
      generalize hq : scanTo P T (ax, ay) set P.length = q at *
      have HQ := Lib.hid hq
      clear hq
      obtain ⟨qp, ql⟩ := q
      go_wp2
      go_ret2
      refine ⟨?_, hb⟩
      rw [HQ.out]; rfl
end Go.Proofs.YtbkglhakhahfpaaGreatDoor
