/- The contract of finder.tour: the order that the table gives. Condition: at most 10 points, coordinates within 2^41, a table that is right. · The contracts of Shortest, Distance and toured. Condition: coordinates within 2^41. -/
import Derived.Test.YtbkglhakhahfpaaGreatDoorFind
namespace Go.Proofs.YtbkglhakhahfpaaGreatDoor
open Go.RowKit Go.Sort

/-- at most f numbers are in a set. -/
def Few (f s : Nat) : Prop := ∀ l : List Nat, l.Nodup → (∀ i ∈ l, s.testBit i = true) → l.length ≤ f
theorem Few.start {n s : Nat} (h : Sub n s) : Few n s := by
  intro l hnd hl
  apply Classical.byContradiction
  intro hc
  cases l with
  | nil => simp at hc
  | cons x t =>
    have hx := h x (hl x List.mem_cons_self)
    have := pigeon_nodup t n (List.nodup_cons.1 hnd).2 (fun k hk => h k (hl k (List.mem_cons_of_mem _ hk))) (by simp at hc; omega) x hx
    exact (List.nodup_cons.1 hnd).1 this
theorem Few.zero {s : Nat} (h : Few 0 s) : s = 0 := by
  apply Classical.byContradiction
  intro h0
  obtain ⟨i, hi⟩ := Nat.exists_testBit_of_ne_zero h0
  have := h [i] (by simp) (by simpa using hi)
  simp at this
theorem Few.step {f s k : Nat} (h : Few (f + 1) s) (hs : s < 2 ^ 64) (hk : k < 64) (hb : s.testBit k = true) : Few f (clr s k) := by
  intro l hnd hl
  have h1 : ∀ i ∈ l, s.testBit i = true ∧ i ≠ k := by
    intro i hi
    have := hl i hi
    rw [clr_bit hs hk] at this
    simpa using this
  have := h (k :: l) (List.nodup_cons.2 ⟨fun hm => (h1 k hm).2 rfl, hnd⟩) (fun i hi => by
    rcases List.mem_cons.1 hi with rfl | hi
    · exact hb
    · exact (h1 i hi).1)
  simpa using this
theorem Own.far {w : World} {B ab o : Nat} {v u : Value} {l : List Int} (h : Own w B v l) (hne : ∀ k, v.ownBlock = some k → k ≠ ab) : Own (w.setCell ⟨ab, o, none⟩ u) B v l :=
  h.kept (Gr.set (Gr.refl w (some ab)) ab o (.inl rfl) u) (by
    cases hv : v.ownBlock with
    | none => exact .inl rfl
    | some k => exact .inr (by intro e; injection e with e; exact hne k hv e))
theorem Own.ne_pt {w : World} {B ab : Nat} {v : Value} {l : List Int} {cs : Array Value} (h : Own w B v l) (hb : w.heap[ab]? = some (.cells cs 81 (0, 0))) : ∀ k, v.ownBlock = some k → k ≠ ab := by
  intro k hk e
  subst e
  rcases h.2 with ⟨rfl, _⟩ | ⟨g, cap, cur, rfl, _, hg, _⟩
  · simp [Value.ownBlock] at hk
  · simp only [Value.ownBlock, Option.some.injEq] at hk
    subst hk
    rw [hg] at hb
    injection hb with hb
    injection hb with _ hb _
    exact absurd hb (by decide)
theorem Fin.point {w : World} {F : Nat} {st : Pt} {vp : Value} {gl n : Nat} (h : Fin w F st vp gl n) : w.heap[F]? = some (.cells #[.int .i64 st.1, .int .i64 st.2, vp, .slice (some ⟨gl, 0, none⟩) n n] 289 (0, 0)) := h

set_option maxHeartbeats 2000000 in
set_option maxRecDepth 100000 in
theorem ftour_any (st : Pt) (P : List Pt) (vp : Value) (F gl set : Nat) (r : Nat → Nat) (T : Nat → Nat → Int) (w : World) (hst : Bd st) (hPb : ∀ p ∈ P, Bd p) (hn : P.length ≤ 10)
    (hF : Fin w F st vp gl P.length) (hT : Tab w gl P.length r P.length T) (hTW : ∀ k s, k < P.length → s < pw P.length → s.testBit k = false → T k s = W st P k s) (hsub : Sub P.length set) (rp : Pts w 0 vp P) :
    Calls Tryz.prog 147 #[.pointer (some ⟨F, 0, none⟩), .int .i64 set] w fun e w' => (∃ v, e = .returned (.tuple #[v, .int .i64 (V st P st set)]) ∧ Own w' w.heap.size v (nats (tlist st P P.length st set))) ∧ Below w.heap.size w w' := by
  have hpw := pw_10 hn
  have hspw := sub_pw hsub
  have hnx : ∀ (a : Pt) (s : Nat) (wx : World), Bd a → Sub P.length s → Below w.heap.size w wx → Calls Tryz.prog 219 #[.pointer (some ⟨F, 0, none⟩), .agg #[.int .i64 a.1, .int .i64 a.2], .int .i64 s] wx fun e w' => e = .returned (.tuple #[.int .i64 (nextW st P a s).1, .int .i64 (nextW st P a s).2]) ∧ Below wx.heap.size wx w' := by
    intro a s wx ha hs hb
    have hs' := sub_pw hs
    have key : ∀ k, k < P.length → s.testBit k = true → T k (clr s k) = W st P k (clr s k) := fun k hk hbk => by
      have := clr_lt (s := s) (k := k) (by omega) (by omega) hbk
      exact hTW k (clr s k) hk (by omega) (clr_no s k (by omega) (by omega))
    have hbd : ∀ k, k < P.length → s.testBit k = true → 0 ≤ T k (clr s k) ∧ T k (clr s k) ≤ 9007199254740992 := by
      intro k hk hbk
      have hcl : clr s k < s := clr_lt (by omega) (by omega) hbk
      rw [key k hk hbk]
      obtain ⟨b1, b2, _⟩ := W_bd st P hst hPb (by omega) 1024 (clr s k) (by omega) (by omega) hs.clr k hk
      exact ⟨b1, by omega⟩
    have := next_any st a P vp F gl s r T wx hPb ha hn (hF.below hb) (hT.below hb) hbd hs (rp.below hb)
    unfold ptv at this
    unfold nextW
    rw [← scan_congr P a s P.length key]
    exact this
  have lF := blk_lt hF
  obtain ⟨va, cap, rfl, hc1, hc2⟩ := Pts.form rp
  obtain ⟨sx, sy⟩ := st
  obtain ⟨kF0, kF1, kF2, kF3⟩ := hF.cells
  by_cases h0 : set = 0
  · subst h0
    have hV : V (sx, sy) P (sx, sy) 0 = 0 := by unfold V; rw [if_pos rfl, dist_self]
    have ht : tlist (sx, sy) P P.length (sx, sy) 0 = [] := by cases P.length <;> rfl
    rw [hV, ht]
    clear hnx hF hT hTW rp
    go_enter Tryz.func147, Tryz.ntmps147
    go_wp2
    go_ret2
    exact ⟨⟨_, rfl, Own.nil _ _⟩, Below.refl _ _⟩
  · have hV : V (sx, sy) P (sx, sy) set = (nextW (sx, sy) P (sx, sy) set).2 := by unfold V; rw [if_neg h0]
    rw [hV]
    have c0 := hnx (sx, sy) set w hst hsub (Below.refl _ _)
    generalize hq : nextW (sx, sy) P (sx, sy) set = q at *
    obtain ⟨qp, ql⟩ := q
    have hse : ((set : Int) == 0) = false := by simp; omega
    have HNX := Lib.hid hnx
    have HF := Lib.hid hF
    have HTW := Lib.hid hTW
    have HT := Lib.hid hT
    have HQ := Lib.hid hq
    clear hnx hF hTW hT hq hV
    go_enter Tryz.func147, Tryz.ntmps147
    go_wp2_with fail
    refine c0.mono ?_
    rintro e w1 ⟨rfl, hb1⟩
    have k0 := ((bcell hb1).1 F 0 lF).trans kF0
    have k1 := ((bcell hb1).1 F 1 lF).trans kF1
    go_wp2
    go_loopg [1, 8, 9] set (fun gk sv ov bv wr => ∃ (s : Nat) (a : Pt) (l : List Nat) (f ab : Nat), gk = s * 1 ∧ sv = .int .i64 s ∧ bv = .pointer (some ⟨ab, 0, none⟩) ∧ Sub P.length s ∧ Bd a ∧ Few f s ∧ Hid (l ++ tlist (sx, sy) P f a s = tlist (sx, sy) P P.length (sx, sy) set) ∧ l.length + f = P.length ∧
      w.heap.size ≤ ab ∧ wr.heap[ab]? = some (.cells #[.int .i64 a.1, .int .i64 a.2] 81 (0, 0)) ∧ Own wr w.heap.size ov (nats l) ∧ (∀ k, ov.ownBlock = some k → k ≠ ab) ∧ Below w.heap.size w wr)
    case atStart =>
      refine ⟨set, (sx, sy), [], P.length, w1.heap.size, by omega, rfl, rfl, hsub, hst, Few.start hsub, Lib.hid rfl, by simp, hb1.size, blk_new _ _, Own.nil _ _, ?_, Bl.alloc hb1 _⟩
      intro k hk; simp [Value.ownBlock] at hk
    case round =>
      obtain ⟨s, a, l, f, ab, rfl, rfl, rfl, hsb, ha, hfew, hlist, hlf, hab, hA, hO, hne, hb⟩ := hrel
      by_cases hs0 : s = 0
      · subst hs0
        have ht : tlist (sx, sy) P f a 0 = [] := by cases f <;> rfl
        have HL : Hid (l = tlist (sx, sy) P P.length (sx, sy) set) := Lib.hid (by rw [← hlist.out, ht, List.append_nil])
        go_wp2
        go_ret2
        rw [← HL.out]
        exact ⟨⟨_, rfl, hO⟩, hb⟩
      · obtain ⟨f', rfl⟩ : ∃ f', f = f' + 1 := by
          cases f with
          | zero => exact absurd hfew.zero hs0
          | succ f' => exact ⟨f', rfl⟩
        have hss := sub_pw hsb
        have c1 := HNX.out a s wr ha hsb hb
        obtain ⟨_, _, hv3⟩ := V_bd (sx, sy) P hst hPb (by omega) hsb ha
        obtain ⟨k, hk1, hk2, hk3⟩ := hv3 hs0
        have hkn := hsb k hk2
        have htl : tlist (sx, sy) P (f' + 1) a s = k :: tlist (sx, sy) P f' (pt P k) (clr s k) := by
          simp only [tlist]; rw [if_neg hs0, hk1, Int.toNat_natCast]
        have HL : Hid ((l ++ [k]) ++ tlist (sx, sy) P f' (pt P k) (clr s k) = tlist (sx, sy) P P.length (sx, sy) set) := Lib.hid (by rw [← hlist.out, htl]; simp)
        obtain ⟨p, hp⟩ : ∃ p, P[k]? = some p := ⟨_, List.getElem?_eq_getElem hkn⟩
        have hpB : Bd p := hPb p (List.mem_of_getElem? hp)
        have hptk : pt P k = p := by unfold pt; rw [List.getD_eq_getElem?_getD, hp]; rfl
        rw [hptk] at HL
        obtain ⟨px, py⟩ := p
        obtain ⟨ax, ay⟩ := a
        obtain ⟨b2, o2, rfl, _, hl2, hx2, hx3⟩ := Pts.at rp hp
        have hfew' := hfew.step (by omega) (by omega) hk2
        have hclt := clr_lt (s := s) (k := k) (by omega) (by omega) hk2
        have r4 := wrap_pw k (by omega)
        have r5 := bits_clr s k (by omega) (by omega)
        rw [hk1] at c1
        generalize (nextW (sx, sy) P (ax, ay) s).2 = ql2 at *
        obtain ⟨a1, a2⟩ := blk2 hA
        have lA := blk_lt hA
        clear hk1 hk3 hptk hp htl hlist hv3
        obtain ⟨sa, scap, rfl, hsc1, hsc2⟩ := Ints.form hO.ints0
        go_wp2_with fail
        refine c1.mono ?_
        rintro e w2 ⟨rfl, hb2⟩
        have hO2 := hO.below hb2
        have hA2 := blk_below hA hb2
        have hb02 := Bl.trans hb hb2
        have hsz2 := hb02.size
        go_wp2_with (at_builtin; refine wp_app_int rfl _ _ rfl w.heap.size _ (nats l) rfl (hO2.alloc _) w2.heap.size 1 k rfl (by rw [blk_cell (blk_new _ _) 0]; rfl) (by rw [nats_len]; omega) (by simp; omega) ?_)
        intro v' w7 hO7 hG7 hb7
        rw [← nats_snoc] at hO7
        have hA7 := (hG7.block ab (by have := blk_lt hA2; simp; omega) (fun e => hne ab e.symm rfl)).trans (blk_old hA2 _)
        have hw7 : Below w.heap.size w w7 := (Bl.alloc hb02 _).trans hb7
        have y2 := ((bcell hw7).1 b2 (o2 + k * 2) hl2).trans hx2
        have y3 := ((bcell hw7).1 b2 (o2 + k * 2 + 1) hl2).trans hx3
        have y4 := ((bcell hw7).1 F 2 lF).trans kF2
        obtain ⟨z1, z2⟩ := blk2 hA7
        have z3 := blk_free hA7 0
        have z4 := blk_free hA7 1
        have hki : ((k : Nat) : Int) < ((P.length : Nat) : Int) := by omega
        clear hG7 hA2 hO2 a1 a2 hx2 hx3 hA hO
        go_wp2
        go_region
        have hne7 := Own.ne_pt hO7 hA7
        have hO8 : Own ((w7.setCell ⟨ab, 0, none⟩ (.int .i64 px)).setCell ⟨ab, 1, none⟩ (.int .i64 py)) w.heap.size v' (nats (l ++ [k])) := (hO7.far hne7).far hne7
        have hw8 := Bl.set (Bl.set hw7 ab 0 hab (.int .i64 px)) ab 1 hab (.int .i64 py)
        have hO9 := (show Own ((w7.setCell ⟨ab, 0, none⟩ (.int .i64 px)).setCell ⟨ab, 1, none⟩ (.int .i64 py)).drew w.heap.size v' (nats (l ++ [k])) from hO8).alloc (.cells #[.int .i64 px, .int .i64 py] 81)
        have hw9 := Bl.alloc (Below.drew hw8) (.cells #[.int .i64 px, .int .i64 py] 81)
        have hA9 := blk_new' ((w7.setCell ⟨ab, 0, none⟩ (.int .i64 px)).setCell ⟨ab, 1, none⟩ (.int .i64 py)).drew (.cells #[.int .i64 px, .int .i64 py] 81) (g := w7.heap.size) (by simp [World.setCell, World.drew])
        have hsz7 := hw7.size
        go_wp2
        go_roundg (clr s k * 1)
        case rel => exact ⟨clr s k, (px, py), l ++ [k], f', _, rfl, rfl, rfl, hsb.clr, hpB, hfew', HL, by simp; omega, by simpa using hsz7, hA9, hO9, hO9.ne_pt hA9, hw9⟩
        case measure => omega
end Go.Proofs.YtbkglhakhahfpaaGreatDoor
namespace Go.Proofs.YtbkglhakhahfpaaGreatDoor
open Go.RowKit Go.Sort

theorem tourF_len {st : Pt} {P : List Pt} {m : Int} (h : tourF st P m = 0) : (P.length : Int) ≤ m := by
  unfold tourF ptsF at h
  apply Classical.byContradiction
  intro hc
  split at h
  · omega
  · omega
theorem sub_full (n : Nat) : Sub n (pw n - 1) := sub_of_lt (by have : 0 < pw n := Nat.two_pow_pos _; omega)

set_option maxHeartbeats 2000000 in
set_option maxRecDepth 100000 in
theorem Shortest_any (st : Pt) (P : List Pt) (vp : Value) (w : World) (hst : Bd st) (hPb : ∀ p ∈ P, Bd p) (hn : P.length ≤ 1000) (rp : Pts w 0 vp P) :
    Calls Tryz.prog 50 #[ptv st, vp] w fun e w' => (∃ (r : List Int) (vr : Value) (n : Int), e = .returned (.tuple #[vr, .int .i64 n, .int .i64 (tourF st P 9)]) ∧ Own w' w.heap.size vr r ∧ (tourF st P 9 ≠ 0 → r = [] ∧ n = 0) ∧
      (tourF st P 9 = 0 → r = nats (tlist st P P.length st (pw P.length - 1)) ∧ n = V st P st (pw P.length - 1))) ∧ Below w.heap.size w w' := by
  obtain ⟨sx, sy⟩ := st
  obtain ⟨a, cap, rfl, hc1, hc2⟩ := Pts.form rp
  unfold ptv
  by_cases hT : tourF (sx, sy) P 9 = 0
  · have HT := Lib.hid hT
    have h9 := tourF_len hT
    have hpw := pw_10 (n := P.length) (by omega)
    have hp1 : 1 ≤ pw P.length := Nat.two_pow_pos _
    have q1 := wrap_pw P.length (by omega)
    have q2 : IntKind.i64.wrap (((pw P.length : Nat) : Int) - 1) = ((pw P.length - 1 : Nat) : Int) := by rw [IntWalk.i64_in _ (by omega)]; omega
    clear hT
    go_enter Tryz.func50, Tryz.ntmps50
    go_wp2_with fail
    refine (pointsFault_any (sx, sy) P 9 _ _ hn (rp.alloc _)).mono ?_
    rintro e w1 ⟨rfl, hb1⟩
    rw [HT.out]
    have hb1' := (Bl.alloc (Below.refl w.heap.size w) _).trans (hb1.mono (by simp))
    obtain ⟨z1, z2⟩ := blk2 (blk_below (blk_new w (.cells #[.int .i64 sx, .int .i64 sy] 81)) hb1)
    clear hb1
    go_wp2
    go_region_with ((first
      | (go_at_call 146; refine (newFinder_any (sx, sy) P _ w1.drew hst hPb (by omega) (rp.below (Below.drew hb1'))).mono ?_; rintro e w2 ⟨⟨F, gl, r, T, rfl, hFs, hF, hT, hTW⟩, hb2⟩)
      | (go_at_call 147; refine (ftour_any (sx, sy) P _ F gl (pw P.length - 1) r T w2 hst hPb (by omega) hF hT hTW (sub_full _) (rp.below (Bl.trans (Below.drew hb1') hb2))).mono ?_; rintro e w3 ⟨⟨v3, rfl, hO3⟩, hb3⟩)))
    all_goals go_wp2
    all_goals (
      go_ret3
      rw [HT.out]
      have hb13 := Bl.trans (Below.drew hb1') hb2
      exact ⟨⟨_, _, _, rfl, own_base hO3 hb13.size, fun h => absurd rfl h, fun _ => ⟨rfl, rfl⟩⟩, Bl.trans hb13 hb3⟩)
  · have hne := errno_ne hT
    have HT := Lib.hid hT
    clear hT
    generalize hg : tourF (sx, sy) P 9 = f at *
    have HG := Lib.hid hg
    clear hg
    go_enter Tryz.func50, Tryz.ntmps50
    go_wp2_with fail
    refine (pointsFault_any (sx, sy) P 9 _ _ hn (rp.alloc _)).mono ?_
    rintro e w1 ⟨rfl, hb1⟩
    rw [HG.out]
    have hb1' := (Bl.alloc (Below.refl w.heap.size w) _).trans (hb1.mono (by simp))
    go_wp2
    go_ret3
    exact ⟨⟨[], _, 0, rfl, Own.nil _ _, fun _ => ⟨rfl, rfl⟩, fun h => absurd h HT.out⟩, hb1'⟩

set_option maxHeartbeats 1000000 in
theorem Distance_any (w : World) : Calls Tryz.prog 136 #[.agg #[.int .i64 1, .int .i64 1], .agg #[.int .i64 4, .int .i64 3]] w fun e w' => e = .returned (.tuple #[.int .i64 3, .int .i64 0]) ∧ Below w.heap.size w w' := by
  have h1 : farB (1, 1) = false := by decide
  have h2 : farB (4, 3) = false := by decide
  have h3 : dist (1, 1) (4, 3) = 3 := by decide
  have b1 : Bd (1, 1) := by unfold Bd; omega
  have b2 : Bd (4, 3) := by unfold Bd; omega
  have c1 : ∀ w, Calls Tryz.prog 211 #[.agg #[.int .i64 1, .int .i64 1]] w fun e w' => e = .returned (.bool false) ∧ Below w.heap.size w w' := fun w => by rw [← h1]; exact isFar_any (1, 1) w
  have c2 : ∀ w, Calls Tryz.prog 211 #[.agg #[.int .i64 4, .int .i64 3]] w fun e w' => e = .returned (.bool false) ∧ Below w.heap.size w w' := fun w => by rw [← h2]; exact isFar_any (4, 3) w
  have c3 : ∀ w, Calls Tryz.prog 212 #[.agg #[.int .i64 1, .int .i64 1], .agg #[.int .i64 4, .int .i64 3]] w fun e w' => e = .returned (.int .i64 3) ∧ Below w.heap.size w w' := fun w => by rw [← h3]; exact distance_xy 1 1 4 3 w b1 b2
  go_enter Tryz.func136, Tryz.ntmps136
  have hA := blk_old (blk_new w (.cells #[.int .i64 1, .int .i64 1] 81)) (.cells #[.int .i64 4, .int .i64 3] 81)
  have hB := blk_new' (w.alloc (.cells #[.int .i64 1, .int .i64 1] 81)) (.cells #[.int .i64 4, .int .i64 3] 81) (g := w.heap.size + 1) (by simp)
  have hb := Bl.alloc (Bl.alloc (Below.refl w.heap.size w) (.cells #[.int .i64 1, .int .i64 1] 81)) (.cells #[.int .i64 4, .int .i64 3] 81)
  go_wp2_with fail
  refine (c1 _).mono ?_
  rintro e w1 ⟨rfl, hb1⟩
  have hA1 := blk_below hA hb1
  have hB1 := blk_below hB hb1
  have hw1 := Bl.trans hb hb1
  obtain ⟨x1, x2⟩ := blk2 hB1
  go_wp2_with fail
  refine (c2 _).mono ?_
  rintro e w2 ⟨rfl, hb2⟩
  have hA2 := blk_below hA1 hb2
  have hB2 := blk_below hB1 hb2
  have hw2 := Bl.trans hw1 hb2
  obtain ⟨x3, x4⟩ := blk2 hA2
  obtain ⟨x5, x6⟩ := blk2 hB2
  go_wp2_with fail
  refine (c3 _).mono ?_
  rintro e w3 ⟨rfl, hb3⟩
  go_wp2
  go_ret2
  exact ⟨rfl, Bl.trans hw2 hb3⟩

theorem toured_any (w : World) : Calls Tryz.prog 40 #[] w fun e w' => e = .returned (.bool true) ∧ Below w.heap.size w w' := by
  go_enter Tryz.func40, Tryz.ntmps40
  go_wp2_with fail
  refine (Distance_any _).mono ?_
  rintro e w1 ⟨rfl, hb1⟩
  go_wp2
  go_ret
  exact ⟨rfl, hb1⟩
end Go.Proofs.YtbkglhakhahfpaaGreatDoor
