/- The contracts of turned, shorter, ImprovedOf. Condition: coordinates within 2^41, at most 1000 points and places. -/
import Derived.Test.YtgcmlhpocbgkaaaImp
namespace Go.Proofs.Ytgcmlhpocbgkaaa
open Go.RowKit Go.Sort

set_option maxHeartbeats 1000000 in
theorem turned_any (o : List Nat) (v : Value) (i k : Nat) (w : World) (hik : i ≤ k) (hk : k < o.length) (hlen : o.length ≤ 1000) (ro : Ints w 0 v (nats o)) :
    Calls Try.prog 67 #[v, .int .i64 i, .int .i64 k] w fun e w' => ∃ v', e = .returned v' ∧ Own w' w.heap.size v' (nats (revSeg o i (k + 1 - i))) ∧ Below w.heap.size w w' := by
  obtain ⟨a, cap, rfl, hc1, hc2⟩ := Ints.form ro
  rw [nats_len] at *
  go_enter Try.func67, Try.ntmps67
  go_wp2_with fail
  refine (Clone_any (nats o) _ _ (by rw [nats_len]; omega) ro).mono ?_
  rintro e w1 ⟨v1, rfl, hO1, hb1⟩
  obtain ⟨g, cg, rfl, hg1, hg2, hcg⟩ := Own.nonnil hO1 (by intro e; have := congrArg List.length e; rw [nats_len, List.length_nil] at this; omega)
  rw [nats_len] at hO1 hcg ⊢
  have hne : ¬ cg = i := by omega
  go_wp2_with fail
  refine (Reverse_own (nats o) w.heap.size g o.length cg i (k + 1 - i) _ w1 hO1 (nats_len o).symm (by rw [nats_len]; omega) (by omega)).mono ?_
  rintro e w2 ⟨rfl, hO2, hG2⟩
  go_wp2
  go_ret
  exact ⟨_, rfl, by rw [nats_rev]; exact hO2, hb1.trans (Gr.below hG2 hg1 hb1.size)⟩

theorem rev_valid {P : List Pt} {o : List Nat} {i m : Nat} (h : ∀ k ∈ o, k < P.length) : ∀ k ∈ revSeg o i m, k < P.length := fun x hx => h x (revSeg_mem hx)

set_option maxHeartbeats 2000000 in
set_option maxRecDepth 100000 in
theorem shorter_any (st : Pt) (P : List Pt) (o : List Nat) (vo vp : Value) (w : World) (hst : Bd st) (hPb : ∀ p ∈ P, Bd p) (hin : ∀ k ∈ o, k < P.length) (hlen : o.length ≤ 1000)
    (ro : Ints w 0 vo (nats o)) (rp : Pts w 0 vp P) :
    Calls Try.prog 43 #[ptv st, vp, vo] w fun e w' => ((∃ i k v', First st P o i k ∧ e = .returned (.tuple #[v', .bool true]) ∧ Own w' w.heap.size v' (nats (revSeg o i (k + 1 - i)))) ∨ (NoGain st P o ∧ e = .returned (.tuple #[.slice none 0 0, .bool false]))) ∧ Below w.heap.size w w' := by
  obtain ⟨a', cap', rfl, hc1', hc2'⟩ := Ints.form ro
  obtain ⟨a, cap, rfl, hc1, hc2⟩ := Pts.form rp
  obtain ⟨sx, sy⟩ := st
  rw [nats_len] at *
  unfold ptv
  go_enter Try.func43, Try.ntmps43
  go_wp2
  go_loopg [13] o.length (fun gk i wr => ∃ k : Nat, gk = o.length - k ∧ k ≤ o.length ∧ i = .int .i64 k ∧ Hid (∀ i' k', i' < k' → k' < o.length → i' < k → ¬ gain (sx, sy) P o i' k') ∧ Below w.heap.size w wr ∧
      wr.heap[w.heap.size]? = some (.cells #[.int .i64 sx, .int .i64 sy] 27 (0, 0)))
  case atStart => exact ⟨0, by omega, Nat.zero_le _, rfl, Lib.hid (by intro i' k' _ _ h; omega), Bl.alloc (Below.refl _ _) _, blk_new w _⟩
  case round =>
    obtain ⟨i, rfl, hi, rfl, hno, hb0, hS0⟩ := hrel
    by_cases hlt : i < o.length
    · go_wp2
      go_loopg [9] (o.length - (i + 1)) (fun gk kk wi => ∃ k : Nat, gk = o.length - k ∧ i + 1 ≤ k ∧ k ≤ o.length ∧ kk = .int .i64 k ∧ Hid (∀ k', i < k' → k' < k → ¬ gain (sx, sy) P o i k') ∧ Below w.heap.size w wi ∧
          wi.heap[w.heap.size]? = some (.cells #[.int .i64 sx, .int .i64 sy] 27 (0, 0)))
      case atStart => exact ⟨i + 1, by omega, Nat.le_refl _, by omega, by go_num, Lib.hid (by intro k' h1 h2; omega), hb0, hS0⟩
      case round =>
        obtain ⟨k, rfl, hk1, hk2, rfl, hnk, hb, hS⟩ := hrel
        have hsz := hb.size
        by_cases hltk : k < o.length
        · go_wp2_with fail
          refine (turned_any o _ i k wr (by omega) hltk hlen (ro.below hb)).mono ?_
          rintro e w1 ⟨v1, rfl, hO1, hb1⟩
          have hS1 := blk_below hS hb1
          have hw1 := Bl.trans hb hb1
          obtain ⟨z1, z2⟩ := blk2 hS1
          have e1 := cell_regrown z1
          have e2 := cell_regrown z2
          have HIFF := Lib.hid (rev_len (sx, sy) P o i k (by omega) hltk)
          have hlr : (revSeg o i (k + 1 - i)).length = o.length := revSeg_length (by omega)
          have HLR := Lib.hid hlr
          clear hlr
          have hc1 : ∀ d os, Calls Try.prog 16 #[.agg #[.int .i64 sx, .int .i64 sy], .slice a P.length cap, v1] (grow (redrawn w1 d) os) fun e w' => e = .returned (.int .i64 (lenOf (sx, sy) P (revSeg o i (k + 1 - i)))) ∧ ∃ p : Regrown, w' = grow (redrawn w1 p.d) p.os := fun d os =>
            Calls.regrown_of (LengthOf_any (sx, sy) P _ _ v1 _ hst hPb (rev_valid hin) (by rw [HLR.out]; exact hlen) ((rp.below hw1).below (below_regrown w1 d os)) (hO1.ints0.below (below_regrown w1 d os)))
          have hc2 : ∀ d os, Calls Try.prog 16 #[.agg #[.int .i64 sx, .int .i64 sy], .slice a P.length cap, .slice a' o.length cap'] (grow (redrawn w1 d) os) fun e w' => e = .returned (.int .i64 (lenOf (sx, sy) P o)) ∧ ∃ p : Regrown, w' = grow (redrawn w1 p.d) p.os := fun d os =>
            Calls.regrown_of (LengthOf_any (sx, sy) P o _ _ _ hst hPb hin hlen ((rp.below hw1).below (below_regrown w1 d os)) ((ro.below hw1).below (below_regrown w1 d os)))
          have HC : Hid (∀ v' n, (v' = v1 ∧ n = lenOf (sx, sy) P (revSeg o i (k + 1 - i)) ∨ v' = .slice a' o.length cap' ∧ n = lenOf (sx, sy) P o) → ∀ d os, Calls Try.prog 16 #[.agg #[.int .i64 sx, .int .i64 sy], .slice a P.length cap, v'] (grow (redrawn w1 d) os) fun e w' => e = .returned (.int .i64 n) ∧ ∃ p : Regrown, w' = grow (redrawn w1 p.d) p.os) := Lib.hid (by
            rintro v' n (⟨rfl, rfl⟩ | ⟨rfl, rfl⟩)
            · exact hc1
            · exact hc2)
          clear hc1 hc2
          generalize lenOf (sx, sy) P (revSeg o i (k + 1 - i)) = n1 at *
          generalize lenOf (sx, sy) P o = n2 at *
          go_wp2
          refine wp_region_quiet_below (by kernel_rfl) (by kernel_rfl) ?_
          repeat (go_big_quiet_step (exact HC.out _ _ (by first | exact .inl ⟨rfl, rfl⟩ | exact .inr ⟨rfl, rfl⟩) _ _))
          refine wpQuiet_nil ?_
          intro w6 hw'
          obtain ⟨⟨dq, osq⟩, hw''⟩ := hw'
          have hb6 := hw'' ▸ below_regrown w1 dq osq
          clear hw'' e1 e2 HC
          by_cases hgain : n1 < n2
          · have HG := Lib.hid (HIFF.out.1 hgain)
            go_wp2
            go_ret2
            refine ⟨.inl ⟨i, k, v1, ⟨by omega, hltk, HG.out, ?_⟩, rfl, ?_⟩, Bl.trans hw1 hb6⟩
            · intro i' k' h1 h2 h3
              rcases h3 with h3 | ⟨rfl, h3⟩
              · exact hno.out i' k' h1 h2 h3
              · exact hnk.out k' h1 h3
            · exact own_base (hO1.below hb6) hb.size
          · have HG : Hid (¬ gain (sx, sy) P o i k) := Lib.hid (fun h => hgain (HIFF.out.2 h))
            go_wp2
            go_roundg (o.length - (k + 1))
            case rel => exact ⟨k + 1, rfl, by omega, by omega, by go_num, Lib.hid (by
              intro k' h1 h2
              by_cases h : k' = k
              · subst h; exact HG.out
              · exact hnk.out k' h1 (by omega)), Bl.trans hw1 hb6, blk_below hS1 hb6⟩
            case measure => omega
        · have hkn : k = o.length := by omega
          go_wp2
          go_roundg (o.length - (i + 1))
          case rel => exact ⟨i + 1, rfl, by omega, by go_num, Lib.hid (by
              intro i' k' h1 h2 h3
              by_cases h : i' = i
              · subst h; exact hnk.out k' h1 (by omega)
              · exact hno.out i' k' h1 h2 (by omega)), hb, hS⟩
          case measure => omega
    · have hin2 : i = o.length := by omega
      subst hin2
      go_wp2
      go_ret2
      exact ⟨.inr ⟨fun i' k' h1 h2 => hno.out i' k' h1 h2 (by omega), rfl⟩, hb0⟩

set_option maxHeartbeats 1000000 in
theorem ImprovedOf_any (st : Pt) (P : List Pt) (o : List Nat) (vo vp : Value) (w : World) (hst : Bd st) (hPb : ∀ p ∈ P, Bd p) (hin : ∀ k ∈ o, k < P.length) (hlen : o.length ≤ 1000)
    (ro : Ints w 0 vo (nats o)) (rp : Pts w 0 vp P) :
    Calls Try.prog 17 #[ptv st, vp, vo] w fun e w' => (∃ t o' v' n, Turns st P t o o' ∧ NoGain st P o' ∧ e = .returned (.tuple #[v', .int .i64 n]) ∧ Own w' w.heap.size v' (nats o') ∧ n = lenOf st P o') ∧ Below w.heap.size w w' := by
  obtain ⟨a', cap', rfl, hc1', hc2'⟩ := Ints.form ro
  obtain ⟨a, cap, rfl, hc1, hc2⟩ := Pts.form rp
  obtain ⟨sx, sy⟩ := st
  unfold ptv
  go_enter Try.func17, Try.ntmps17
  go_wp2_with fail
  refine (Clone_any (nats o) _ _ (by rw [nats_len]; omega) (ro.alloc _)).mono ?_
  rintro e w1 ⟨v1, rfl, hO1, hb1⟩
  have hS1 := blk_below (blk_new w (.cells #[.int .i64 sx, .int .i64 sy] 27)) hb1
  have hb1' := (Bl.alloc (Below.refl w.heap.size w) _).trans (hb1.mono (by simp))
  have hO1' : Own w1 w.heap.size v1 (nats o) := own_base hO1 (by simp)
  go_wp2
  go_loopg [2] (lenOf (sx, sy) P o).toNat (fun gk v wr => ∃ (t : Nat) (o' : List Nat), gk = (lenOf (sx, sy) P o').toNat ∧ Turns (sx, sy) P t o o' ∧ (∀ k ∈ o', k < P.length) ∧ Hid (o'.length = o.length) ∧ Own wr w.heap.size v (nats o') ∧ Below w.heap.size w wr ∧
      wr.heap[w.heap.size]? = some (.cells #[.int .i64 sx, .int .i64 sy] 27 (0, 0)))
  case atStart => exact ⟨0, o, rfl, rfl, hin, Lib.hid rfl, hO1', hb1', hS1⟩
  case round =>
    obtain ⟨t, o', rfl, hT', hin', hl', hOr, hbr, hSr⟩ := hrel
    obtain ⟨z1, z2⟩ := blk2 hSr
    go_wp2_with fail
    refine (shorter_any (sx, sy) P o' _ _ _ hst hPb hin' (by rw [hl'.out]; exact hlen) hOr.ints0 (rp.below hbr)).mono ?_
    rintro e w4 ⟨hc, hb4⟩
    have hb4' := Bl.trans hbr hb4
    have hS4 := blk_below hSr hb4
    obtain ⟨y1, y2⟩ := blk2 hS4
    rcases hc with ⟨i, k, v', hF, rfl, hO4⟩ | ⟨hN, rfl⟩
    · have hlt := (rev_len (sx, sy) P o' i k (by have := hF.1; omega) hF.2.1).2 hF.2.2.1
      have hnn := lenOf_nonneg (sx, sy) P (revSeg o' i (k + 1 - i))
      have hLT : (lenOf (sx, sy) P (revSeg o' i (k + 1 - i))).toNat < (lenOf (sx, sy) P o').toNat := by omega
      have HLT := Lib.hid hLT
      clear hlt hnn hLT
      go_wp2
      go_roundg (lenOf (sx, sy) P (revSeg o' i (k + 1 - i))).toNat
      case rel => exact ⟨t + 1, _, rfl, hT'.snoc hF, fun x hx => hin' x (revSeg_mem hx), Lib.hid (by rw [revSeg_length (by have := hF.2.1; have := hF.1; omega)]; exact hl'.out), own_base hO4 hbr.size, hb4', hS4⟩
      case measure => exact HLT.out
    · have hO4 := hOr.below hb4
      go_wp2_with fail
      refine (LengthOf_any (sx, sy) P o' _ _ _ hst hPb hin' (by rw [hl'.out]; exact hlen) (rp.below hb4') hO4.ints0).mono ?_
      rintro e w5 ⟨rfl, hb5⟩
      go_wp2
      go_ret2
      exact ⟨⟨t, o', _, _, hT', hN, rfl, hO4.below hb5, rfl⟩, Bl.trans hb4' hb5⟩
end Go.Proofs.Ytgcmlhpocbgkaaa
