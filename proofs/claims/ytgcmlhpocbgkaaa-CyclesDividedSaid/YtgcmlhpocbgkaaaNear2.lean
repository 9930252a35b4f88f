/- The contract of NearestOf. Condition: coordinates within 2^41, at most 1000 points. -/
import Derived.Test.YtgcmlhpocbgkaaaNear
namespace Go.Proofs.Ytgcmlhpocbgkaaa
open Go.RowKit Go.Sort

theorem Apart_xy (ax ay bx bY : Int) (w : World) (ha : Bd (ax, ay)) (hb : Bd (bx, bY)) :
    Calls Try.prog 42 #[.agg #[.int .i64 ax, .int .i64 ay], .agg #[.int .i64 bx, .int .i64 bY]] w fun e w' => e = .returned (.int .i64 (dist (ax, ay) (bx, bY))) ∧ Below w.heap.size w w' := Apart_any (ax, ay) (bx, bY) w ha hb
theorem Contains_quiet {l : List Int} {y : Int} {v : Value} {w : World} {b : Bool} (hlen : l.length ≤ 100000) (rl : Ints w 0 v l) (hb : memB y l = b) (d : Nat) (os : Array Obj) :
    Calls Try.prog 36 #[v, .int .i64 y] (grow (redrawn w d) os) fun e w' => e = .returned (.bool b) ∧ ∃ p : Regrown, w' = grow (redrawn w p.d) p.os :=
  Calls.regrown_of ((Contains_any l y v _ hlen (rl.below (below_regrown w d os))).mono fun _ _ ⟨he, hw⟩ => ⟨by rw [he, hb], by rw [hw]; exact Below.refl _ _⟩)

set_option maxHeartbeats 2000000 in
set_option maxRecDepth 100000 in
theorem NearestOf_any (st : Pt) (P : List Pt) (vp : Value) (w : World) (hst : Bd st) (hPb : ∀ p ∈ P, Bd p) (hn : P.length ≤ 1000) (rp : Pts w 0 vp P) :
    Calls Try.prog 20 #[ptv st, vp] w fun e w' => (∃ (vr : Value) (n : Int), e = .returned (.tuple #[vr, .int .i64 n]) ∧ Own w' w.heap.size vr (nats (nearTo P st P.length).1) ∧ n = lenOf st P (nearTo P st P.length).1) ∧ Below w.heap.size w w' := by
  obtain ⟨sx, sy⟩ := st
  obtain ⟨a, cap, rfl, hc1, hc2⟩ := Pts.form rp
  unfold ptv
  go_enter Try.func20, Try.ntmps20
  go_wp2
  go_loopg [6] P.length (fun gk v wr => ∃ m : Nat, gk = P.length - m ∧ m ≤ P.length ∧ Own wr (w.heap.size + 1 + 1) v (nats (nearTo P (sx, sy) m).1) ∧
      wr.heap[w.heap.size + 1]? = some (.cells #[.int .i64 (nearTo P (sx, sy) m).2.1, .int .i64 (nearTo P (sx, sy) m).2.2] 27 (0, 0)) ∧
      wr.heap[w.heap.size]? = some (.cells #[.int .i64 sx, .int .i64 sy] 27 (0, 0)) ∧ w.heap.size + 1 + 1 ≤ wr.heap.size ∧ Below w.heap.size w wr)
  case atStart =>
    exact ⟨0, by omega, Nat.zero_le _, Own.nil _ _, blk_new' (w.alloc _) _ (by simp), blk_old (blk_new w _) _, by simp, Bl.alloc (Bl.alloc (Below.refl _ _) _) _⟩
  case round =>
    obtain ⟨m, rfl, hm, hO0, hA0, hS0, hz0, hb0⟩ := hrel
    have hok := (nearTo_ok P (sx, sy) m hm).1
    obtain ⟨ga, gc, rfl, hg1, hg2⟩ := Ints.form hO0.ints
    rw [nats_len, hok] at hO0 ⊢
    by_cases hlt : m < P.length
    · have dA := nearTo_at_bd hst hPb m hm
      have hstep : nearTo P (sx, sy) (m + 1) = ((nearTo P (sx, sy) m).1 ++ [(bestTo P (nearTo P (sx, sy) m).2 (nearTo P (sx, sy) m).1 P.length).toNat], pt P (bestTo P (nearTo P (sx, sy) m).2 (nearTo P (sx, sy) m).1 P.length).toNat) := rfl
      have hbest := nearTo_best P (sx, sy) m hlt
      generalize nearTo P (sx, sy) m = q at *
      obtain ⟨l, ⟨ax, ay⟩⟩ := q
      simp only at dA hok hstep hbest hO0 hA0 hg1
      have HSTEP := Lib.hid hstep
      have HOK := Lib.hid hok
      have HBEST := Lib.hid hbest
      clear hstep hok hbest hg1
      go_wp2
      go_loopg [8, 19] P.length (fun gk b i wi => ∃ k : Nat, gk = P.length - k ∧ k ≤ P.length ∧ i = .int .i64 k ∧ b = .int .i64 (bestTo P (ax, ay) l k) ∧ Own wi (w.heap.size + 1 + 1) (.slice ga m gc) (nats l) ∧
          wi.heap[w.heap.size + 1]? = some (.cells #[.int .i64 ax, .int .i64 ay] 27 (0, 0)) ∧
          wi.heap[w.heap.size]? = some (.cells #[.int .i64 sx, .int .i64 sy] 27 (0, 0)) ∧ w.heap.size + 1 + 1 ≤ wi.heap.size ∧ Below w.heap.size w wi)
      case atStart => exact ⟨0, by omega, Nat.zero_le _, rfl, rfl, hO0, hA0, hS0, hz0, hb0⟩
      case round =>
        obtain ⟨k, rfl, hk, rfl, rfl, hO, hA, hS, hz, hb⟩ := hrel
        have hbk := bestTo_ok P (ax, ay) l k
        have hnew : bestTo P (ax, ay) l (k + 1) = if memB k (nats l) = false ∧ (bestTo P (ax, ay) l k < 0 ∨ dist (ax, ay) (pt P k) < dist (ax, ay) (pt P (bestTo P (ax, ay) l k).toNat)) then (k : Int) else bestTo P (ax, ay) l k := rfl
        by_cases hltk : k < P.length
        · obtain ⟨p, hp⟩ : ∃ p, P[k]? = some p := ⟨_, List.getElem?_eq_getElem hltk⟩
          have hpB : Bd p := hPb p (List.mem_of_getElem? hp)
          have hptk : pt P k = p := by unfold pt; rw [List.getD_eq_getElem?_getD, hp]; rfl
          rw [hptk] at hnew
          have hb1k := hbk.1
          have hb2k := hbk.2.1
          clear hbk hptk
          generalize bestTo P (ax, ay) l k = b at *
          generalize hB1 : bestTo P (ax, ay) l (k + 1) = bnew at *
          have HB1 := Lib.hid hB1
          clear hB1
          obtain ⟨px, py⟩ := p
          obtain ⟨b2, o2, rfl, _, hl2, hx2, hx3⟩ := Pts.at (rp.below hb) hp
          have hlk := hl2
          clear hp
          have hA5 := blk2 (blk_old hA (.cells #[.int .i64 px, .int .i64 py] 27))
          have hX5 := blk2 (blk_new wr (.cells #[.int .i64 px, .int .i64 py] 27))
          have e2 := cell_regrown hA5.1
          have e3 := cell_regrown hA5.2
          have e4 := cell_regrown hX5.1
          have e5 := cell_regrown hX5.2
          have hO5 := (hO.alloc (.cells #[.int .i64 px, .int .i64 py] 27)).ints0
          clear hA5 hX5
          cases hmem : memB k (nats l)
          · have HCON := Lib.hid (Contains_quiet (by rw [nats_len, HOK.out]; omega) hO5 hmem)
            rw [hmem] at hnew
            by_cases hneg : b < 0
            · have HNEW : Hid ((k : Int) = bnew) := Lib.hid (by rw [hnew, if_pos ⟨rfl, .inl hneg⟩])
              have hd : decide (b < 0) = true := by simpa using hneg
              clear hnew hmem
              go_wp2
              refine wp_region_quiet_below (by kernel_rfl) (by kernel_rfl) ?_
              repeat (go_big_quiet_step (exact HCON.out _ _))
              refine wpQuiet_nil ?_
              intro w6 hw'
              obtain ⟨⟨dq, osq⟩, hw''⟩ := hw'
              have hb6 := hw'' ▸ below_regrown (wr.alloc (.cells #[.int .i64 px, .int .i64 py] 27)) dq osq
              clear hw''
              have hb6' := (Bl.alloc (Below.refl wr.heap.size wr) (.cells #[.int .i64 px, .int .i64 py] 27)).trans (hb6.mono (by simp))
              go_wp2
              go_roundg (P.length - (k + 1))
              case rel => exact ⟨k + 1, rfl, by omega, by go_num, congrArg (Value.int .i64) (HNEW.out.trans HB1.out.symm), hO.below hb6', blk_below hA hb6', blk_below hS hb6', Nat.le_trans hz hb6'.size, Bl.trans hb hb6'⟩
              case measure => omega
            · obtain ⟨b, rfl⟩ := Int.eq_ofNat_of_zero_le (show 0 ≤ b by omega)
              rw [Int.toNat_natCast] at hnew
              have hbP : b < P.length := by omega
              obtain ⟨q, hq⟩ : ∃ q, P[b]? = some q := ⟨_, List.getElem?_eq_getElem hbP⟩
              have hqB : Bd q := hPb q (List.mem_of_getElem? hq)
              have hptq : pt P b = q := by unfold pt; rw [List.getD_eq_getElem?_getD, hq]; rfl
              rw [hptq] at hnew
              clear hptq
              obtain ⟨qx, qy⟩ := q
              obtain ⟨b3, o3, he, _, hl3, hy2, hy3⟩ := Pts.at (rp.below hb) hq
              injection he with he
              injection he with he1 he2 he3
              subst he1 he2
              have e6 := cell_regrown (show (wr.alloc (.cells #[.int .i64 px, .int .i64 py] 27)).cell? ⟨b2, o2 + b * 2, none⟩ = _ from (World.cell?_alloc_past _ _ _ hl2).trans hy2)
              have e7 := cell_regrown (show (wr.alloc (.cells #[.int .i64 px, .int .i64 py] 27)).cell? ⟨b2, o2 + b * 2 + 1, none⟩ = _ from (World.cell?_alloc_past _ _ _ hl2).trans hy3)
              clear hq hy2 hy3
              have hd : decide ((b : Int) < 0) = false := by simp
              by_cases hlt2 : dist (ax, ay) (px, py) < dist (ax, ay) (qx, qy)
              · have HNEW : Hid ((k : Int) = bnew) := Lib.hid (by rw [hnew, if_pos ⟨rfl, .inr hlt2⟩])
                clear hnew hmem
                go_wp2
                refine wp_region_quiet_below (by kernel_rfl) (by kernel_rfl) ?_
                repeat (go_big_quiet_step (first | (go_at_call 36; exact HCON.out _ _) | (go_at_call 42; exact Calls.regrown_of (Apart_xy _ _ _ _ _ (by with_reducible assumption) (by with_reducible assumption)))))
                refine wpQuiet_nil ?_
                intro w6 hw'
                obtain ⟨⟨dq, osq⟩, hw''⟩ := hw'
                have hb6 := hw'' ▸ below_regrown (wr.alloc (.cells #[.int .i64 px, .int .i64 py] 27)) dq osq
                clear hw''
                have hb6' := (Bl.alloc (Below.refl wr.heap.size wr) (.cells #[.int .i64 px, .int .i64 py] 27)).trans (hb6.mono (by simp))
                go_wp2
                go_roundg (P.length - (k + 1))
                case rel => exact ⟨k + 1, rfl, by omega, by go_num, congrArg (Value.int .i64) (HNEW.out.trans HB1.out.symm), hO.below hb6', blk_below hA hb6', blk_below hS hb6', Nat.le_trans hz hb6'.size, Bl.trans hb hb6'⟩
                case measure => omega
              · have HNEW : Hid ((b : Int) = bnew) := Lib.hid (by rw [hnew, if_neg (by rintro ⟨_, h | h⟩; omega; exact hlt2 h)])
                clear hnew hmem
                go_wp2
                refine wp_region_quiet_below (by kernel_rfl) (by kernel_rfl) ?_
                repeat (go_big_quiet_step (first | (go_at_call 36; exact HCON.out _ _) | (go_at_call 42; exact Calls.regrown_of (Apart_xy _ _ _ _ _ (by with_reducible assumption) (by with_reducible assumption)))))
                refine wpQuiet_nil ?_
                intro w6 hw'
                obtain ⟨⟨dq, osq⟩, hw''⟩ := hw'
                have hb6 := hw'' ▸ below_regrown (wr.alloc (.cells #[.int .i64 px, .int .i64 py] 27)) dq osq
                clear hw''
                have hb6' := (Bl.alloc (Below.refl wr.heap.size wr) (.cells #[.int .i64 px, .int .i64 py] 27)).trans (hb6.mono (by simp))
                go_wp2
                go_roundg (P.length - (k + 1))
                case rel => exact ⟨k + 1, rfl, by omega, by go_num, congrArg (Value.int .i64) (HNEW.out.trans HB1.out.symm), hO.below hb6', blk_below hA hb6', blk_below hS hb6', Nat.le_trans hz hb6'.size, Bl.trans hb hb6'⟩
                case measure => omega
          · have HCON := Lib.hid (Contains_quiet (by rw [nats_len, HOK.out]; omega) hO5 hmem)
            rw [hmem] at hnew
            have HNEW : Hid (b = bnew) := Lib.hid (by rw [hnew, if_neg (by rintro ⟨h, _⟩; cases h)])
            clear hnew hmem
            go_wp2
            refine wp_region_quiet_below (by kernel_rfl) (by kernel_rfl) ?_
            repeat (go_big_quiet_step (exact HCON.out _ _))
            refine wpQuiet_nil ?_
            intro w6 hw'
            obtain ⟨⟨dq, osq⟩, hw''⟩ := hw'
            have hb6 := hw'' ▸ below_regrown (wr.alloc (.cells #[.int .i64 px, .int .i64 py] 27)) dq osq
            clear hw''
            have hb6' := (Bl.alloc (Below.refl wr.heap.size wr) (.cells #[.int .i64 px, .int .i64 py] 27)).trans (hb6.mono (by simp))
            go_wp2
            go_roundg (P.length - (k + 1))
            case rel => exact ⟨k + 1, rfl, by omega, by go_num, congrArg (Value.int .i64) (HNEW.out.trans HB1.out.symm), hO.below hb6', blk_below hA hb6', blk_below hS hb6', Nat.le_trans hz hb6'.size, Bl.trans hb hb6'⟩
            case measure => omega
        · have hkn : k = P.length := by omega
          subst hkn
          obtain ⟨b, hbeq, hbP⟩ := HBEST.out
          rw [hbeq]
          have hnext : nearTo P (sx, sy) (m + 1) = (l ++ [b], pt P b) := by rw [HSTEP.out, hbeq, Int.toNat_natCast]
          obtain ⟨q, hq⟩ : ∃ q, P[b]? = some q := ⟨_, List.getElem?_eq_getElem hbP⟩
          have hptq : pt P b = q := by unfold pt; rw [List.getD_eq_getElem?_getD, hq]; rfl
          rw [hptq] at hnext
          have HNEXT := Lib.hid hnext
          obtain ⟨qx, qy⟩ := q
          obtain ⟨b2, o2, rfl, _, hl2w, hx2, hx3⟩ := Pts.at rp hq
          clear hbk hnew hq hptq hnext
          go_wp2_with (at_builtin; refine wp_app_int rfl _ _ rfl (w.heap.size + 1 + 1) _ (nats l) rfl (hO.alloc _) wr.heap.size 1 b rfl (by rw [blk_cell (blk_new _ _) 0]; rfl) (by rw [nats_len, HOK.out]; omega) (by simp; omega) ?_)
          intro v' w7 hO7 hA7 hb7
          rw [← nats_snoc] at hO7
          have hw7 : Below w.heap.size w w7 := (Bl.alloc hb _).trans (hb7.mono (by omega))
          have y2 := ((bcell hw7).1 b2 (o2 + b * 2) hl2w).trans hx2
          have y3 := ((bcell hw7).1 b2 (o2 + b * 2 + 1) hl2w).trans hx3
          have hA7' := (hb7.block (w.heap.size + 1) (by omega)).trans (blk_old hA _)
          have hS7 := (hb7.block w.heap.size (by omega)).trans (blk_old hS _)
          obtain ⟨k1, k2⟩ := blk2 hA7'
          have f2 := blk_free hA7' 0
          have f3 := blk_free hA7' 1
          have hz7 : w.heap.size + 1 + 1 ≤ w7.heap.size := by
            have := hb7.size
            simp at this; omega
          clear hb7 hA7 hx2 hx3
          go_wp2
          go_roundg (P.length - (m + 1))
          case rel =>
            refine ⟨m + 1, rfl, by omega, ?_, ?_, ?_, by simpa [World.setCell] using hz7, Bl.set (Bl.set hw7 _ _ (by omega) _) _ _ (by omega) _⟩
            · rw [HNEXT.out]
              exact ownsRow_setCell_below (ownsRow_setCell_below hO7 (by show w.heap.size + 1 < _; omega) _) (by show w.heap.size + 1 < _; omega) _
            · rw [HNEXT.out]
              exact blk_set (blk_set hA7' 0 _) 1 _
            · exact blk_far (blk_far hS7 _ _ _ (by omega)) _ _ _ (by omega)
          case measure => omega
    · have hmn : m = P.length := by omega
      subst hmn
      have hok := nearTo_ok P (sx, sy) P.length (Nat.le_refl _)
      obtain ⟨z1, z2⟩ := blk2 hS0
      generalize hl : (nearTo P (sx, sy) P.length).1 = l at *
      have HL := Lib.hid hl
      clear hl
      go_wp2_with fail
      refine (LengthOf_any (sx, sy) P l _ _ _ hst hPb hok.2.1 (by rw [hok.1]; exact hn) (rp.below hb0) hO0.ints0).mono ?_
      rintro e w8 ⟨rfl, hb8⟩
      go_wp2
      go_ret2
      exact ⟨⟨_, _, rfl, by rw [HL.out]; exact own_base (hO0.below hb8) (by omega), by rw [HL.out]⟩, Bl.trans hb0 hb8⟩
end Go.Proofs.Ytgcmlhpocbgkaaa
