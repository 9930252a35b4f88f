/- The contracts of turned, shorter, ImprovedOf. Condition: coordinates within 2^41, at most 1000 points and places. · The contracts of Nearest and NearestOf. Condition: coordinates within 2^41, at most 1000 points. · The contract of NearestOf. Condition: coordinates within 2^41, at most 1000 points. -/
import Derived.Test.YtgcmlhpocbgkaaaGreatDoorImp
namespace Go.Proofs.YtgcmlhpocbgkaaaGreatDoor
open Go.RowKit Go.Sort

theorem rev_valid {P : List Pt} {o : List Nat} {i m : Nat} (h : ∀ k ∈ o, k < P.length) : ∀ k ∈ revSeg o i m, k < P.length := fun x hx => h x (revSeg_mem hx)

end Go.Proofs.YtgcmlhpocbgkaaaGreatDoor
namespace Go.Proofs.YtgcmlhpocbgkaaaGreatDoor
open Go.RowKit Go.Sort

/-- the nearest one of the first k points that are not in l; -1: there is none. -/
def bestTo (P : List Pt) (a : Pt) (l : List Nat) : Nat → Int
  | 0 => -1
  | k + 1 => if memB k (nats l) = false ∧ (bestTo P a l k < 0 ∨ dist a (pt P k) < dist a (pt P (bestTo P a l k).toNat)) then k else bestTo P a l k
theorem mem_nats {k : Nat} {l : List Nat} : (k : Int) ∈ nats l ↔ k ∈ l := by
  unfold nats
  constructor
  · intro h
    obtain ⟨j, hj, e⟩ := List.mem_map.1 h
    obtain rfl : j = k := by omega
    exact hj
  · intro h; exact List.mem_map.2 ⟨k, h, rfl⟩
theorem memB_nats {k : Nat} {l : List Nat} : memB k (nats l) = false ↔ k ∉ l := by
  unfold memB
  rw [decide_eq_false_iff_not, mem_nats]
theorem bestTo_ok (P : List Pt) (a : Pt) (l : List Nat) : ∀ k, -1 ≤ bestTo P a l k ∧ bestTo P a l k < k ∧ (0 ≤ bestTo P a l k → (bestTo P a l k).toNat ∉ l) ∧ (∀ j, j < k → j ∉ l → 0 ≤ bestTo P a l k)
  | 0 => ⟨Int.le_refl _, by simp [bestTo], by simp [bestTo], fun j h => by omega⟩
  | k + 1 => by
    obtain ⟨h1, h2, h3, h4⟩ := bestTo_ok P a l k
    simp only [bestTo]
    by_cases hc : memB k (nats l) = false ∧ (bestTo P a l k < 0 ∨ dist a (pt P k) < dist a (pt P (bestTo P a l k).toNat))
    · rw [if_pos hc]
      exact ⟨by omega, by omega, fun _ => by rw [Int.toNat_natCast]; exact memB_nats.1 hc.1, fun j _ _ => by omega⟩
    · rw [if_neg hc]
      refine ⟨h1, by omega, h3, fun j hj hjl => ?_⟩
      by_cases hjk : j < k
      · exact h4 j hjk hjl
      · obtain rfl : j = k := by omega
        by_cases hb : bestTo P a l j < 0
        · exact absurd ⟨memB_nats.2 hjl, .inl hb⟩ hc
        · omega
theorem pigeon : ∀ (n : Nat) (l : List Nat), (∀ k, k < n → k ∈ l) → n ≤ l.length
  | 0, _, _ => Nat.zero_le _
  | n + 1, l, h => by
    have hn := h n (by omega)
    have ih := pigeon n (l.erase n) (fun k hk => (List.mem_erase_of_ne (by omega)).2 (h k (by omega)))
    rw [List.length_erase_of_mem hn] at ih
    have := List.length_pos_of_mem hn
    omega

def nearTo (P : List Pt) (st : Pt) : Nat → List Nat × Pt
  | 0 => ([], st)
  | m + 1 => ((nearTo P st m).1 ++ [(bestTo P (nearTo P st m).2 (nearTo P st m).1 P.length).toNat], pt P (bestTo P (nearTo P st m).2 (nearTo P st m).1 P.length).toNat)
theorem nearTo_ok (P : List Pt) (st : Pt) : ∀ m, m ≤ P.length → (nearTo P st m).1.length = m ∧ (∀ k ∈ (nearTo P st m).1, k < P.length) ∧ (nearTo P st m).1.Nodup
  | 0, _ => ⟨rfl, by simp [nearTo], by simp [nearTo]⟩
  | m + 1, hm => by
    obtain ⟨h1, h2, h3⟩ := nearTo_ok P st m (by omega)
    obtain ⟨b1, b2, b3, b4⟩ := bestTo_ok P (nearTo P st m).2 (nearTo P st m).1 P.length
    have hex : ∃ j, j < P.length ∧ j ∉ (nearTo P st m).1 := by
      apply Classical.byContradiction
      intro hne
      have := pigeon P.length (nearTo P st m).1 (fun k hk => Classical.byContradiction fun h => hne ⟨k, hk, h⟩)
      omega
    obtain ⟨j, hj, hjl⟩ := hex
    have b5 := b4 j hj hjl
    simp only [nearTo]
    refine ⟨by simp [h1], ?_, ?_⟩
    · intro k hk
      rcases List.mem_append.1 hk with h | h
      · exact h2 k h
      · rw [List.mem_singleton.1 h]; omega
    · rw [List.nodup_append]
      exact ⟨h3, by simp, fun x hx y hy => by rw [List.mem_singleton.1 hy]; rintro rfl; exact b3 b5 hx⟩
theorem nearTo_best (P : List Pt) (st : Pt) (m : Nat) (hm : m < P.length) : ∃ b : Nat, bestTo P (nearTo P st m).2 (nearTo P st m).1 P.length = b ∧ b < P.length := by
  obtain ⟨h1, h2, h3⟩ := nearTo_ok P st m (by omega)
  obtain ⟨b1, b2, b3, b4⟩ := bestTo_ok P (nearTo P st m).2 (nearTo P st m).1 P.length
  have hex : ∃ j, j < P.length ∧ j ∉ (nearTo P st m).1 := by
    apply Classical.byContradiction
    intro hne
    have := pigeon P.length (nearTo P st m).1 (fun k hk => Classical.byContradiction fun h => hne ⟨k, hk, h⟩)
    omega
  obtain ⟨j, hj, hjl⟩ := hex
  have b5 := b4 j hj hjl
  exact ⟨_, (Int.toNat_of_nonneg b5).symm, by omega⟩
theorem nearTo_at_bd {P : List Pt} {st : Pt} (hst : Bd st) (hP : ∀ p ∈ P, Bd p) : ∀ m, m ≤ P.length → Bd (nearTo P st m).2
  | 0, _ => hst
  | m + 1, hm => by
    obtain ⟨b, hb1, hb2⟩ := nearTo_best P st m (by omega)
    simp only [nearTo]
    rw [hb1, Int.toNat_natCast]
    exact hP _ (getD_mem hb2)
theorem Marks.belowB {w w' : World} {g n B : Nat} {l : List Int} (h : Marks w g n l) (hb : Below B w w') (hg : g < B) : Marks w' g n l := by
  obtain ⟨cs, h1, h2, h3⟩ := h
  exact ⟨cs, (hb.block g hg).trans h1, h2, h3⟩
theorem nats_snoc (l : List Nat) (b : Nat) : nats (l ++ [b]) = nats l ++ [(b : Int)] := by simp [nats]

set_option maxHeartbeats 2000000 in
set_option maxRecDepth 100000 in
theorem Nearest_any (st : Pt) (P : List Pt) (vp : Value) (w : World) (hst : Bd st) (hPb : ∀ p ∈ P, Bd p) (hn : P.length ≤ 1000) (rp : Pts w 0 vp P) :
    Calls Tryz.prog 47 #[ptv st, vp] w fun e w' => (∃ (r : List Int) (vr : Value) (n : Int), e = .returned (.tuple #[vr, .int .i64 n, .int .i64 (tourF st P 500)]) ∧ Own w' w.heap.size vr r ∧ (tourF st P 500 ≠ 0 → r = [] ∧ n = 0) ∧
      (tourF st P 500 = 0 → r = nats (nearTo P st P.length).1 ∧ n = lenOf st P (nearTo P st P.length).1)) ∧ Below w.heap.size w w' := by
  obtain ⟨sx, sy⟩ := st
  obtain ⟨a, cap, rfl, hc1, hc2⟩ := Pts.form rp
  unfold ptv
  by_cases hT : tourF (sx, sy) P 500 = 0
  · have HT := Lib.hid hT
    have hmk := mk_bools P.length (by omega)
    clear hT
    go_enter Tryz.func47, Tryz.ntmps47
    go_wp2_with fail
    refine (pointsFault_any (sx, sy) P 500 _ _ hn (rp.alloc _)).mono ?_
    rintro e w1 ⟨rfl, hb1⟩
    rw [HT.out]
    have hb1' := (Bl.alloc (Below.refl w.heap.size w) _).trans (hb1.mono (by simp))
    have hS1 := blk_below (blk_new w (.cells #[.int .i64 sx, .int .i64 sy] 57)) hb1
    have hz1 := blk_lt hS1
    obtain ⟨z1, z2⟩ := blk2 hS1
    clear hb1
    go_wp2
    go_loopg [9, 26] P.length (fun gk v i wr => ∃ m : Nat, gk = P.length - m ∧ m ≤ P.length ∧ i = .int .i64 m ∧ Own wr (w1.heap.size + 1 + 1) v (nats (nearTo P (sx, sy) m).1) ∧ Marks wr w1.heap.size P.length (nats (nearTo P (sx, sy) m).1) ∧
        wr.heap[w1.heap.size + 1]? = some (.cells #[.int .i64 (nearTo P (sx, sy) m).2.1, .int .i64 (nearTo P (sx, sy) m).2.2] 57 (0, 0)) ∧
        wr.heap[w.heap.size]? = some (.cells #[.int .i64 sx, .int .i64 sy] 57 (0, 0)) ∧ w1.heap.size + 1 + 1 ≤ wr.heap.size ∧ Below w.heap.size w wr)
    case atStart =>
      exact ⟨0, by omega, Nat.zero_le _, rfl, Own.nil _ _, (Marks.new w1 P.length).below (Bl.alloc (Below.refl _ _) _), blk_new' (w1.alloc _) _ (by simp), blk_old (blk_old hS1 _) _, by simp, Bl.alloc (Bl.alloc hb1' _) _⟩
    case round =>
      obtain ⟨m, rfl, hm, rfl, hO0, hM0, hA0, hS0, hz0, hb0⟩ := hrel
      by_cases hlt : m < P.length
      · have dA := nearTo_at_bd hst hPb m hm
        have hok := (nearTo_ok P (sx, sy) m hm).1
        have hstep : nearTo P (sx, sy) (m + 1) = ((nearTo P (sx, sy) m).1 ++ [(bestTo P (nearTo P (sx, sy) m).2 (nearTo P (sx, sy) m).1 P.length).toNat], pt P (bestTo P (nearTo P (sx, sy) m).2 (nearTo P (sx, sy) m).1 P.length).toNat) := rfl
        have hbest := nearTo_best P (sx, sy) m hlt
        generalize nearTo P (sx, sy) m = q at *
        obtain ⟨l, ⟨ax, ay⟩⟩ := q
        simp only at dA hok hstep hbest hO0 hM0 hA0
        have HSTEP := Lib.hid hstep
        have HOK := Lib.hid hok
        have HBEST := Lib.hid hbest
        clear hstep hok hbest
        go_wp2
        go_loopg [11, 30] P.length (fun gk b i wi => ∃ k : Nat, gk = P.length - k ∧ k ≤ P.length ∧ i = .int .i64 k ∧ b = .int .i64 (bestTo P (ax, ay) l k) ∧ Own wi (w1.heap.size + 1 + 1) u9 (nats l) ∧ Marks wi w1.heap.size P.length (nats l) ∧
            wi.heap[w1.heap.size + 1]? = some (.cells #[.int .i64 ax, .int .i64 ay] 57 (0, 0)) ∧
            wi.heap[w.heap.size]? = some (.cells #[.int .i64 sx, .int .i64 sy] 57 (0, 0)) ∧ w1.heap.size + 1 + 1 ≤ wi.heap.size ∧ Below w.heap.size w wi)
        case atStart => exact ⟨0, by omega, Nat.zero_le _, rfl, rfl, hO0, hM0, hA0, hS0, hz0, hb0⟩
        case round =>
          obtain ⟨k, rfl, hk, rfl, rfl, hO, hM, hA, hS, hz, hb⟩ := hrel
          have hbk := bestTo_ok P (ax, ay) l k
          have hnew : bestTo P (ax, ay) l (k + 1) = if memB k (nats l) = false ∧ (bestTo P (ax, ay) l k < 0 ∨ dist (ax, ay) (pt P k) < dist (ax, ay) (pt P (bestTo P (ax, ay) l k).toNat)) then (k : Int) else bestTo P (ax, ay) l k := rfl
          by_cases hltk : k < P.length
          · obtain ⟨p, hp⟩ : ∃ p, P[k]? = some p := ⟨_, List.getElem?_eq_getElem hltk⟩
            have hpB : Bd p := hPb p (List.mem_of_getElem? hp)
            have hptk : pt P k = p := by unfold pt; rw [List.getD_eq_getElem?_getD, hp]; rfl
            rw [hptk] at hnew
            have hb1k := hbk.1
            have hb2k := hbk.2.1
            clear hbk hptk
            generalize bestTo P (ax, ay) l k = b at *
            generalize hB1 : bestTo P (ax, ay) l (k + 1) = bnew at *
            have HB1 := Lib.hid hB1
            clear hB1
            obtain ⟨px, py⟩ := p
            obtain ⟨b2, o2, rfl, _, hl2, hx2, hx3⟩ := Pts.at (rp.below hb) hp
            have hlk := hl2
            clear hp
            have hM5 := Marks.below hM (w' := wr.alloc (.cells #[.int .i64 px, .int .i64 py] 57)) (Bl.alloc (Below.refl _ _) _)
            have hA5 := blk2 (blk_old hA (.cells #[.int .i64 px, .int .i64 py] 57))
            have hX5 := blk2 (blk_new wr (.cells #[.int .i64 px, .int .i64 py] 57))
            have e1 := cell_regrown (Marks.cell hM5 hltk).1
            have e2 := cell_regrown hA5.1
            have e3 := cell_regrown hA5.2
            have e4 := cell_regrown hX5.1
            have e5 := cell_regrown hX5.2
            clear hM5 hA5 hX5
            cases hmem : memB k (nats l)
            · rw [hmem] at e1 hnew
              by_cases hneg : b < 0
              · have HNEW : Hid ((k : Int) = bnew) := Lib.hid (by rw [hnew, if_pos ⟨rfl, .inl hneg⟩])
                have hd : decide (b < 0) = true := by simpa using hneg
                clear hnew hmem
                go_wp2
                refine wp_region_quiet_below (by kernel_rfl) (by kernel_rfl) ?_
                repeat (go_big_quiet_step (fail))
                refine wpQuiet_nil ?_
                intro w6 hw'
                obtain ⟨⟨dq, osq⟩, hw''⟩ := hw'
                have hb6 := hw'' ▸ below_regrown (wr.alloc (.cells #[.int .i64 px, .int .i64 py] 57)) dq osq
                clear hw''
                have hb6' := (Bl.alloc (Below.refl wr.heap.size wr) (.cells #[.int .i64 px, .int .i64 py] 57)).trans (hb6.mono (by simp))
                go_wp2
                go_roundg (P.length - (k + 1))
                case rel => exact ⟨k + 1, rfl, by omega, by go_num, congrArg (Value.int .i64) (HNEW.out.trans HB1.out.symm), hO.below hb6', hM.below hb6', blk_below hA hb6', blk_below hS hb6', Nat.le_trans hz hb6'.size, Bl.trans hb hb6'⟩
                case measure => omega
              · obtain ⟨b, rfl⟩ := Int.eq_ofNat_of_zero_le (show 0 ≤ b by omega)
                rw [Int.toNat_natCast] at hnew
                have hbP : b < P.length := by omega
                obtain ⟨q, hq⟩ : ∃ q, P[b]? = some q := ⟨_, List.getElem?_eq_getElem hbP⟩
                have hqB : Bd q := hPb q (List.mem_of_getElem? hq)
                have hptq : pt P b = q := by unfold pt; rw [List.getD_eq_getElem?_getD, hq]; rfl
                rw [hptq] at hnew
                clear hptq
                obtain ⟨qx, qy⟩ := q
                obtain ⟨b3, o3, he, _, hl3, hy2, hy3⟩ := Pts.at (rp.below hb) hq
                injection he with he
                injection he with he1 he2 he3
                subst he1 he2
                have e6 := cell_regrown (show (wr.alloc (.cells #[.int .i64 px, .int .i64 py] 57)).cell? ⟨b2, o2 + b * 2, none⟩ = _ from (World.cell?_alloc_past _ _ _ hl2).trans hy2)
                have e7 := cell_regrown (show (wr.alloc (.cells #[.int .i64 px, .int .i64 py] 57)).cell? ⟨b2, o2 + b * 2 + 1, none⟩ = _ from (World.cell?_alloc_past _ _ _ hl2).trans hy3)
                clear hq hy2 hy3
                have hd : decide ((b : Int) < 0) = false := by simp
                by_cases hlt2 : dist (ax, ay) (px, py) < dist (ax, ay) (qx, qy)
                · have HNEW : Hid ((k : Int) = bnew) := Lib.hid (by rw [hnew, if_pos ⟨rfl, .inr hlt2⟩])
                  clear hnew hmem
                  go_wp2
                  refine wp_region_quiet_below (by kernel_rfl) (by kernel_rfl) ?_
                  repeat (go_big_quiet_step ((go_at_call 90; exact Calls.regrown_of (distance_xy _ _ _ _ _ (by with_reducible assumption) (by with_reducible assumption)))))
                  refine wpQuiet_nil ?_
                  intro w6 hw'
                  obtain ⟨⟨dq, osq⟩, hw''⟩ := hw'
                  have hb6 := hw'' ▸ below_regrown (wr.alloc (.cells #[.int .i64 px, .int .i64 py] 57)) dq osq
                  clear hw''
                  have hb6' := (Bl.alloc (Below.refl wr.heap.size wr) (.cells #[.int .i64 px, .int .i64 py] 57)).trans (hb6.mono (by simp))
                  go_wp2
                  go_roundg (P.length - (k + 1))
                  case rel => exact ⟨k + 1, rfl, by omega, by go_num, congrArg (Value.int .i64) (HNEW.out.trans HB1.out.symm), hO.below hb6', hM.below hb6', blk_below hA hb6', blk_below hS hb6', Nat.le_trans hz hb6'.size, Bl.trans hb hb6'⟩
                  case measure => omega
                · have HNEW : Hid ((b : Int) = bnew) := Lib.hid (by rw [hnew, if_neg (by rintro ⟨_, h | h⟩; omega; exact hlt2 h)])
                  clear hnew hmem
                  go_wp2
                  refine wp_region_quiet_below (by kernel_rfl) (by kernel_rfl) ?_
                  repeat (go_big_quiet_step ((go_at_call 90; exact Calls.regrown_of (distance_xy _ _ _ _ _ (by with_reducible assumption) (by with_reducible assumption)))))
                  refine wpQuiet_nil ?_
                  intro w6 hw'
                  obtain ⟨⟨dq, osq⟩, hw''⟩ := hw'
                  have hb6 := hw'' ▸ below_regrown (wr.alloc (.cells #[.int .i64 px, .int .i64 py] 57)) dq osq
                  clear hw''
                  have hb6' := (Bl.alloc (Below.refl wr.heap.size wr) (.cells #[.int .i64 px, .int .i64 py] 57)).trans (hb6.mono (by simp))
                  go_wp2
                  go_roundg (P.length - (k + 1))
                  case rel => exact ⟨k + 1, rfl, by omega, by go_num, congrArg (Value.int .i64) (HNEW.out.trans HB1.out.symm), hO.below hb6', hM.below hb6', blk_below hA hb6', blk_below hS hb6', Nat.le_trans hz hb6'.size, Bl.trans hb hb6'⟩
                  case measure => omega
            · rw [hmem] at e1 hnew
              have HNEW : Hid (b = bnew) := Lib.hid (by rw [hnew, if_neg (by rintro ⟨h, _⟩; cases h)])
              clear hnew hmem
              go_wp2
              refine wp_region_quiet_below (by kernel_rfl) (by kernel_rfl) ?_
              repeat (go_big_quiet_step (fail))
              refine wpQuiet_nil ?_
              intro w6 hw'
              obtain ⟨⟨dq, osq⟩, hw''⟩ := hw'
              have hb6 := hw'' ▸ below_regrown (wr.alloc (.cells #[.int .i64 px, .int .i64 py] 57)) dq osq
              clear hw''
              have hb6' := (Bl.alloc (Below.refl wr.heap.size wr) (.cells #[.int .i64 px, .int .i64 py] 57)).trans (hb6.mono (by simp))
              go_wp2
              go_roundg (P.length - (k + 1))
              case rel => exact ⟨k + 1, rfl, by omega, by go_num, congrArg (Value.int .i64) (HNEW.out.trans HB1.out.symm), hO.below hb6', hM.below hb6', blk_below hA hb6', blk_below hS hb6', Nat.le_trans hz hb6'.size, Bl.trans hb hb6'⟩
              case measure => omega
          · have hkn : k = P.length := by omega
            subst hkn
            obtain ⟨b, hbeq, hbP⟩ := HBEST.out
            rw [hbeq]
            have hnext : nearTo P (sx, sy) (m + 1) = (l ++ [b], pt P b) := by rw [HSTEP.out, hbeq, Int.toNat_natCast]
            obtain ⟨q, hq⟩ : ∃ q, P[b]? = some q := ⟨_, List.getElem?_eq_getElem hbP⟩
            have hptq : pt P b = q := by unfold pt; rw [List.getD_eq_getElem?_getD, hq]; rfl
            rw [hptq] at hnext
            have HNEXT := Lib.hid hnext
            obtain ⟨qx, qy⟩ := q
            obtain ⟨b2, o2, rfl, _, hl2w, hx2, hx3⟩ := Pts.at rp hq
            obtain ⟨c1, f1⟩ := Marks.cell hM hbP
            have hM2 := Marks.set hM hbP
            have hO2 : Own (wr.setCell ⟨w1.heap.size, b, none⟩ (.bool true)) (w1.heap.size + 1 + 1) u9 (nats l) := ownsRow_setCell_below hO (by show w1.heap.size < _; omega) _
            have hb2 := Bl.set hb w1.heap.size b (by omega) (.bool true)
            have hA2 := blk_far hA w1.heap.size b (.bool true) (by omega)
            have hS2 := blk_far hS w1.heap.size b (.bool true) (by omega)
            have hz2 : w1.heap.size + 1 + 1 ≤ (wr.setCell ⟨w1.heap.size, b, none⟩ (.bool true)).heap.size := by simpa [World.setCell] using hz
            clear hbk hnew hq hptq hnext
            go_wp2_with (at_builtin; refine wp_app_int rfl _ _ rfl (w1.heap.size + 1 + 1) _ (nats l) rfl (hO2.alloc _) (wr.setCell ⟨w1.heap.size, b, none⟩ (.bool true)).heap.size 1 b (by simp [World.setCell]; rfl) (by rw [blk_cell (blk_new _ _) 0]; rfl) (by rw [nats_len, HOK.out]; omega) (by simp; omega) ?_)
            intro v' w7 hO7 hA7 hb7
            rw [← nats_snoc] at hO7
            have hw7 : Below w.heap.size w w7 := (Bl.alloc hb2 _).trans (hb7.mono (by omega))
            have y2 := ((bcell hw7).1 b2 (o2 + b * 2) hl2w).trans hx2
            have y3 := ((bcell hw7).1 b2 (o2 + b * 2 + 1) hl2w).trans hx3
            have hA7' := (hb7.block (w1.heap.size + 1) (by omega)).trans (blk_old hA2 _)
            have hS7 := (hb7.block w.heap.size (by omega)).trans (blk_old hS2 _)
            have hM7 : Marks w7 w1.heap.size P.length (nats (l ++ [b])) := by
              rw [nats_snoc]
              exact (hM2.below (Bl.alloc (Below.refl _ _) _)).belowB hb7 (by omega)
            obtain ⟨k1, k2⟩ := blk2 hA7'
            have f2 := blk_free hA7' 0
            have f3 := blk_free hA7' 1
            have hz7 : w1.heap.size + 1 + 1 ≤ w7.heap.size := by
              have := hb7.size
              simp at this; omega
            clear hb7 hA7 hM2 hO2 hb2 hA2 hS2 hz2 c1 f1 hx2 hx3
            go_wp2
            go_roundg (P.length - (m + 1))
            case rel =>
              refine ⟨m + 1, rfl, by omega, by go_num, ?_, ?_, ?_, ?_, by simpa [World.setCell] using hz7, Bl.set (Bl.set hw7 _ _ (by omega) _) _ _ (by omega) _⟩
              · rw [HNEXT.out]
                exact ownsRow_setCell_below (ownsRow_setCell_below hO7 (by show w1.heap.size + 1 < _; omega) _) (by show w1.heap.size + 1 < _; omega) _
              · rw [HNEXT.out]
                obtain ⟨cs, g1, g2, g3⟩ := hM7
                exact ⟨cs, blk_far (blk_far g1 _ _ _ (by omega)) _ _ _ (by omega), g2, g3⟩
              · rw [HNEXT.out]
                exact blk_set (blk_set hA7' 0 _) 1 _
              · exact blk_far (blk_far hS7 _ _ _ (by omega)) _ _ _ (by omega)
            case measure => omega
      · have hmn : m = P.length := by omega
        subst hmn
        have hok := nearTo_ok P (sx, sy) P.length (Nat.le_refl _)
        obtain ⟨z1, z2⟩ := blk2 hS0
        generalize hl : (nearTo P (sx, sy) P.length).1 = l at *
        have HL := Lib.hid hl
        clear hl
        go_wp2_with fail
        refine (length_any (sx, sy) P l _ _ _ hst hPb hok.2.1 (by rw [hok.1]; exact hn) (rp.below hb0) hO0.ints0).mono ?_
        rintro e w8 ⟨rfl, hb8⟩
        go_wp2
        go_ret3
        rw [HT.out]
        exact ⟨⟨nats l, _, _, rfl, own_base (hO0.below hb8) (by omega), fun h => absurd rfl h, fun _ => ⟨by rw [HL.out], by rw [HL.out]⟩⟩, Bl.trans hb0 hb8⟩
  · have hne := errno_ne hT
    have HT := Lib.hid hT
    clear hT
    generalize hg : tourF (sx, sy) P 500 = f at *
    have HG := Lib.hid hg
    clear hg
    go_enter Tryz.func47, Tryz.ntmps47
    go_wp2_with fail
    refine (pointsFault_any (sx, sy) P 500 _ _ hn (rp.alloc _)).mono ?_
    rintro e w1 ⟨rfl, hb1⟩
    rw [HG.out]
    have hb1' := (Bl.alloc (Below.refl w.heap.size w) _).trans (hb1.mono (by simp))
    go_wp2
    go_ret3
    exact ⟨⟨[], _, 0, rfl, Own.nil _ _, fun _ => ⟨rfl, rfl⟩, fun h => absurd h HT.out⟩, hb1'⟩
end Go.Proofs.YtgcmlhpocbgkaaaGreatDoor
namespace Go.Proofs.YtgcmlhpocbgkaaaGreatDoor
open Go.RowKit Go.Sort

theorem Apart_xy (ax ay bx bY : Int) (w : World) (ha : Bd (ax, ay)) (hb : Bd (bx, bY)) :
    Calls Tryz.prog 35 #[.agg #[.int .i64 ax, .int .i64 ay], .agg #[.int .i64 bx, .int .i64 bY]] w fun e w' => e = .returned (.int .i64 (dist (ax, ay) (bx, bY))) ∧ Below w.heap.size w w' := Apart_any (ax, ay) (bx, bY) w ha hb
theorem Contains_quiet {l : List Int} {y : Int} {v : Value} {w : World} {b : Bool} (hlen : l.length ≤ 100000) (rl : Ints w 0 v l) (hb : memB y l = b) (d : Nat) (os : Array Obj) :
    Calls Tryz.prog 86 #[v, .int .i64 y] (grow (redrawn w d) os) fun e w' => e = .returned (.bool b) ∧ ∃ p : Regrown, w' = grow (redrawn w p.d) p.os :=
  Calls.regrown_of ((Contains_any l y v _ hlen (rl.below (below_regrown w d os))).mono fun _ _ ⟨he, hw⟩ => ⟨by rw [he, hb], by rw [hw]; exact Below.refl _ _⟩)

end Go.Proofs.YtgcmlhpocbgkaaaGreatDoor
