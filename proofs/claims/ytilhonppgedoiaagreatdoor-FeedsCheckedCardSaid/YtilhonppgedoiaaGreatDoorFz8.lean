/- Texts of the proof of a law, put together, part 8 of 46. Conditions: none beyond those that each theorem names. -/
import Derived.Test.YtilhonppgedoiaaGreatDoorFz3
import Derived.Test.YtilhonppgedoiaaGreatDoorFz4
import Derived.Deep.RegionWith
namespace Go.Proofs.YtilhonppgedoiaaGreatDoor
open Go.RowKit Go.Sort
/-- reels: key, part, how many. -/
abbrev Rel := ByteArray × ByteArray × Int
def TRe : Rty Rel := { e := 90, S := 26, k := 3, b := 40, z := .agg #[.string ByteArray.empty, .string ByteArray.empty, .int .i64 0], f := fun x => [.string x.1, .string x.2.1, .int .i64 x.2.2] }
theorem TRe.ok : TRe.Ok := ⟨by kernel_rfl, Tryz.underlying26, rfl, by decide, fun _ => rfl, fun x u hu => by simp [TRe] at hu; rcases hu with rfl | rfl | rfl <;> rfl, by decide⟩
/-- not behind. -/
def bleB (a b : ByteArray) : Bool := Op.bytesLess a.toList b.toList || a.toList == b.toList
/-- what is wrong with a reel behind another one. -/
def reelF (prev : Option ByteArray) (x : Rel) : Int :=
  if keyB x.1 = false then 5 else if keyB x.2.1 = false then 5 else if inB 0 x.2.2 100000 = false then 1 else match prev with
    | none => 0
    | some p => if bleB x.1 p = true then 7 else 0
def reelsF1 : Option ByteArray → List Rel → Int
  | _, [] => 0
  | p, x :: l => if reelF p x = 0 then reelsF1 (some x.1) l else reelF p x
def reelsF (l : List Rel) : Int := if 1000 < l.length then 2 else reelsF1 none l
def prevR (l : List Rel) : Nat → Option ByteArray
  | 0 => none
  | k + 1 => (l[k]?).map (·.1)
theorem reelsF1_go {l : List Rel} {k : Nat} {x : Rel} (hx : l[k]? = some x) (h : reelF (prevR l k) x = 0) : reelsF1 (prevR l k) (l.drop k) = reelsF1 (prevR l (k + 1)) (l.drop (k + 1)) := by
  obtain ⟨hk, e⟩ := List.getElem?_eq_some_iff.1 hx
  rw [List.drop_eq_getElem_cons hk, e, reelsF1, if_pos h]
  show _ = reelsF1 ((l[k]?).map (·.1)) _
  rw [hx]; rfl
theorem reelsF1_stop {l : List Rel} {k : Nat} {x : Rel} (hx : l[k]? = some x) (h : reelF (prevR l k) x ≠ 0) : reelsF1 (prevR l k) (l.drop k) = reelF (prevR l k) x := by
  obtain ⟨hk, e⟩ := List.getElem?_eq_some_iff.1 hx
  rw [List.drop_eq_getElem_cons hk, e, reelsF1, if_neg h]
def RelZ (l : List Rel) : Prop := ∀ x ∈ l, x.1.size ≤ 140737488355328 ∧ x.2.1.size ≤ 140737488355328
set_option maxHeartbeats 8000000 in
set_option maxRecDepth 100000 in
theorem CheckReels_any (l : List Rel) (v : Value) (w : World) (hl : l.length ≤ 1000000) (rl : RecR TRe w 0 v l) (hz : RelZ l) :
    Calls Tryz.prog 14 #[v] w fun e w' => e = .returned (.int .i64 (reelsF l)) ∧ Below w.heap.size w w' := by
  obtain ⟨a, cap, rfl, _, _⟩ := rl.form
  have RL := Lib.hid rl
  clear rl
  by_cases hbig : 1000 < l.length
  · have HR : Hid (reelsF l = 2) := Lib.hid (by unfold reelsF; rw [if_pos hbig])
    have h1 : (1000 : Int) < (l.length : Int) := by omega
    go_enter Tryz.func14, Tryz.ntmps14
    go_wp2
    go_ret
    exact ⟨ret_int HR.out.symm, Below.refl _ _⟩
  · have HR : Hid (reelsF l = reelsF1 none l) := Lib.hid (by unfold reelsF; rw [if_neg hbig])
    have h1 : ¬ (1000 : Int) < (l.length : Int) := by omega
    clear hbig
    go_enter Tryz.func14, Tryz.ntmps14
    go_wp2_with fail
    go_loopw [10] (fun i wr => ∃ k : Nat, k ≤ l.length ∧ i = .int .i64 k ∧ Hid (reelsF l = reelsF1 (prevR l k) (l.drop k)) ∧ Hid (Below w.heap.size w wr)) (fun i _ => l.length - (intOf i).toNat)
    case atStart => exact ⟨0, Nat.zero_le _, rfl, Lib.hid (by rw [HR.out]; rfl), Lib.hid (Below.refl _ _)⟩
    case round =>
      obtain ⟨k, hk, rfl, hP, HB⟩ := hrel
      by_cases hlt : k < l.length
      · obtain ⟨s, hs⟩ : ∃ x, l[k]? = some x := ⟨_, List.getElem?_eq_getElem hlt⟩
        obtain ⟨hz1, hz2⟩ := hz s (List.mem_of_getElem? hs)
        have hw9 : IntKind.i64.wrap ((k : Int) + 1) = ((k + 1 : Nat) : Int) := by rw [IntWalk.i64_in _ (by omega)]; omega
        have HGO : Hid ((reelF (prevR l k) s = 0 → reelsF l = reelsF1 (prevR l (k + 1)) (l.drop (k + 1))) ∧ (reelF (prevR l k) s ≠ 0 → reelsF l = reelF (prevR l k) s)) := Lib.hid ⟨fun h => by rw [hP.out]; exact reelsF1_go hs h, fun h => by rw [hP.out]; exact reelsF1_stop hs h⟩
        have HRW := Lib.hid (RL.out.below HB.out)
        obtain ⟨b1, o1, rfl, _, hb1, hc1⟩ := HRW.out.at TRe.ok.len hs TRe.ok.pos
        have HS := Lib.hid hs
        obtain ⟨ky, pt, mn⟩ := s
        have c0 : wr.cell? ⟨b1, o1 + k * 3, none⟩ = some (.string ky) := hc1 0 _ rfl
        have c1 : wr.cell? ⟨b1, o1 + k * 3 + 1, none⟩ = some (.string pt) := hc1 1 _ rfl
        have c2 : wr.cell? ⟨b1, o1 + k * 3 + 2, none⟩ = some (.int .i64 mn) := hc1 2 _ rfl
        obtain ⟨w1, hw1⟩ : ∃ w1, w1 = wr.alloc (.cells #[.string ky, .string pt, .int .i64 mn] 90) := ⟨_, rfl⟩
        have hA : Below wr.heap.size wr w1 := by rw [hw1]; exact Bl.alloc (Below.refl _ _) _
        have hX : w1.heap[wr.heap.size]? = some (.cells #[.string ky, .string pt, .int .i64 mn] 90 (0, 0)) := by rw [hw1]; exact blk_new wr _
        have HXC := Lib.hid (show ∀ W, Below w1.heap.size w1 W → W.cell? ⟨wr.heap.size, 0, none⟩ = some (.string ky) ∧ W.cell? ⟨wr.heap.size, 1, none⟩ = some (.string pt) ∧ W.cell? ⟨wr.heap.size, 2, none⟩ = some (.int .i64 mn) from fun W hW => by
          have h := blk_below hX hW
          exact ⟨blk_cell h 0, blk_cell h 1, blk_cell h 2⟩)
        have HA1 := Lib.hid hA
        have HB1 := Lib.hid (Bl.trans HB.out hA)
        have HK1 := Lib.hid fun W => IsKey_any ky W hz1
        have HK2 := Lib.hid fun W => IsKey_any pt W hz2
        have HIN := Lib.hid fun W => Outside_any mn 0 100000 W
        obtain ⟨x1, x2, x3⟩ := HXC.out w1 (Below.refl _ _)
        have hwm : 1 ≤ k → IntKind.i64.wrap ((k : Int) - 1) = ((k - 1 : Nat) : Int) := fun h => by rw [IntWalk.i64_in _ (by omega)]; omega
        have HV : Hid (reelF (prevR l k) (ky, pt, mn) = if keyB ky = false then 5 else if keyB pt = false then 5 else if inB 0 mn 100000 = false then 1 else match prevR l k with
          | none => 0
          | some p => if bleB ky p = true then 7 else 0) := Lib.hid rfl
        clear hA hX hz1 hz2 hs hc1
        cases hk1 : keyB ky
        · rw [hk1] at HK1
          have HG : Hid (reelsF l = 5) := Lib.hid (by rw [HGO.out.2 (by rw [HV.out, if_pos hk1]; decide), HV.out, if_pos hk1])
          clear hk1
          go_wp2_with fail
          rw [← hw1]
          clear hw1
          refine (HK1.out w1).mono ?_
          rintro e w2 ⟨rfl, hb2⟩
          have HB2 := Lib.hid (Bl.trans HB1.out hb2)
          clear hb2
          go_wp2
          go_ret
          exact ⟨ret_int HG.out.symm, HB2.out⟩
        · rw [hk1] at HK1
          have HN1 := Lib.hid (show ¬ keyB ky = false by rw [hk1]; simp)
          clear hk1
          cases hk2 : keyB pt
          · rw [hk2] at HK2
            have HG : Hid (reelsF l = 5) := Lib.hid (by rw [HGO.out.2 (by rw [HV.out, if_neg HN1.out, if_pos hk2]; decide), HV.out, if_neg HN1.out, if_pos hk2])
            clear hk2
            go_wp2_with fail
            rw [← hw1]
            clear hw1
            refine (HK1.out w1).mono ?_
            rintro e w2 ⟨rfl, hb2⟩
            obtain ⟨y1, y2, y3⟩ := HXC.out w2 hb2
            have HB2 := Lib.hid (Bl.trans HB1.out hb2)
            clear hb2
            go_wp2_with fail
            refine (HK2.out w2).mono ?_
            rintro e w3 ⟨rfl, hb3⟩
            have HB3 := Lib.hid (Bl.trans HB2.out hb3)
            clear hb3
            go_wp2
            go_ret
            exact ⟨ret_int HG.out.symm, HB3.out⟩
          · rw [hk2] at HK2
            have HN2 := Lib.hid (show ¬ keyB pt = false by rw [hk2]; simp)
            clear hk2
            cases hin : inB 0 mn 100000
            · rw [hin] at HIN
              have HG : Hid (reelsF l = 1) := Lib.hid (by rw [HGO.out.2 (by rw [HV.out, if_neg HN1.out, if_neg HN2.out, if_pos hin]; decide), HV.out, if_neg HN1.out, if_neg HN2.out, if_pos hin])
              clear hin
              go_wp2_with fail
              rw [← hw1]
              clear hw1
              refine (HK1.out w1).mono ?_
              rintro e w2 ⟨rfl, hb2⟩
              obtain ⟨y1, y2, y3⟩ := HXC.out w2 hb2
              go_wp2_with fail
              refine (HK2.out w2).mono ?_
              rintro e w3 ⟨rfl, hb3⟩
              obtain ⟨z1, z2, z3⟩ := HXC.out w3 (Bl.trans hb2 hb3)
              have HB3 := Lib.hid (Bl.trans HB1.out (Bl.trans hb2 hb3))
              clear hb2 hb3
              go_wp2_with fail
              refine (HIN.out w3).mono ?_
              rintro e w' ⟨rfl, rfl⟩
              go_wp2
              go_ret
              exact ⟨ret_int HG.out.symm, HB3.out⟩
            · rw [hin] at HIN
              have HN3 := Lib.hid (show ¬ inB 0 mn 100000 = false by rw [hin]; simp)
              clear hin
              have HR0 : Hid (reelF (prevR l k) (ky, pt, mn) = match prevR l k with
                | none => 0
                | some p => if bleB ky p = true then 7 else 0) := Lib.hid (by rw [HV.out, if_neg HN1.out, if_neg HN2.out, if_neg HN3.out])
              by_cases h0 : k = 0
              · have HG : Hid (reelsF l = reelsF1 (prevR l (k + 1)) (l.drop (k + 1))) := Lib.hid (HGO.out.1 (by rw [HR0.out, h0]; rfl))
                have hk0 : ¬ 0 < k := by omega
                have hk1 : ¬ (0 : Int) < (k : Int) := by omega
                clear h0
                go_wp2_with fail
                rw [← hw1]
                clear hw1
                refine (HK1.out w1).mono ?_
                rintro e w2 ⟨rfl, hb2⟩
                obtain ⟨y1, y2, y3⟩ := HXC.out w2 hb2
                go_wp2_with fail
                refine (HK2.out w2).mono ?_
                rintro e w3 ⟨rfl, hb3⟩
                obtain ⟨z1, z2, z3⟩ := HXC.out w3 (Bl.trans hb2 hb3)
                have HB3 := Lib.hid (Bl.trans HB1.out (Bl.trans hb2 hb3))
                clear hb2 hb3
                go_wp2_with fail
                refine (HIN.out w3).mono ?_
                rintro e w' ⟨rfl, rfl⟩
                go_wp2
                go_quiet (fail)
                have HB4 := Lib.hid (fun n => Bl.drewN HB3.out n)
                go_wp2
                go_roundw
                case rel => exact ⟨k + 1, by omega, by go_num, HG, Lib.hid (HB4.out _)⟩
                case measure => simp [intOf]; omega
              · obtain ⟨k', hkk⟩ : ∃ k', k = k' + 1 := ⟨k - 1, by omega⟩
                obtain ⟨p, hp⟩ : ∃ x, l[k']? = some x := ⟨_, List.getElem?_eq_getElem (by omega)⟩
                have hpr : prevR l k = some p.1 := by rw [hkk]; show (l[k']?).map (·.1) = _; rw [hp]; rfl
                obtain ⟨b4, o4, hae, _, hb4, hc4⟩ := HRW.out.at TRe.ok.len hp TRe.ok.pos
                injection hae with hae
                injection hae with e1 e2 _
                subst e1 e2
                have d0 : wr.cell? ⟨b1, o1 + k' * 3, none⟩ = some (.string p.1) := hc4 0 _ rfl
                have HD := Lib.hid (show ∀ W, Below wr.heap.size wr W → W.cell? ⟨b1, o1 + k' * 3, none⟩ = some (.string p.1) from fun W hW => ((bcell hW).1 _ _ hb4).trans d0)
                obtain ⟨pk, hpk⟩ : ∃ z, z = p.1 := ⟨_, rfl⟩
                rw [← hpk] at hpr HD
                rw [hpr] at HR0 HGO
                have hk1 : (0 : Int) < (k : Int) := by omega
                have hkn : 0 < k := by omega
                have hkm : IntKind.i64.wrap ((k : Int) - 1) = (k' : Int) := by rw [IntWalk.i64_in _ (by omega)]; omega
                have j1 : (0 : Int) ≤ (k' : Int) := by omega
                have j2 : (k' : Int) < (l.length : Int) := by omega
                clear hc4 hp hpk hwm h0 d0 hkk
                cases hbl1 : Op.bytesLess ky.toList pk.toList <;> cases hbl2 : (ky.toList == pk.toList)
                all_goals (
                  have HR1 := HR0.out
                  simp only [bleB, hbl1, hbl2, Bool.or_true, Bool.or_false, if_true, Bool.false_eq_true, if_false] at HR1
                  have HR2 := Lib.hid HR1
                  clear HR1
                  go_wp2_with fail
                  rw [← hw1]
                  clear hw1
                  refine (HK1.out w1).mono ?_
                  rintro e w2 ⟨rfl, hb2⟩
                  obtain ⟨y1, y2, y3⟩ := HXC.out w2 hb2
                  go_wp2_with fail
                  refine (HK2.out w2).mono ?_
                  rintro e w3 ⟨rfl, hb3⟩
                  obtain ⟨z1, z2, z3⟩ := HXC.out w3 (Bl.trans hb2 hb3)
                  have d3 := HD.out w3 (Bl.trans HA1.out (Bl.trans hb2 hb3))
                  have HB3 := Lib.hid (Bl.trans HB1.out (Bl.trans hb2 hb3))
                  clear hb2 hb3
                  go_wp2_with fail
                  refine (HIN.out w3).mono ?_
                  rintro e w' ⟨rfl, rfl⟩
                  go_wp2
                  go_quiet (fail)
                  have HB4 := Lib.hid (fun n => Bl.drewN HB3.out n)
                  clear hkm hk1 hkn
                  go_wp2
                  first
                    | (have HG : Hid (reelsF l = 7) := Lib.hid (by rw [HGO.out.2 (by rw [HR2.out]; decide), HR2.out])
                       go_ret
                       exact ⟨ret_int HG.out.symm, HB4.out _⟩)
                    | (have HG : Hid (reelsF l = reelsF1 (prevR l (k + 1)) (l.drop (k + 1))) := Lib.hid (HGO.out.1 HR2.out)
                       go_roundw
                       case rel => exact ⟨k + 1, by omega, by go_num, HG, Lib.hid (HB4.out _)⟩
                       case measure => simp [intOf]; omega))
      · obtain rfl : k = l.length := by omega
        have HG : Hid (reelsF l = 0) := Lib.hid (by rw [hP.out, List.drop_length]; rfl)
        go_wp2
        go_ret
        exact ⟨ret_int HG.out.symm, HB.out⟩
set_option maxHeartbeats 8000000 in
set_option maxRecDepth 100000 in
theorem ReelsFault_any (l : List Rel) (v : Value) (w : World) (hl : l.length ≤ 1000000) (rl : RecR TRe w 0 v l) (hz : RelZ l) :
    Calls Tryz.prog 15 #[v] w fun e w' => e = .returned (.int .i64 (reelsF l)) ∧ Below w.heap.size w w' := by
  obtain ⟨a, cap, rfl, _, _⟩ := rl.form
  have RL := Lib.hid rl
  clear rl
  by_cases hbig : 1000 < l.length
  · have HR : Hid (reelsF l = 2) := Lib.hid (by unfold reelsF; rw [if_pos hbig])
    have h1 : (1000 : Int) < (l.length : Int) := by omega
    go_enter Tryz.func15, Tryz.ntmps15
    go_wp2
    go_ret
    exact ⟨ret_int HR.out.symm, Below.refl _ _⟩
  · have HR : Hid (reelsF l = reelsF1 none l) := Lib.hid (by unfold reelsF; rw [if_neg hbig])
    have h1 : ¬ (1000 : Int) < (l.length : Int) := by omega
    clear hbig
    go_enter Tryz.func15, Tryz.ntmps15
    go_wp2_with fail
    go_loopw [10] (fun i wr => ∃ k : Nat, k ≤ l.length ∧ i = .int .i64 k ∧ Hid (reelsF l = reelsF1 (prevR l k) (l.drop k)) ∧ Hid (Below w.heap.size w wr)) (fun i _ => l.length - (intOf i).toNat)
    case atStart => exact ⟨0, Nat.zero_le _, rfl, Lib.hid (by rw [HR.out]; rfl), Lib.hid (Below.refl _ _)⟩
    case round =>
      obtain ⟨k, hk, rfl, hP, HB⟩ := hrel
      by_cases hlt : k < l.length
      · obtain ⟨s, hs⟩ : ∃ x, l[k]? = some x := ⟨_, List.getElem?_eq_getElem hlt⟩
        obtain ⟨hz1, hz2⟩ := hz s (List.mem_of_getElem? hs)
        have hw9 : IntKind.i64.wrap ((k : Int) + 1) = ((k + 1 : Nat) : Int) := by rw [IntWalk.i64_in _ (by omega)]; omega
        have HGO : Hid ((reelF (prevR l k) s = 0 → reelsF l = reelsF1 (prevR l (k + 1)) (l.drop (k + 1))) ∧ (reelF (prevR l k) s ≠ 0 → reelsF l = reelF (prevR l k) s)) := Lib.hid ⟨fun h => by rw [hP.out]; exact reelsF1_go hs h, fun h => by rw [hP.out]; exact reelsF1_stop hs h⟩
        have HRW := Lib.hid (RL.out.below HB.out)
        obtain ⟨b1, o1, rfl, _, hb1, hc1⟩ := HRW.out.at TRe.ok.len hs TRe.ok.pos
        have HS := Lib.hid hs
        obtain ⟨ky, pt, mn⟩ := s
        have c0 : wr.cell? ⟨b1, o1 + k * 3, none⟩ = some (.string ky) := hc1 0 _ rfl
        have c1 : wr.cell? ⟨b1, o1 + k * 3 + 1, none⟩ = some (.string pt) := hc1 1 _ rfl
        have c2 : wr.cell? ⟨b1, o1 + k * 3 + 2, none⟩ = some (.int .i64 mn) := hc1 2 _ rfl
        obtain ⟨w1, hw1⟩ : ∃ w1, w1 = wr.alloc (.cells #[.string ky, .string pt, .int .i64 mn] 90) := ⟨_, rfl⟩
        have hA : Below wr.heap.size wr w1 := by rw [hw1]; exact Bl.alloc (Below.refl _ _) _
        have hX : w1.heap[wr.heap.size]? = some (.cells #[.string ky, .string pt, .int .i64 mn] 90 (0, 0)) := by rw [hw1]; exact blk_new wr _
        have HXC := Lib.hid (show ∀ W, Below w1.heap.size w1 W → W.cell? ⟨wr.heap.size, 0, none⟩ = some (.string ky) ∧ W.cell? ⟨wr.heap.size, 1, none⟩ = some (.string pt) ∧ W.cell? ⟨wr.heap.size, 2, none⟩ = some (.int .i64 mn) from fun W hW => by
          have h := blk_below hX hW
          exact ⟨blk_cell h 0, blk_cell h 1, blk_cell h 2⟩)
        have HA1 := Lib.hid hA
        have HB1 := Lib.hid (Bl.trans HB.out hA)
        have HK1 := Lib.hid fun W => Key_any ky W hz1
        have HK2 := Lib.hid fun W => Key_any pt W hz2
        have HIN := Lib.hid fun W => in_any mn 0 100000 W
        obtain ⟨x1, x2, x3⟩ := HXC.out w1 (Below.refl _ _)
        have hwm : 1 ≤ k → IntKind.i64.wrap ((k : Int) - 1) = ((k - 1 : Nat) : Int) := fun h => by rw [IntWalk.i64_in _ (by omega)]; omega
        have HV : Hid (reelF (prevR l k) (ky, pt, mn) = if keyB ky = false then 5 else if keyB pt = false then 5 else if inB 0 mn 100000 = false then 1 else match prevR l k with
          | none => 0
          | some p => if bleB ky p = true then 7 else 0) := Lib.hid rfl
        clear hA hX hz1 hz2 hs hc1
        cases hk1 : keyB ky
        · rw [hk1] at HK1
          have HG : Hid (reelsF l = 5) := Lib.hid (by rw [HGO.out.2 (by rw [HV.out, if_pos hk1]; decide), HV.out, if_pos hk1])
          clear hk1
          go_wp2_with fail
          rw [← hw1]
          clear hw1
          refine (HK1.out w1).mono ?_
          rintro e w2 ⟨rfl, hb2⟩
          have HB2 := Lib.hid (Bl.trans HB1.out hb2)
          clear hb2
          go_wp2
          go_ret
          exact ⟨ret_int HG.out.symm, HB2.out⟩
        · rw [hk1] at HK1
          have HN1 := Lib.hid (show ¬ keyB ky = false by rw [hk1]; simp)
          clear hk1
          cases hk2 : keyB pt
          · rw [hk2] at HK2
            have HG : Hid (reelsF l = 5) := Lib.hid (by rw [HGO.out.2 (by rw [HV.out, if_neg HN1.out, if_pos hk2]; decide), HV.out, if_neg HN1.out, if_pos hk2])
            clear hk2
            go_wp2_with fail
            rw [← hw1]
            clear hw1
            refine (HK1.out w1).mono ?_
            rintro e w2 ⟨rfl, hb2⟩
            obtain ⟨y1, y2, y3⟩ := HXC.out w2 hb2
            have HB2 := Lib.hid (Bl.trans HB1.out hb2)
            clear hb2
            go_wp2_with fail
            refine (HK2.out w2).mono ?_
            rintro e w3 ⟨rfl, hb3⟩
            have HB3 := Lib.hid (Bl.trans HB2.out hb3)
            clear hb3
            go_wp2
            go_ret
            exact ⟨ret_int HG.out.symm, HB3.out⟩
          · rw [hk2] at HK2
            have HN2 := Lib.hid (show ¬ keyB pt = false by rw [hk2]; simp)
            clear hk2
            cases hin : inB 0 mn 100000
            · rw [hin] at HIN
              have HG : Hid (reelsF l = 1) := Lib.hid (by rw [HGO.out.2 (by rw [HV.out, if_neg HN1.out, if_neg HN2.out, if_pos hin]; decide), HV.out, if_neg HN1.out, if_neg HN2.out, if_pos hin])
              clear hin
              go_wp2_with fail
              rw [← hw1]
              clear hw1
              refine (HK1.out w1).mono ?_
              rintro e w2 ⟨rfl, hb2⟩
              obtain ⟨y1, y2, y3⟩ := HXC.out w2 hb2
              go_wp2_with fail
              refine (HK2.out w2).mono ?_
              rintro e w3 ⟨rfl, hb3⟩
              obtain ⟨z1, z2, z3⟩ := HXC.out w3 (Bl.trans hb2 hb3)
              have HB3 := Lib.hid (Bl.trans HB1.out (Bl.trans hb2 hb3))
              clear hb2 hb3
              go_wp2_with fail
              refine (HIN.out w3).mono ?_
              rintro e w' ⟨rfl, rfl⟩
              go_wp2
              go_ret
              exact ⟨ret_int HG.out.symm, HB3.out⟩
            · rw [hin] at HIN
              have HN3 := Lib.hid (show ¬ inB 0 mn 100000 = false by rw [hin]; simp)
              clear hin
              have HR0 : Hid (reelF (prevR l k) (ky, pt, mn) = match prevR l k with
                | none => 0
                | some p => if bleB ky p = true then 7 else 0) := Lib.hid (by rw [HV.out, if_neg HN1.out, if_neg HN2.out, if_neg HN3.out])
              by_cases h0 : k = 0
              · have HG : Hid (reelsF l = reelsF1 (prevR l (k + 1)) (l.drop (k + 1))) := Lib.hid (HGO.out.1 (by rw [HR0.out, h0]; rfl))
                have hk0 : ¬ 0 < k := by omega
                have hk1 : ¬ (0 : Int) < (k : Int) := by omega
                clear h0
                go_wp2_with fail
                rw [← hw1]
                clear hw1
                refine (HK1.out w1).mono ?_
                rintro e w2 ⟨rfl, hb2⟩
                obtain ⟨y1, y2, y3⟩ := HXC.out w2 hb2
                go_wp2_with fail
                refine (HK2.out w2).mono ?_
                rintro e w3 ⟨rfl, hb3⟩
                obtain ⟨z1, z2, z3⟩ := HXC.out w3 (Bl.trans hb2 hb3)
                have HB3 := Lib.hid (Bl.trans HB1.out (Bl.trans hb2 hb3))
                clear hb2 hb3
                go_wp2_with fail
                refine (HIN.out w3).mono ?_
                rintro e w' ⟨rfl, rfl⟩
                go_wp2
                go_quiet (fail)
                have HB4 := Lib.hid (fun n => Bl.drewN HB3.out n)
                go_wp2
                go_roundw
                case rel => exact ⟨k + 1, by omega, by go_num, HG, Lib.hid (HB4.out _)⟩
                case measure => simp [intOf]; omega
              · obtain ⟨k', hkk⟩ : ∃ k', k = k' + 1 := ⟨k - 1, by omega⟩
                obtain ⟨p, hp⟩ : ∃ x, l[k']? = some x := ⟨_, List.getElem?_eq_getElem (by omega)⟩
                have hpr : prevR l k = some p.1 := by rw [hkk]; show (l[k']?).map (·.1) = _; rw [hp]; rfl
                obtain ⟨b4, o4, hae, _, hb4, hc4⟩ := HRW.out.at TRe.ok.len hp TRe.ok.pos
                injection hae with hae
                injection hae with e1 e2 _
                subst e1 e2
                have d0 : wr.cell? ⟨b1, o1 + k' * 3, none⟩ = some (.string p.1) := hc4 0 _ rfl
                have HD := Lib.hid (show ∀ W, Below wr.heap.size wr W → W.cell? ⟨b1, o1 + k' * 3, none⟩ = some (.string p.1) from fun W hW => ((bcell hW).1 _ _ hb4).trans d0)
                obtain ⟨pk, hpk⟩ : ∃ z, z = p.1 := ⟨_, rfl⟩
                rw [← hpk] at hpr HD
                rw [hpr] at HR0 HGO
                have hk1 : (0 : Int) < (k : Int) := by omega
                have hkn : 0 < k := by omega
                have hkm : IntKind.i64.wrap ((k : Int) - 1) = (k' : Int) := by rw [IntWalk.i64_in _ (by omega)]; omega
                have j1 : (0 : Int) ≤ (k' : Int) := by omega
                have j2 : (k' : Int) < (l.length : Int) := by omega
                clear hc4 hp hpk hwm h0 d0 hkk
                cases hbl1 : Op.bytesLess ky.toList pk.toList <;> cases hbl2 : (ky.toList == pk.toList)
                all_goals (
                  have HR1 := HR0.out
                  simp only [bleB, hbl1, hbl2, Bool.or_true, Bool.or_false, if_true, Bool.false_eq_true, if_false] at HR1
                  have HR2 := Lib.hid HR1
                  clear HR1
                  go_wp2_with fail
                  rw [← hw1]
                  clear hw1
                  refine (HK1.out w1).mono ?_
                  rintro e w2 ⟨rfl, hb2⟩
                  obtain ⟨y1, y2, y3⟩ := HXC.out w2 hb2
                  go_wp2_with fail
                  refine (HK2.out w2).mono ?_
                  rintro e w3 ⟨rfl, hb3⟩
                  obtain ⟨z1, z2, z3⟩ := HXC.out w3 (Bl.trans hb2 hb3)
                  have d3 := HD.out w3 (Bl.trans HA1.out (Bl.trans hb2 hb3))
                  have HB3 := Lib.hid (Bl.trans HB1.out (Bl.trans hb2 hb3))
                  clear hb2 hb3
                  go_wp2_with fail
                  refine (HIN.out w3).mono ?_
                  rintro e w' ⟨rfl, rfl⟩
                  go_wp2
                  go_quiet (fail)
                  have HB4 := Lib.hid (fun n => Bl.drewN HB3.out n)
                  clear hkm hk1 hkn
                  go_wp2
                  first
                    | (have HG : Hid (reelsF l = 7) := Lib.hid (by rw [HGO.out.2 (by rw [HR2.out]; decide), HR2.out])
                       go_ret
                       exact ⟨ret_int HG.out.symm, HB4.out _⟩)
                    | (have HG : Hid (reelsF l = reelsF1 (prevR l (k + 1)) (l.drop (k + 1))) := Lib.hid (HGO.out.1 HR2.out)
                       go_roundw
                       case rel => exact ⟨k + 1, by omega, by go_num, HG, Lib.hid (HB4.out _)⟩
                       case measure => simp [intOf]; omega))
      · obtain rfl : k = l.length := by omega
        have HG : Hid (reelsF l = 0) := Lib.hid (by rw [hP.out, List.drop_length]; rfl)
        go_wp2
        go_ret
        exact ⟨ret_int HG.out.symm, HB.out⟩
end Go.Proofs.YtilhonppgedoiaaGreatDoor
