/- Texts of the proof of a law, put together, part 16 of 46. Conditions: none beyond those that each theorem names. -/
import Derived.Test.YtilhonppgedoiaaGreatDoorFz1
import Derived.Test.YtilhonppgedoiaaGreatDoorFz4
import Derived.Test.YtilhonppgedoiaaGreatDoorFz6
import Derived.Test.YtilhonppgedoiaaGreatDoorFz7
import Derived.Test.YtilhonppgedoiaaGreatDoorFz15
import Derived.BigQuiet
import Derived.Deep.QuietTactic
import Derived.Laws.Runes
namespace Go.Proofs.YtilhonppgedoiaaGreatDoor
open Go.RowKit Go.Sort Go.Maps
set_option maxHeartbeats 4000000 in
set_option maxRecDepth 100000 in
theorem textFault_any (x : Fed) (w : World) (hz : x.2.2.1.size ≤ 140737488355328 ∧ x.2.2.2.1.size ≤ 140737488355328 ∧ x.2.2.2.2.2.size ≤ 140737488355328) :
    Calls Tryz.prog 68 #[fedV x] w fun e w' => e = .returned (.int .i64 (textF x)) ∧ Below w.heap.size w w' := by
  obtain ⟨z1, z2, z3⟩ := hz
  obtain ⟨F, hF⟩ : ∃ F, F = textF x := ⟨_, rfl⟩
  rw [← hF]
  obtain ⟨at', kd, fd, rk, mn, bd⟩ := x
  change Calls _ _ #[.agg #[.int .i64 at', .int .i64 kd, .string fd, .string rk, .int .i64 mn, .string bd]] _ _
  obtain ⟨w1, hw1⟩ : ∃ w1, w1 = w.alloc (.cells #[.int .i64 at', .int .i64 kd, .string fd, .string rk, .int .i64 mn, .string bd] 37) := ⟨_, rfl⟩
  have HA1 : Hid (Below w.heap.size w w1) := Lib.hid (by rw [hw1]; exact Bl.alloc (Below.refl _ _) _)
  have HXC := Lib.hid (show ∀ W, Below w1.heap.size w1 W → W.cell? ⟨w.heap.size, 0, none⟩ = some (.int .i64 at') ∧ W.cell? ⟨w.heap.size, 1, none⟩ = some (.int .i64 kd) ∧ W.cell? ⟨w.heap.size, 2, none⟩ = some (.string fd) ∧ W.cell? ⟨w.heap.size, 3, none⟩ = some (.string rk) ∧ W.cell? ⟨w.heap.size, 4, none⟩ = some (.int .i64 mn) ∧ W.cell? ⟨w.heap.size, 5, none⟩ = some (.string bd) from fun W hW => by
    have h : W.heap[w.heap.size]? = some (.cells #[.int .i64 at', .int .i64 kd, .string fd, .string rk, .int .i64 mn, .string bd] 37 (0, 0)) := blk_below (by rw [hw1]; exact blk_new w _) hW
    exact ⟨blk_cell h 0, blk_cell h 1, blk_cell h 2, blk_cell h 3, blk_cell h 4, blk_cell h 5⟩)
  obtain ⟨bk, hbk⟩ : ∃ q, q = inB 1 kd 5 := ⟨_, rfl⟩
  obtain ⟨bf, hbf⟩ : ∃ q, q = formB (at', kd, fd, rk, mn, bd) := ⟨_, rfl⟩
  obtain ⟨uf, huf⟩ : ∃ q, q = uF kd := ⟨_, rfl⟩
  obtain ⟨ur, hur⟩ : ∃ q, q = uR kd := ⟨_, rfl⟩
  obtain ⟨um, hum⟩ : ∃ q, q = uM kd := ⟨_, rfl⟩
  obtain ⟨ub, hub⟩ : ∃ q, q = uB kd := ⟨_, rfl⟩
  obtain ⟨kf, hkf⟩ : ∃ q, q = keyB fd := ⟨_, rfl⟩
  obtain ⟨kr, hkr⟩ : ∃ q, q = keyB rk := ⟨_, rfl⟩
  obtain ⟨kb, hkb⟩ : ∃ q, q = keyB bd := ⟨_, rfl⟩
  have HV : Hid (F = if bk = false then 4 else if bf = false then 3 else if ((uf && !kf) || (ur && !kr) || (ub && !kb)) = true then 5 else 0) := Lib.hid (by rw [hF, hbk, hbf, huf, hur, hub, hkf, hkr, hkb]; rfl)
  have HK : bk = true → 1 ≤ kd ∧ kd ≤ 5 := fun h => by rw [hbk] at h; unfold inB at h; simp at h; exact h
  have HKD := Lib.hid (fun W => IsKindR_any kd W)
  have HFM : Hid (bk = true → ∀ W, Calls Tryz.prog 97 #[.agg #[.int .i64 at', .int .i64 kd, .string fd, .string rk, .int .i64 mn, .string bd]] W fun e w' => e = .returned (.int .i64 (if bf = true then 0 else 3)) ∧ Below W.heap.size W w') := Lib.hid (fun h W => by rw [hbf]; exact formFault_any at' kd fd rk mn bd W (HK h).1 (HK h).2)
  have HUS : Hid (bk = true → ∀ W, Calls Tryz.prog 73 #[.int .i64 kd] W fun e w' => e = .returned (.agg #[.bool uf, .bool ur, .bool um, .bool ub]) ∧ Below W.heap.size W w') := Lib.hid (fun h W => usesOf_at (HK h).1 (HK h).2 huf.symm hur.symm hum.symm hub.symm W)
  have HKF : Hid (∀ W, Calls Tryz.prog 53 #[.string fd] W fun e w' => e = .returned (.bool kf) ∧ Below W.heap.size W w') := Lib.hid (fun W => by rw [hkf]; exact IsKey_any fd W z1)
  have HKR : Hid (∀ W, Calls Tryz.prog 53 #[.string rk] W fun e w' => e = .returned (.bool kr) ∧ Below W.heap.size W w') := Lib.hid (fun W => by rw [hkr]; exact IsKey_any rk W z2)
  have HKB : Hid (∀ W, Calls Tryz.prog 53 #[.string bd] W fun e w' => e = .returned (.bool kb) ∧ Below W.heap.size W w') := Lib.hid (fun W => by rw [hkb]; exact IsKey_any bd W z3)
  rw [← hbk] at HKD
  have HW := Lib.hid hw1
  clear hF hbk hbf huf hur hum hub hkf hkr hkb hw1 z1 z2 z3 HK
  cases bk
  · have HFF : Hid (F = 4) := Lib.hid HV.out
    obtain ⟨x0, x1, x2, x3, x4, x5⟩ := HXC.out w1 (Below.refl _ _)
    go_enter Tryz.func68, Tryz.ntmps68
    go_wp2_with fail
    rw [← HW.out]
    go_wp2_with fail
    refine (HKD.out w1).mono ?_
    rintro e w' ⟨rfl, rfl⟩
    go_wp2
    go_ret
    exact ⟨ret_int HFF.out.symm, HA1.out⟩
  have HFM2 := Lib.hid (HFM.out rfl)
  have HUS2 := Lib.hid (HUS.out rfl)
  clear HUS
  clear HFM
  cases bf
  · have HFM : Hid (∀ W, Calls Tryz.prog 97 #[.agg #[.int .i64 at', .int .i64 kd, .string fd, .string rk, .int .i64 mn, .string bd]] W fun e w' => e = .returned (.int .i64 3) ∧ Below W.heap.size W w') := Lib.hid fun W => HFM2.out W
    clear HFM2
    have HFF : Hid (F = 3) := Lib.hid HV.out
    obtain ⟨x0, x1, x2, x3, x4, x5⟩ := HXC.out w1 (Below.refl _ _)
    go_enter Tryz.func68, Tryz.ntmps68
    go_wp2_with fail
    rw [← HW.out]
    go_wp2_with fail
    refine (HKD.out w1).mono ?_
    rintro e w' ⟨rfl, rfl⟩
    go_wp2_with fail
    refine (HFM.out w1).mono ?_
    rintro e w2 ⟨rfl, hb2⟩
    have HB2 := Lib.hid (Bl.trans HA1.out hb2)
    clear hb2
    go_wp2
    go_ret
    exact ⟨ret_int HFF.out.symm, HB2.out⟩
  have HFM : Hid (∀ W, Calls Tryz.prog 97 #[.agg #[.int .i64 at', .int .i64 kd, .string fd, .string rk, .int .i64 mn, .string bd]] W fun e w' => e = .returned (.int .i64 0) ∧ Below W.heap.size W w') := Lib.hid fun W => HFM2.out W
  clear HFM2
  obtain ⟨x0, x1, x2, x3, x4, x5⟩ := HXC.out w1 (Below.refl _ _)
  go_enter Tryz.func68, Tryz.ntmps68
  go_wp2_with fail
  rw [← HW.out]
  go_wp2_with fail
  refine (HKD.out w1).mono ?_
  rintro e w' ⟨rfl, rfl⟩
  go_wp2_with fail
  refine (HFM.out w1).mono ?_
  rintro e w2 ⟨rfl, hb2⟩
  obtain ⟨y0, y1, y2, y3, y4, y5⟩ := HXC.out w2 hb2
  have HB2 := Lib.hid hb2
  clear hb2 x0 x1 x2 x3 x4 x5
  go_wp2_with fail
  refine (HUS2.out w2).mono ?_
  rintro e w3 ⟨rfl, hb3⟩
  obtain ⟨w4, hw4⟩ : ∃ w4, w4 = w3.alloc (.cells #[.bool uf, .bool ur, .bool um, .bool ub] 123) := ⟨_, rfl⟩
  have HBX : Hid (Below w1.heap.size w1 w4) := Lib.hid (Bl.trans HB2.out (by rw [hw4]; exact Bl.alloc hb3 _))
  have HUC := Lib.hid (show ∀ W, Below w4.heap.size w4 W → W.cell? ⟨w3.heap.size, 0, none⟩ = some (.bool uf) ∧ W.cell? ⟨w3.heap.size, 1, none⟩ = some (.bool ur) ∧ W.cell? ⟨w3.heap.size, 3, none⟩ = some (.bool ub) from fun W hW => by
    have h : W.heap[w3.heap.size]? = some (.cells #[.bool uf, .bool ur, .bool um, .bool ub] 123 (0, 0)) := blk_below (by rw [hw4]; exact blk_new w3 _) hW
    exact ⟨blk_cell h 0, blk_cell h 1, blk_cell h 3⟩)
  have HW4 := Lib.hid hw4
  clear hb3 y0 y1 y2 y3 y4 y5 hw4
  go_upto_region 7 with fail
  rw [← HW4.out]
  go_cut [44] from 17 to 44 (fun v44 wx => v44 = .bool ((uf && !kf) || (ur && !kr) || (ub && !kb)) ∧ Hid (Below w4.heap.size w4 wx))
  case first =>
    obtain ⟨u0, u1, u3⟩ := HUC.out w4 (Below.refl _ _)
    obtain ⟨y0, y1, y2, y3, y4, y5⟩ := HXC.out w4 HBX.out
    have HB0 := Lib.hid (Below.refl w4.heap.size w4)
    cases uf
    · cases ur
      · cases ub
        · go_wp2_with fail
          go_meet
          case rel => exact ⟨rfl, HB0⟩
        · go_wp2_with fail
          refine (HKB.out w4).mono ?_
          rintro e v3 ⟨rfl, hb⟩
          have HB3 := Lib.hid (Bl.trans HB0.out hb)
          obtain ⟨a3, b3, c3, d3, e3, f3⟩ := HXC.out v3 (Bl.trans HBX.out HB3.out)
          obtain ⟨g3, h3, i3⟩ := HUC.out v3 HB3.out
          clear hb
          cases kb
          · go_wp2_with fail
            go_meet
            case rel => exact ⟨rfl, HB3⟩
          · go_wp2_with fail
            go_meet
            case rel => exact ⟨rfl, HB3⟩
      · go_wp2_with fail
        refine (HKR.out w4).mono ?_
        rintro e v2 ⟨rfl, hb⟩
        have HB2 := Lib.hid (Bl.trans HB0.out hb)
        obtain ⟨a2, b2, c2, d2, e2, f2⟩ := HXC.out v2 (Bl.trans HBX.out HB2.out)
        obtain ⟨g2, h2, i2⟩ := HUC.out v2 HB2.out
        clear hb
        cases kr
        · go_wp2_with fail
          go_meet
          case rel => exact ⟨rfl, HB2⟩
        · cases ub
          · go_wp2_with fail
            go_meet
            case rel => exact ⟨rfl, HB2⟩
          · go_wp2_with fail
            refine (HKB.out v2).mono ?_
            rintro e v4 ⟨rfl, hb⟩
            have HB4 := Lib.hid (Bl.trans HB2.out hb)
            obtain ⟨a4, b4, c4, d4, e4, f4⟩ := HXC.out v4 (Bl.trans HBX.out HB4.out)
            obtain ⟨g4, h4, i4⟩ := HUC.out v4 HB4.out
            clear hb
            cases kb
            · go_wp2_with fail
              go_meet
              case rel => exact ⟨rfl, HB4⟩
            · go_wp2_with fail
              go_meet
              case rel => exact ⟨rfl, HB4⟩
    · go_wp2_with fail
      refine (HKF.out w4).mono ?_
      rintro e v1 ⟨rfl, hb⟩
      have HB1 := Lib.hid (Bl.trans HB0.out hb)
      obtain ⟨a1, b1, c1, d1, e1, f1⟩ := HXC.out v1 (Bl.trans HBX.out HB1.out)
      obtain ⟨g1, h1, i1⟩ := HUC.out v1 HB1.out
      clear hb
      cases kf
      · go_wp2_with fail
        go_meet
        case rel => exact ⟨rfl, HB1⟩
      · cases ur
        · cases ub
          · go_wp2_with fail
            go_meet
            case rel => exact ⟨rfl, HB1⟩
          · go_wp2_with fail
            refine (HKB.out v1).mono ?_
            rintro e v6 ⟨rfl, hb⟩
            have HB6 := Lib.hid (Bl.trans HB1.out hb)
            obtain ⟨a6, b6, c6, d6, e6, f6⟩ := HXC.out v6 (Bl.trans HBX.out HB6.out)
            obtain ⟨g6, h6, i6⟩ := HUC.out v6 HB6.out
            clear hb
            cases kb
            · go_wp2_with fail
              go_meet
              case rel => exact ⟨rfl, HB6⟩
            · go_wp2_with fail
              go_meet
              case rel => exact ⟨rfl, HB6⟩
        · go_wp2_with fail
          refine (HKR.out v1).mono ?_
          rintro e v5 ⟨rfl, hb⟩
          have HB5 := Lib.hid (Bl.trans HB1.out hb)
          obtain ⟨a5, b5, c5, d5, e5, f5⟩ := HXC.out v5 (Bl.trans HBX.out HB5.out)
          obtain ⟨g5, h5, i5⟩ := HUC.out v5 HB5.out
          clear hb
          cases kr
          · go_wp2_with fail
            go_meet
            case rel => exact ⟨rfl, HB5⟩
          · cases ub
            · go_wp2_with fail
              go_meet
              case rel => exact ⟨rfl, HB5⟩
            · go_wp2_with fail
              refine (HKB.out v5).mono ?_
              rintro e v7 ⟨rfl, hb⟩
              have HB7 := Lib.hid (Bl.trans HB5.out hb)
              obtain ⟨a7, b7, c7, d7, e7, f7⟩ := HXC.out v7 (Bl.trans HBX.out HB7.out)
              obtain ⟨g7, h7, i7⟩ := HUC.out v7 HB7.out
              clear hb
              cases kb
              · go_wp2_with fail
                go_meet
                case rel => exact ⟨rfl, HB7⟩
              · go_wp2_with fail
                go_meet
                case rel => exact ⟨rfl, HB7⟩
  case rest =>
    obtain ⟨rfl, HBC⟩ := hcut
    have HBW := Lib.hid (Bl.trans HA1.out (Bl.trans HBX.out HBC.out))
    obtain ⟨q, hq⟩ : ∃ q, q = ((uf && !kf) || (ur && !kr) || (ub && !kb)) := ⟨_, rfl⟩
    rw [← hq] at HV ⊢
    clear hq HKF HKR HKB HFM HKD
    cases q
    · have HFF : Hid (F = 0) := Lib.hid HV.out
      go_wp2
      go_ret
      exact ⟨ret_int HFF.out.symm, HBW.out⟩
    · have HFF : Hid (F = 5) := Lib.hid HV.out
      go_wp2
      go_ret
      exact ⟨ret_int HFF.out.symm, HBW.out⟩
set_option maxHeartbeats 4000000 in
set_option maxRecDepth 100000 in
theorem textsFault_any (l : List Fed) (v : Value) (w : World) (hl : l.length ≤ 1000000) (rl : RecR TFe w 0 v l) (hz : FedZ l) :
    Calls Tryz.prog 26 #[v] w fun e w' => e = .returned (.int .i64 (textsF l)) ∧ Below w.heap.size w w' := by
  have RL := Lib.hid rl
  obtain ⟨fa, fcap, rfl, _, _⟩ := rl.form
  obtain ⟨F, hF⟩ : ∃ F, F = textsF l := ⟨_, rfl⟩
  rw [← hF]
  have HF := Lib.hid hF
  clear rl hF
  by_cases hbig : 5000 < l.length
  case pos =>
    have HFF : Hid (F = 2) := Lib.hid (by rw [HF.out]; unfold textsF; rw [if_pos hbig])
    have e1 : (5000 : Int) < (l.length : Int) := by omega
    clear hbig
    go_enter Tryz.func26, Tryz.ntmps26
    go_wp2
    go_ret
    exact ⟨ret_int HFF.out.symm, Below.refl _ _⟩
  have HF1 : Hid (F = textsF1 l) := Lib.hid (by rw [HF.out]; unfold textsF; rw [if_neg hbig])
  have e1 : ¬ (5000 : Int) < (l.length : Int) := by omega
  clear hbig HF
  go_enter Tryz.func26, Tryz.ntmps26
  go_wp2_with fail
  clear e1
  go_loopw [11] (fun i wr => ∃ k : Nat, k ≤ l.length ∧ i = .int .i64 k ∧ Hid (F = textsF1 (l.drop k)) ∧ Hid (Below w.heap.size w wr)) (fun i _ => l.length - (intOf i).toNat)
  case atStart => exact ⟨0, Nat.zero_le _, rfl, Lib.hid (by rw [HF1.out]; rfl), Lib.hid (Below.refl _ _)⟩
  case round =>
    obtain ⟨k, hk, rfl, hP, HB⟩ := hrel
    by_cases hlt : k < l.length
    case neg =>
      obtain rfl : k = l.length := by omega
      have HG : Hid (F = 0) := Lib.hid (by rw [hP.out, List.drop_length]; rfl)
      go_wp2
      go_ret
      exact ⟨ret_int HG.out.symm, HB.out⟩
    obtain ⟨x, hx⟩ : ∃ x, l[k]? = some x := ⟨_, List.getElem?_eq_getElem hlt⟩
    have hw9 : IntKind.i64.wrap ((k : Int) + 1) = ((k + 1 : Nat) : Int) := by rw [IntWalk.i64_in _ (by omega)]; omega
    have HZ := Lib.hid (hz x (List.mem_of_getElem? hx))
    obtain ⟨b1, o1, rfl, _, hb1, hc1⟩ := (RL.out.below HB.out).at TFe.ok.len hx TFe.ok.pos
    obtain ⟨G, hG⟩ : ∃ G, G = textF x := ⟨_, rfl⟩
    have HGO : Hid ((G = 0 → F = textsF1 (l.drop (k + 1))) ∧ (G ≠ 0 → F = G)) := Lib.hid (by rw [hG]; exact ⟨fun h => by rw [hP.out]; exact textsF1_go hx h, fun h => by rw [hP.out]; exact textsF1_stop hx h⟩)
    have HTF : Hid (∀ W, Calls Tryz.prog 68 #[fedV x] W fun e w' => e = .returned (.int .i64 G) ∧ Below W.heap.size W w') := Lib.hid fun W => by rw [hG]; exact textFault_any x W HZ.out
    clear hx hP HF1 hG HZ
    obtain ⟨at', kd, fd, rk, mn, bd⟩ := x
    have c0 : wr.cell? ⟨b1, o1 + k * 6, none⟩ = some (.int .i64 at') := hc1 0 _ rfl
    have c1 : wr.cell? ⟨b1, o1 + k * 6 + 1, none⟩ = some (.int .i64 kd) := hc1 1 _ rfl
    have c2 : wr.cell? ⟨b1, o1 + k * 6 + 2, none⟩ = some (.string fd) := hc1 2 _ rfl
    have c3 : wr.cell? ⟨b1, o1 + k * 6 + 3, none⟩ = some (.string rk) := hc1 3 _ rfl
    have c4 : wr.cell? ⟨b1, o1 + k * 6 + 4, none⟩ = some (.int .i64 mn) := hc1 4 _ rfl
    have c5 : wr.cell? ⟨b1, o1 + k * 6 + 5, none⟩ = some (.string bd) := hc1 5 _ rfl
    clear hc1
    have HBA := Lib.hid (Bl.alloc HB.out (.cells #[.int .i64 at', .int .i64 kd, .string fd, .string rk, .int .i64 mn, .string bd] 37))
    have HT2 : Hid (Calls Tryz.prog 68 #[.agg #[.int .i64 at', .int .i64 kd, .string fd, .string rk, .int .i64 mn, .string bd]] (wr.alloc (.cells #[.int .i64 at', .int .i64 kd, .string fd, .string rk, .int .i64 mn, .string bd] 37)) fun e w' => e = .returned (.int .i64 G) ∧ Below w.heap.size w w') := Lib.hid ((HTF.out _).mono fun e w' h => ⟨h.1, Bl.trans HBA.out h.2⟩)
    clear HTF
    by_cases h0 : G = 0
    · have HG : Hid (F = textsF1 (l.drop (k + 1))) := Lib.hid (HGO.out.1 h0)
      subst h0
      clear HGO
      go_wp2_with fail
      refine HT2.out.mono ?_
      rintro e w3 ⟨rfl, hb3⟩
      have HB3 := Lib.hid hb3
      clear hb3 HT2
      go_wp2
      go_roundw
      case rel => exact ⟨k + 1, by omega, by go_num, HG, HB3⟩
      case measure => simp [intOf]; omega
    · have HG : Hid (F = G) := Lib.hid (HGO.out.2 h0)
      clear HGO
      go_wp2_with fail
      refine HT2.out.mono ?_
      rintro e w3 ⟨rfl, hb3⟩
      have HB3 := Lib.hid hb3
      clear hb3 HT2
      go_wp2
      go_ret
      exact ⟨ret_int HG.out.symm, HB3.out⟩
end Go.Proofs.YtilhonppgedoiaaGreatDoor
namespace Go.Proofs.YtilhonppgedoiaaGreatDoor
open Go.RowKit Go.Sort
theorem enc_le (n : Int) : (Utf8.encode n).size ≤ 4 := by
  unfold Utf8.encode
  have h : ∀ (c : Nat), (let b (n : Nat) : UInt8 := UInt8.ofNat n
    if c < 0x80 then (⟨#[b c]⟩ : ByteArray)
    else if c < 0x800 then ⟨#[b (0xC0 + c / 64), b (0x80 + c % 64)]⟩
    else if c < 0x10000 then ⟨#[b (0xE0 + c / 4096), b (0x80 + c / 64 % 64), b (0x80 + c % 64)]⟩
    else ⟨#[b (0xF0 + c / 262144), b (0x80 + c / 4096 % 64), b (0x80 + c / 64 % 64), b (0x80 + c % 64)]⟩).size ≤ 4 := by
    intro c
    simp only
    split
    · show 1 ≤ 4; omega
    · split
      · show 2 ≤ 4; omega
      · split
        · show 3 ≤ 4; omega
        · show 4 ≤ 4; omega
  exact h _
theorem sz3 {A E C : ByteArray} {n u : Nat} (h2 : E.size ≤ 4) (h3 : A.size + C.size ≤ n) : (A ++ E ++ C).size ≤ n + u + 4 := by
  rw [ByteArray.size_append, ByteArray.size_append]; omega
theorem sz2 {A C : ByteArray} {n u : Nat} (h3 : A.size + C.size ≤ n) : (A ++ C).size ≤ n + u + 4 := by
  rw [ByteArray.size_append]; omega
theorem big_no {n a b c : Nat} (h1 : a + c ≤ n) (h2 : b ≤ 4) (h3 : n ≤ 1099511627776) : (¬ 9223372036854775807 < a + b) ∧ ¬ 9223372036854775807 < a + b + c := by omega
set_option maxHeartbeats 4000000 in
set_option maxRecDepth 100000 in
theorem Changed_any (s : Nat) (c : Int) (t u : ByteArray) (w : World) (h : Str w s c) (hc : c ≤ 999990) (ht : t.size ≤ 1099511627776) (hu : 0 < u.size) (hu2 : u.size ≤ 1000) :
    Calls Tryz.prog 36 #[.pointer (some ⟨s, 0, none⟩), .string t, .string u] w fun e w' => ∃ r : ByteArray, e = .returned (.string r) ∧ r.size ≤ t.size + u.size + 4 ∧ Str w' s (c + 3) ∧ w.grownBy w' (some s) := by
  have e1 : u.toList.isEmpty = false := by
    rw [ByteArray.toList_eq]
    cases h : u.data.toList with
    | nil =>
      have : u.data.toList.length = u.size := Array.length_toList
      rw [h] at this; simp at this; omega
    | cons => rfl
  have e2 : ¬ u.toList = [] := by
    intro h; rw [h] at e1; cases e1
  by_cases h0 : t.size = 0
  · obtain rfl : t = ⟨#[]⟩ := by
      apply ByteArray.ext
      exact Array.eq_empty_of_size_eq_zero h0
    go_enter Tryz.func36, Tryz.ntmps36
    go_wp2
    go_ret
    exact ⟨_, rfl, by omega, h.mono (by omega), Gr.refl _ _⟩
  · have f1 : t.toList.isEmpty = false := by
      rw [ByteArray.toList_eq]
      cases h : t.data.toList with
      | nil =>
        have : t.data.toList.length = t.size := Array.length_toList
        rw [h] at this; simp at this; omega
      | cons => rfl
    have f2 : ¬ t.toList = [] := by
      intro h; rw [h] at f1; cases f1
    go_enter Tryz.func36, Tryz.ntmps36
    go_wp2_with fail
    refine (Next_any s c t.size w h (by omega) (by omega)).mono ?_
    rintro e w1 ⟨i, rfl, ⟨hi0, hi1, _⟩, hS1, hG1⟩
    have hi2 := hi1 (by omega)
    clear hi1
    obtain ⟨i, rfl⟩ := Int.eq_ofNat_of_zero_le hi0
    go_wp2_with fail
    refine (Next_any s (c + 1) u.size w1 hS1 (by omega) (by omega)).mono ?_
    rintro e w2 ⟨j, rfl, ⟨hj0, hj1, _⟩, hS2, hG2⟩
    have hj2 := hj1 (by omega)
    clear hj1
    obtain ⟨j, rfl⟩ := Int.eq_ofNat_of_zero_le hj0
    have hj3 : j < u.size := by omega
    have hi3 : i < t.size := by omega
    have hi4 : i ≤ t.size := by omega
    have hi5 : ((i : Nat) : Int) ≤ (t.size : Int) := by omega
    have hi6 : ((i : Nat) : Int) + 1 ≤ (t.size : Int) := by omega
    have hwr : IntKind.i64.wrap ((i : Int) + 1) = ((i + 1 : Nat) : Int) := by rw [IntWalk.i64_in _ (by omega)]; omega
    have hg12 := Gr.trans hG1 hG2
    go_wp2_with fail
    refine (Next_any s (c + 1 + 1) 3 w2 hS2 (by omega) (by omega)).mono ?_
    rintro e w3 ⟨k, rfl, ⟨hk0, hk1, _⟩, hS3, hG3⟩
    have hk2 := hk1 (by omega)
    have hg := Gr.trans hg12 hG3
    clear hk1 hG1 hG2 hG3 hg12 hS1 hS2
    have hwu : IntKind.i32.wrap ((u[j].toNat : Nat) : Int) = ((u[j].toNat : Nat) : Int) := by
      have := u[j].toNat_lt
      unfold IntKind.wrap
      simp [IntKind.bits, IntKind.signed]
      omega
    have hen := enc_le ((u[j].toNat : Nat) : Int)
    have hx1 : (t.extract 0 i).size = i := by rw [ByteArray.size_extract]; omega
    have hx2 : (t.extract i t.size).size = t.size - i := by rw [ByteArray.size_extract]; omega
    have hx3 : (t.extract (i + 1) t.size).size = t.size - (i + 1) := by rw [ByteArray.size_extract]; omega
    have hs1 : (t.extract 0 i).size + (t.extract (i + 1) t.size).size ≤ t.size := by rw [hx1, hx3]; omega
    have hs2 : (t.extract 0 i).size + (t.extract i t.size).size ≤ t.size := by rw [hx1, hx2]; omega
    have hs0 : (t.extract 0 i).size ≤ t.size := by rw [hx1]; omega
    have hq1 := sz3 (u := u.size) hen hs1
    have hq2 := sz3 (u := u.size) hen hs2
    have hq3 := sz2 (u := u.size) hs1
    have HSZ := Lib.hid (And.intro hq1 (And.intro hq2 hq3))
    obtain ⟨hz1, hz2⟩ := big_no hs1 hen ht
    obtain ⟨_, hz3⟩ := big_no hs2 hen ht
    have HG : ∀ nq, w.grownBy (w3.drewN nq) (some s) := fun nq => ⟨hg.os, hg.tape, hg.output, hg.size, hg.block⟩
    clear hs1 hs2 hs0 hq1 hq2 hq3
    rcases (show k = 0 ∨ k = 1 ∨ k = 2 by omega) with rfl | rfl | rfl
    · go_wp2
      go_quiet (fail)
      go_wp2
      go_ret
      exact ⟨_, rfl, HSZ.out.1, (hS3.mono (by omega)), HG _⟩
    · go_wp2
      go_quiet (fail)
      go_wp2
      go_ret
      exact ⟨_, rfl, HSZ.out.2.1, (hS3.mono (by omega)), HG _⟩
    · go_wp2
      go_quiet (fail)
      go_wp2
      go_ret
      exact ⟨_, rfl, HSZ.out.2.2, (hS3.mono (by omega)), HG _⟩
theorem lays166 : Go.Proofs.Lays.n166 Tryz.prog Tryz.lays156_ren := { Tryz.lays156 with }
theorem byteCells_str (s : ByteArray) : Lib.strCells s = Lib.byteCells s.data.toList := by
  simp [Lib.strCells, Lib.byteCells]
theorem byteCells_app (a b : List UInt8) : Lib.byteCells (a ++ b) = Lib.byteCells a ++ Lib.byteCells b := by
  simp [Lib.byteCells]
/-- the builder at b holds these bytes. -/
def Bd8 (B b : Nat) (l : List UInt8) (w : World) : Prop := Lib.IsBuilder 57 5 B b (Lib.byteCells l) w
theorem WriteString_any (B b : Nat) (l : List UInt8) (s : ByteArray) (w : World) (h : Bd8 B b l w) (hlen : l.length + s.size ≤ 140737488355328) (hBw : B ≤ w.heap.size) :
    Calls Tryz.prog 27 #[.pointer (some ⟨b, 0, none⟩), .string s] w fun e w' => e = .returned (.tuple #[.int .i64 s.size, .nilIface]) ∧ Bd8 B b (l ++ s.data.toList) w' ∧ Below B w w' := by
  refine (Any.Builder_WriteString lays166 Tryz.Builder_Extra_156 B b _ s w h (by simpa [Lib.byteCells] using hlen) hBw).mono ?_
  rintro e w' ⟨rfl, h1, h2⟩
  refine ⟨rfl, ?_, h2⟩
  unfold Bd8
  rw [byteCells_app, ← byteCells_str]
  exact .inr h1
theorem BString_any (B b : Nat) (l : List UInt8) (w : World) (h : Bd8 B b l w) (hBw : B ≤ w.heap.size) :
    Calls Tryz.prog 32 #[.pointer (some ⟨b, 0, none⟩)] w fun e w' => e = .returned (.string ⟨l.toArray⟩) ∧ Below B w w' := Tryz.Builder_String_any B b l w h hBw
theorem Bd8.below {B b : Nat} {l : List UInt8} {w w' : World} (h : Bd8 B b l w) (hb : Below w.heap.size w w') : Bd8 B b l w' := by
  rcases h with ⟨h0, v, h1, h2, h3⟩ | ⟨h0, v, h1, h2, h3⟩
  · exact .inl ⟨h0, v, blk_below h1 hb, own_belowA h2 hb, h3⟩
  · exact .inr ⟨h0, v, blk_below h1 hb, own_belowA h2 hb, h3⟩
theorem BLen_any (B b : Nat) (l : List UInt8) (w : World) (h : Bd8 B b l w) :
    Calls Tryz.prog 31 #[.pointer (some ⟨b, 0, none⟩)] w fun e w' => e = .returned (.int .i64 l.length) ∧ w' = w := by
  have := Tryz.Builder_Len B b _ w h
  rw [show (Lib.byteCells l).length = l.length by simp [Lib.byteCells]] at this
  exact this
end Go.Proofs.YtilhonppgedoiaaGreatDoor
namespace Go.Proofs.YtilhonppgedoiaaGreatDoor
open Go.RowKit Go.Sort Go.Maps
theorem JoinR_any (v : Value) (xs : List ByteArray) (w : World) (h : RecR TS w 0 v xs) (hne : xs ≠ []) (hN : xs.length ≤ 1000000) (hlen : (joinL 32 (xs.map bsOf)).length ≤ 1000000) :
    Calls Tryz.prog 28 #[v] w fun e w' => ∃ r : ByteArray, e = .returned (.string r) ∧ bsOf r = joinL 32 (xs.map bsOf) ++ [10] ∧ Below w.heap.size w w' := by
  obtain ⟨a, c, rfl, hc1, hc2⟩ := h.form
  obtain ⟨x, hx⟩ : ∃ x, xs[0]? = some x := ⟨_, List.getElem?_eq_getElem (List.length_pos_iff.2 hne)⟩
  obtain ⟨b, o, rfl, _, hb, _⟩ := str_at h hx
  have hj : Lib.join (xs.map (·.data.toList)) [32] = joinL 32 (xs.map bsOf) := join_is _
  refine (JoinK_any b o c xs w (fun j y hj => ?_) hb hN hc1 (by rw [hj]; exact hlen)).mono ?_
  · obtain ⟨b', o', e, _, _, hc⟩ := str_at h hj
    injection e with e
    injection e with e1 e2
    subst e1; subst e2
    exact hc
  · rintro e w' ⟨r, rfl, hr, hb'⟩
    exact ⟨r, rfl, by rw [← hj]; exact hr, hb'⟩
theorem TxW.low {w w' : World} {B : Nat} (h : TxW w) (hb : Below B w w') (h1 : 0 < B) (h2 : 1 < B) : TxW w' := by
  refine ⟨?_, ?_⟩
  · have hgn : Tryz.prog.globalNamed "internal/strconv.uint64pow10" = some 0 := by kernel_rfl
    have ht := h.tab
    unfold Lib.TabIs World.var? at ht ⊢
    rw [hgn] at ht ⊢
    simp only [Option.bind_some] at ht ⊢
    rw [hb.block _ h1]
    exact ht
  · obtain ⟨m, hm⟩ := h.max
    refine ⟨m, ?_⟩
    unfold World.cell? at hm ⊢
    rw [hb.block _ h2]
    exact hm
end Go.Proofs.YtilhonppgedoiaaGreatDoor
