/- Texts of the proof of a law, put together, part 38 of 46. Conditions: none beyond those that each theorem names. -/
import Derived.Test.YtilhonppgedoiaaGreatDoorFz13
import Derived.Test.YtilhonppgedoiaaGreatDoorFz15
namespace Go.Proofs.YtilhonppgedoiaaGreatDoor
open Go.RowKit Go.Sort Go.Maps
theorem usesR3_any (k : Int) : ∃ a b c d : Bool, (∀ w, Calls Tryz.prog 46 #[.int .i64 k] w fun e w' => e = .returned (.tuple #[.bool a, .bool b, .bool c, .bool d]) ∧ w = w') ∧ (inB 1 k 5 = true → a = uF k ∧ b = uR k ∧ d = uB k) := usesR_any k
set_option maxHeartbeats 4000000 in
set_option maxRecDepth 100000 in
theorem RFeedFault_any (x : Fed) (w : World) (hz : x.2.2.1.size ≤ 140737488355328 ∧ x.2.2.2.1.size ≤ 140737488355328 ∧ x.2.2.2.2.2.size ≤ 140737488355328) :
    Calls Tryz.prog 59 #[fedV x] w fun e w' => e = .returned (.int .i64 (textF x)) ∧ Below w.heap.size w w' := by
  obtain ⟨z1, z2, z3⟩ := hz
  obtain ⟨F, hF⟩ : ∃ F, F = textF x := ⟨_, rfl⟩
  rw [← hF]
  obtain ⟨at', kd, fd, rk, mn, bd⟩ := x
  change Calls _ _ #[.agg #[.int .i64 at', .int .i64 kd, .string fd, .string rk, .int .i64 mn, .string bd]] _ _
  obtain ⟨w1, hw1⟩ : ∃ w1, w1 = w.alloc (.cells #[.int .i64 at', .int .i64 kd, .string fd, .string rk, .int .i64 mn, .string bd] 37) := ⟨_, rfl⟩
  have HA1 : Hid (Below w.heap.size w w1) := Lib.hid (by rw [hw1]; exact Bl.alloc (Below.refl _ _) _)
  have HXC := Lib.hid (show ∀ W, Below w1.heap.size w1 W → W.cell? ⟨w.heap.size, 0, none⟩ = some (.int .i64 at') ∧ W.cell? ⟨w.heap.size, 1, none⟩ = some (.int .i64 kd) ∧ W.cell? ⟨w.heap.size, 2, none⟩ = some (.string fd) ∧ W.cell? ⟨w.heap.size, 3, none⟩ = some (.string rk) ∧ W.cell? ⟨w.heap.size, 4, none⟩ = some (.int .i64 mn) ∧ W.cell? ⟨w.heap.size, 5, none⟩ = some (.string bd) from fun W hW => by
    have h : W.heap[w.heap.size]? = some (.cells #[.int .i64 at', .int .i64 kd, .string fd, .string rk, .int .i64 mn, .string bd] 37 (0, 0)) := blk_below (by rw [hw1]; exact blk_new w _) hW
    exact ⟨blk_cell h 0, blk_cell h 1, blk_cell h 2, blk_cell h 3, blk_cell h 4, blk_cell h 5⟩)
  obtain ⟨bk, hbk⟩ : ∃ q, q = inB 1 kd 5 := ⟨_, rfl⟩
  obtain ⟨bf, hbf⟩ : ∃ q, q = formB (at', kd, fd, rk, mn, bd) := ⟨_, rfl⟩
  obtain ⟨uf, ur, um, ub, hus, huu⟩ := usesR3_any kd
  obtain ⟨kf, hkf⟩ : ∃ q, q = keyB fd := ⟨_, rfl⟩
  obtain ⟨kr, hkr⟩ : ∃ q, q = keyB rk := ⟨_, rfl⟩
  obtain ⟨kb, hkb⟩ : ∃ q, q = keyB bd := ⟨_, rfl⟩
  have HV : Hid (F = if bk = false then 4 else if bf = false then 3 else if ((uf && !kf) || (ur && !kr) || (ub && !kb)) = true then 5 else 0) := Lib.hid (by
    cases hkk : bk
    · rw [hF]; unfold textF; rw [if_pos (by rw [← hbk]; exact hkk), if_pos rfl]
    obtain ⟨e1, e2, e3⟩ := huu (by rw [← hbk]; exact hkk)
    rw [hF, e1, e2, e3, hkf, hkr, hkb, hbf]
    unfold textF
    rw [if_neg (by rw [← hbk, hkk]; simp), if_neg (show ¬ true = false by simp)]
    rfl)
  have HK : bk = true → 1 ≤ kd ∧ kd ≤ 5 := fun h => by rw [hbk] at h; unfold inB at h; simp at h; exact h
  have HKD := Lib.hid (fun W => in_any kd 1 5 W)
  have HFM : Hid (bk = true → ∀ W, Calls Tryz.prog 49 #[.agg #[.int .i64 at', .int .i64 kd, .string fd, .string rk, .int .i64 mn, .string bd]] W fun e w' => e = .returned (.int .i64 (if bf = true then 0 else 3)) ∧ Below W.heap.size W w') := Lib.hid (fun h W => by rw [hbf]; exact feedForm_any at' kd fd rk mn bd W (HK h).1 (HK h).2)
  have HUS := Lib.hid hus
  have HKF : Hid (∀ W, Calls Tryz.prog 50 #[.string fd] W fun e w' => e = .returned (.bool kf) ∧ Below W.heap.size W w') := Lib.hid (fun W => by rw [hkf]; exact keyR_any fd z1 W)
  have HKR : Hid (∀ W, Calls Tryz.prog 50 #[.string rk] W fun e w' => e = .returned (.bool kr) ∧ Below W.heap.size W w') := Lib.hid (fun W => by rw [hkr]; exact keyR_any rk z2 W)
  have HKB : Hid (∀ W, Calls Tryz.prog 50 #[.string bd] W fun e w' => e = .returned (.bool kb) ∧ Below W.heap.size W w') := Lib.hid (fun W => by rw [hkb]; exact keyR_any bd z3 W)
  rw [← hbk] at HKD
  have HW := Lib.hid hw1
  clear hF hbk hbf hus huu hkf hkr hkb hw1 z1 z2 z3 HK
  cases bk
  · have HFF : Hid (F = 4) := Lib.hid HV.out
    obtain ⟨x0, x1, x2, x3, x4, x5⟩ := HXC.out w1 (Below.refl _ _)
    go_enter Tryz.func59, Tryz.ntmps59
    go_wp2_with fail
    rw [← HW.out]
    go_wp2_with fail
    refine (HUS.out w1).mono ?_
    rintro e w' ⟨rfl, rfl⟩
    go_wp2_with fail
    refine (HKD.out w1).mono ?_
    rintro e w' ⟨rfl, rfl⟩
    go_wp2
    go_ret
    exact ⟨ret_int HFF.out.symm, HA1.out⟩
  have HFM2 := Lib.hid (HFM.out rfl)
  clear HFM
  cases bf
  · have HFM : Hid (∀ W, Calls Tryz.prog 49 #[.agg #[.int .i64 at', .int .i64 kd, .string fd, .string rk, .int .i64 mn, .string bd]] W fun e w' => e = .returned (.int .i64 3) ∧ Below W.heap.size W w') := Lib.hid fun W => HFM2.out W
    clear HFM2
    have HFF : Hid (F = 3) := Lib.hid HV.out
    obtain ⟨x0, x1, x2, x3, x4, x5⟩ := HXC.out w1 (Below.refl _ _)
    go_enter Tryz.func59, Tryz.ntmps59
    go_wp2_with fail
    rw [← HW.out]
    go_wp2_with fail
    refine (HUS.out w1).mono ?_
    rintro e w' ⟨rfl, rfl⟩
    go_wp2_with fail
    refine (HKD.out w1).mono ?_
    rintro e w' ⟨rfl, rfl⟩
    go_wp2_with fail
    refine (HFM.out w1).mono ?_
    rintro e w2 ⟨rfl, hb2⟩
    have HB2 := Lib.hid (Bl.trans HA1.out hb2)
    clear hb2
    go_wp2
    go_ret
    exact ⟨ret_int HFF.out.symm, HB2.out⟩
  have HFM : Hid (∀ W, Calls Tryz.prog 49 #[.agg #[.int .i64 at', .int .i64 kd, .string fd, .string rk, .int .i64 mn, .string bd]] W fun e w' => e = .returned (.int .i64 0) ∧ Below W.heap.size W w') := Lib.hid fun W => HFM2.out W
  clear HFM2
  obtain ⟨x0, x1, x2, x3, x4, x5⟩ := HXC.out w1 (Below.refl _ _)
  go_enter Tryz.func59, Tryz.ntmps59
  go_wp2_with fail
  rw [← HW.out]
  go_wp2_with fail
  refine (HUS.out w1).mono ?_
  rintro e w' ⟨rfl, rfl⟩
  go_wp2_with fail
  refine (HKD.out w1).mono ?_
  rintro e w' ⟨rfl, rfl⟩
  go_wp2_with fail
  refine (HFM.out w1).mono ?_
  rintro e w2 ⟨rfl, hb2⟩
  obtain ⟨w4, rfl⟩ : ∃ w4 : World, w4 = w2 := ⟨_, rfl⟩
  have HBX := Lib.hid hb2
  clear hb2 x0 x1 x2 x3 x4 x5
  go_upto_region 6 with fail
  go_cut [24] from 24 to 49 (fun v24 wx => v24 = .bool ((uf && !kf) || (ur && !kr) || (ub && !kb)) ∧ Hid (Below w4.heap.size w4 wx))
  case first =>
    obtain ⟨y0, y1, y2, y3, y4, y5⟩ := HXC.out w4 HBX.out
    have HB0 := Lib.hid (Below.refl w4.heap.size w4)
    cases uf
    · cases ur
      · cases ub
        · go_wp2_with fail
          go_meet
          case rel => exact ⟨rfl, HB0⟩
        · go_wp2_with fail
          refine (HKB.out w4).mono ?_
          rintro e v3 ⟨rfl, hb⟩
          have HB3 := Lib.hid (Bl.trans HB0.out hb)
          obtain ⟨a3, b3, c3, d3, e3, f3⟩ := HXC.out v3 (Bl.trans HBX.out HB3.out)
          clear hb
          cases kb
          · go_wp2_with fail
            go_meet
            case rel => exact ⟨rfl, HB3⟩
          · go_wp2_with fail
            go_meet
            case rel => exact ⟨rfl, HB3⟩
      · go_wp2_with fail
        refine (HKR.out w4).mono ?_
        rintro e v2 ⟨rfl, hb⟩
        have HB2 := Lib.hid (Bl.trans HB0.out hb)
        obtain ⟨a2, b2, c2, d2, e2, f2⟩ := HXC.out v2 (Bl.trans HBX.out HB2.out)
        clear hb
        cases kr
        · go_wp2_with fail
          go_meet
          case rel => exact ⟨rfl, HB2⟩
        · cases ub
          · go_wp2_with fail
            go_meet
            case rel => exact ⟨rfl, HB2⟩
          · go_wp2_with fail
            refine (HKB.out v2).mono ?_
            rintro e v4 ⟨rfl, hb⟩
            have HB4 := Lib.hid (Bl.trans HB2.out hb)
            obtain ⟨a4, b4, c4, d4, e4, f4⟩ := HXC.out v4 (Bl.trans HBX.out HB4.out)
            clear hb
            cases kb
            · go_wp2_with fail
              go_meet
              case rel => exact ⟨rfl, HB4⟩
            · go_wp2_with fail
              go_meet
              case rel => exact ⟨rfl, HB4⟩
    · go_wp2_with fail
      refine (HKF.out w4).mono ?_
      rintro e v1 ⟨rfl, hb⟩
      have HB1 := Lib.hid (Bl.trans HB0.out hb)
      obtain ⟨a1, b1, c1, d1, e1, f1⟩ := HXC.out v1 (Bl.trans HBX.out HB1.out)
      clear hb
      cases kf
      · go_wp2_with fail
        go_meet
        case rel => exact ⟨rfl, HB1⟩
      · cases ur
        · cases ub
          · go_wp2_with fail
            go_meet
            case rel => exact ⟨rfl, HB1⟩
          · go_wp2_with fail
            refine (HKB.out v1).mono ?_
            rintro e v6 ⟨rfl, hb⟩
            have HB6 := Lib.hid (Bl.trans HB1.out hb)
            obtain ⟨a6, b6, c6, d6, e6, f6⟩ := HXC.out v6 (Bl.trans HBX.out HB6.out)
            clear hb
            cases kb
            · go_wp2_with fail
              go_meet
              case rel => exact ⟨rfl, HB6⟩
            · go_wp2_with fail
              go_meet
              case rel => exact ⟨rfl, HB6⟩
        · go_wp2_with fail
          refine (HKR.out v1).mono ?_
          rintro e v5 ⟨rfl, hb⟩
          have HB5 := Lib.hid (Bl.trans HB1.out hb)
          obtain ⟨a5, b5, c5, d5, e5, f5⟩ := HXC.out v5 (Bl.trans HBX.out HB5.out)
          clear hb
          cases kr
          · go_wp2_with fail
            go_meet
            case rel => exact ⟨rfl, HB5⟩
          · cases ub
            · go_wp2_with fail
              go_meet
              case rel => exact ⟨rfl, HB5⟩
            · go_wp2_with fail
              refine (HKB.out v5).mono ?_
              rintro e v7 ⟨rfl, hb⟩
              have HB7 := Lib.hid (Bl.trans HB5.out hb)
              obtain ⟨a7, b7, c7, d7, e7, f7⟩ := HXC.out v7 (Bl.trans HBX.out HB7.out)
              clear hb
              cases kb
              · go_wp2_with fail
                go_meet
                case rel => exact ⟨rfl, HB7⟩
              · go_wp2_with fail
                go_meet
                case rel => exact ⟨rfl, HB7⟩
  case rest =>
    obtain ⟨rfl, HBC⟩ := hcut
    have HBW := Lib.hid (Bl.trans HA1.out (Bl.trans HBX.out HBC.out))
    obtain ⟨q, hq⟩ : ∃ q, q = ((uf && !kf) || (ur && !kr) || (ub && !kb)) := ⟨_, rfl⟩
    rw [← hq] at HV ⊢
    clear hq HKF HKR HKB HFM HKD
    cases q
    · have HFF : Hid (F = 0) := Lib.hid HV.out
      go_wp2
      go_ret
      exact ⟨ret_int HFF.out.symm, HBW.out⟩
    · have HFF : Hid (F = 5) := Lib.hid HV.out
      go_wp2
      go_ret
      exact ⟨ret_int HFF.out.symm, HBW.out⟩
set_option maxHeartbeats 4000000 in
set_option maxRecDepth 100000 in
theorem RLinesFault_any (l : List Fed) (v : Value) (w : World) (hl : l.length ≤ 1000000) (rl : RecR TFe w 0 v l) (hz : FedZ l) :
    Calls Tryz.prog 21 #[v] w fun e w' => e = .returned (.int .i64 (textsF l)) ∧ Below w.heap.size w w' := by
  have RL := Lib.hid rl
  obtain ⟨fa, fcap, rfl, _, _⟩ := rl.form
  obtain ⟨F, hF⟩ : ∃ F, F = textsF l := ⟨_, rfl⟩
  rw [← hF]
  have HF := Lib.hid hF
  clear rl hF
  by_cases hbig : 5000 < l.length
  case pos =>
    have HFF : Hid (F = 2) := Lib.hid (by rw [HF.out]; unfold textsF; rw [if_pos hbig])
    have e1 : (5000 : Int) < (l.length : Int) := by omega
    clear hbig
    go_enter Tryz.func21, Tryz.ntmps21
    go_wp2
    go_ret
    exact ⟨ret_int HFF.out.symm, Below.refl _ _⟩
  have HF1 : Hid (F = textsF1 l) := Lib.hid (by rw [HF.out]; unfold textsF; rw [if_neg hbig])
  have e1 : ¬ (5000 : Int) < (l.length : Int) := by omega
  clear hbig HF
  go_enter Tryz.func21, Tryz.ntmps21
  go_wp2_with fail
  clear e1
  go_loopw [11] (fun i wr => ∃ k : Nat, k ≤ l.length ∧ i = .int .i64 k ∧ Hid (F = textsF1 (l.drop k)) ∧ Hid (Below w.heap.size w wr)) (fun i _ => l.length - (intOf i).toNat)
  case atStart => exact ⟨0, Nat.zero_le _, rfl, Lib.hid (by rw [HF1.out]; rfl), Lib.hid (Below.refl _ _)⟩
  case round =>
    obtain ⟨k, hk, rfl, hP, HB⟩ := hrel
    by_cases hlt : k < l.length
    case neg =>
      obtain rfl : k = l.length := by omega
      have HG : Hid (F = 0) := Lib.hid (by rw [hP.out, List.drop_length]; rfl)
      go_wp2
      go_ret
      exact ⟨ret_int HG.out.symm, HB.out⟩
    obtain ⟨x, hx⟩ : ∃ x, l[k]? = some x := ⟨_, List.getElem?_eq_getElem hlt⟩
    have hw9 : IntKind.i64.wrap ((k : Int) + 1) = ((k + 1 : Nat) : Int) := by rw [IntWalk.i64_in _ (by omega)]; omega
    have HZ := Lib.hid (hz x (List.mem_of_getElem? hx))
    obtain ⟨b1, o1, rfl, _, hb1, hc1⟩ := (RL.out.below HB.out).at TFe.ok.len hx TFe.ok.pos
    obtain ⟨G, hG⟩ : ∃ G, G = textF x := ⟨_, rfl⟩
    have HGO : Hid ((G = 0 → F = textsF1 (l.drop (k + 1))) ∧ (G ≠ 0 → F = G)) := Lib.hid (by rw [hG]; exact ⟨fun h => by rw [hP.out]; exact textsF1_go hx h, fun h => by rw [hP.out]; exact textsF1_stop hx h⟩)
    have HTF : Hid (∀ W, Calls Tryz.prog 59 #[fedV x] W fun e w' => e = .returned (.int .i64 G) ∧ Below W.heap.size W w') := Lib.hid fun W => by rw [hG]; exact RFeedFault_any x W HZ.out
    clear hx hP HF1 hG HZ
    obtain ⟨at', kd, fd, rk, mn, bd⟩ := x
    have c0 : wr.cell? ⟨b1, o1 + k * 6, none⟩ = some (.int .i64 at') := hc1 0 _ rfl
    have c1 : wr.cell? ⟨b1, o1 + k * 6 + 1, none⟩ = some (.int .i64 kd) := hc1 1 _ rfl
    have c2 : wr.cell? ⟨b1, o1 + k * 6 + 2, none⟩ = some (.string fd) := hc1 2 _ rfl
    have c3 : wr.cell? ⟨b1, o1 + k * 6 + 3, none⟩ = some (.string rk) := hc1 3 _ rfl
    have c4 : wr.cell? ⟨b1, o1 + k * 6 + 4, none⟩ = some (.int .i64 mn) := hc1 4 _ rfl
    have c5 : wr.cell? ⟨b1, o1 + k * 6 + 5, none⟩ = some (.string bd) := hc1 5 _ rfl
    clear hc1
    have HBA := Lib.hid (Bl.alloc HB.out (.cells #[.int .i64 at', .int .i64 kd, .string fd, .string rk, .int .i64 mn, .string bd] 37))
    have HT2 : Hid (Calls Tryz.prog 59 #[.agg #[.int .i64 at', .int .i64 kd, .string fd, .string rk, .int .i64 mn, .string bd]] (wr.alloc (.cells #[.int .i64 at', .int .i64 kd, .string fd, .string rk, .int .i64 mn, .string bd] 37)) fun e w' => e = .returned (.int .i64 G) ∧ Below w.heap.size w w') := Lib.hid ((HTF.out _).mono fun e w' h => ⟨h.1, Bl.trans HBA.out h.2⟩)
    clear HTF
    by_cases h0 : G = 0
    · have HG : Hid (F = textsF1 (l.drop (k + 1))) := Lib.hid (HGO.out.1 h0)
      subst h0
      clear HGO
      go_wp2_with fail
      refine HT2.out.mono ?_
      rintro e w3 ⟨rfl, hb3⟩
      have HB3 := Lib.hid hb3
      clear hb3 HT2
      go_wp2
      go_roundw
      case rel => exact ⟨k + 1, by omega, by go_num, HG, HB3⟩
      case measure => simp [intOf]; omega
    · have HG : Hid (F = G) := Lib.hid (HGO.out.2 h0)
      clear HGO
      go_wp2_with fail
      refine HT2.out.mono ?_
      rintro e w3 ⟨rfl, hb3⟩
      have HB3 := Lib.hid hb3
      clear hb3 HT2
      go_wp2
      go_ret
      exact ⟨ret_int HG.out.symm, HB3.out⟩
end Go.Proofs.YtilhonppgedoiaaGreatDoor
