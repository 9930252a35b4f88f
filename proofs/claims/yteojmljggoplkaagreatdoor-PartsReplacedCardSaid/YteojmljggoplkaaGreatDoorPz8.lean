/- Texts of the proof of a law, put together, part 8 of 46. Conditions: none beyond those that each theorem names. -/
import Derived.Test.YteojmljggoplkaaGreatDoorPz1
import Derived.Test.YteojmljggoplkaaGreatDoorPz2
import Derived.Test.YteojmljggoplkaaGreatDoorPz3
import Derived.Test.YteojmljggoplkaaGreatDoorPz7
import Derived.BigQuiet
namespace Go.Proofs.YteojmljggoplkaaGreatDoor
open Go.RowKit Go.Sort
set_option maxHeartbeats 4000000 in
set_option maxRecDepth 100000 in
theorem partFault_any (l : List Prt) (k : Nat) (v : Value) (w : World) (_hl : l.length ≤ 1000000) (hk : k < l.length) (rl : RecR TPt w 0 v l) (hz : PrtZ l) (x : Prt) (hx : l[k]? = some x) :
    Calls Tryz.prog 67 #[v, .int .i64 k] w fun e w' => e = .returned (.int .i64 (prtF (prvP l k) x)) ∧ Below w.heap.size w w' := by
  obtain ⟨a, cap, rfl, _, _⟩ := rl.form
  obtain ⟨z1, z2⟩ := hz x (List.mem_of_getElem? hx)
  obtain ⟨b1, o1, rfl, _, hb1, hc1⟩ := rl.at TPt.ok.len hx TPt.ok.pos
  have HP : Hid (k = 0 ∧ prvP l k = none ∨ ∃ k' p, k = k' + 1 ∧ prvP l k = some p ∧ ∀ W, Below w.heap.size w W → W.cell? ⟨b1, o1 + k' * 4, none⟩ = some (.string p)) := Lib.hid (by
    match k with
    | 0 => exact .inl ⟨rfl, rfl⟩
    | k' + 1 =>
      obtain ⟨p, hp⟩ : ∃ x, l[k']? = some x := ⟨_, List.getElem?_eq_getElem (by omega)⟩
      refine .inr ⟨k', p.1, rfl, by show (l[k']?).map (·.1) = _; rw [hp]; rfl, fun W hW => ?_⟩
      obtain ⟨b4, o4, hae, _, hb4, hc4⟩ := rl.at TPt.ok.len hp TPt.ok.pos
      injection hae with hae
      injection hae with e1 e2 _
      subst e1 e2
      exact ((bcell hW).1 _ _ hb4).trans (hc4 0 _ rfl))
  obtain ⟨F, hF⟩ : ∃ F, F = prtF (prvP l k) x := ⟨_, rfl⟩
  rw [← hF]
  obtain ⟨ky, pk, lv, bk⟩ := x
  have c0 : w.cell? ⟨b1, o1 + k * 4, none⟩ = some (.string ky) := hc1 0 _ rfl
  have c1 : w.cell? ⟨b1, o1 + k * 4 + 1, none⟩ = some (.string pk) := hc1 1 _ rfl
  have c2 : w.cell? ⟨b1, o1 + k * 4 + 2, none⟩ = some (.int .i64 lv) := hc1 2 _ rfl
  have c3 : w.cell? ⟨b1, o1 + k * 4 + 3, none⟩ = some (.int .i64 bk) := hc1 3 _ rfl
  obtain ⟨w1, hw1⟩ : ∃ w1, w1 = w.alloc (.cells #[.string ky, .string pk, .int .i64 lv, .int .i64 bk] 73) := ⟨_, rfl⟩
  have HA1 : Hid (Below w.heap.size w w1) := Lib.hid (by rw [hw1]; exact Bl.alloc (Below.refl _ _) _)
  have HXC := Lib.hid (show ∀ W, Below w1.heap.size w1 W → W.cell? ⟨w.heap.size, 0, none⟩ = some (.string ky) ∧ W.cell? ⟨w.heap.size, 1, none⟩ = some (.string pk) ∧ W.cell? ⟨w.heap.size, 2, none⟩ = some (.int .i64 lv) ∧ W.cell? ⟨w.heap.size, 3, none⟩ = some (.int .i64 bk) from fun W hW => by
    have h : W.heap[w.heap.size]? = some (.cells #[.string ky, .string pk, .int .i64 lv, .int .i64 bk] 73 (0, 0)) := blk_below (by rw [hw1]; exact blk_new w _) hW
    exact ⟨blk_cell h 0, blk_cell h 1, blk_cell h 2, blk_cell h 3⟩)
  obtain ⟨kf, hkf⟩ : ∃ q, q = keyB ky := ⟨_, rfl⟩
  obtain ⟨kp, hkp⟩ : ∃ q, q = keyB pk := ⟨_, rfl⟩
  obtain ⟨il, hil⟩ : ∃ q, q = inB 1 lv 6 := ⟨_, rfl⟩
  obtain ⟨ib, hib⟩ : ∃ q, q = inB 0 bk 720000000 := ⟨_, rfl⟩
  obtain ⟨O, hO⟩ : ∃ q, q = ordP (prvP l k) ky := ⟨_, rfl⟩
  have HV : Hid (F = if kf = false then 5 else if kp = false then 5 else if il = false then 1 else if ib = false then 1 else O) := Lib.hid (by rw [hF, hkf, hkp, hil, hib, hO]; rfl)
  have HK1 : Hid (∀ W, Calls Tryz.prog 106 #[.string ky] W fun e w' => e = .returned (.bool kf) ∧ Below W.heap.size W w') := Lib.hid (fun W => by rw [hkf]; exact IsKey_any ky W z1)
  have HK2 : Hid (∀ W, Calls Tryz.prog 106 #[.string pk] W fun e w' => e = .returned (.bool kp) ∧ Below W.heap.size W w') := Lib.hid (fun W => by rw [hkp]; exact IsKey_any pk W z2)
  have HIL := Lib.hid (fun W => Outside_any lv 1 6 W)
  have HIB := Lib.hid (fun W => Outside_any bk 0 720000000 W)
  rw [← hil] at HIL
  rw [← hib] at HIB
  have HOO := Lib.hid hO
  have HW := Lib.hid hw1
  obtain ⟨x0, x1, x2, x3⟩ := HXC.out w1 (Below.refl _ _)
  have j1 : (0 : Int) ≤ (k : Int) := by omega
  have j2 : (k : Int) < (l.length : Int) := by omega
  clear hF hkf hkp hil hib hO hw1 z1 z2 hx hc1 rl hz
  cases kf
  · have HFF : Hid (F = 5) := Lib.hid HV.out
    go_enter Tryz.func67, Tryz.ntmps67
    go_wp2_with fail
    rw [← HW.out]
    go_wp2_with fail
    refine (HK1.out w1).mono ?_
    rintro e v2 ⟨rfl, hb⟩
    have HWv2 := Lib.hid (Bl.trans HA1.out hb)
    have HRv2 := Lib.hid (hb)
    obtain ⟨x0_0, x0_1, x0_2, x0_3⟩ := HXC.out v2 HRv2.out
    clear hb
    go_wp2
    go_ret
    exact ⟨ret_int HFF.out.symm, HWv2.out⟩
  cases kp
  · have HFF : Hid (F = 5) := Lib.hid HV.out
    go_enter Tryz.func67, Tryz.ntmps67
    go_wp2_with fail
    rw [← HW.out]
    go_wp2_with fail
    refine (HK1.out w1).mono ?_
    rintro e v2 ⟨rfl, hb⟩
    have HWv2 := Lib.hid (Bl.trans HA1.out hb)
    have HRv2 := Lib.hid (hb)
    obtain ⟨x0_0, x0_1, x0_2, x0_3⟩ := HXC.out v2 HRv2.out
    clear hb
    go_wp2_with fail
    refine (HK2.out v2).mono ?_
    rintro e v3 ⟨rfl, hb⟩
    have HWv3 := Lib.hid (Bl.trans HWv2.out hb)
    have HRv3 := Lib.hid (Bl.trans HRv2.out hb)
    obtain ⟨x1_0, x1_1, x1_2, x1_3⟩ := HXC.out v3 HRv3.out
    clear hb
    go_wp2
    go_ret
    exact ⟨ret_int HFF.out.symm, HWv3.out⟩
  cases il
  · have HFF : Hid (F = 1) := Lib.hid HV.out
    go_enter Tryz.func67, Tryz.ntmps67
    go_wp2_with fail
    rw [← HW.out]
    go_wp2_with fail
    refine (HK1.out w1).mono ?_
    rintro e v2 ⟨rfl, hb⟩
    have HWv2 := Lib.hid (Bl.trans HA1.out hb)
    have HRv2 := Lib.hid (hb)
    obtain ⟨x0_0, x0_1, x0_2, x0_3⟩ := HXC.out v2 HRv2.out
    clear hb
    go_wp2_with fail
    refine (HK2.out v2).mono ?_
    rintro e v3 ⟨rfl, hb⟩
    have HWv3 := Lib.hid (Bl.trans HWv2.out hb)
    have HRv3 := Lib.hid (Bl.trans HRv2.out hb)
    obtain ⟨x1_0, x1_1, x1_2, x1_3⟩ := HXC.out v3 HRv3.out
    clear hb
    go_wp2_with fail
    refine (HIL.out v3).mono ?_
    rintro e w' ⟨rfl, rfl⟩
    go_wp2
    go_ret
    exact ⟨ret_int HFF.out.symm, HWv3.out⟩
  cases ib
  · have HFF : Hid (F = 1) := Lib.hid HV.out
    go_enter Tryz.func67, Tryz.ntmps67
    go_wp2_with fail
    rw [← HW.out]
    go_wp2_with fail
    refine (HK1.out w1).mono ?_
    rintro e v2 ⟨rfl, hb⟩
    have HWv2 := Lib.hid (Bl.trans HA1.out hb)
    have HRv2 := Lib.hid (hb)
    obtain ⟨x0_0, x0_1, x0_2, x0_3⟩ := HXC.out v2 HRv2.out
    clear hb
    go_wp2_with fail
    refine (HK2.out v2).mono ?_
    rintro e v3 ⟨rfl, hb⟩
    have HWv3 := Lib.hid (Bl.trans HWv2.out hb)
    have HRv3 := Lib.hid (Bl.trans HRv2.out hb)
    obtain ⟨x1_0, x1_1, x1_2, x1_3⟩ := HXC.out v3 HRv3.out
    clear hb
    go_wp2_with fail
    refine (HIL.out v3).mono ?_
    rintro e w' ⟨rfl, rfl⟩
    go_wp2_with fail
    refine (HIB.out v3).mono ?_
    rintro e w' ⟨rfl, rfl⟩
    go_wp2
    go_ret
    exact ⟨ret_int HFF.out.symm, HWv3.out⟩
  have HFO : Hid (F = O) := Lib.hid HV.out
  clear HV
  rcases HP.out with ⟨h0, hn⟩ | ⟨k', p, hkk, hp, hcell⟩
  · have HFF : Hid (F = 0) := Lib.hid (by rw [HFO.out, HOO.out, hn]; rfl)
    have e1 : ¬ 0 < k := by omega
    have e2 : ¬ (0 : Int) < (k : Int) := by omega
    clear h0 hn
    go_enter Tryz.func67, Tryz.ntmps67
    go_wp2_with fail
    rw [← HW.out]
    go_wp2_with fail
    refine (HK1.out w1).mono ?_
    rintro e v2 ⟨rfl, hb⟩
    have HWv2 := Lib.hid (Bl.trans HA1.out hb)
    have HRv2 := Lib.hid (hb)
    obtain ⟨x0_0, x0_1, x0_2, x0_3⟩ := HXC.out v2 HRv2.out
    clear hb
    go_wp2_with fail
    refine (HK2.out v2).mono ?_
    rintro e v3 ⟨rfl, hb⟩
    have HWv3 := Lib.hid (Bl.trans HWv2.out hb)
    have HRv3 := Lib.hid (Bl.trans HRv2.out hb)
    obtain ⟨x1_0, x1_1, x1_2, x1_3⟩ := HXC.out v3 HRv3.out
    clear hb
    go_wp2_with fail
    refine (HIL.out v3).mono ?_
    rintro e w' ⟨rfl, rfl⟩
    go_wp2_with fail
    refine (HIB.out v3).mono ?_
    rintro e w' ⟨rfl, rfl⟩
    go_wp2_with fail
    go_quiet (fail)
    have HB9 := Lib.hid (fun n => Bl.drewN HWv3.out n)
    go_wp2
    go_ret
    exact ⟨ret_int HFF.out.symm, HB9.out _⟩
  · have hm1 : IntKind.i64.wrap ((k : Int) - 1) = (k' : Int) := by rw [IntWalk.i64_in _ (by omega)]; omega
    have e1 : 0 < k := by omega
    have e2 : (0 : Int) < (k : Int) := by omega
    have i1 : (0 : Int) ≤ (k' : Int) := by omega
    have i2 : (k' : Int) < (l.length : Int) := by omega
    have HCE := Lib.hid hcell
    obtain ⟨ql, hql⟩ : ∃ q, q = Op.bytesLess ky.toList p.toList := ⟨_, rfl⟩
    obtain ⟨qe, hqe⟩ : ∃ q, q = (ky.toList == p.toList) := ⟨_, rfl⟩
    have HFO2 : Hid (F = if (ql || qe) = true then 7 else 0) := Lib.hid (by rw [HFO.out, HOO.out, hp, hql, hqe]; rfl)
    have hqe2 : qe = true → ky.toList = p.toList := fun h => by rw [hqe] at h; simpa using h
    have hqe3 : qe = false → ¬ ky.toList = p.toList := fun h => by rw [hqe] at h; simpa using h
    clear hcell hkk hp
    cases ql
    · cases qe
      · have HFF : Hid (F = 0) := Lib.hid HFO2.out
        have y1 : Op.bytesLess ky.toList p.toList = false := hql.symm
        have y2 : (ky.toList == p.toList) = false := hqe.symm
        have y3 := hqe3 rfl
        clear hql hqe hqe2 hqe3
        go_enter Tryz.func67, Tryz.ntmps67
        go_wp2_with fail
        rw [← HW.out]
        go_wp2_with fail
        refine (HK1.out w1).mono ?_
        rintro e v2 ⟨rfl, hb⟩
        have HWv2 := Lib.hid (Bl.trans HA1.out hb)
        have HRv2 := Lib.hid (hb)
        obtain ⟨x0_0, x0_1, x0_2, x0_3⟩ := HXC.out v2 HRv2.out
        clear hb
        go_wp2_with fail
        refine (HK2.out v2).mono ?_
        rintro e v3 ⟨rfl, hb⟩
        have HWv3 := Lib.hid (Bl.trans HWv2.out hb)
        have HRv3 := Lib.hid (Bl.trans HRv2.out hb)
        obtain ⟨x1_0, x1_1, x1_2, x1_3⟩ := HXC.out v3 HRv3.out
        clear hb
        go_wp2_with fail
        refine (HIL.out v3).mono ?_
        rintro e w' ⟨rfl, rfl⟩
        go_wp2_with fail
        refine (HIB.out v3).mono ?_
        rintro e w' ⟨rfl, rfl⟩
        have d0 := HCE.out v3 HWv3.out
        go_wp2_with fail
        go_quiet (fail)
        have HB9 := Lib.hid (fun n => Bl.drewN HWv3.out n)
        clear hm1 e1 e2
        go_wp2
        go_ret
        exact ⟨ret_int HFF.out.symm, HB9.out _⟩
      · have HFF : Hid (F = 7) := Lib.hid HFO2.out
        have y1 : Op.bytesLess ky.toList p.toList = false := hql.symm
        have y2 : (ky.toList == p.toList) = true := hqe.symm
        clear hql hqe hqe2 hqe3
        go_enter Tryz.func67, Tryz.ntmps67
        go_wp2_with fail
        rw [← HW.out]
        go_wp2_with fail
        refine (HK1.out w1).mono ?_
        rintro e v2 ⟨rfl, hb⟩
        have HWv2 := Lib.hid (Bl.trans HA1.out hb)
        have HRv2 := Lib.hid (hb)
        obtain ⟨x0_0, x0_1, x0_2, x0_3⟩ := HXC.out v2 HRv2.out
        clear hb
        go_wp2_with fail
        refine (HK2.out v2).mono ?_
        rintro e v3 ⟨rfl, hb⟩
        have HWv3 := Lib.hid (Bl.trans HWv2.out hb)
        have HRv3 := Lib.hid (Bl.trans HRv2.out hb)
        obtain ⟨x1_0, x1_1, x1_2, x1_3⟩ := HXC.out v3 HRv3.out
        clear hb
        go_wp2_with fail
        refine (HIL.out v3).mono ?_
        rintro e w' ⟨rfl, rfl⟩
        go_wp2_with fail
        refine (HIB.out v3).mono ?_
        rintro e w' ⟨rfl, rfl⟩
        have d0 := HCE.out v3 HWv3.out
        go_wp2_with fail
        go_quiet (fail)
        have HB9 := Lib.hid (fun n => Bl.drewN HWv3.out n)
        clear hm1 e1 e2
        go_wp2
        go_ret
        exact ⟨ret_int HFF.out.symm, HB9.out _⟩
    · have HFF : Hid (F = 7) := Lib.hid HFO2.out
      have y1 : Op.bytesLess ky.toList p.toList = true := hql.symm
      clear hql hqe hqe2 hqe3
      go_enter Tryz.func67, Tryz.ntmps67
      go_wp2_with fail
      rw [← HW.out]
      go_wp2_with fail
      refine (HK1.out w1).mono ?_
      rintro e v2 ⟨rfl, hb⟩
      have HWv2 := Lib.hid (Bl.trans HA1.out hb)
      have HRv2 := Lib.hid (hb)
      obtain ⟨x0_0, x0_1, x0_2, x0_3⟩ := HXC.out v2 HRv2.out
      clear hb
      go_wp2_with fail
      refine (HK2.out v2).mono ?_
      rintro e v3 ⟨rfl, hb⟩
      have HWv3 := Lib.hid (Bl.trans HWv2.out hb)
      have HRv3 := Lib.hid (Bl.trans HRv2.out hb)
      obtain ⟨x1_0, x1_1, x1_2, x1_3⟩ := HXC.out v3 HRv3.out
      clear hb
      go_wp2_with fail
      refine (HIL.out v3).mono ?_
      rintro e w' ⟨rfl, rfl⟩
      go_wp2_with fail
      refine (HIB.out v3).mono ?_
      rintro e w' ⟨rfl, rfl⟩
      have d0 := HCE.out v3 HWv3.out
      go_wp2_with fail
      go_quiet (fail)
      have HB9 := Lib.hid (fun n => Bl.drewN HWv3.out n)
      clear hm1 e1 e2
      go_wp2
      go_ret
      exact ⟨ret_int HFF.out.symm, HB9.out _⟩
end Go.Proofs.YteojmljggoplkaaGreatDoor
namespace Go.Proofs.YteojmljggoplkaaGreatDoor
open Go.RowKit Go.Sort
theorem OrInt_any (l : List Int) (v : Value) (w : World) (_ : l.length ≤ 1000) (rl : Ints w 0 v l) :
    Calls Tryz.prog 89 #[v] w fun e w' => e = .returned (.int .i64 (orF l)) ∧ w' = w := by
  obtain ⟨a, cap, rfl, hc1, hc2⟩ := Ints.form rl
  go_enter Tryz.func89, Tryz.ntmps89
  go_wp2
  go_loop [8] (fun i => ∃ k : Nat, k ≤ l.length ∧ i = .int .i64 k ∧ Hid (∀ x ∈ l.take k, x = 0)) (fun i => l.length - (intOf i).toNat)
  case atStart => exact ⟨0, Nat.zero_le _, rfl, Lib.hid (by simp)⟩
  case round =>
    obtain ⟨k, hk, rfl, hf⟩ := hrel
    by_cases hlt : k < l.length
    · obtain ⟨x, hx⟩ : ∃ x, l[k]? = some x := ⟨_, List.getElem?_eq_getElem hlt⟩
      obtain ⟨b2, o2, rfl, _, hl2, hx2⟩ := Ints.at rl hx
      by_cases h0 : x = 0
      · subst h0
        have HS := Lib.hid (take_snoc hx)
        clear hx
        go_wp2
        go_round
        case rel => exact ⟨k + 1, by omega, by go_num, Lib.hid (by rw [HS.out]; intro y hy; rcases List.mem_append.1 hy with h | h; exact hf.out y h; simpa using h)⟩
        case measure => simp [intOf]; omega
      · have HX : Hid (orF l = x) := Lib.hid (by
          rw [orF_take hf.out]
          obtain ⟨_, hg⟩ := List.getElem?_eq_some_iff.1 hx
          rw [List.drop_eq_getElem_cons hlt, hg]
          simp [orF, h0])
        have h0' : (x == 0) = false := by simpa using h0
        have h0n : (x != 0) = true := by simpa using h0
        clear hx h0
        go_wp2
        go_ret
        exact ⟨ret_int HX.out.symm, rfl⟩
    · have hk2 : k = l.length := by omega
      subst hk2
      rw [List.take_length] at hf
      have HX : Hid (orF l = 0) := Lib.hid (by
        have := orF_take (l := l) (k := l.length) (by rw [List.take_length]; exact hf.out)
        rw [this]; simp [orF])
      go_wp2
      go_ret
      exact ⟨ret_int HX.out.symm, rfl⟩
end Go.Proofs.YteojmljggoplkaaGreatDoor
