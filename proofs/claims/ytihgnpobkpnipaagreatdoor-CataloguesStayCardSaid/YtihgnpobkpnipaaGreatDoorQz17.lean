/- Texts of the proof of a law, put together, part 17 of 41. Conditions: none beyond those that each theorem names. -/
import Derived.Test.YtihgnpobkpnipaaGreatDoorQz1
import Derived.Test.YtihgnpobkpnipaaGreatDoorQz2
import Derived.Test.YtihgnpobkpnipaaGreatDoorQz9
import Derived.Test.YtihgnpobkpnipaaGreatDoorQz10
import Derived.Test.YtihgnpobkpnipaaGreatDoorQz11
import Derived.Test.YtihgnpobkpnipaaGreatDoorQz12
import Derived.BigQuiet
import Derived.DeepKeys4
namespace Go.Proofs.YtihgnpobkpnipaaGreatDoor
open Go.RowKit Go.Sort
set_option maxHeartbeats 4000000 in
set_option maxRecDepth 100000 in
theorem partFault_any (l : List Prt) (k : Nat) (v : Value) (w : World) (_hl : l.length ≤ 1000000) (hk : k < l.length) (rl : RecR TPt w 0 v l) (hz : PrtZ l) (x : Prt) (hx : l[k]? = some x) :
    Calls Tryz.prog 45 #[v, .int .i64 k] w fun e w' => e = .returned (.int .i64 (prtF (prvP l k) x)) ∧ Below w.heap.size w w' := by
  obtain ⟨a, cap, rfl, _, _⟩ := rl.form
  obtain ⟨z1, z2⟩ := hz x (List.mem_of_getElem? hx)
  obtain ⟨b1, o1, rfl, _, hb1, hc1⟩ := rl.at TPt.ok.len hx TPt.ok.pos
  have HP : Hid (k = 0 ∧ prvP l k = none ∨ ∃ k' p, k = k' + 1 ∧ prvP l k = some p ∧ ∀ W, Below w.heap.size w W → W.cell? ⟨b1, o1 + k' * 4, none⟩ = some (.string p)) := Lib.hid (by
    match k with
    | 0 => exact .inl ⟨rfl, rfl⟩
    | k' + 1 =>
      obtain ⟨p, hp⟩ : ∃ x, l[k']? = some x := ⟨_, List.getElem?_eq_getElem (by omega)⟩
      refine .inr ⟨k', p.1, rfl, by show (l[k']?).map (·.1) = _; rw [hp]; rfl, fun W hW => ?_⟩
      obtain ⟨b4, o4, hae, _, hb4, hc4⟩ := rl.at TPt.ok.len hp TPt.ok.pos
      injection hae with hae
      injection hae with e1 e2 _
      subst e1 e2
      exact ((bcell hW).1 _ _ hb4).trans (hc4 0 _ rfl))
  obtain ⟨F, hF⟩ : ∃ F, F = prtF (prvP l k) x := ⟨_, rfl⟩
  rw [← hF]
  obtain ⟨ky, pk, lv, bk⟩ := x
  have c0 : w.cell? ⟨b1, o1 + k * 4, none⟩ = some (.string ky) := hc1 0 _ rfl
  have c1 : w.cell? ⟨b1, o1 + k * 4 + 1, none⟩ = some (.string pk) := hc1 1 _ rfl
  have c2 : w.cell? ⟨b1, o1 + k * 4 + 2, none⟩ = some (.int .i64 lv) := hc1 2 _ rfl
  have c3 : w.cell? ⟨b1, o1 + k * 4 + 3, none⟩ = some (.int .i64 bk) := hc1 3 _ rfl
  obtain ⟨w1, hw1⟩ : ∃ w1, w1 = w.alloc (.cells #[.string ky, .string pk, .int .i64 lv, .int .i64 bk] 66) := ⟨_, rfl⟩
  have HA1 : Hid (Below w.heap.size w w1) := Lib.hid (by rw [hw1]; exact Bl.alloc (Below.refl _ _) _)
  have HXC := Lib.hid (show ∀ W, Below w1.heap.size w1 W → W.cell? ⟨w.heap.size, 0, none⟩ = some (.string ky) ∧ W.cell? ⟨w.heap.size, 1, none⟩ = some (.string pk) ∧ W.cell? ⟨w.heap.size, 2, none⟩ = some (.int .i64 lv) ∧ W.cell? ⟨w.heap.size, 3, none⟩ = some (.int .i64 bk) from fun W hW => by
    have h : W.heap[w.heap.size]? = some (.cells #[.string ky, .string pk, .int .i64 lv, .int .i64 bk] 66 (0, 0)) := blk_below (by rw [hw1]; exact blk_new w _) hW
    exact ⟨blk_cell h 0, blk_cell h 1, blk_cell h 2, blk_cell h 3⟩)
  obtain ⟨kf, hkf⟩ : ∃ q, q = keyB ky := ⟨_, rfl⟩
  obtain ⟨kp, hkp⟩ : ∃ q, q = keyB pk := ⟨_, rfl⟩
  obtain ⟨il, hil⟩ : ∃ q, q = inB 1 lv 6 := ⟨_, rfl⟩
  obtain ⟨ib, hib⟩ : ∃ q, q = inB 0 bk 720000000 := ⟨_, rfl⟩
  obtain ⟨O, hO⟩ : ∃ q, q = ordP (prvP l k) ky := ⟨_, rfl⟩
  have HV : Hid (F = if kf = false then 5 else if kp = false then 5 else if il = false then 1 else if ib = false then 1 else O) := Lib.hid (by rw [hF, hkf, hkp, hil, hib, hO]; rfl)
  have HK1 : Hid (∀ W, Calls Tryz.prog 86 #[.string ky] W fun e w' => e = .returned (.bool kf) ∧ Below W.heap.size W w') := Lib.hid (fun W => by rw [hkf]; exact IsKey_any ky W z1)
  have HK2 : Hid (∀ W, Calls Tryz.prog 86 #[.string pk] W fun e w' => e = .returned (.bool kp) ∧ Below W.heap.size W w') := Lib.hid (fun W => by rw [hkp]; exact IsKey_any pk W z2)
  have HIL := Lib.hid (fun W => Outside_any lv 1 6 W)
  have HIB := Lib.hid (fun W => Outside_any bk 0 720000000 W)
  rw [← hil] at HIL
  rw [← hib] at HIB
  have HOO := Lib.hid hO
  have HW := Lib.hid hw1
  obtain ⟨x0, x1, x2, x3⟩ := HXC.out w1 (Below.refl _ _)
  have j1 : (0 : Int) ≤ (k : Int) := by omega
  have j2 : (k : Int) < (l.length : Int) := by omega
  clear hF hkf hkp hil hib hO hw1 z1 z2 hx hc1 rl hz
  cases kf
  · have HFF : Hid (F = 5) := Lib.hid HV.out
    go_enter Tryz.func45, Tryz.ntmps45
    go_wp2_with fail
    rw [← HW.out]
    go_wp2_with fail
    refine (HK1.out w1).mono ?_
    rintro e v2 ⟨rfl, hb⟩
    have HWv2 := Lib.hid (Bl.trans HA1.out hb)
    have HRv2 := Lib.hid (hb)
    obtain ⟨x0_0, x0_1, x0_2, x0_3⟩ := HXC.out v2 HRv2.out
    clear hb
    go_wp2
    go_ret
    exact ⟨ret_int HFF.out.symm, HWv2.out⟩
  cases kp
  · have HFF : Hid (F = 5) := Lib.hid HV.out
    go_enter Tryz.func45, Tryz.ntmps45
    go_wp2_with fail
    rw [← HW.out]
    go_wp2_with fail
    refine (HK1.out w1).mono ?_
    rintro e v2 ⟨rfl, hb⟩
    have HWv2 := Lib.hid (Bl.trans HA1.out hb)
    have HRv2 := Lib.hid (hb)
    obtain ⟨x0_0, x0_1, x0_2, x0_3⟩ := HXC.out v2 HRv2.out
    clear hb
    go_wp2_with fail
    refine (HK2.out v2).mono ?_
    rintro e v3 ⟨rfl, hb⟩
    have HWv3 := Lib.hid (Bl.trans HWv2.out hb)
    have HRv3 := Lib.hid (Bl.trans HRv2.out hb)
    obtain ⟨x1_0, x1_1, x1_2, x1_3⟩ := HXC.out v3 HRv3.out
    clear hb
    go_wp2
    go_ret
    exact ⟨ret_int HFF.out.symm, HWv3.out⟩
  cases il
  · have HFF : Hid (F = 1) := Lib.hid HV.out
    go_enter Tryz.func45, Tryz.ntmps45
    go_wp2_with fail
    rw [← HW.out]
    go_wp2_with fail
    refine (HK1.out w1).mono ?_
    rintro e v2 ⟨rfl, hb⟩
    have HWv2 := Lib.hid (Bl.trans HA1.out hb)
    have HRv2 := Lib.hid (hb)
    obtain ⟨x0_0, x0_1, x0_2, x0_3⟩ := HXC.out v2 HRv2.out
    clear hb
    go_wp2_with fail
    refine (HK2.out v2).mono ?_
    rintro e v3 ⟨rfl, hb⟩
    have HWv3 := Lib.hid (Bl.trans HWv2.out hb)
    have HRv3 := Lib.hid (Bl.trans HRv2.out hb)
    obtain ⟨x1_0, x1_1, x1_2, x1_3⟩ := HXC.out v3 HRv3.out
    clear hb
    go_wp2_with fail
    refine (HIL.out v3).mono ?_
    rintro e w' ⟨rfl, rfl⟩
    go_wp2
    go_ret
    exact ⟨ret_int HFF.out.symm, HWv3.out⟩
  cases ib
  · have HFF : Hid (F = 1) := Lib.hid HV.out
    go_enter Tryz.func45, Tryz.ntmps45
    go_wp2_with fail
    rw [← HW.out]
    go_wp2_with fail
    refine (HK1.out w1).mono ?_
    rintro e v2 ⟨rfl, hb⟩
    have HWv2 := Lib.hid (Bl.trans HA1.out hb)
    have HRv2 := Lib.hid (hb)
    obtain ⟨x0_0, x0_1, x0_2, x0_3⟩ := HXC.out v2 HRv2.out
    clear hb
    go_wp2_with fail
    refine (HK2.out v2).mono ?_
    rintro e v3 ⟨rfl, hb⟩
    have HWv3 := Lib.hid (Bl.trans HWv2.out hb)
    have HRv3 := Lib.hid (Bl.trans HRv2.out hb)
    obtain ⟨x1_0, x1_1, x1_2, x1_3⟩ := HXC.out v3 HRv3.out
    clear hb
    go_wp2_with fail
    refine (HIL.out v3).mono ?_
    rintro e w' ⟨rfl, rfl⟩
    go_wp2_with fail
    refine (HIB.out v3).mono ?_
    rintro e w' ⟨rfl, rfl⟩
    go_wp2
    go_ret
    exact ⟨ret_int HFF.out.symm, HWv3.out⟩
  have HFO : Hid (F = O) := Lib.hid HV.out
  clear HV
  rcases HP.out with ⟨h0, hn⟩ | ⟨k', p, hkk, hp, hcell⟩
  · have HFF : Hid (F = 0) := Lib.hid (by rw [HFO.out, HOO.out, hn]; rfl)
    have e1 : ¬ 0 < k := by omega
    have e2 : ¬ (0 : Int) < (k : Int) := by omega
    clear h0 hn
    go_enter Tryz.func45, Tryz.ntmps45
    go_wp2_with fail
    rw [← HW.out]
    go_wp2_with fail
    refine (HK1.out w1).mono ?_
    rintro e v2 ⟨rfl, hb⟩
    have HWv2 := Lib.hid (Bl.trans HA1.out hb)
    have HRv2 := Lib.hid (hb)
    obtain ⟨x0_0, x0_1, x0_2, x0_3⟩ := HXC.out v2 HRv2.out
    clear hb
    go_wp2_with fail
    refine (HK2.out v2).mono ?_
    rintro e v3 ⟨rfl, hb⟩
    have HWv3 := Lib.hid (Bl.trans HWv2.out hb)
    have HRv3 := Lib.hid (Bl.trans HRv2.out hb)
    obtain ⟨x1_0, x1_1, x1_2, x1_3⟩ := HXC.out v3 HRv3.out
    clear hb
    go_wp2_with fail
    refine (HIL.out v3).mono ?_
    rintro e w' ⟨rfl, rfl⟩
    go_wp2_with fail
    refine (HIB.out v3).mono ?_
    rintro e w' ⟨rfl, rfl⟩
    go_wp2_with fail
    go_quiet (fail)
    have HB9 := Lib.hid (fun n => Bl.drewN HWv3.out n)
    go_wp2
    go_ret
    exact ⟨ret_int HFF.out.symm, HB9.out _⟩
  · have hm1 : IntKind.i64.wrap ((k : Int) - 1) = (k' : Int) := by rw [IntWalk.i64_in _ (by omega)]; omega
    have e1 : 0 < k := by omega
    have e2 : (0 : Int) < (k : Int) := by omega
    have i1 : (0 : Int) ≤ (k' : Int) := by omega
    have i2 : (k' : Int) < (l.length : Int) := by omega
    have HCE := Lib.hid hcell
    obtain ⟨ql, hql⟩ : ∃ q, q = Op.bytesLess ky.toList p.toList := ⟨_, rfl⟩
    obtain ⟨qe, hqe⟩ : ∃ q, q = (ky.toList == p.toList) := ⟨_, rfl⟩
    have HFO2 : Hid (F = if (ql || qe) = true then 7 else 0) := Lib.hid (by rw [HFO.out, HOO.out, hp, hql, hqe]; rfl)
    have hqe2 : qe = true → ky.toList = p.toList := fun h => by rw [hqe] at h; simpa using h
    have hqe3 : qe = false → ¬ ky.toList = p.toList := fun h => by rw [hqe] at h; simpa using h
    clear hcell hkk hp
    cases ql
    · cases qe
      · have HFF : Hid (F = 0) := Lib.hid HFO2.out
        have y1 : Op.bytesLess ky.toList p.toList = false := hql.symm
        have y2 : (ky.toList == p.toList) = false := hqe.symm
        have y3 := hqe3 rfl
        clear hql hqe hqe2 hqe3
        go_enter Tryz.func45, Tryz.ntmps45
        go_wp2_with fail
        rw [← HW.out]
        go_wp2_with fail
        refine (HK1.out w1).mono ?_
        rintro e v2 ⟨rfl, hb⟩
        have HWv2 := Lib.hid (Bl.trans HA1.out hb)
        have HRv2 := Lib.hid (hb)
        obtain ⟨x0_0, x0_1, x0_2, x0_3⟩ := HXC.out v2 HRv2.out
        clear hb
        go_wp2_with fail
        refine (HK2.out v2).mono ?_
        rintro e v3 ⟨rfl, hb⟩
        have HWv3 := Lib.hid (Bl.trans HWv2.out hb)
        have HRv3 := Lib.hid (Bl.trans HRv2.out hb)
        obtain ⟨x1_0, x1_1, x1_2, x1_3⟩ := HXC.out v3 HRv3.out
        clear hb
        go_wp2_with fail
        refine (HIL.out v3).mono ?_
        rintro e w' ⟨rfl, rfl⟩
        go_wp2_with fail
        refine (HIB.out v3).mono ?_
        rintro e w' ⟨rfl, rfl⟩
        have d0 := HCE.out v3 HWv3.out
        go_wp2_with fail
        go_quiet (fail)
        have HB9 := Lib.hid (fun n => Bl.drewN HWv3.out n)
        clear hm1 e1 e2
        go_wp2
        go_ret
        exact ⟨ret_int HFF.out.symm, HB9.out _⟩
      · have HFF : Hid (F = 7) := Lib.hid HFO2.out
        have y1 : Op.bytesLess ky.toList p.toList = false := hql.symm
        have y2 : (ky.toList == p.toList) = true := hqe.symm
        clear hql hqe hqe2 hqe3
        go_enter Tryz.func45, Tryz.ntmps45
        go_wp2_with fail
        rw [← HW.out]
        go_wp2_with fail
        refine (HK1.out w1).mono ?_
        rintro e v2 ⟨rfl, hb⟩
        have HWv2 := Lib.hid (Bl.trans HA1.out hb)
        have HRv2 := Lib.hid (hb)
        obtain ⟨x0_0, x0_1, x0_2, x0_3⟩ := HXC.out v2 HRv2.out
        clear hb
        go_wp2_with fail
        refine (HK2.out v2).mono ?_
        rintro e v3 ⟨rfl, hb⟩
        have HWv3 := Lib.hid (Bl.trans HWv2.out hb)
        have HRv3 := Lib.hid (Bl.trans HRv2.out hb)
        obtain ⟨x1_0, x1_1, x1_2, x1_3⟩ := HXC.out v3 HRv3.out
        clear hb
        go_wp2_with fail
        refine (HIL.out v3).mono ?_
        rintro e w' ⟨rfl, rfl⟩
        go_wp2_with fail
        refine (HIB.out v3).mono ?_
        rintro e w' ⟨rfl, rfl⟩
        have d0 := HCE.out v3 HWv3.out
        go_wp2_with fail
        go_quiet (fail)
        have HB9 := Lib.hid (fun n => Bl.drewN HWv3.out n)
        clear hm1 e1 e2
        go_wp2
        go_ret
        exact ⟨ret_int HFF.out.symm, HB9.out _⟩
    · have HFF : Hid (F = 7) := Lib.hid HFO2.out
      have y1 : Op.bytesLess ky.toList p.toList = true := hql.symm
      clear hql hqe hqe2 hqe3
      go_enter Tryz.func45, Tryz.ntmps45
      go_wp2_with fail
      rw [← HW.out]
      go_wp2_with fail
      refine (HK1.out w1).mono ?_
      rintro e v2 ⟨rfl, hb⟩
      have HWv2 := Lib.hid (Bl.trans HA1.out hb)
      have HRv2 := Lib.hid (hb)
      obtain ⟨x0_0, x0_1, x0_2, x0_3⟩ := HXC.out v2 HRv2.out
      clear hb
      go_wp2_with fail
      refine (HK2.out v2).mono ?_
      rintro e v3 ⟨rfl, hb⟩
      have HWv3 := Lib.hid (Bl.trans HWv2.out hb)
      have HRv3 := Lib.hid (Bl.trans HRv2.out hb)
      obtain ⟨x1_0, x1_1, x1_2, x1_3⟩ := HXC.out v3 HRv3.out
      clear hb
      go_wp2_with fail
      refine (HIL.out v3).mono ?_
      rintro e w' ⟨rfl, rfl⟩
      go_wp2_with fail
      refine (HIB.out v3).mono ?_
      rintro e w' ⟨rfl, rfl⟩
      have d0 := HCE.out v3 HWv3.out
      go_wp2_with fail
      go_quiet (fail)
      have HB9 := Lib.hid (fun n => Bl.drewN HWv3.out n)
      clear hm1 e1 e2
      go_wp2
      go_ret
      exact ⟨ret_int HFF.out.symm, HB9.out _⟩
end Go.Proofs.YtihgnpobkpnipaaGreatDoor
namespace Go.Proofs.YtihgnpobkpnipaaGreatDoor
open Go.RowKit Go.Sort
theorem OrInt_any (l : List Int) (v : Value) (w : World) (_ : l.length ≤ 1000) (rl : Ints w 0 v l) :
    Calls Tryz.prog 84 #[v] w fun e w' => e = .returned (.int .i64 (orF l)) ∧ w' = w := by
  obtain ⟨a, cap, rfl, hc1, hc2⟩ := Ints.form rl
  go_enter Tryz.func84, Tryz.ntmps84
  go_wp2
  go_loop [8] (fun i => ∃ k : Nat, k ≤ l.length ∧ i = .int .i64 k ∧ Hid (∀ x ∈ l.take k, x = 0)) (fun i => l.length - (intOf i).toNat)
  case atStart => exact ⟨0, Nat.zero_le _, rfl, Lib.hid (by simp)⟩
  case round =>
    obtain ⟨k, hk, rfl, hf⟩ := hrel
    by_cases hlt : k < l.length
    · obtain ⟨x, hx⟩ : ∃ x, l[k]? = some x := ⟨_, List.getElem?_eq_getElem hlt⟩
      obtain ⟨b2, o2, rfl, _, hl2, hx2⟩ := Ints.at rl hx
      by_cases h0 : x = 0
      · subst h0
        have HS := Lib.hid (take_snoc hx)
        clear hx
        go_wp2
        go_round
        case rel => exact ⟨k + 1, by omega, by go_num, Lib.hid (by rw [HS.out]; intro y hy; rcases List.mem_append.1 hy with h | h; exact hf.out y h; simpa using h)⟩
        case measure => simp [intOf]; omega
      · have HX : Hid (orF l = x) := Lib.hid (by
          rw [orF_take hf.out]
          obtain ⟨_, hg⟩ := List.getElem?_eq_some_iff.1 hx
          rw [List.drop_eq_getElem_cons hlt, hg]
          simp [orF, h0])
        have h0' : (x == 0) = false := by simpa using h0
        have h0n : (x != 0) = true := by simpa using h0
        clear hx h0
        go_wp2
        go_ret
        exact ⟨ret_int HX.out.symm, rfl⟩
    · have hk2 : k = l.length := by omega
      subst hk2
      rw [List.take_length] at hf
      have HX : Hid (orF l = 0) := Lib.hid (by
        have := orF_take (l := l) (k := l.length) (by rw [List.take_length]; exact hf.out)
        rw [this]; simp [orF])
      go_wp2
      go_ret
      exact ⟨ret_int HX.out.symm, rfl⟩
end Go.Proofs.YtihgnpobkpnipaaGreatDoor
namespace Go.Proofs.YtihgnpobkpnipaaGreatDoor
open Go.RowKit Go.Sort Go.Maps
/-! the steps are the fewest -/
theorem val_of {x : Bfs} {s : Bs} {v : Int} (h : x.st.get s = some v) : valB x s = v := by unfold valB; rw [h]; rfl
/-! all chains of one length, then of the next one: the first that ends well -/
end Go.Proofs.YtihgnpobkpnipaaGreatDoor
namespace Go.Proofs.YtihgnpobkpnipaaGreatDoor
open Go.RowKit Go.Sort Go.Maps
/-- sorted, each once. -/
def Srt (l : List Bs) : Prop := l.Pairwise fun a b => a ≤ b ∧ a ≠ b
theorem Srt.nodup {l : List Bs} (h : Srt l) : l.Nodup := h.imp fun q => q.2
theorem Srt.of_sort {l : List Bs} (h : l.Pairwise fun a b => leB a b = true) (n : l.Nodup) : Srt l := (h.and n).imp fun q => ⟨of_decide_eq_true q.1, q.2⟩
theorem Srt.sort {l m : List Bs} (h : Srt l) (hp : m.Perm l) : m.mergeSort leB = l := by
  rw [mergeSort_of_perm hp]
  exact List.mergeSort_of_pairwise (h.imp fun q => decide_eq_true q.1)
theorem Srt.filter {l : List Bs} (h : Srt l) (f : Bs → Bool) : Srt (l.filter f) := List.Pairwise.filter f h
theorem Srt.other {l : List Bs} (h : Srt l) (hl : 1 < l.length) (p : Bs) : ∃ q ∈ l, q ≠ p := by
  match l, h, hl with
  | a :: b :: r, h, _ =>
    have hab := (List.rel_of_pairwise_cons h (List.mem_cons_self ..)).2
    by_cases e : a = p
    · exact ⟨b, by simp, fun q => hab (e.trans q.symm)⟩
    · exact ⟨a, by simp, e⟩
end Go.Proofs.YtihgnpobkpnipaaGreatDoor
namespace Go.Proofs.YtihgnpobkpnipaaGreatDoor
open Go.RowKit Go.Sort Go.Maps
def keysP (ps : List Prt) : List Bs := ps.map fun x => bsOf x.1
theorem twice_nodup : ∀ (l seen : List (Bs × Bs)), twiceB seen l = false → l.Nodup ∧ ∀ x ∈ l, x ∉ seen
  | [], _, _ => ⟨List.nodup_nil, fun _ h => by cases h⟩
  | x :: r, seen, h => by
    rw [twiceB, Bool.or_eq_false_iff] at h
    obtain ⟨h1, h2⟩ := twice_nodup r (x :: seen) h.2
    refine ⟨List.nodup_cons.2 ⟨fun hx => h2 x hx (List.mem_cons_self ..), h1⟩, fun y hy => ?_⟩
    rcases List.mem_cons.1 hy with rfl | hy
    · exact of_decide_eq_false h.1
    · exact fun q => h2 y hy (List.mem_cons_of_mem _ q)
theorem catsF_twice {ps : List Prt} {l : List Alt} (h : catsF ps l = 0) : twiceB [] (waysL l) = false := by
  unfold catsF at h
  split at h
  · exact absurd h (by decide)
  split at h
  · rename_i q; exact absurd h q
  split at h
  · exact absurd h (by decide)
  split at h
  · rename_i q; exact absurd h q
  cases ht : twiceB [] (waysL l) with
  | false => rfl
  | true => rw [ht] at h; exact absurd h (by decide)
theorem srt_sort {l : List Bs} (n : l.Nodup) : Srt (l.mergeSort leB) := by
  have tr : ∀ a b c : List UInt8, leB a b = true → leB b c = true → leB a c = true := fun a b c h1 h2 => by simp only [leB, decide_eq_true_eq] at *; exact List.le_trans h1 h2
  have tot : ∀ a b : List UInt8, (leB a b || leB b a) = true := fun a b => by simp only [leB, Bool.or_eq_true, decide_eq_true_eq]; exact List.le_total a b
  exact Srt.of_sort (List.pairwise_mergeSort tr tot l) ((List.mergeSort_perm l leB).nodup_iff.2 n)
theorem nextL_srt {ps : List Prt} {l : List Alt} (h : catsF ps l = 0) (p : Bs) : Srt (nextL l p) := by
  refine srt_sort ?_
  have h1 := (twice_nodup _ _ (catsF_twice h)).1
  unfold List.Nodup
  rw [List.pairwise_map]
  have h2 : ((waysL l).filter fun x => decide (x.1 = p)).Nodup := List.Pairwise.filter _ h1
  refine List.Pairwise.imp_of_mem ?_ h2
  rintro ⟨a, b⟩ ⟨c, d⟩ ha hc hne e
  have e1 : a = p := of_decide_eq_true (List.mem_filter.1 ha).2
  have e2 : c = p := of_decide_eq_true (List.mem_filter.1 hc).2
  have e3 : b = d := e
  exact hne (by rw [e1, e2, e3])
/-! what is reached, one after the other -/
end Go.Proofs.YtihgnpobkpnipaaGreatDoor
namespace Go.Proofs.YtihgnpobkpnipaaGreatDoor
open Go.RowKit Go.Maps
section
variable {P : Program} {kt ts : TypeId}
theorem keyLits_str (hs : P.underlying ts = some .string) (d : Nat) {a : ByteArray} (ha : a.size ≤ maxLen) : P.keyLits (d + 1) ts [.string a] = some [.string a.data.toList] := by
  simp [Program.keyLits, hs, ha]
/-- the bytes of a key of two strings. -/
def enc2 (a b : Bs) : Bs := keyBytes [.string a, .string b]
theorem keyStruct2 {f1 f2 : _} (hu : P.underlying kt = some (.struct #[f1, f2])) (hs : P.underlying ts = some .string) (h1 : f1.type = ts) (h2 : f2.type = ts) (o1 : f1.offset = 0) (o2 : f2.offset = 1) (n1 : (f1.name != "_") = true) (n2 : (f2.name != "_") = true)
    (hc : P.cellsOf kt = 2) (hcs : P.cellsOf ts = 1) (hk : P.keyType kt = true) (hz : 0 < P.types.size) {a b : ByteArray} (ha : a.size ≤ maxLen) (hb : b.size ≤ maxLen) (hf : (Value.agg #[.string a, .string b]).formed P kt = true) :
    keyOf P kt (.agg #[.string a, .string b]) = some (.string (enc2 a.data.toList b.data.toList)) := by
  obtain ⟨n, hn⟩ : ∃ n, P.types.size = n + 1 := ⟨P.types.size - 1, by omega⟩
  unfold keyOf
  rw [hu]
  simp only [hk, hf, Bool.and_self, if_true]
  rw [hn]
  have e : (Value.agg #[.string a, .string b]).cells.toList = [.string a, .string b] := rfl
  rw [e]
  unfold Program.keyLits
  rw [hu]
  simp [hc, hcs, h1, h2, o1, o2, n1, n2, keyLits_str hs n ha, keyLits_str hs n hb]
  rfl
theorem keyArray2 (hu : P.underlying kt = some (.array 2 ts)) (hs : P.underlying ts = some .string)
    (hc : P.cellsOf kt = 2) (hcs : P.cellsOf ts = 1) (hk : P.keyType kt = true) (hz : 0 < P.types.size) {a b : ByteArray} (ha : a.size ≤ maxLen) (hb : b.size ≤ maxLen) (hf : (Value.agg #[.string a, .string b]).formed P kt = true) :
    keyOf P kt (.agg #[.string a, .string b]) = some (.string (enc2 a.data.toList b.data.toList)) := by
  obtain ⟨n, hn⟩ : ∃ n, P.types.size = n + 1 := ⟨P.types.size - 1, by omega⟩
  unfold keyOf
  rw [hu]
  simp only [hk, hf, Bool.and_self, if_true]
  rw [hn]
  have e : (Value.agg #[.string a, .string b]).cells.toList = [.string a, .string b] := rfl
  rw [e]
  unfold Program.keyLits
  rw [hu]
  simp [hc, hcs, List.range, List.range.loop, keyLits_str hs n ha, keyLits_str hs n hb]
  rfl
end
/-! in memory -/
/-- a type of maps from wide keys. -/
structure WOk {α : Type} (kt : TypeId) (T : Mty α) : Prop where
  K : Keyed Tryz.prog kt
  ut : Tryz.prog.underlying T.t = some (.map kt T.e)
  zv : ∀ w : World, (zeroValue T.e).run Tryz.prog w = .ok (T.V T.z) w
  rd : ∀ a, T.R (T.V a) = some (T.d a, [])
  inv : ∀ v a ps, T.R v = some (T.d a, ps) → v = T.V a
section
variable {α : Type} {kt : TypeId} {T : Mty α} {w w' : World} {b : Nat} {l : Sm α}
/-- block b of w is the map l, by the bytes of its keys. -/
def MapW (kt : TypeId) (T : Mty α) (w : World) (b : Nat) (l : Sm α) : Prop := Sm.Ok l ∧ w.ownsMap Tryz.prog kt T.R b l.length (.map (smD T l))
theorem MapW.made (w : World) : MapW kt T (w.alloc (.map #[] 0)) w.heap.size [] := ⟨Sm.Ok.nil, World.ownsMap_made w _ _ _⟩
theorem MapW.lt (h : MapW kt T w b l) : b < w.heap.size := h.2.lt
theorem MapW.kept {row : Option Nat} (h : MapW kt T w b l) (hg : w.grownBy w' row) (hne : some b ≠ row) : MapW kt T w' b l := ⟨h.1, h.2.kept hg hne⟩
theorem MapW.below (h : MapW kt T w b l) (hb : Below w.heap.size w w') : MapW kt T w' b l := h.kept (Gr.of_below hb none) (by simp)
theorem MapW.alloc (h : MapW kt T w b l) (o : Obj) : MapW kt T (w.alloc o) b l := ⟨h.1, h.2.alloc o⟩
theorem MapW.drew (h : MapW kt T w b l) : MapW kt T w.drew b l := h
theorem MapW.look (h : MapW kt T w b l) (hT : WOk kt T) {k : Value} {s : Bs} (hk : keyOf Tryz.prog kt k = some (.string s)) : (Instr.lookup T.t (.map (some b)) k false).run Tryz.prog w = .ok (T.V ((l.get s).getD T.z)) w := by
  obtain ⟨v, ps, hrun, hv⟩ := h.2.lookup hT.K hT.ut (hT.zv w) (hT.rd T.z) hk
  rw [smD_get] at hv
  rw [hrun]
  cases hg : l.get s with
  | none => rw [hg] at hv; rw [hT.inv _ _ _ hv]; rfl
  | some x => rw [hg] at hv; rw [hT.inv _ _ _ hv]; rfl
theorem MapW.look_ok (h : MapW kt T w b l) (hT : WOk kt T) {k : Value} {s : Bs} (hk : keyOf Tryz.prog kt k = some (.string s)) : (Instr.lookup T.t (.map (some b)) k true).run Tryz.prog w = .ok (.tuple #[T.V ((l.get s).getD T.z), .bool (l.has s)]) w := by
  obtain ⟨v, ps, hrun, hv⟩ := h.2.look_ok hT.K hT.ut (hT.zv w) (hT.rd T.z) hk
  rw [smD_get] at hv
  rw [smD_has] at hrun
  rw [hrun]
  cases hg : l.get s with
  | none => rw [hg] at hv; rw [hT.inv _ _ _ hv]; rfl
  | some x => rw [hg] at hv; rw [hT.inv _ _ _ hv]; rfl
theorem ownW_exact {n : Nat} {R : Value → Option (DataW Unit × List MemPlace)} {es : List (Lit × DataW Unit)} (h : w.ownsMap Tryz.prog kt R b n (.map es)) : w.ownsMap Tryz.prog kt R b es.length (.map es) := by
  obtain ⟨xs, clock, hb, F, hs, hD⟩ := h
  refine ⟨xs, clock, hb, F, ?_, hD⟩
  injection hD with hD
  rw [hD, length_sorted]; simp
theorem MapW.put (h : MapW kt T w b l) (hT : WOk kt T) {k : Value} {s : Bs} (hk : keyOf Tryz.prog kt k = some (.string s)) (x : α) (hl : l.length < maxLen) :
    ∃ w', (Instr.mapUpdate T.t (.map (some b)) k (T.V x)).run Tryz.prog w = .ok () w' ∧ MapW kt T w' b (l.put s x) ∧ w.mapTurned w' b := by
  obtain ⟨w', hrun, h1, h2⟩ := h.2.store hT.K hT.ut hl hk (hT.rd x)
  rw [smD_put] at h1
  have h3 := ownW_exact h1
  have e : (smD T (l.put s x)).length = (l.put s x).length := by simp [smD]
  rw [e] at h3
  exact ⟨w', hrun, ⟨h.1.put _ _, h3⟩, h2⟩
end
end Go.Proofs.YtihgnpobkpnipaaGreatDoor
