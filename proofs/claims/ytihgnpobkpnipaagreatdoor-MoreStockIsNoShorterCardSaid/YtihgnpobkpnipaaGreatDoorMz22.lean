/- Texts of the proof of a law, put together, part 22 of 35. Conditions: none beyond those that each theorem names. -/
import Derived.Test.YtihgnpobkpnipaaGreatDoorMz2
import Derived.Test.YtihgnpobkpnipaaGreatDoorMz4
import Derived.Test.YtihgnpobkpnipaaGreatDoorMz8
import Derived.Test.YtihgnpobkpnipaaGreatDoorMz9
import Derived.Test.YtihgnpobkpnipaaGreatDoorMz17
import Derived.Test.YtihgnpobkpnipaaGreatDoorMz20
import Derived.Test.YtihgnpobkpnipaaGreatDoorMz21
import Derived.Deep.RegionLaw
namespace Go.Proofs.YtihgnpobkpnipaaGreatDoor
open Go.RowKit Go.Sort Go.Maps
def StkZ (l : List Stk) : Prop := ∀ x ∈ l, x.1.size ≤ 1000000 ∧ x.2.size ≤ 1000000
/-- what amounts has told. -/
def AmtR (l : List Stk) (B : Nat) (F : Int) (e : Ending) (w' : World) : Prop := ∃ v, e = .returned (.tuple #[v, .int .i64 F]) ∧ (F = 0 → ∃ m, v = .map (some m) ∧ B ≤ m ∧ MapS TMi w' m (mapK l))
theorem AmtR.no {l : List Stk} {B : Nat} {F : Int} {w' : World} {v : Value} (h : F ≠ 0) : AmtR l B F (.returned (.tuple #[v, .int .i64 F])) w' := ⟨v, rfl, fun e => absurd e h⟩
theorem AmtR.yes {l : List Stk} {B m : Nat} {w' : World} (h : B ≤ m) (hM : MapS TMi w' m (mapK l)) : AmtR l B 0 (.returned (.tuple #[.map (some m), .int .i64 0])) w' := ⟨_, rfl, fun _ => ⟨m, rfl, h, hM⟩⟩
set_option maxHeartbeats 8000000 in
set_option maxRecDepth 100000 in
theorem amounts_any (ps : List Prt) (al : List Alt) (vp va : Value) (l : List Stk) (v : Value) (w : World) (hp : ps.length ≤ 100000) (hs : SortP ps) (hc : CatR w vp va ps al) (hl : l.length ≤ 1000) (rl : RecR TPa w 0 v l) (hz : StkZ l) :
    Calls Tryz.prog 66 #[.agg #[vp, va], v] w fun e w' => AmtR l w.heap.size (stksF ps l) e w' ∧ Below w.heap.size w w' := by
  have hmm := @run_makeMap Tryz.prog
  have HHA := Lib.hid fun (k : ByteArray) W (hW : Below w.heap.size w W) => has_any ps al vp va k W (by omega) hs (hc.low hW)
  obtain ⟨a, cap, rfl, _, _⟩ := rl.form
  obtain ⟨pa, pc, rfl, _, _⟩ := hc.p.form
  obtain ⟨aa, ac, rfl, _, _⟩ := hc.a.form
  obtain ⟨wc, hwc⟩ : ∃ wc, wc = w.alloc (.cells #[.slice pa ps.length pc, .slice aa al.length ac] 29) := ⟨_, rfl⟩
  obtain ⟨w2, hw2⟩ : ∃ w2, w2 = wc.alloc (.map #[] 0) := ⟨_, rfl⟩
  have hAc : Below w.heap.size w wc := by rw [hwc]; exact Bl.alloc (Below.refl _ _) _
  have hA2 : Below w.heap.size w w2 := by rw [hw2]; exact Bl.alloc hAc _
  have hx0 : w2.heap[w.heap.size]? = some (.cells #[.slice pa ps.length pc, .slice aa al.length ac] 29 (0, 0)) := by rw [hw2, hwc]; exact blk_old (blk_new w _) _
  have hzc : wc.heap.size = w.heap.size + 1 := by rw [hwc]; simp
  have hz2 : w2.heap.size = w.heap.size + 2 := by rw [hw2]; simp; omega
  have HM2 : Hid (MapS TMi w2 (w.heap.size + 1) (mapK [])) := Lib.hid (by rw [hw2, ← hzc]; exact MapS.made (T := TMi) wc)
  obtain ⟨mb, hmb⟩ : ∃ mb, mb = wc.heap.size := ⟨_, rfl⟩
  have HMB : Hid (mb = w.heap.size + 1) := Lib.hid (by rw [hmb, hzc])
  have HXC := Lib.hid (show ∀ W, w2.grownBy W (some mb) → W.cell? ⟨w.heap.size, 0, none⟩ = some (.slice pa ps.length pc) ∧ W.cell? ⟨w.heap.size, 1, none⟩ = some (.slice aa al.length ac) ∧ w.heap.size < W.heap.size from fun W hW => by
    have h1 := (hW.block w.heap.size (by omega) (by intro e; injection e with e; have := HMB.out; omega)).trans hx0
    exact ⟨blk_cell h1 0, blk_cell h1 1, blk_lt h1⟩)
  have HB2 := Lib.hid (show ∀ W, w2.grownBy W (some mb) → Below w.heap.size w W from fun W hW => Below.trans hA2 (Gr.below hW (by have := HMB.out; omega) (by omega)))
  have RL := Lib.hid rl
  have HZ := Lib.hid hz
  have HW2 := Lib.hid (And.intro hw2 hwc)

  have HMN : Hid (MapS TMi w2 mb (mapK [])) := Lib.hid (by rw [HMB.out]; exact HM2.out)
  obtain ⟨F, hF⟩ : ∃ F, F = stksF ps l := ⟨_, rfl⟩
  rw [← hF]
  have HF1 : Hid (F = stksF1 ps none l) := Lib.hid hF
  have e1 : ¬ (1000 : Int) < (l.length : Int) := by omega
  clear rl hF hc hwc hw2 hAc hA2 hx0 hzc hz2 HM2 hmb hz
  go_enter Tryz.func66, Tryz.ntmps66
  go_wp2_with fail
  rw [← HW2.out.2, ← HW2.out.1, ← HMB.out]
  clear e1
  go_loopw [17] (fun i wr => ∃ k : Nat, k ≤ l.length ∧ i = .int .i64 k ∧ Hid (F = stksF1 ps (prvK l k) (l.drop k)) ∧ Hid (MapS TMi wr mb (mapK (l.take k))) ∧ Hid (w2.grownBy wr (some mb))) (fun i _ => l.length - (intOf i).toNat)
  case atStart => exact ⟨0, Nat.zero_le _, rfl, Lib.hid (by rw [HF1.out]; rfl), HMN, Lib.hid (Gr.refl _ _)⟩
  case round =>
    obtain ⟨k, hk, rfl, hP, HM, HG⟩ := hrel
    by_cases hlt : k < l.length
    case neg =>
      obtain rfl : k = l.length := by omega
      have HF0 : Hid (F = 0) := Lib.hid (by rw [hP.out, List.drop_length]; rfl)
      have HML : Hid (MapS TMi wr mb (mapK l)) := Lib.hid (by have := HM.out; rw [List.take_length] at this; exact this)
      have HBE := Lib.hid (HB2.out wr HG.out)
      go_wp2
      go_ret2
      refine ⟨?_, HBE.out⟩
      rw [HF0.out]
      exact AmtR.yes (by rw [HMB.out]; omega) HML.out
    obtain ⟨x, hx⟩ : ∃ x, l[k]? = some x := ⟨_, List.getElem?_eq_getElem hlt⟩
    have HW9 : Hid (IntKind.i64.wrap ((k : Int) + 1) = ((k + 1 : Nat) : Int)) := Lib.hid (by rw [IntWalk.i64_in _ (by omega)]; omega)
    obtain ⟨z1, z2⟩ := HZ.out x (List.mem_of_getElem? hx)
    have rw' := RL.out.below (HB2.out wr HG.out)
    obtain ⟨b1, o1, rfl, _, hb1, hc1⟩ := rw'.at TPa.ok.len hx TPa.ok.pos
    have HP : Hid (k = 0 ∧ prvK l k = none ∨ ∃ k' p, k = k' + 1 ∧ prvK l k = some p ∧ ∀ W, Below wr.heap.size wr W → W.cell? ⟨b1, o1 + k' * 2, none⟩ = some (.string p)) := Lib.hid (by
      match k with
      | 0 => exact .inl ⟨rfl, rfl⟩
      | k' + 1 =>
        obtain ⟨p, hp⟩ : ∃ x, l[k']? = some x := ⟨_, List.getElem?_eq_getElem (by omega)⟩
        refine .inr ⟨k', p.1, rfl, by show (l[k']?).map (·.1) = _; rw [hp]; rfl, fun W hW => ?_⟩
        obtain ⟨b4, o4, hae, _, hb4, hc4⟩ := rw'.at TPa.ok.len hp TPa.ok.pos
        injection hae with hae
        injection hae with e1 e2 _
        subst e1 e2
        exact ((bcell hW).1 _ _ hb4).trans (hc4 0 _ rfl))
    clear rw'
    obtain ⟨G, hG⟩ : ∃ G, G = stkF ps (prvK l k) x := ⟨_, rfl⟩
    have HGO : Hid ((G = 0 → F = stksF1 ps (prvK l (k + 1)) (l.drop (k + 1))) ∧ (G ≠ 0 → F = G)) := Lib.hid (by rw [hG]; exact ⟨fun h => by rw [hP.out]; exact stksF1_go hx h, fun h => by rw [hP.out]; exact stksF1_stop hx h⟩)
    have HMS := Lib.hid (mapK_snoc hx)
    have HML : Hid ((mapK (l.take k)).length < maxLen) := Lib.hid (by
      have h1 := mapK_len (l.take k)
      rw [List.length_take] at h1
      unfold maxLen; omega)
    clear hx hP HF1
    obtain ⟨ky, pt⟩ := x
    replace z1 : ky.size ≤ 1000000 := z1
    replace z2 : pt.size ≤ 1000000 := z2
    have c0 : wr.cell? ⟨b1, o1 + k * 2, none⟩ = some (.string ky) := hc1 0 _ rfl
    have c1 : wr.cell? ⟨b1, o1 + k * 2 + 1, none⟩ = some (.string pt) := hc1 1 _ rfl
    clear hc1
    obtain ⟨w1, hw1⟩ : ∃ w1, w1 = wr.alloc (.cells #[.string ky, .string pt] 50) := ⟨_, rfl⟩
    have HA1 : Hid (Below wr.heap.size wr w1) := Lib.hid (by rw [hw1]; exact Bl.alloc (Below.refl _ _) _)
    have HGA : Hid (w2.grownBy w1 (some mb)) := Lib.hid (by rw [hw1]; exact Gr.alloc HG.out _)
    have HMA : Hid (MapS TMi w1 mb (mapK (l.take k))) := Lib.hid (by rw [hw1]; exact HM.out.alloc _)
    have HXP := Lib.hid (show ∀ W, Below w1.heap.size w1 W → W.cell? ⟨wr.heap.size, 0, none⟩ = some (.string ky) ∧ W.cell? ⟨wr.heap.size, 1, none⟩ = some (.string pt) from fun W hW => by
      have h : W.heap[wr.heap.size]? = some (.cells #[.string ky, .string pt] 50 (0, 0)) := blk_below (by rw [hw1]; exact blk_new wr _) hW
      exact ⟨blk_cell h 0, blk_cell h 1⟩)
    obtain ⟨n, hn⟩ : ∃ q, q = stkN pt := ⟨_, rfl⟩
    obtain ⟨k1, hk1⟩ : ∃ q, q = hasP ps ky := ⟨_, rfl⟩
    obtain ⟨k2, hk2⟩ : ∃ q, q = (numT 7 pt.data.toList).isSome := ⟨_, rfl⟩
    obtain ⟨k3, hk3⟩ : ∃ q, q = inB 0 n 1000000 := ⟨_, rfl⟩
    obtain ⟨O, hO⟩ : ∃ q, q = stkO (prvK l k) ky := ⟨_, rfl⟩
    have HV : Hid (G = if k1 = false then 8 else if (k2 && k3) = false then 9 else O) := Lib.hid (by rw [hG, hk1, hk2, hk3, hO, hn]; rfl)
    have HK1 : Hid (∀ W, Below w.heap.size w W → Calls Tryz.prog 88 #[.agg #[.slice pa ps.length pc, .slice aa al.length ac], .string ky] W fun e w' => e = .returned (.bool k1) ∧ Below W.heap.size W w') := Lib.hid (fun W hW => by rw [hk1]; exact HHA.out ky W hW)
    have HK2 : Hid (∀ W, Calls Tryz.prog 102 #[.string pt, .int .i64 7] W fun e w' => e = .returned (.tuple #[.int .i64 n, .bool k2]) ∧ Below W.heap.size W w') := Lib.hid (fun W => by rw [hk2, hn]; exact Number_any pt 7 W (by omega) (by decide))
    have HK3 : Hid (∀ W, Calls Tryz.prog 87 #[.int .i64 n, .int .i64 0, .int .i64 1000000] W fun e w' => e = .returned (.bool (!k3)) ∧ W = w') := Lib.hid (fun W => by rw [hk3]; exact Outside_any n 0 1000000 W)
    have HOO := Lib.hid hO
    have HW := Lib.hid hw1
    have HZK : Hid (ky.size ≤ maxLen) := Lib.hid (by unfold maxLen; omega)
    have HMS2 : Hid (mapK (l.take (k + 1)) = (mapK (l.take k)).put ky.data.toList n) := Lib.hid (by rw [HMS.out, hn]; rfl)
    have j1 : (0 : Int) ≤ (k : Int) := by omega
    have j2 : (k : Int) < (l.length : Int) := by omega
    clear hk1 hk2 hk3 hO hn hw1 z1 z2 hG HMS
    obtain ⟨x0, x1⟩ := HXP.out w1 (Below.refl _ _)
    go_wp2_with fail
    rw [← HW.out]
    go_wp2_with fail
    refine (HK2.out w1).mono ?_
    rintro e w3 ⟨rfl, hb3⟩
    have HB3 := Lib.hid hb3
    have HG3 := Lib.hid (Gr.trans HGA.out (Gr.of_below hb3 (some mb)))
    obtain ⟨y0, y1⟩ := HXP.out w3 hb3
    obtain ⟨q0, q1, lC⟩ := HXC.out w3 HG3.out
    have HM3 := Lib.hid (HMA.out.below hb3)
    clear hb3 x0 x1
    go_wp2_with fail
    refine (HK1.out w3 (HB2.out w3 HG3.out)).mono ?_
    rintro e w4 ⟨rfl, hb4⟩
    have HB4 := Lib.hid (Bl.trans HB3.out hb4)
    have HG4 := Lib.hid (Gr.trans HG3.out (Gr.of_below hb4 (some mb)))
    have HM4 := Lib.hid (HM3.out.below hb4)
    have HW4 := Lib.hid (HB2.out w4 HG4.out)
    obtain ⟨t0, t1⟩ := HXP.out w4 HB4.out
    clear hb4 y0 y1 q0 q1 lC HM3
    cases k1
    case false =>
      have HG1 : G = 8 := HV.out
      have HFF : Hid (F = 8) := Lib.hid (by rw [HGO.out.2 (by rw [HG1]; decide), HG1])
      clear HG1
      go_wp2
      go_ret2
      refine ⟨?_, HW4.out⟩
      rw [HFF.out]
      exact AmtR.no (by decide)
    cases k2
    case false =>
      have HG1 : G = 9 := by rw [HV.out]; cases k3 <;> rfl
      have HFF : Hid (F = 9) := Lib.hid (by rw [HGO.out.2 (by rw [HG1]; decide), HG1])
      clear HG1
      go_wp2
      go_ret2
      refine ⟨?_, HW4.out⟩
      rw [HFF.out]
      exact AmtR.no (by decide)
    go_wp2_with fail
    refine (HK3.out w4).mono ?_
    rintro e w5 ⟨rfl, rfl⟩
    cases k3
    case false =>
      have HG1 : G = 9 := HV.out
      have HFF : Hid (F = 9) := Lib.hid (by rw [HGO.out.2 (by rw [HG1]; decide), HG1])
      clear HG1
      go_wp2
      go_ret2
      refine ⟨?_, HW4.out⟩
      rw [HFF.out]
      exact AmtR.no (by decide)
    have HFO : Hid (G = O) := Lib.hid HV.out
    have HRB := Lib.hid (Bl.trans HA1.out HB4.out)
    clear HV HK1 HK2 HK3
    have HPUT : Hid (∀ nq, ∃ w6, (Instr.mapUpdate 126 (.map (some mb)) (.string ky) (.int .i64 n)).run Tryz.prog (w4.drewN nq) = .ok () w6 ∧ MapS TMi w6 mb (mapK (l.take (k + 1))) ∧ w2.grownBy w6 (some mb)) := Lib.hid fun nq => by
      obtain ⟨w6, hr6, hM6, ht6⟩ := (HM4.out.below (Bl.drewN (Below.refl _ _) nq)).put TMi.ok ky HZK.out n HML.out
      exact ⟨w6, hr6, by rw [HMS2.out]; exact hM6, Gr.trans (Gr.trans HG4.out (Gr.of_below (Bl.drewN (Below.refl _ _) nq) _)) ht6.grown⟩
    rcases HP.out with ⟨h0, hn⟩ | ⟨k', p, hkk, hp, hcell⟩
    · have HGF : Hid (F = stksF1 ps (prvK l (k + 1)) (l.drop (k + 1))) := Lib.hid (HGO.out.1 (by rw [HFO.out, HOO.out, hn]; rfl))
      have e1 : ¬ 0 < k := by omega
      have e2 : ¬ (0 : Int) < (k : Int) := by omega
      clear h0 hn
      go_wp2_with fail
      go_quiet (fail)
      rename_i nq
      obtain ⟨w6, hr6, hM6, hG6⟩ := HPUT.out nq
      have HF6 := Lib.hid (And.intro hM6 hG6)
      have u0 := (HXP.out (w4.drewN nq) (Bl.drewN HB4.out nq)).1
      clear e1 e2 hM6 hG6 t0 t1
      have hw9 := HW9.out
      go_wp2
      go_roundw
      case rel => exact ⟨k + 1, by omega, by go_num, HGF, Lib.hid HF6.out.1, Lib.hid HF6.out.2⟩
      case measure => simp [intOf]; omega
    · have hm1 : IntKind.i64.wrap ((k : Int) - 1) = (k' : Int) := by rw [IntWalk.i64_in _ (by omega)]; omega
      have e1 : 0 < k := by omega
      have e2 : (0 : Int) < (k : Int) := by omega
      have d0 := hcell w4 HRB.out
      have i1 : (0 : Int) ≤ (k' : Int) := by omega
      have i2 : (k' : Int) < (l.length : Int) := by omega
      have HFO2 : Hid (G = if blePt ky p = true then 7 else 0) := Lib.hid (by rw [HFO.out, HOO.out, hp]; rfl)
      clear hcell hkk hp
      cases hbl1 : Op.bytesLess ky.toList p.toList <;> cases hbl2 : (ky.toList == p.toList)
      all_goals (
        have HR1 := HFO2.out
        simp only [blePt, hbl1, hbl2, Bool.or_true, Bool.or_false, if_true, Bool.false_eq_true, if_false] at HR1
        have HR2 := Lib.hid HR1
        clear HR1
        go_wp2_with fail
        go_quiet (fail)
        rename_i nq
        obtain ⟨w6, hr6, hM6, hG6⟩ := HPUT.out nq
        have HF6 := Lib.hid (And.intro hM6 hG6)
        have u0 := (HXP.out (w4.drewN nq) (Bl.drewN HB4.out nq)).1
        have HB9 := Lib.hid (Below.trans HW4.out (Bl.drewN (Below.refl w.heap.size w4) nq))
        clear hm1 e1 e2 hM6 hG6 t0 t1
        have hw9 := HW9.out
        first
          | (have HFF : Hid (F = 7) := Lib.hid (by rw [HGO.out.2 (by rw [HR2.out]; decide), HR2.out])
             clear hr6
             go_wp2
             go_ret2
             refine ⟨?_, HB9.out⟩
             rw [HFF.out]
             exact AmtR.no (by decide))
          | (have HGF : Hid (F = stksF1 ps (prvK l (k + 1)) (l.drop (k + 1))) := Lib.hid (HGO.out.1 HR2.out)
             go_wp2
             go_roundw
             case rel => exact ⟨k + 1, by omega, by go_num, HGF, Lib.hid HF6.out.1, Lib.hid HF6.out.2⟩
             case measure => simp [intOf]; omega))
end Go.Proofs.YtihgnpobkpnipaaGreatDoor
namespace Go.Proofs.YtihgnpobkpnipaaGreatDoor
open Go.RowKit Go.Sort
def valT (l : List UInt8) : Int := if (unsign l).2 = true then -(decV 0 (unsign l).1 : Int) else decV 0 (unsign l).1
theorem numT_key {most : Nat} {l : List UInt8} (h0 : (unsign l).1 ≠ []) (h1 : (unsign l).1.length ≤ most) (h2 : ∀ b ∈ (unsign l).1, isDig b = true) :
    (numT most l = some (valT l) ∧ Lib.itoa (valT l) = l) ∨ (numT most l = none ∧ Lib.itoa (valT l) ≠ l) := by
  by_cases h3 : (unsign l).1.head? = some 48 ∧ (1 < (unsign l).1.length ∨ (unsign l).2 = true)
  · have hn : numT most l = none := numT_none fun h => h.2.2.2 h3
    refine .inr ⟨hn, fun e => ?_⟩
    have hd : Lib.decDigits (valT l).natAbs = (unsign l).1 := by
      have := itoa_unsign (valT l)
      rw [e] at this
      rw [this]
    have := numT_itoa (most := most) (n := valT l) (by rw [hd]; exact h1)
    rw [e, hn] at this
    cases this
  · have hn := numT_some ⟨h0, h1, h2, h3⟩
    exact .inl ⟨hn, (itoa_numT hn).1⟩
theorem numT_bad {most : Nat} {l : List UInt8} (h : ¬((unsign l).1 ≠ [] ∧ (unsign l).1.length ≤ most ∧ ∀ b ∈ (unsign l).1, isDig b = true)) : numT most l = none := numT_none fun k => h ⟨k.1, k.2.1, k.2.2.1⟩
theorem atoi_val {l : List UInt8} (h0 : (unsign l).1 ≠ []) (h2 : ∀ b ∈ (unsign l).1, isDig b = true) : Lib.atoi l = some (valT l) := by
  unfold valT unsign at *
  cases l with
  | nil => exact absurd rfl h0
  | cons b r =>
    simp only at h0 h2 ⊢
    by_cases hb : b = 45
    · subst hb
      cases r with
      | nil => exact absurd (by simp) h0
      | cons c r =>
        have h3 : ∀ b ∈ c :: r, isDig b = true := by simpa using h2
        clear h0 h2
        simp only [Lib.atoi, Lib.decNat]
        rw [decFrom_decV _ _ h3]
        simp
    · simp only [if_neg hb] at h0 h2 ⊢
      rw [atoi_dig h0 h2]
      simp
theorem trimMinus_any (s : ByteArray) (w : World) : Calls Tryz.prog 69 #[.string s, .string ⟨#[45]⟩] w fun e w' => e = .returned (.string ⟨(unsign s.data.toList).1.toArray⟩) ∧ w = w' := by
  have h1 : Lib.trimPrefix s.data.toList [45] = (unsign s.data.toList).1 := by
    unfold Lib.trimPrefix Lib.hasPrefix unsign
    cases s.data.toList with
    | nil => simp
    | cons b r =>
      by_cases hb : b = 45
      · subst hb; simp
      · have : ¬ (45 : UInt8) = b := fun e => hb e.symm
        simp [hb, this, List.isPrefixOf]
  refine (Tryz.strings_TrimPrefix s ⟨#[45]⟩ w).mono ?_
  rintro e w' ⟨rfl, rfl⟩
  exact ⟨by rw [show (⟨#[45]⟩ : ByteArray).data.toList = [45] from rfl, h1], rfl⟩
set_option maxHeartbeats 4000000 in
set_option maxRecDepth 100000 in
theorem RNumber_any (s : ByteArray) (most : Nat) (w : World) (hT : TxW w) (hs : s.size ≤ 1000000) (hm : most ≤ 15) :
    Calls Tryz.prog 24 #[.string s, .int .i64 most] w fun e w' => ∃ n : Int, e = .returned (.tuple #[.int .i64 n, .bool (numT most s.data.toList).isSome]) ∧ (∀ q, numT most s.data.toList = some q → q = n) ∧ Below w.heap.size w w' := by
  have HC := Lib.hid (fun W => trimMinus_any s W)
  have HI := Lib.hid fun (n : Int) (W : World) => in_any n 1 most W
  obtain ⟨d, hd⟩ : ∃ d, d = (unsign s.data.toList).1 := ⟨_, rfl⟩
  obtain ⟨ds, hds⟩ : ∃ ds : ByteArray, ds = ⟨d.toArray⟩ := ⟨_, rfl⟩
  have hdd : ds.data.toList = d := by rw [hds]
  have hsz : ds.size = d.length := by rw [← hdd]; exact (Array.length_toList).symm
  have hss : s.data.toList.length = s.size := Array.length_toList
  have hdl : d.length ≤ s.size ∧ s.size ≤ d.length + 1 := by
    rw [hd, ← hss]
    unfold unsign
    cases s.data.toList with
    | nil => simp
    | cons b r =>
      simp only
      by_cases hb : b = 45
      · rw [if_pos hb]; simp
      · rw [if_neg hb]; simp
  rw [← hd, ← hds] at HC
  by_cases h01 : d ≠ [] ∧ d.length ≤ most
  · obtain ⟨h0, h1⟩ := h01
    have hlen1 : 1 ≤ d.length := List.length_pos_iff.2 h0
    have hin : inB 1 (ds.size : Int) most = true := inB_true (by omega) (by omega)
    have HI1 := Lib.hid fun W => HI.out (ds.size : Int) W
    rw [hin] at HI1
    have HTR := Lib.hid (fun W => trimD_any ds W (by omega))
    have htn := trimD_nil ds.data.toList
    by_cases hall : ∀ b ∈ d, isDig b = true
    · rw [htn.2 (by rw [hdd]; exact hall)] at HTR
      have hkey := numT_key (most := most) (by rw [← hd]; exact h0) (by rw [← hd]; exact h1) (by rw [← hd]; exact hall)
      have hat := atoi_val (by rw [← hd]; exact h0) (by rw [← hd]; exact hall)
      have hlt := decV_lt d 0 hall
      have hp15 : 10 ^ d.length ≤ 10 ^ 15 := Nat.pow_le_pow_right (by omega) (by omega)
      have hv : decV 0 d < 1000000000000000 := by
        have : (10 : Nat) ^ 15 = 1000000000000000 := rfl
        omega
      have hvt : -1000000000000000 < valT s.data.toList ∧ valT s.data.toList < 1000000000000000 := by
        unfold valT
        rw [← hd]
        split <;> omega
      have HAT := Lib.hid (fun W => Atoi_any s (valT s.data.toList) W (by omega) hat)
      have HIT := Lib.hid (fun (W : World) (hW : TxW W) => Itoa_any (valT s.data.toList) W hW (by omega) (by omega))
      obtain ⟨it, hit⟩ : ∃ it : ByteArray, it = ⟨(Lib.itoa (valT s.data.toList)).toArray⟩ := ⟨_, rfl⟩
      rw [← hit] at HIT
      have hcmp : (it = s ∧ numT most s.data.toList = some (valT s.data.toList)) ∨ (it ≠ s ∧ numT most s.data.toList = none) := by
        rcases hkey with ⟨a, b⟩ | ⟨a, b⟩
        · refine .inl ⟨?_, a⟩
          rw [hit, b]
        · refine .inr ⟨fun e => b ?_, a⟩
          have e2 := congrArg (fun x : ByteArray => x.data.toList) (hit.symm.trans e)
          exact e2
      have HTX := Lib.hid hT
      have HHD := Lib.hid hd
      clear hkey hat hlt hp15 htn hall hds hdd hsz hss hit hT hvt hv hd
      generalize valT s.data.toList = va at *
      generalize numT most s.data.toList = r at *
      rcases hcmp with ⟨rfl, hr⟩ | ⟨hne, hr⟩
      · have HR := Lib.hid hr
        clear hr
        go_enter Tryz.func24, Tryz.ntmps24
        go_wp2_with fail
        refine (HC.out _).mono ?_
        rintro e w' ⟨rfl, rfl⟩
        go_wp2_with fail
        refine (HI1.out _).mono ?_
        rintro e w' ⟨rfl, rfl⟩
        go_wp2_with fail
        refine (HTR.out _).mono ?_
        rintro e w1 ⟨rfl, hb1⟩
        go_wp2_with fail
        refine (HAT.out _).mono ?_
        rintro e w2 ⟨rfl, hb2⟩
        go_wp2_with fail
        refine (HIT.out _ (HTX.out.below (Bl.trans hb1 hb2))).mono ?_
        rintro e w3 ⟨rfl, hb3⟩
        go_wp2
        go_ret2
        exact ⟨va, by rw [HR.out] <;> rfl, fun q hq => by rw [HR.out] at hq; injection hq with hq; exact hq.symm, Bl.trans (Bl.trans hb1 hb2) hb3⟩
      · have HR := Lib.hid hr
        have hne2 : (it.toList == s.toList) = false := by
          rw [beq_eq_false_iff_ne, ByteArray.toList_eq, ByteArray.toList_eq]
          exact fun e => hne (ByteArray.ext (Array.toList_inj.1 e))
        have hne3 : ¬ it.toList = s.toList := by
          rw [ByteArray.toList_eq, ByteArray.toList_eq]
          exact fun e => hne (ByteArray.ext (Array.toList_inj.1 e))
        clear hr
        go_enter Tryz.func24, Tryz.ntmps24
        go_wp2_with fail
        refine (HC.out _).mono ?_
        rintro e w' ⟨rfl, rfl⟩
        go_wp2_with fail
        refine (HI1.out _).mono ?_
        rintro e w' ⟨rfl, rfl⟩
        go_wp2_with fail
        refine (HTR.out _).mono ?_
        rintro e w1 ⟨rfl, hb1⟩
        go_wp2_with fail
        refine (HAT.out _).mono ?_
        rintro e w2 ⟨rfl, hb2⟩
        go_wp2_with fail
        refine (HIT.out _ (HTX.out.below (Bl.trans hb1 hb2))).mono ?_
        rintro e w3 ⟨rfl, hb3⟩
        go_wp2
        go_ret2
        exact ⟨va, by rw [HR.out] <;> rfl, fun q hq => (by rw [HR.out] at hq; cases hq), Bl.trans (Bl.trans hb1 hb2) hb3⟩
    · have HR : Hid (numT most s.data.toList = none) := Lib.hid (numT_bad (by rw [← hd]; exact fun h => hall h.2.2))
      obtain ⟨b, m, hbm⟩ : ∃ b m, Lib.trimS ds.data.toList digL = b :: m := by
        cases h : Lib.trimS ds.data.toList digL with
        | nil => exact absurd (by rw [← hdd]; exact htn.1 h) hall
        | cons b m => exact ⟨b, m, rfl⟩
      rw [hbm] at HTR
      have f1 : (⟨(b :: m).toArray⟩ : ByteArray).toList.isEmpty = false := by rw [ba_list]; rfl
      have f2 : ¬ (⟨(b :: m).toArray⟩ : ByteArray).toList = [] := by rw [ba_list]; simp
      have f3 : (⟨(b :: m).toArray⟩ : ByteArray) ≠ ⟨#[]⟩ := fun e => by
        have := congrArg (fun x : ByteArray => x.data.toList) e
        cases this
      clear htn hall hbm hds hdd hsz hss hT hd
      generalize numT most s.data.toList = r at *
      generalize (⟨(b :: m).toArray⟩ : ByteArray) = tr at *
      go_enter Tryz.func24, Tryz.ntmps24
      go_wp2_with fail
      refine (HC.out _).mono ?_
      rintro e w' ⟨rfl, rfl⟩
      go_wp2_with fail
      refine (HI1.out _).mono ?_
      rintro e w' ⟨rfl, rfl⟩
      go_wp2_with fail
      refine (HTR.out _).mono ?_
      rintro e w1 ⟨rfl, hb1⟩
      go_wp2
      go_ret2
      exact ⟨0, by rw [HR.out] <;> rfl, fun q hq => (by rw [HR.out] at hq; cases hq), hb1⟩
  · have HR : Hid (numT most s.data.toList = none) := Lib.hid (numT_bad (by rw [← hd]; exact fun h => h01 ⟨h.1, h.2.1⟩))
    have hin : inB 1 (ds.size : Int) most = false := by
      cases hb : inB 1 (ds.size : Int) most with
      | false => rfl
      | true =>
        refine absurd ?_ h01
        unfold inB at hb
        simp at hb
        exact ⟨fun e => by rw [e, List.length_nil] at hsz; omega, by omega⟩
    have HI1 := Lib.hid fun W => HI.out (ds.size : Int) W
    rw [hin] at HI1
    clear hin h01 hds hdd hsz hss hT hd
    generalize numT most s.data.toList = r at *
    go_enter Tryz.func24, Tryz.ntmps24
    go_wp2_with fail
    refine (HC.out _).mono ?_
    rintro e w' ⟨rfl, rfl⟩
    go_wp2_with fail
    refine (HI1.out _).mono ?_
    rintro e w' ⟨rfl, rfl⟩
    go_wp2
    go_ret2
    exact ⟨0, by rw [HR.out] <;> rfl, fun q hq => (by rw [HR.out] at hq; cases hq), Below.refl _ _⟩
end Go.Proofs.YtihgnpobkpnipaaGreatDoor
namespace Go.Proofs.YtihgnpobkpnipaaGreatDoor
open Go.RowKit Go.Sort
theorem TxW.belowB {w w' : World} {B : Nat} (h : TxW w) (hb : Below B w w') (h1 : 3 < B) (h2 : 0 < B) : TxW w' := by
  refine ⟨?_, ?_⟩
  · have hgn : Tryz.prog.globalNamed "internal/strconv.uint64pow10" = some 3 := by kernel_rfl
    have ht := h.tab
    unfold Lib.TabIs World.var? at ht ⊢
    rw [hgn] at ht ⊢
    simp only [Option.bind_some] at ht ⊢
    rw [hb.block _ h1]
    exact ht
  · obtain ⟨m, hm⟩ := h.max
    exact ⟨m, (hb.cell (p := ⟨0, 0, none⟩) h2).trans hm⟩
end Go.Proofs.YtihgnpobkpnipaaGreatDoor
namespace Go.Proofs.YtihgnpobkpnipaaGreatDoor
open Go.RowKit Go.Sort
end Go.Proofs.YtihgnpobkpnipaaGreatDoor
namespace Go.Proofs.YtihgnpobkpnipaaGreatDoor
open Go.RowKit Go.Sort
theorem OwnP.base {w : World} {B B' : Nat} {v : Value} {l : List Pt} (h : OwnP w B v l) (hb : B' ≤ B) : OwnP w B' v l := by
  refine ⟨h.1, ?_⟩
  rcases h.2 with hn | ⟨g, cap, cur, hv, hb2, hg, rest⟩
  · exact .inl hn
  · exact .inr ⟨g, cap, cur, hv, by omega, hg, rest⟩
end Go.Proofs.YtihgnpobkpnipaaGreatDoor
namespace Go.Proofs.YtihgnpobkpnipaaGreatDoor
open Go.RowKit Go.Sort
/-- a row of records that lies in memory. -/
def VOf {α : Type} (T : Rty α) (L : List α) : Value → World → Prop := fun v w => RecR T w 0 v L
theorem VOf.low {α : Type} {T : Rty α} {L : List α} {v : Value} {w w' : World} (h : VOf T L v w) (hb : Below w.heap.size w w') : VOf T L v w' := RecR.below h hb
def VOw {α : Type} (T : Rty α) (B : Nat) (L : List α) : Value → World → Prop := fun v w => OwnR T w B v L
theorem VOw.low {α : Type} {T : Rty α} {B : Nat} {L : List α} {v : Value} {w w' : World} (h : VOw T B L v w) (hb : Below w.heap.size w w') : VOw T B L v w' := OwnR.below h hb
end Go.Proofs.YtihgnpobkpnipaaGreatDoor
