/- Texts of the proof of a law, put together, part 23 of 35. Conditions: none beyond those that each theorem names. -/
import Derived.Test.YtihgnpobkpnipaaGreatDoorMz4
import Derived.Test.YtihgnpobkpnipaaGreatDoorMz5
import Derived.Test.YtihgnpobkpnipaaGreatDoorMz6
import Derived.Test.YtihgnpobkpnipaaGreatDoorMz8
import Derived.Test.YtihgnpobkpnipaaGreatDoorMz22
import Derived.Deep.RegionLaw
namespace Go.Proofs.YtihgnpobkpnipaaGreatDoor
open Go.RowKit Go.Sort
set_option maxHeartbeats 8000000 in
set_option maxRecDepth 100000 in
theorem stockFault_any (ps : List Prt) (al : List Alt) (vp va : Value) (l : List Stk) (v : Value) (w : World) (hT : TxW w) (hp : ps.length ≤ 100000) (hc : CatR w vp va ps al) (hl : l.length ≤ 1000) (rl : RecR TPa w 0 v l) (hz : StkZ l) :
    Calls Tryz.prog 65 #[.agg #[vp, va], v] w fun e w' => e = .returned (.int .i64 (stksF ps l)) ∧ Below w.heap.size w w' := by
  have HHA := Lib.hid fun (k : ByteArray) W (hW : Below w.heap.size w W) => HasPart_any ps al vp va k W (by omega) (hc.low hW)
  have HNU := Lib.hid fun (k : ByteArray) (hk : k.size ≤ 1000000) W (hW : Below w.heap.size w W) => RNumber_any k 7 W (hT.below hW) hk (by decide)
  obtain ⟨a, cap, rfl, _, _⟩ := rl.form
  obtain ⟨pa, pc, rfl, _, _⟩ := hc.p.form
  obtain ⟨aa, ac, rfl, _, _⟩ := hc.a.form
  obtain ⟨w2, hw2⟩ : ∃ w2, w2 = w.alloc (.cells #[.slice pa ps.length pc, .slice aa al.length ac] 29) := ⟨_, rfl⟩
  have hA2 : Below w.heap.size w w2 := by rw [hw2]; exact Bl.alloc (Below.refl _ _) _
  have hx0 : w2.heap[w.heap.size]? = some (.cells #[.slice pa ps.length pc, .slice aa al.length ac] 29 (0, 0)) := by rw [hw2]; exact blk_new w _
  have HXC := Lib.hid (show ∀ W, Below w2.heap.size w2 W → W.cell? ⟨w.heap.size, 0, none⟩ = some (.slice pa ps.length pc) ∧ W.cell? ⟨w.heap.size, 1, none⟩ = some (.slice aa al.length ac) ∧ w.heap.size < W.heap.size from fun W hW => ⟨blk_cell (blk_below hx0 hW) 0, blk_cell (blk_below hx0 hW) 1, blk_lt (blk_below hx0 hW)⟩)
  have HA2 := Lib.hid hA2
  have RL := Lib.hid rl
  have HZ := Lib.hid hz
  have HW2 := Lib.hid hw2
  obtain ⟨F, hF⟩ : ∃ F, F = stksF ps l := ⟨_, rfl⟩
  rw [← hF]
  have HF1 : Hid (F = stksF1 ps none l) := Lib.hid hF
  have e1 : ¬ (1000 : Int) < (l.length : Int) := by omega
  clear rl hF hc hw2 hA2 hx0 hz hT
  go_enter Tryz.func65, Tryz.ntmps65
  go_wp2_with fail
  rw [← HW2.out]
  clear e1
  go_loopw [14] (fun i wr => ∃ k : Nat, k ≤ l.length ∧ i = .int .i64 k ∧ Hid (F = stksF1 ps (prvK l k) (l.drop k)) ∧ Hid (Below w2.heap.size w2 wr)) (fun i _ => l.length - (intOf i).toNat)
  case atStart => exact ⟨0, Nat.zero_le _, rfl, Lib.hid (by rw [HF1.out]; rfl), Lib.hid (Below.refl _ _)⟩
  case round =>
    obtain ⟨k, hk, rfl, hP, HB⟩ := hrel
    have HBW := Lib.hid (Bl.trans HA2.out HB.out)
    by_cases hlt : k < l.length
    case neg =>
      obtain rfl : k = l.length := by omega
      have HF0 : Hid (F = 0) := Lib.hid (by rw [hP.out, List.drop_length]; rfl)
      go_wp2
      go_ret
      exact ⟨ret_int HF0.out.symm, HBW.out⟩
    obtain ⟨x, hx⟩ : ∃ x, l[k]? = some x := ⟨_, List.getElem?_eq_getElem hlt⟩
    have HW9 : Hid (IntKind.i64.wrap ((k : Int) + 1) = ((k + 1 : Nat) : Int)) := Lib.hid (by rw [IntWalk.i64_in _ (by omega)]; omega)
    obtain ⟨z1, z2⟩ := HZ.out x (List.mem_of_getElem? hx)
    have rw' := RL.out.below HBW.out
    obtain ⟨b1, o1, rfl, _, hb1, hc1⟩ := rw'.at TPa.ok.len hx TPa.ok.pos
    have HP : Hid (k = 0 ∧ prvK l k = none ∨ ∃ k' p, k = k' + 1 ∧ prvK l k = some p ∧ ∀ W, Below wr.heap.size wr W → W.cell? ⟨b1, o1 + k' * 2, none⟩ = some (.string p)) := Lib.hid (by
      match k with
      | 0 => exact .inl ⟨rfl, rfl⟩
      | k' + 1 =>
        obtain ⟨p, hp⟩ : ∃ x, l[k']? = some x := ⟨_, List.getElem?_eq_getElem (by omega)⟩
        refine .inr ⟨k', p.1, rfl, by show (l[k']?).map (·.1) = _; rw [hp]; rfl, fun W hW => ?_⟩
        obtain ⟨b4, o4, hae, _, hb4, hc4⟩ := rw'.at TPa.ok.len hp TPa.ok.pos
        injection hae with hae
        injection hae with e1 e2 _
        subst e1 e2
        exact ((bcell hW).1 _ _ hb4).trans (hc4 0 _ rfl))
    clear rw'
    obtain ⟨G, hG⟩ : ∃ G, G = stkF ps (prvK l k) x := ⟨_, rfl⟩
    have HGO : Hid ((G = 0 → F = stksF1 ps (prvK l (k + 1)) (l.drop (k + 1))) ∧ (G ≠ 0 → F = G)) := Lib.hid (by rw [hG]; exact ⟨fun h => by rw [hP.out]; exact stksF1_go hx h, fun h => by rw [hP.out]; exact stksF1_stop hx h⟩)
    clear hx hP HF1
    obtain ⟨ky, pt⟩ := x
    have c0 : wr.cell? ⟨b1, o1 + k * 2, none⟩ = some (.string ky) := hc1 0 _ rfl
    have c1 : wr.cell? ⟨b1, o1 + k * 2 + 1, none⟩ = some (.string pt) := hc1 1 _ rfl
    clear hc1
    obtain ⟨w1, hw1⟩ : ∃ w1, w1 = wr.alloc (.cells #[.string ky, .string pt] 50) := ⟨_, rfl⟩
    have HA1 : Hid (Below wr.heap.size wr w1) := Lib.hid (by rw [hw1]; exact Bl.alloc (Below.refl _ _) _)
    have HBA : Hid (Below w2.heap.size w2 w1) := Lib.hid (Bl.trans HB.out HA1.out)
    have HXP := Lib.hid (show ∀ W, Below w1.heap.size w1 W → W.cell? ⟨wr.heap.size, 0, none⟩ = some (.string ky) ∧ W.cell? ⟨wr.heap.size, 1, none⟩ = some (.string pt) from fun W hW => by
      have h : W.heap[wr.heap.size]? = some (.cells #[.string ky, .string pt] 50 (0, 0)) := blk_below (by rw [hw1]; exact blk_new wr _) hW
      exact ⟨blk_cell h 0, blk_cell h 1⟩)
    obtain ⟨k1, hk1⟩ : ∃ q, q = hasP ps ky := ⟨_, rfl⟩
    obtain ⟨k2, hk2⟩ : ∃ q, q = (numT 7 pt.data.toList).isSome := ⟨_, rfl⟩
    obtain ⟨O, hO⟩ : ∃ q, q = stkO (prvK l k) ky := ⟨_, rfl⟩
    have HV : Hid (G = if k1 = false then 8 else if (k2 && inB 0 (stkN pt) 1000000) = false then 9 else O) := Lib.hid (by rw [hG, hk1, hk2, hO]; rfl)
    have HK1 : Hid (∀ W, Below w.heap.size w W → Calls Tryz.prog 42 #[.agg #[.slice pa ps.length pc, .slice aa al.length ac], .string ky] W fun e w' => e = .returned (.bool k1) ∧ Below W.heap.size W w') := Lib.hid (fun W hW => by rw [hk1]; exact HHA.out ky W hW)
    have HK2 : Hid (∀ W, Below w.heap.size w W → Calls Tryz.prog 24 #[.string pt, .int .i64 7] W fun e w' => (∃ n : Int, e = .returned (.tuple #[.int .i64 n, .bool k2]) ∧ (k2 = true → n = stkN pt)) ∧ Below W.heap.size W w') := Lib.hid (fun W hW => by
      refine (HNU.out pt z2 W hW).mono ?_
      rintro e w' ⟨n, he, hn, hb⟩
      refine ⟨⟨n, by rw [he, hk2], fun h => ?_⟩, hb⟩
      obtain ⟨q, hq⟩ := Option.isSome_iff_exists.1 (hk2.symm.trans h)
      rw [← hn q hq]
      unfold stkN
      rw [hq]
      rfl)
    have HK3 : Hid (∀ n W, Calls Tryz.prog 41 #[.int .i64 n, .int .i64 0, .int .i64 1000000] W fun e w' => e = .returned (.bool (inB 0 n 1000000)) ∧ W = w') := Lib.hid (fun n W => in_any n 0 1000000 W)
    have HOO := Lib.hid hO
    have HW := Lib.hid hw1
    have j1 : (0 : Int) ≤ (k : Int) := by omega
    have j2 : (k : Int) < (l.length : Int) := by omega
    clear hk1 hk2 hO hw1 z1 z2 hG
    obtain ⟨x0, x1⟩ := HXP.out w1 (Below.refl _ _)
    go_wp2_with fail
    rw [← HW.out]
    go_wp2_with fail
    refine (HK2.out w1 (Bl.trans HA2.out HBA.out)).mono ?_
    rintro e w3 ⟨⟨n, rfl, hn⟩, hb3⟩
    have HNN := Lib.hid hn
    have HB3 := Lib.hid hb3
    have HG3 := Lib.hid (Bl.trans HBA.out hb3)
    obtain ⟨y0, y1⟩ := HXP.out w3 hb3
    obtain ⟨q0, q1, lC⟩ := HXC.out w3 HG3.out
    clear hb3 x0 x1 hn
    go_wp2_with fail
    refine (HK1.out w3 (Bl.trans HA2.out HG3.out)).mono ?_
    rintro e w4 ⟨rfl, hb4⟩
    have HB4 := Lib.hid (Bl.trans HB3.out hb4)
    have HG4 := Lib.hid (Bl.trans HG3.out hb4)
    have HW4 := Lib.hid (Bl.trans HA2.out HG4.out)
    obtain ⟨t0, t1⟩ := HXP.out w4 HB4.out
    clear hb4 y0 y1 q0 q1 lC
    cases k1
    case false =>
      have HG1 : G = 8 := HV.out
      have HFF : Hid (F = 8) := Lib.hid (by rw [HGO.out.2 (by rw [HG1]; decide), HG1])
      clear HG1
      go_wp2
      go_ret
      exact ⟨ret_int HFF.out.symm, HW4.out⟩
    cases k2
    case false =>
      have HG1 : G = 9 := HV.out
      have HFF : Hid (F = 9) := Lib.hid (by rw [HGO.out.2 (by rw [HG1]; decide), HG1])
      clear HG1
      go_wp2
      go_ret
      exact ⟨ret_int HFF.out.symm, HW4.out⟩
    obtain rfl : n = stkN pt := HNN.out rfl
    obtain ⟨nn, hnn⟩ : ∃ q, q = stkN pt := ⟨_, rfl⟩
    rw [← hnn] at HV ⊢
    obtain ⟨k3, hk3⟩ : ∃ q, q = inB 0 nn 1000000 := ⟨_, rfl⟩
    have HK4 := Lib.hid (HK3.out nn w4)
    rw [← hk3] at HK4 HV
    clear HNN hnn hk3
    go_wp2_with fail
    refine HK4.out.mono ?_
    rintro e w5 ⟨rfl, rfl⟩
    clear HK4
    cases k3
    case false =>
      have HG1 : G = 9 := HV.out
      have HFF : Hid (F = 9) := Lib.hid (by rw [HGO.out.2 (by rw [HG1]; decide), HG1])
      clear HG1
      go_wp2
      go_ret
      exact ⟨ret_int HFF.out.symm, HW4.out⟩
    have HFO : Hid (G = O) := Lib.hid HV.out
    have HRB := Lib.hid (Bl.trans HA1.out HB4.out)
    clear HV HK1 HK2 HK3
    rcases HP.out with ⟨h0, hn⟩ | ⟨k', p, hkk, hp, hcell⟩
    · have HGF : Hid (F = stksF1 ps (prvK l (k + 1)) (l.drop (k + 1))) := Lib.hid (HGO.out.1 (by rw [HFO.out, HOO.out, hn]; rfl))
      have e1 : ¬ 0 < k := by omega
      have e2 : ¬ (0 : Int) < (k : Int) := by omega
      clear h0 hn
      go_wp2_with fail
      go_quiet (fail)
      have HB9 := Lib.hid (fun n => Bl.drewN HG4.out n)
      clear e1 e2
      have hw9 := HW9.out
      go_wp2
      go_roundw
      case rel => exact ⟨k + 1, by omega, by go_num, HGF, Lib.hid (HB9.out _)⟩
      case measure => simp [intOf]; omega
    · have hm1 : IntKind.i64.wrap ((k : Int) - 1) = (k' : Int) := by rw [IntWalk.i64_in _ (by omega)]; omega
      have e1 : 0 < k := by omega
      have e2 : (0 : Int) < (k : Int) := by omega
      have d0 := hcell w4 HRB.out
      have i1 : (0 : Int) ≤ (k' : Int) := by omega
      have i2 : (k' : Int) < (l.length : Int) := by omega
      have HFO2 : Hid (G = if blePt ky p = true then 7 else 0) := Lib.hid (by rw [HFO.out, HOO.out, hp]; rfl)
      clear hcell hkk hp
      cases hbl1 : Op.bytesLess ky.toList p.toList <;> cases hbl2 : (ky.toList == p.toList)
      all_goals (
        have HR1 := HFO2.out
        simp only [blePt, hbl1, hbl2, Bool.or_true, Bool.or_false, if_true, Bool.false_eq_true, if_false] at HR1
        have HR2 := Lib.hid HR1
        clear HR1
        go_wp2_with fail
        go_quiet (fail)
        have HB9 := Lib.hid (fun n => Bl.drewN HG4.out n)
        have HB8 := Lib.hid (fun n => Bl.drewN HW4.out n)
        clear hm1 e1 e2
        have hw9 := HW9.out
        go_wp2
        first
          | (have HFF : Hid (F = 7) := Lib.hid (by rw [HGO.out.2 (by rw [HR2.out]; decide), HR2.out])
             go_ret
             exact ⟨ret_int HFF.out.symm, HB8.out _⟩)
          | (have HGF : Hid (F = stksF1 ps (prvK l (k + 1)) (l.drop (k + 1))) := Lib.hid (HGO.out.1 HR2.out)
             go_roundw
             case rel => exact ⟨k + 1, by omega, by go_num, HGF, Lib.hid (HB9.out _)⟩
             case measure => simp [intOf]; omega))
def VTwo (B : Nat) (a b : Int) : Value → World → Prop := fun v w => ∃ g, v = .slice (some ⟨g, 0, none⟩) 2 2 ∧ w.heap[g]? = some (.cells #[.int .i64 a, .int .i64 b] 31 (0, 0)) ∧ B ≤ g
theorem VTwo.low {B : Nat} {a b : Int} {v : Value} {w w' : World} (h : VTwo B a b v w) (hb : Below w.heap.size w w') : VTwo B a b v w' := by
  obtain ⟨g, h1, h2, h3⟩ := h
  exact ⟨g, h1, blk_below h2 hb, h3⟩
def shrF (ps : List Prt) (need hv : List Stk) : Int := orF [stksF ps need, stksF ps hv]
set_option maxHeartbeats 4000000 in
set_option maxRecDepth 100000 in
theorem ShortFault_any (ps : List Prt) (al : List Alt) (vp va : Value) (need hv : List Stk) (vn vh : Value) (w : World) (hT : TxW w) (hp : ps.length ≤ 100000) (hc : CatR w vp va ps al) (hl : need.length ≤ 1000) (hl2 : hv.length ≤ 1000) (rl : RecR TPa w 0 vn need) (rl2 : RecR TPa w 0 vh hv) (hz : StkZ need) (hz2 : StkZ hv) :
    Calls Tryz.prog 20 #[.agg #[vp, va], vn, vh] w fun e w' => e = .returned (.int .i64 (shrF ps need hv)) ∧ Below w.heap.size w w' := by
  obtain ⟨F1, hF1⟩ : ∃ q, q = stksF ps need := ⟨_, rfl⟩
  obtain ⟨F2, hF2⟩ : ∃ q, q = stksF ps hv := ⟨_, rfl⟩
  obtain ⟨F3, hF3⟩ : ∃ q, q = shrF ps need hv := ⟨_, rfl⟩
  have HS1 := Lib.hid fun W (hW : Below w.heap.size w W) => stockFault_any ps al vp va need vn W (hT.below hW) hp (hc.low hW) hl (rl.below hW) hz
  have HS2 := Lib.hid fun W (hW : Below w.heap.size w W) => stockFault_any ps al vp va hv vh W (hT.below hW) hp (hc.low hW) hl2 (rl2.below hW) hz2
  rw [← hF1] at HS1
  rw [← hF2] at HS2
  rw [← hF3]
  have HOR : Hid (∀ U v, VTwo 0 F1 F2 v U → Calls Tryz.prog 64 #[v] U fun e w' => e = .returned (.int .i64 F3) ∧ U = w') := Lib.hid fun U v hv' => by
    obtain ⟨g, rfl, hg, _⟩ := hv'
    have h := OrErrno_any [F1, F2] (.slice (some ⟨g, 0, none⟩) 2 2) U (by simp) (Ints.of_blk hg rfl rfl (Nat.le_refl _) (by omega) (Nat.zero_le _))
    rw [show orF [F1, F2] = F3 by rw [hF3, hF1, hF2]; rfl] at h
    exact h.mono fun _ _ h => ⟨h.1, h.2.symm⟩
  have HOR := Lib.hid fun U v (h : VTwo (w.heap.size + 1) F1 F2 v U) => HOR.out U v (by obtain ⟨g, h1, h2, _⟩ := h; exact ⟨g, h1, h2, Nat.zero_le _⟩)
  obtain ⟨na, nc, rfl, _, _⟩ := rl.form
  obtain ⟨ha, hcp, rfl, _, _⟩ := rl2.form
  obtain ⟨pa, pc, rfl, _, _⟩ := hc.p.form
  obtain ⟨aa, ac, rfl, _, _⟩ := hc.a.form
  obtain ⟨w1, hw1⟩ : ∃ w1, w1 = w.alloc (.cells #[.slice pa ps.length pc, .slice aa al.length ac] 29) := ⟨_, rfl⟩
  have hA1 : Below w.heap.size w w1 := by rw [hw1]; exact Bl.alloc (Below.refl _ _) _
  have hx0 : w1.heap[w.heap.size]? = some (.cells #[.slice pa ps.length pc, .slice aa al.length ac] 29 (0, 0)) := by rw [hw1]; exact blk_new w _
  have HXW := Lib.hid (show ∀ W, Below w1.heap.size w1 W → W.cell? ⟨w.heap.size, 0, none⟩ = some (.slice pa ps.length pc) ∧ W.cell? ⟨w.heap.size, 1, none⟩ = some (.slice aa al.length ac) ∧ w.heap.size < W.heap.size from fun W hW => ⟨blk_cell (blk_below hx0 hW) 0, blk_cell (blk_below hx0 hW) 1, blk_lt (blk_below hx0 hW)⟩)
  have HS1 := Lib.hid fun W (hW : Below w1.heap.size w1 W) => HS1.out W (Bl.trans hA1 hW)
  have HS2 := Lib.hid fun W (hW : Below w1.heap.size w1 W) => HS2.out W (Bl.trans hA1 hW)
  have HOR := Lib.hid fun U v (h : VTwo w1.heap.size F1 F2 v U) => HOR.out U v (by obtain ⟨g, h1, h2, h3⟩ := h; exact ⟨g, h1, h2, by rw [hw1] at h3; simpa using h3⟩)
  have HA1 := Lib.hid hA1
  have HW1 := Lib.hid hw1
  obtain ⟨q0, q1, lC⟩ := HXW.out w1 (Below.refl _ _)
  clear hT hc rl rl2 hz hz2 hF1 hF2 hF3 hw1 hA1 hx0
  go_enter Tryz.func20, Tryz.ntmps20
  go_wp2_with fail
  rw [← HW1.out]
  refine wp_region_inv (by kernel_rfl) [7, 8, 9, 10, 11, 12, 13, 14, 6] (fun _ W => Below w1.heap.size w1 W) (fun W W' => Below W.heap.size W W') (fun i => [VE (.agg #[.slice pa ps.length pc, .slice aa al.length ac]), VE (.slice na need.length nc), VE (.int .i64 F1), VE (.agg #[.slice pa ps.length pc, .slice aa al.length ac]), VE (.slice ha hv.length hcp), VE (.int .i64 F2), VTwo w1.heap.size F1 F2, VE (.int .i64 F3), VE (.int .i64 F3)].getD i VT) (by kernel_rfl) (by kernel_rfl) (fun u u' W hu h => h) (Below.drew (Below.refl _ _)) ?_ ?_ ?_ ?_
  · intro u W W' i v hB hR hV
    exact match i, hV with
      | 0, h => h
      | 1, h => h
      | 2, h => h
      | 3, h => h
      | 4, h => h
      | 5, h => h
      | 6, h => VTwo.low h hR
      | 7, h => h
      | 8, h => h
      | (_ + 9), _ => trivial
  · intro i o v W ho hd
    match i, ho with
      | 0, ho => (obtain rfl := Option.some.inj ho; cases hd)
      | 1, ho => (obtain rfl := Option.some.inj ho; cases hd)
      | 2, ho => (obtain rfl := Option.some.inj ho; cases hd)
      | 3, ho => (obtain rfl := Option.some.inj ho; cases hd)
      | 4, ho => (obtain rfl := Option.some.inj ho; cases hd)
      | 5, ho => (obtain rfl := Option.some.inj ho; cases hd)
      | 6, ho => (obtain rfl := Option.some.inj ho; cases hd)
      | 7, ho => (obtain rfl := Option.some.inj ho; cases hd)
      | 8, ho => (obtain rfl := Option.some.inj ho; cases hd)
      | (_ + 9), _ => trivial
  · intro i o u f W ho hi hB hdep
    have hi' : i = 0 ∨ i = 1 ∨ i = 2 ∨ i = 3 ∨ i = 4 ∨ i = 5 ∨ i = 6 ∨ i = 7 ∨ i = 8 := by
      have : i < 9 := hi
      omega
    rcases hi' with rfl | rfl | rfl | rfl | rfl | rfl | rfl | rfl | rfl
    · obtain ⟨y0, y1, _⟩ := HXW.out W hB
      refine iv_val ho (by obtain rfl := Option.some.inj ho; rfl) (.agg #[.slice pa ps.length pc, .slice aa al.length ac]) W ?_ hB (Below.refl _ _) rfl
      · intro q hq
        obtain rfl := Option.some.inj ho
        have e3 := hq.tmp 3
        simp at e3
        simp [execOp, e3, go_sem, y0, y1]
    · refine iv_val ho (by obtain rfl := Option.some.inj ho; rfl) (.slice na need.length nc) W ?_ hB (Below.refl _ _) rfl
      · intro q hq
        obtain rfl := Option.some.inj ho
        have e1 := hq.tmp 1
        simp at e1
        simp [execOp, e1, go_sem]
    · have d7 : f 7 = .agg #[.slice pa ps.length pc, .slice aa al.length ac] := hdep ⟨0, .data⟩ (by obtain rfl := Option.some.inj ho; simp) rfl
      have d8 : f 8 = .slice na need.length nc := hdep ⟨1, .data⟩ (by obtain rfl := Option.some.inj ho; simp) rfl
      refine iv_call ho (by obtain rfl := Option.some.inj ho; rfl) 65 #[.tmp 7, .tmp 8] _ (by obtain rfl := Option.some.inj ho; rfl) (enters_of Tryz.func65 (by kernel_rfl) rfl) #[.agg #[.slice pa ps.length pc, .slice aa al.length ac], .slice na need.length nc] (by intro q hq; have e7 := hq.tmp 7; simp at e7; have e8 := hq.tmp 8; simp at e8; simp [e7, e8, d7, d8, go_sem]) _ (HS1.out W hB) ?_
      rintro e W' ⟨rfl, hb'⟩
      exact ⟨_, rfl, Below.trans hB (hb'.mono hB.size), hb', rfl⟩
    · obtain ⟨y0, y1, _⟩ := HXW.out W hB
      refine iv_val ho (by obtain rfl := Option.some.inj ho; rfl) (.agg #[.slice pa ps.length pc, .slice aa al.length ac]) W ?_ hB (Below.refl _ _) rfl
      · intro q hq
        obtain rfl := Option.some.inj ho
        have e3 := hq.tmp 3
        simp at e3
        simp [execOp, e3, go_sem, y0, y1]
    · refine iv_val ho (by obtain rfl := Option.some.inj ho; rfl) (.slice ha hv.length hcp) W ?_ hB (Below.refl _ _) rfl
      · intro q hq
        obtain rfl := Option.some.inj ho
        have e2 := hq.tmp 2
        simp at e2
        simp [execOp, e2, go_sem]
    · have d10 : f 10 = .agg #[.slice pa ps.length pc, .slice aa al.length ac] := hdep ⟨3, .data⟩ (by obtain rfl := Option.some.inj ho; simp) rfl
      have d11 : f 11 = .slice ha hv.length hcp := hdep ⟨4, .data⟩ (by obtain rfl := Option.some.inj ho; simp) rfl
      refine iv_call ho (by obtain rfl := Option.some.inj ho; rfl) 65 #[.tmp 10, .tmp 11] _ (by obtain rfl := Option.some.inj ho; rfl) (enters_of Tryz.func65 (by kernel_rfl) rfl) #[.agg #[.slice pa ps.length pc, .slice aa al.length ac], .slice ha hv.length hcp] (by intro q hq; have e10 := hq.tmp 10; simp at e10; have e11 := hq.tmp 11; simp at e11; simp [e10, e11, d10, d11, go_sem]) _ (HS2.out W hB) ?_
      rintro e W' ⟨rfl, hb'⟩
      exact ⟨_, rfl, Below.trans hB (hb'.mono hB.size), hb', rfl⟩
    · have d9 : f 9 = .int .i64 F1 := hdep ⟨2, .data⟩ (by obtain rfl := Option.some.inj ho; simp) rfl
      have d12 : f 12 = .int .i64 F2 := hdep ⟨5, .data⟩ (by obtain rfl := Option.some.inj ho; simp) rfl
      refine iv_val ho (by obtain rfl := Option.some.inj ho; rfl) (.slice (some ⟨W.heap.size, 0, none⟩) 2 2) (W.alloc (.cells #[.int .i64 F1, .int .i64 F2] 31)) ?_ (Bl.alloc hB _) (Bl.alloc (Below.refl _ _) _) ⟨W.heap.size, rfl, blk_new W _, hB.size⟩
      · intro q hq
        obtain rfl := Option.some.inj ho
        have e9 := hq.tmp 9
        have e12 := hq.tmp 12
        simp at e9 e12
        simp [execOp, e9, e12, d9, d12, go_sem]
    · have x13 : VTwo w1.heap.size F1 F2 (f 13) W := hdep ⟨6, .data⟩ (by obtain rfl := Option.some.inj ho; simp) rfl
      refine iv_call ho (by obtain rfl := Option.some.inj ho; rfl) 64 #[.tmp 13] _ (by obtain rfl := Option.some.inj ho; rfl) (enters_of Tryz.func64 (by kernel_rfl) rfl) #[f 13] (by intro q hq; have e13 := hq.tmp 13; simp at e13; simp [e13, go_sem]) _ (HOR.out W (f 13) x13) ?_
      rintro e W' ⟨rfl, rfl⟩
      exact ⟨_, rfl, hB, Below.refl _ _, rfl⟩
    · have d14 : f 14 = .int .i64 F3 := hdep ⟨7, .data⟩ (by obtain rfl := Option.some.inj ho; simp) rfl
      refine iv_val ho (by obtain rfl := Option.some.inj ho; rfl) (.int .i64 F3) W ?_ hB (Below.refl _ _) rfl
      · intro q hq
        obtain rfl := Option.some.inj ho
        have e14 := hq.tmp 14
        simp at e14
        simp [execOp, e14, d14, go_sem]
  intro f0 wz hbz hV
  have hf6 : f0 6 = .int .i64 F3 := show VE _ (f0 6) wz from hV 8 (by decide)
  clear hV
  unfold putsA
  simp only [List.mapIdx_toArray, List.mapIdx_cons, List.mapIdx_nil, List.contains_cons]
  simp
  rw [hf6]
  have HBZ := Lib.hid (Bl.trans HA1.out hbz)
  clear hbz hf6
  go_wp2
  go_ret
  exact ⟨rfl, HBZ.out⟩
end Go.Proofs.YtihgnpobkpnipaaGreatDoor
namespace Go.Proofs.YtihgnpobkpnipaaGreatDoor
open Go.RowKit Go.Sort
section
variable {α : Type} {T : Rty α}
theorem recs_cells {w : World} {lo : Nat} {q : Addr} {n c : Nat} {ys : List α} (h : RecR T w lo (.slice (some q) n c) ys) : ∀ j u, (ys.flatMap T.f)[j]? = some u → w.cell? (q.add j) = some u := by
  obtain ⟨a, cap, hv, _, _, h3⟩ := h
  injection hv with ha _ _
  intro j u hj
  obtain ⟨b, o, hab, _, _, hc⟩ := h3 j u hj
  rw [← ha] at hab
  injection hab with hq
  subst hq
  by_cases h0 : j = 0
  · subst h0; simpa [Addr.add] using hc
  · simpa [Addr.add, h0] using hc
end
end Go.Proofs.YtihgnpobkpnipaaGreatDoor
namespace Go.Proofs.YtihgnpobkpnipaaGreatDoor
open Go.RowKit Go.Sort Go.Maps
/-- the front of a row. -/
theorem RecR.take {α : Type} {T : Rty α} {w : World} {lo n cap : Nat} {a : Option Addr} {l : List α} (h : RecR T w lo (.slice a n cap) l) (k : Nat) (hk : k ≤ l.length) : RecR T w lo (.slice a k cap) (l.take k) := by
  obtain ⟨a', cap', hv, h1, h2, h3⟩ := h
  injection hv with e1 e2 e3
  subst e1; subst e3
  refine ⟨a, cap, by rw [List.length_take, Nat.min_eq_left hk], by rw [List.length_take]; omega, h2, fun j x hj => h3 j x ?_⟩
  have e : l.flatMap T.f = (l.take k).flatMap T.f ++ (l.drop k).flatMap T.f := by rw [← List.flatMap_append, List.take_append_drop]
  rw [e, List.getElem?_append_left (List.getElem?_eq_some_iff.1 hj).1]
  exact hj
end Go.Proofs.YtihgnpobkpnipaaGreatDoor
