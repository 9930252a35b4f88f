/- Texts of the proof of a law, put together, part 37 of 46. Conditions: none beyond those that each theorem names. -/
import Derived.Test.YteojmljggoplkaaGreatDoorPz13
import Derived.Test.YteojmljggoplkaaGreatDoorPz19
import Derived.Test.YteojmljggoplkaaGreatDoorPz34
import Derived.Test.YteojmljggoplkaaGreatDoorPz36
namespace Go.Proofs.YteojmljggoplkaaGreatDoor
open Go.RowKit Go.Sort Go.Maps
def VOne (B : Nat) (s : ByteArray) : Value → World → Prop := fun v w => ∃ g, v = .slice (some ⟨g, 0, none⟩) 1 1 ∧ w.heap[g]? = some (.cells #[.string s] 9 (0, 0)) ∧ B ≤ g
theorem VOne.low {B : Nat} {s : ByteArray} {v : Value} {w w' : World} (h : VOne B s v w) (hb : Below w.heap.size w w') : VOne B s v w' := by
  obtain ⟨g, h1, h2, h3⟩ := h
  exact ⟨g, h1, blk_below h2 hb, h3⟩
/-- what ShortOf has told. -/
def ShfR (l : List Alt) (need hv : List Stk) (B : Nat) (e : Ending) (w' : World) : Prop := ∃ v is, e = .returned (.tuple #[v, .bool is]) ∧ OwnR TS w' B v ((shortK l need hv).map baOf) ∧ is = decide ((shortK l need hv).length = 0)
theorem ShfR.mk {l : List Alt} {need hv : List Stk} {B : Nat} {w' : World} {v : Value} {is : Bool} {out : List Bs} (h1 : OwnR TS w' B v (out.map baOf)) (h2 : out = shortK l need hv) (h3 : is = decide (out.length = 0)) : ShfR l need hv B (.returned (.tuple #[v, .bool is])) w' := ⟨_, _, rfl, by rw [← h2]; exact h1, by rw [← h2]; exact h3⟩
set_option maxHeartbeats 16000000 in
set_option maxRecDepth 100000 in
theorem ShortOf_any (ps : List Prt) (l : List Alt) (vp va : Value) (need hv : List Stk) (vn vh : Value) (w : World) (hT : TxW w) (hl : ps.length ≤ 100000) (hl2 : l.length ≤ 100000) (hz : PrtZ ps) (h0 : catsF ps l = 0) (hc : CatR w vp va ps l) (hn : need.length ≤ 1000) (hh : hv.length ≤ 1000) (rl : RecR TPa w 0 vn need) (rl2 : RecR TPa w 0 vh hv) (zn : StkZ need) (zh : StkZ hv) (k1 : stksF ps need = 0) (k2 : stksF ps hv = 0) :
    Calls Tryz.prog 23 #[.agg #[vp, va], vn, vh] w fun e w' => ShfR l need hv w.heap.size e w' ∧ Below w.heap.size w w' := by
  have hmm := @run_makeMap Tryz.prog
  have HNU : Hid (∀ s : ByteArray, s.size ≤ 1000000 → stkG s = true → ∀ W, Below w.heap.size w W → Calls Tryz.prog 66 #[.string s, .int .i64 7] W fun e w' => e = .returned (.tuple #[.int .i64 (stkN s), .bool true]) ∧ Below W.heap.size W w') := Lib.hid fun s hs hg W hW => by
    refine (RNumber_any s 7 W (hT.below hW) hs (by decide)).mono ?_
    rintro e w' ⟨n, he, hn, hb⟩
    obtain ⟨g1, _⟩ := stkG_is hg
    have h1 := hn _ g1
    rw [he, g1, ← h1]
    exact ⟨rfl, hb⟩
  have HDR := Lib.hid fun (k : ByteArray) W (hW : Below w.heap.size w W) => DirectOf_any ps l vp va k W hl h0 (hc.low hW)
  have HK1 := Lib.hid (stksF_ok k1)
  have HK2 := Lib.hid (stksF_ok k2)
  have HC0 := Lib.hid h0
  obtain ⟨na, nc, rfl, _, _⟩ := rl.form
  obtain ⟨ha, hcp, rfl, _, _⟩ := rl2.form
  obtain ⟨pa, pc, rfl, _, _⟩ := hc.p.form
  obtain ⟨aa, ac, rfl, _, _⟩ := hc.a.form
  obtain ⟨w1, hw1⟩ : ∃ w1, w1 = w.alloc (.cells #[.slice pa ps.length pc, .slice aa l.length ac] 29) := ⟨_, rfl⟩
  obtain ⟨w2, hw2⟩ : ∃ w2, w2 = w1.alloc (.map #[] 0) := ⟨_, rfl⟩
  obtain ⟨lb, hlb⟩ : ∃ lb, lb = w1.heap.size := ⟨_, rfl⟩
  have hA1 : Below w.heap.size w w1 := by rw [hw1]; exact Bl.alloc (Below.refl _ _) _
  have hA2 : Below w.heap.size w w2 := by rw [hw2]; exact Bl.alloc hA1 _
  have hzl1 : w1.heap.size = w.heap.size + 1 := by rw [hw1]; simp
  have hzl : w.heap.size < lb := by omega
  have HLBE : Hid (lb = w.heap.size + 1) := Lib.hid (by rw [hlb, hzl1])
  have hx0 : w2.heap[w.heap.size]? = some (.cells #[.slice pa ps.length pc, .slice aa l.length ac] 29 (0, 0)) := by rw [hw2, hw1]; exact blk_old (blk_new w _) _
  have HM0 : Hid (MapS TMi w2 lb (mapK [])) := Lib.hid (by rw [hw2, hlb]; exact MapS.made (T := TMi) w1)
  have HGW : Hid (∀ W, w2.grownBy W (some lb) → Below w.heap.size w W) := Lib.hid fun W hW => Below.trans hA2 (Gr.below hW (by omega) hA2.size)
  have HXC := Lib.hid (show ∀ W, w2.grownBy W (some lb) → W.cell? ⟨w.heap.size, 0, none⟩ = some (.slice pa ps.length pc) ∧ W.cell? ⟨w.heap.size, 1, none⟩ = some (.slice aa l.length ac) ∧ w.heap.size < W.heap.size from fun W hW => by
    have h := (hW.block w.heap.size (blk_lt hx0) (by intro e; injection e with e; omega)).trans hx0
    exact ⟨blk_cell h 0, blk_cell h 1, blk_lt h⟩)
  have HW2 := Lib.hid (And.intro hw2 hw1)
  have RL := Lib.hid rl
  have RL2 := Lib.hid rl2
  have ZN := Lib.hid zn
  have ZH := Lib.hid zh
  have HZP := Lib.hid hz
  have HZB2 : Hid (w.heap.size ≤ w2.heap.size) := Lib.hid hA2.size
  have HLB2 : Hid (lb < w2.heap.size) := Lib.hid (HM0.out.lt)
  have hl5 := HLB2.out
  obtain ⟨nn, hnn⟩ : ∃ q, q = need.length := ⟨_, rfl⟩
  have HNN := Lib.hid hnn
  rw [← hnn] at hn RL
  rw [← hnn]
  obtain ⟨hn2, hhn2⟩ : ∃ q, q = hv.length := ⟨_, rfl⟩
  have HHN := Lib.hid hhn2
  rw [← hhn2] at hh RL2
  rw [← hhn2]
  clear hc rl rl2 zn zh hz h0 hT hw1 hw2 hlb hA1 hA2 hzl1 hx0 hnn hhn2 k1 k2
  go_enter Tryz.func23, Tryz.ntmps23
  go_wp2_with fail
  rw [← HW2.out.2, ← HW2.out.1, ← HLBE.out]
  go_loopw [22] (fun i wr => ∃ k : Nat, k ≤ hn2 ∧ i = .int .i64 k ∧ Hid (MapS TMi wr lb (mapK (hv.take k))) ∧ Hid (w2.grownBy wr (some lb))) (fun i _ => hn2 - (intOf i).toNat)
  case atStart => exact ⟨0, Nat.zero_le _, rfl, HM0, Lib.hid (Gr.refl _ _)⟩
  case round =>
    obtain ⟨k, hk, rfl, HM, HG⟩ := hrel
    by_cases hlt : k < hn2
    case pos =>
      obtain ⟨x, hx⟩ : ∃ x, hv[k]? = some x := ⟨_, List.getElem?_eq_getElem (by rw [← HHN.out]; exact hlt)⟩
      have hxm := List.mem_of_getElem? hx
      obtain ⟨z1, z2⟩ := ZH.out x hxm
      have HMS := Lib.hid (mapK_snoc hx)
      have hsg := (HK2.out.2 x hxm).2
      obtain ⟨b1, o1, rfl, _, hb1, hc1⟩ := (RL2.out.below (HGW.out wr HG.out)).at TPa.ok.len hx TPa.ok.pos
      obtain ⟨ky, pt⟩ := x
      have c0 : wr.cell? ⟨b1, o1 + k * 2, none⟩ = some (.string ky) := hc1 0 _ rfl
      have c1 : wr.cell? ⟨b1, o1 + k * 2 + 1, none⟩ = some (.string pt) := hc1 1 _ rfl
      have HKZ : Hid (ky.size ≤ maxLen) := Lib.hid (by have : ky.size ≤ 1000000 := z1; unfold maxLen; omega)
      have HNP := Lib.hid (HNU.out pt z2 hsg)
      obtain ⟨n0, hn0⟩ : ∃ q, q = stkN pt := ⟨_, rfl⟩
      rw [← hn0] at HNP
      have HMS2 : Hid (mapK (hv.take (k + 1)) = (mapK (hv.take k)).put ky.data.toList n0) := Lib.hid (by rw [HMS.out, hn0]; rfl)
      have HML : Hid ((mapK (hv.take k)).length < maxLen) := Lib.hid (by
        have h1 := mapK_len (hv.take k)
        rw [List.length_take] at h1
        unfold maxLen; omega)
      obtain ⟨P, hP⟩ : ∃ P, P = wr.heap.size := ⟨_, rfl⟩
      obtain ⟨w6, hw6⟩ : ∃ w6, w6 = wr.alloc (.cells #[.string ky, .string pt] 61) := ⟨_, rfl⟩
      have hb6 : Below wr.heap.size wr w6 := by rw [hw6]; exact Bl.alloc (Below.refl _ _) _
      have hx6 : w6.heap[P]? = some (.cells #[.string ky, .string pt] 61 (0, 0)) := by rw [hw6, hP]; exact blk_new wr _
      have HXP : Hid (∀ W, Below w6.heap.size w6 W → W.cell? ⟨P, 0, none⟩ = some (.string ky) ∧ W.cell? ⟨P, 1, none⟩ = some (.string pt) ∧ P < W.heap.size) := Lib.hid fun W hW => ⟨blk_cell (blk_below hx6 hW) 0, blk_cell (blk_below hx6 hW) 1, blk_lt (blk_below hx6 hW)⟩
      have HNW : Hid (∀ W, Below w6.heap.size w6 W → Calls Tryz.prog 66 #[.string pt, .int .i64 7] W fun e w' => e = .returned (.tuple #[.int .i64 n0, .bool true]) ∧ Below W.heap.size W w') := Lib.hid fun W hW => HNP.out W (HGW.out W (Gr.trans HG.out (Gr.trans (Gr.of_below hb6 _) (Gr.of_below hW _))))
      have HPUT : Hid (∀ W, Below w6.heap.size w6 W → ∃ w8, (Instr.mapUpdate 94 (.map (some lb)) (.string ky) (.int .i64 n0)).run Tryz.prog W = .ok () w8 ∧ MapS TMi w8 lb (mapK (hv.take (k + 1))) ∧ w2.grownBy w8 (some lb)) := Lib.hid fun W hW => by
        obtain ⟨w8, hr8, hM8, ht8⟩ := ((HM.out.below hb6).below hW).put TMi.ok ky HKZ.out n0 HML.out
        exact ⟨w8, hr8, by rw [HMS2.out]; exact hM8, Gr.trans (Gr.trans HG.out (Gr.trans (Gr.of_below hb6 _) (Gr.of_below hW _))) ht8.grown⟩
      have HWX := Lib.hid (And.intro hP hw6)
      have hadd : IntKind.i64.wrap ((k : Int) + 1) = ((k + 1 : Nat) : Int) := by rw [IntWalk.i64_in _ (by omega)]; omega
      obtain ⟨d0, d1, lP⟩ := HXP.out w6 (Below.refl _ _)
      have HD : Hid (Below w6.heap.size w6 w6.drew) := Lib.hid (Below.drew (Below.refl _ _))
      clear hx hxm hc1 hn0 hP hw6 hb6 hx6 z1 z2 hsg hb1 HNP HMS HMS2
      go_wp2_with fail
      rw [← HWX.out.2, ← HWX.out.1]
      clear c0 c1
      obtain ⟨t0, t1, lP2⟩ := HXP.out w6.drew HD.out
      go_region_law (refine step_goN rfl 66 #[.tmp 31, .const (.int .i64 7)] _ rfl (enters_of Tryz.func66 (by kernel_rfl) rfl) #[.string pt, .int .i64 7] (by simp [Act.eval]) _ (HNW.out _ (by first | exact HD.out | exact Below.refl _ _)) ?_; rintro e w7 ⟨rfl, hb7⟩; refine ⟨_, rfl, ?_⟩; have hb67 : Below w6.heap.size w6 w7 := Below.trans (by first | exact HD.out | exact Below.refl _ _) hb7; obtain ⟨w8, hr8, hM8, hG8⟩ := HPUT.out w7 hb67; obtain ⟨s0, s1, lP3⟩ := HXP.out w7 hb67)
      all_goals (
        have HF8 := Lib.hid (And.intro hM8 hG8)
        clear hr8 hM8 hG8
        go_wp2
        go_roundw
        case rel => exact ⟨k + 1, by omega, by go_num, Lib.hid HF8.out.1, Lib.hid HF8.out.2⟩
        case measure => simp [intOf]; omega)
    obtain rfl : k = hn2 := by omega
    have HMH : Hid (MapS TMi wr lb (mapK hv)) := Lib.hid (by have h1 := HM.out; rw [HHN.out, List.take_length] at h1; exact h1)
    have HS0 : Hid (ShI l (needK need) (mapK hv) (keysK need) 0 (mapK hv) []) := Lib.hid (ShI.start (mapK_bd fun x hx => (HK2.out.2 x hx).2))
    have HL0 : Hid ((mapK hv).length ≤ 1000) := Lib.hid (by have := mapK_len hv; have := HHN.out; omega)
    obtain ⟨w5, hw5⟩ : ∃ q, q = wr := ⟨_, rfl⟩
    have HG5 := HG
    have HMH5 := HMH
    rw [← hw5] at HG5 HMH5 ⊢
    have HGW5 : Hid (∀ W, w5.grownBy W (some lb) → Below w.heap.size w W) := Lib.hid fun W hW => HGW.out W (Gr.trans HG5.out hW)
    have HXC5 := Lib.hid fun W (hW : w5.grownBy W (some lb)) => HXC.out W (Gr.trans HG5.out hW)
    have HZ5 : Hid (w2.heap.size ≤ w5.heap.size) := Lib.hid HG5.out.size
    have hl6 : lb < w5.heap.size := HMH5.out.lt
    clear hw5 HG HM HMH hl5
    go_wp2_with fail
    go_loopw [11, 38] (fun ov i wr => ∃ (k : Nat) (out : List Bs) (M : Sm Int), k ≤ nn ∧ i = .int .i64 k ∧ Hid (ShI l (needK need) (mapK hv) (keysK need) k M out) ∧ Hid (M.length ≤ 1000 + 300000 * k) ∧ Hid (MapS TMi wr lb M) ∧ Hid (OwnR TS wr w5.heap.size ov (out.map baOf)) ∧ Hid (w5.grownBy wr (some lb))) (fun _ i _ => nn - (intOf i).toNat)
    case atStart => exact ⟨0, [], mapK hv, Nat.zero_le _, rfl, HS0, Lib.hid (by have := HL0.out; omega), HMH5, Lib.hid (OwnR.nil _ _), Lib.hid (Gr.refl _ _)⟩
    case round =>
      obtain ⟨k, out, M, hk, rfl, HSI, HLM, HM, HO, HG⟩ := hrel
      obtain ⟨oa, oc, hov, _, _⟩ := HO.out.form
      obtain ⟨on, hon⟩ : ∃ on, on = out.length := ⟨_, rfl⟩
      rw [List.length_map, ← hon] at hov
      subst hov
      have HON := Lib.hid hon
      have honk : on ≤ k := by rw [hon]; exact HSI.out.len
      clear hon
      by_cases hlt : k < nn
      case neg =>
        obtain rfl : k = nn := by omega
        have HE : Hid (out = shortK l need hv) := Lib.hid (HSI.out.stop (by unfold keysK; rw [List.length_map, ← HNN.out]; exact Nat.le_refl _))
        have HBE := Lib.hid (HGW5.out wr HG.out)
        have HOE := Lib.hid (HO.out.base (Nat.le_trans HZB2.out HZ5.out))
        by_cases hz0 : on = 0
        · have hz0' : (on : Int) = 0 := by omega
          have HIS : Hid (true = decide (out.length = 0)) := Lib.hid (by rw [← HON.out, hz0]; rfl)
          subst hz0
          go_wp2
          go_ret2
          exact ⟨ShfR.mk HOE.out HE.out HIS.out, HBE.out⟩
        · have hz0' : ¬ (on : Int) = 0 := by omega
          have hz1 : ((on : Int) == 0) = false := by simpa using hz0
          have HIS : Hid (false = decide (out.length = 0)) := Lib.hid (by rw [← HON.out, decide_eq_false hz0])
          go_wp2
          go_ret2
          exact ⟨ShfR.mk HOE.out HE.out HIS.out, HBE.out⟩
      obtain ⟨x, hx⟩ : ∃ x, need[k]? = some x := ⟨_, List.getElem?_eq_getElem (by rw [← HNN.out]; exact hlt)⟩
      have hxm := List.mem_of_getElem? hx
      have HKK : Hid ((keysK need)[k]? = some (bsOf x.1)) := Lib.hid (by unfold keysK; rw [List.getElem?_map, hx]; rfl)
      obtain ⟨z1, z2⟩ := ZN.out x hxm
      have HNV := Lib.hid (needK_at HK1.out.1 hxm)
      have hsg := (HK1.out.2 x hxm).2
      obtain ⟨b1, o1, rfl, _, hb1, hc1⟩ := (RL.out.below (HGW5.out wr HG.out)).at TPa.ok.len hx TPa.ok.pos
      obtain ⟨ky, pt⟩ := x
      have c0 : wr.cell? ⟨b1, o1 + k * 2, none⟩ = some (.string ky) := hc1 0 _ rfl
      have c1 : wr.cell? ⟨b1, o1 + k * 2 + 1, none⟩ = some (.string pt) := hc1 1 _ rfl
      have HKZ : Hid (ky.size ≤ maxLen) := Lib.hid (by have : ky.size ≤ 1000000 := z1; unfold maxLen; omega)
      have HNP := Lib.hid (HNU.out pt z2 hsg)
      have hsg2 := (stkG_is hsg).2
      obtain ⟨n0, hn0⟩ : ∃ q, q = stkN pt := ⟨_, rfl⟩
      rw [← hn0] at HNP hsg2
      have HNV : Hid (needK need (bsOf ky) = n0) := Lib.hid (HNV.out.trans hn0.symm)
      have HNB := Lib.hid hsg2
      obtain ⟨P, hP⟩ : ∃ P, P = wr.heap.size := ⟨_, rfl⟩
      obtain ⟨wp, hwp⟩ : ∃ wp, wp = wr.alloc (.cells #[.string ky, .string pt] 61) := ⟨_, rfl⟩
      have hbp : Below wr.heap.size wr wp := by rw [hwp]; exact Bl.alloc (Below.refl _ _) _
      have hxp : wp.heap[P]? = some (.cells #[.string ky, .string pt] 61 (0, 0)) := by rw [hwp, hP]; exact blk_new wr _
      have HGP := Lib.hid (Gr.trans HG.out (Gr.of_below hbp (some lb)))
      have HNW := Lib.hid (HNP.out wp (HGW5.out wp HGP.out))
      have HWX := Lib.hid (And.intro hP hwp)
      have hPl : w5.heap.size ≤ P := by rw [hP]; exact HG.out.size
      have HXPP : Hid (∀ W, wp.grownBy W (some lb) → W.cell? ⟨P, 0, none⟩ = some (.string ky) ∧ P < W.heap.size) := Lib.hid fun W hW => by
        have h := (hW.block P (blk_lt hxp) (by intro e; injection e with e; omega)).trans hxp
        exact ⟨blk_cell h 0, blk_lt h⟩
      have HBP := Lib.hid hbp
      have hadd : IntKind.i64.wrap ((k : Int) + 1) = ((k + 1 : Nat) : Int) := by rw [IntWalk.i64_in _ (by omega)]; omega
      have d1 : wp.cell? ⟨P, 1, none⟩ = some (.string pt) := blk_cell hxp 1
      have lPp : P < wp.heap.size := blk_lt hxp
      clear hx hxm hc1 hn0 hP hwp hbp hxp z1 z2 hsg hsg2 hb1 HNP
      go_wp2_with fail
      rw [← HWX.out.2, ← HWX.out.1]
      clear c0 c1
      go_wp2_with fail
      refine HNW.out.mono ?_
      rintro e w6 ⟨rfl, hb6⟩
      have HG6 := Lib.hid (Gr.trans HGP.out (Gr.of_below hb6 (some lb)))
      have HM6 := Lib.hid ((HM.out.below HBP.out).below hb6)
      have HO6 := Lib.hid ((HO.out.below HBP.out).below hb6)
      have HXP : Hid (∀ W, w6.grownBy W (some lb) → W.cell? ⟨P, 0, none⟩ = some (.string ky)) := Lib.hid fun W hW => (HXPP.out W (Gr.trans (Gr.of_below hb6 _) hW)).1
      have lP : P < w6.heap.size := (HXPP.out w6 (Gr.of_below hb6 _)).2
      have HXW : Hid (∀ W, Below w6.heap.size w6 W → W.cell? ⟨P, 0, none⟩ = some (.string ky) ∧ P < W.heap.size) := Lib.hid fun W hW => HXPP.out W (Gr.trans (Gr.of_below hb6 _) (Gr.of_below hW _))
      have HXD := Lib.hid fun W (hW : Below w6.heap.size w6 W) => HXC5.out W (Gr.trans HG6.out (Gr.of_below hW _))
      have HDW := Lib.hid fun W (hW : Below w6.heap.size w6 W) => HDR.out ky W (HGW5.out W (Gr.trans HG6.out (Gr.of_below hW _)))
      have HZW : Hid (w2.heap.size ≤ w6.heap.size) := Lib.hid (Nat.le_trans HZ5.out HG6.out.size)
      have HZW5 : Hid (w5.heap.size ≤ w6.heap.size) := Lib.hid HG6.out.size
      have HLN : Hid (((nextL l (bsOf ky)).map baOf).length ≤ 900000) := Lib.hid (by rw [List.length_map]; have := nextL_len l (bsOf ky); omega)
      obtain ⟨ln, hln⟩ : ∃ q, q = (ky :: (nextL l (bsOf ky)).map baOf).length := ⟨_, rfl⟩
      have HLE : Hid ((ky :: (nextL l (bsOf ky)).map baOf).length = ln) := Lib.hid hln.symm
      clear hb6 d1 lPp hln HNW
      go_wp2_with fail
      refine wp_region_inv (by kernel_rfl) [48, 49, 50, 51, 52, 53, 54, 55, 56, 57] (fun _ W => Below w6.heap.size w6 W) (fun W W' => Below W.heap.size W W') (fun i => [VE (.pointer (some ⟨P, 0, none⟩)), VE (.string ky), VOne w5.heap.size ky, VE (.agg #[.slice pa ps.length pc, .slice aa l.length ac]), VE (.pointer (some ⟨P, 0, none⟩)), VE (.string ky), VOw TS 0 ((nextL l (bsOf ky)).map baOf), VOw TS w5.heap.size (ky :: (nextL l (bsOf ky)).map baOf), VE (.int .i64 ln), VE (.int .i64 0)].getD i VT) (by kernel_rfl) (by kernel_rfl) (fun u u' W hu h => h) (Below.drew (Below.refl _ _)) ?_ ?_ ?_ ?_
      · intro u W W' i v hB hR hV
        exact match i, hV with
          | 0, h => h
          | 1, h => h
          | 2, h => VOne.low h hR
          | 3, h => h
          | 4, h => h
          | 5, h => h
          | 6, h => VOw.low h hR
          | 7, h => VOw.low h hR
          | 8, h => h
          | 9, h => h
          | (_ + 10), _ => trivial
      · intro i o v W ho hd
        match i, ho with
          | 0, ho => (obtain rfl := Option.some.inj ho; cases hd)
          | 1, ho => (obtain rfl := Option.some.inj ho; cases hd)
          | 2, ho => (obtain rfl := Option.some.inj ho; cases hd)
          | 3, ho => (obtain rfl := Option.some.inj ho; cases hd)
          | 4, ho => (obtain rfl := Option.some.inj ho; cases hd)
          | 5, ho => (obtain rfl := Option.some.inj ho; cases hd)
          | 6, ho => (obtain rfl := Option.some.inj ho; cases hd)
          | 7, ho => (obtain rfl := Option.some.inj ho; cases hd)
          | 8, ho => (obtain rfl := Option.some.inj ho; cases hd)
          | 9, ho => (obtain rfl := Option.some.inj ho; cases hd)
          | (_ + 10), _ => trivial
      · intro i o u f W ho hi hB hdep
        have hi' : i = 0 ∨ i = 1 ∨ i = 2 ∨ i = 3 ∨ i = 4 ∨ i = 5 ∨ i = 6 ∨ i = 7 ∨ i = 8 ∨ i = 9 := by
          have : i < 10 := hi
          omega
        rcases hi' with rfl | rfl | rfl | rfl | rfl | rfl | rfl | rfl | rfl | rfl
        · have y0 := (HXW.out W hB).2
          refine iv_val ho (by obtain rfl := Option.some.inj ho; rfl) (.pointer (some ⟨P, 0, none⟩)) W ?_ hB (Below.refl _ _) rfl
          · intro q hq
            obtain rfl := Option.some.inj ho
            have e13 := hq.tmp 13
            simp at e13
            simp [execOp, e13, go_sem]
        · have d48 : f 48 = .pointer (some ⟨P, 0, none⟩) := hdep ⟨0, .data⟩ (by obtain rfl := Option.some.inj ho; simp) rfl
          have y0 := (HXW.out W hB).1
          refine iv_val ho (by obtain rfl := Option.some.inj ho; rfl) (.string ky) W ?_ hB (Below.refl _ _) rfl
          · intro q hq
            obtain rfl := Option.some.inj ho
            have e48 := hq.tmp 48
            simp at e48
            simp [execOp, e48, d48, go_sem, y0]
        · have d49 : f 49 = .string ky := hdep ⟨1, .data⟩ (by obtain rfl := Option.some.inj ho; simp) rfl
          refine iv_val ho (by obtain rfl := Option.some.inj ho; rfl) (.slice (some ⟨W.heap.size, 0, none⟩) 1 1) (W.alloc (.cells #[.string ky] 9)) ?_ (Bl.alloc hB _) (Bl.alloc (Below.refl _ _) _) ⟨W.heap.size, rfl, blk_new W _, Nat.le_trans HZW5.out hB.size⟩
          · intro q hq
            obtain rfl := Option.some.inj ho
            have e49 := hq.tmp 49
            simp at e49
            simp [execOp, e49, d49, go_sem]
        · obtain ⟨y0, y1, _⟩ := HXD.out W hB
          refine iv_val ho (by obtain rfl := Option.some.inj ho; rfl) (.agg #[.slice pa ps.length pc, .slice aa l.length ac]) W ?_ hB (Below.refl _ _) rfl
          · intro q hq
            obtain rfl := Option.some.inj ho
            have e3 := hq.tmp 3
            simp at e3
            simp [execOp, e3, go_sem, y0, y1]
        · have y0 := (HXW.out W hB).2
          refine iv_val ho (by obtain rfl := Option.some.inj ho; rfl) (.pointer (some ⟨P, 0, none⟩)) W ?_ hB (Below.refl _ _) rfl
          · intro q hq
            obtain rfl := Option.some.inj ho
            have e13 := hq.tmp 13
            simp at e13
            simp [execOp, e13, go_sem]
        · have d52 : f 52 = .pointer (some ⟨P, 0, none⟩) := hdep ⟨4, .data⟩ (by obtain rfl := Option.some.inj ho; simp) rfl
          have y0 := (HXW.out W hB).1
          refine iv_val ho (by obtain rfl := Option.some.inj ho; rfl) (.string ky) W ?_ hB (Below.refl _ _) rfl
          · intro q hq
            obtain rfl := Option.some.inj ho
            have e52 := hq.tmp 52
            simp at e52
            simp [execOp, e52, d52, go_sem, y0]
        · have d51 : f 51 = .agg #[.slice pa ps.length pc, .slice aa l.length ac] := hdep ⟨3, .data⟩ (by obtain rfl := Option.some.inj ho; simp) rfl
          have d53 : f 53 = .string ky := hdep ⟨5, .data⟩ (by obtain rfl := Option.some.inj ho; simp) rfl
          refine iv_call ho (by obtain rfl := Option.some.inj ho; rfl) 20 #[.tmp 51, .tmp 53] _ (by obtain rfl := Option.some.inj ho; rfl) (enters_of Tryz.func20 (by kernel_rfl) rfl) #[.agg #[.slice pa ps.length pc, .slice aa l.length ac], .string ky] (by intro q hq; have e51 := hq.tmp 51; simp at e51; have e53 := hq.tmp 53; simp at e53; simp [e51, e53, d51, d53, go_sem]) _ (HDW.out W hB) ?_
          rintro e W' ⟨⟨v', rfl, hr'⟩, hb'⟩
          exact ⟨_, rfl, Below.trans hB (hb'.mono hB.size), hb', OwnR.base hr' (Nat.zero_le _)⟩
        · have x50 : VOne w5.heap.size ky (f 50) W := hdep ⟨2, .data⟩ (by obtain rfl := Option.some.inj ho; simp) rfl
          have l54 : VOw TS 0 ((nextL l (bsOf ky)).map baOf) (f 54) W := hdep ⟨6, .data⟩ (by obtain rfl := Option.some.inj ho; simp) rfl
          obtain ⟨g0, hv0, hb0, hB0⟩ := x50
          obtain ⟨v', w', hr, h2, h3⟩ := app_lit TS.ok hB0 ky hb0 rfl (f 54) _ (OwnR.rec0 l54) HLN.out (Nat.le_trans HZW5.out hB.size) o.type
          refine iv_val ho (by obtain rfl := Option.some.inj ho; rfl) v' w' ?_ (Below.trans hB (h3.mono hB.size)) h3 h2
          · intro q hq
            obtain rfl := Option.some.inj ho
            have e50 := hq.tmp 50
            have e54 := hq.tmp 54
            simp at e50 e54
            have hr1 : (Builtin.append_ #[36, 36] 36 #[.slice (some ⟨g0, 0, none⟩) 1 1, f 54]).run Tryz.prog W = .ok v' w' := hr
            simp [execOp, e50, e54, hv0, resolve, invoke, builtin, hr1]
        · have x55 : VOw TS w5.heap.size (ky :: (nextL l (bsOf ky)).map baOf) (f 55) W := hdep ⟨7, .data⟩ (by obtain rfl := Option.some.inj ho; simp) rfl
          obtain ⟨la, lc, hlf, _, _⟩ := OwnR.form x55
          rw [HLE.out] at hlf
          refine iv_val ho (by obtain rfl := Option.some.inj ho; rfl) (.int .i64 ln) W ?_ hB (Below.refl _ _) rfl
          · intro q hq
            obtain rfl := Option.some.inj ho
            have e55 := hq.tmp 55
            simp at e55
            simp [execOp, e55, go_sem, hlf, resolve, invoke, builtin]
        · refine iv_val ho (by obtain rfl := Option.some.inj ho; rfl) (.int .i64 0) W ?_ hB (Below.refl _ _) rfl
          · intro q hq
            obtain rfl := Option.some.inj ho
            simp [execOp, hq.const, go_sem]
      intro f0 w7 hb7 hV
      have hO7 : OwnR TS w7 w5.heap.size (f0 55) (ky :: (nextL l (bsOf ky)).map baOf) := show VOw TS w5.heap.size _ (f0 55) w7 from hV 7 (by decide)
      have hf56 : f0 56 = .int .i64 ln := show VE _ (f0 56) w7 from hV 8 (by decide)
      have hf57 : f0 57 = .int .i64 0 := show VE _ (f0 57) w7 from hV 9 (by decide)
      clear hV
      unfold putsA
      simp only [List.mapIdx_toArray, List.mapIdx_cons, List.mapIdx_nil, List.contains_cons]
      simp
      rw [hf56, hf57]
      generalize f0 55 = v7 at *
      clear hf56 hf57
      obtain ⟨L2, hL2⟩ : ∃ q, q = bsOf ky :: nextL l (bsOf ky) := ⟨_, rfl⟩
      rw [show ky :: (nextL l (bsOf ky)).map baOf = L2.map baOf from by rw [hL2, List.map_cons, baOf_bs]] at hO7 HLE
      have hb67 : Below w6.heap.size w6 w7 := hb7
      have HG7 := Lib.hid (Gr.trans HG6.out (Gr.of_below hb67 (some lb)))
      have HM7 := Lib.hid (HM6.out.below hb67)
      have HO7 := Lib.hid (HO6.out.below hb67)
      have HE7 : Hid (∀ W, w7.grownBy W (some lb) → OwnR TS W w5.heap.size v7 (L2.map baOf)) := Lib.hid fun W hW => ownR_offM hO7 HM7.out hW
      have HQ7 : Hid (∀ W, w7.grownBy W (some lb) → OwnR TS W w5.heap.size (.slice oa on oc) (out.map baOf)) := Lib.hid fun W hW => ownR_offM HO7.out HM7.out hW
      have HXQ : Hid (∀ W, w7.grownBy W (some lb) → W.cell? ⟨P, 0, none⟩ = some (.string ky) ∧ P < W.heap.size) := Lib.hid fun W hW => ⟨HXP.out W (Gr.trans (Gr.of_below hb67 (some lb)) hW), Nat.lt_of_lt_of_le lP (Nat.le_trans hb67.size hW.size)⟩
      obtain ⟨ea, ec, hev, _, _⟩ := hO7.form
      obtain ⟨en, hen⟩ : ∃ en, en = L2.length := ⟨_, rfl⟩
      rw [List.length_map, ← hen] at hev
      subst hev
      have HLE2 : Hid (ln = en) := Lib.hid (by rw [← HLE.out, List.length_map, hen])
      obtain rfl : ln = en := HLE2.out
      have henl : ln ≤ 200001 := by rw [hen, hL2, List.length_cons]; have := nextL_len l (bsOf ky); omega
      have HEN := Lib.hid hen
      have HL2 := Lib.hid hL2
      have HSZ : Hid (∀ s ∈ L2, (baOf s).size ≤ maxLen) := Lib.hid fun s hs => by
        rw [hL2] at hs
        rcases List.mem_cons.1 hs with rfl | hs
        · rw [baOf_bs]; exact HKZ.out
        · exact next_size HC0.out HZP.out hs
      have HT0 := Lib.hid (TkI.start (L := L2) HSI.out.bd HNB.out.1)
      have HZ7 : Hid (w5.heap.size ≤ w7.heap.size) := Lib.hid HG7.out.size
      clear hO7 hb7 hb67 hen hL2 lP HM6 HO6 HG6
      go_wp2_with fail
      go_loopw [14, 57] (fun nv i wr => ∃ (j : Nat) (n : Int) (N : Sm Int), j ≤ ln ∧ i = .int .i64 j ∧ nv = .int .i64 n ∧ Hid (TkI n0 M L2 j n N) ∧ Hid (MapS TMi wr lb N) ∧ Hid (w7.grownBy wr (some lb))) (fun _ i _ => ln - (intOf i).toNat)
      case atStart => exact ⟨0, n0, M, Nat.zero_le _, rfl, rfl, HT0, HM7, Lib.hid (Gr.refl _ _)⟩
      case round =>
        obtain ⟨j, n, N, hj, rfl, rfl, HTK, HMN2, HG2⟩ := hrel
        by_cases hlt2 : j < ln
        · obtain ⟨s, hs⟩ : ∃ s, L2[j]? = some s := ⟨_, List.getElem?_eq_getElem (by rw [← HEN.out]; exact hlt2)⟩
          obtain ⟨b5, o5, rfl, _, _, c5⟩ := str_at (HE7.out wr HG2.out).rec0 (show (L2.map baOf)[j]? = some (baOf s) by rw [List.getElem?_map, hs]; rfl)
          have HSS : Hid ((baOf s).size ≤ maxLen) := Lib.hid (HSZ.out s (List.mem_of_getElem? hs))
          have hlv := HMN2.out.look TMi.ok (baOf s) HSS.out
          rw [show (baOf s).data.toList = s from bsOf_baOf s] at hlv
          obtain ⟨v, hv'⟩ : ∃ q, q = (N.get s).getD 0 := ⟨_, rfl⟩
          have hlv2 : (Instr.lookup 94 (.map (some lb)) (.string (baOf s)) false).run Tryz.prog wr = .ok (.int .i64 v) wr := by rw [hv']; exact hlv
          obtain ⟨tk, htk⟩ : ∃ q, q = min n v := ⟨_, rfl⟩
          have hstep := HTK.out.step hs hv'
          rw [← htk] at hstep
          have hbd := HTK.out.bd s
          rw [← hv'] at hbd
          have hps := HTK.out.pos
          have hnb := HNB.out
          have HSTP := Lib.hid hstep
          have HNL : Hid (N.length < maxLen) := Lib.hid (by have h1 := HTK.out.len; have h2 := HLM.out; unfold maxLen; omega)
          obtain ⟨w8, hr8, hM8, ht8⟩ := HMN2.out.put TMi.ok (baOf s) HSS.out (v - tk) HNL.out
          rw [show (baOf s).data.toList = s from bsOf_baOf s] at hM8
          have hr8' : (Instr.mapUpdate 94 (.map (some lb)) (.string (baOf s)) (.int .i64 (v - tk))).run Tryz.prog wr = .ok () w8 := hr8
          have HF8 := Lib.hid (And.intro hM8 (Gr.trans HG2.out ht8.grown))
          have hmin1 : (if v < n then v else n) = tk := by rw [htk]; split <;> omega
          have hmin2 : min n v = tk := htk.symm
          have hw1 : IntKind.i64.wrap (v - tk) = v - tk := IntWalk.i64_in _ (by omega)
          have hw2 : IntKind.i64.wrap (n - tk) = n - tk := IntWalk.i64_in _ (by omega)
          have hadd2 : IntKind.i64.wrap ((j : Int) + 1) = ((j + 1 : Nat) : Int) := by rw [IntWalk.i64_in _ (by omega)]; omega
          have j2 : (j : Int) < (ln : Int) := by omega
          clear hs hlv hv' htk hstep hbd hps hnb hr8 hM8 ht8
          go_wp2
          go_roundw
          case rel => exact ⟨j + 1, n - tk, _, by omega, by go_num, rfl, HSTP, Lib.hid HF8.out.1, Lib.hid HF8.out.2⟩
          case measure => simp [intOf]; omega
        · obtain rfl : j = ln := by omega
          have hst := HTK.out.stop (by rw [← HEN.out]; exact Nat.le_refl _)
          have hsh := HSI.out.step HKK.out (by rw [HNV.out]; exact HNB.out.1)
          rw [HNV.out, ← HL2.out, hst] at hsh
          have HSH := Lib.hid hsh
          have HLN : Hid (N.length ≤ 1000 + 300000 * (k + 1)) := Lib.hid (by have h1 := HTK.out.len; have h2 := HLM.out; omega)
          have HGR := Lib.hid (Gr.trans HG7.out HG2.out)
          have HQR := Lib.hid (HQ7.out wr HG2.out)
          obtain ⟨d9, lP9⟩ := HXQ.out wr HG2.out
          have HZR : Hid (w5.heap.size ≤ wr.heap.size) := Lib.hid HGR.out.size
          clear hst hsh
          by_cases hn : 0 < n
          · have HSH2 : Hid (ShI l (needK need) (mapK hv) (keysK need) (k + 1) N (out ++ [bsOf ky])) := Lib.hid (by have := HSH.out; rw [if_pos hn] at this; exact this)
            have HOL : Hid ((out.map baOf).length ≤ 1000000) := Lib.hid (by rw [List.length_map, ← HON.out]; omega)
            clear HSH
            go_wp2_with (at_builtin; refine wp_app_r TS.ok rfl _ _ rfl w5.heap.size _ (out.map baOf) rfl (HQR.out.alloc _) wr.heap.size 1 ky rfl (blk_new wr _) rfl HOL.out (by have := HZR.out; simp; omega) ?_)
            intro v9 w9 hO9 hg9 _
            rw [show out.map baOf ++ [ky] = (out ++ [bsOf ky]).map baOf from by rw [List.map_append, List.map_cons, List.map_nil, baOf_bs]] at hO9
            have HO9 := Lib.hid hO9
            have HM9 : Hid (MapS TMi w9 lb N) := Lib.hid (map_off (HMN2.out.alloc (.cells #[.string ky] 9)) (HQR.out.alloc _) hg9)
            have HG9 : Hid (w5.grownBy w9 (some lb)) := Lib.hid (Gr.appR (Gr.alloc HGR.out (.cells #[.string ky] 9)) (HQR.out.alloc _) hg9 (Nat.le_refl _))
            clear hO9 hg9 d9 lP9
            go_wp2
            go_roundw
            case rel => exact ⟨k + 1, _, N, by omega, by go_num, HSH2, HLN, HM9, HO9, HG9⟩
            case measure => simp [intOf]; omega
          · have HSH2 : Hid (ShI l (needK need) (mapK hv) (keysK need) (k + 1) N out) := Lib.hid (by have := HSH.out; rw [if_neg hn, List.append_nil] at this; exact this)
            clear HSH
            go_wp2
            go_roundw
            case rel => exact ⟨k + 1, out, N, by omega, by go_num, HSH2, HLN, HMN2, HQR, HGR⟩
            case measure => simp [intOf]; omega
end Go.Proofs.YteojmljggoplkaaGreatDoor
