/- Texts of the proof of a law, put together, part 32 of 35. Conditions: none beyond those that each theorem names. -/
import Derived.Test.YtihgnpobkpnipaaGreatDoorCz23
import Derived.Test.YtihgnpobkpnipaaGreatDoorCz27
import Derived.Test.YtihgnpobkpnipaaGreatDoorCz28
import Derived.Test.YtihgnpobkpnipaaGreatDoorCz30
import Derived.Test.YtihgnpobkpnipaaGreatDoorCz31
import Derived.Shelf.SlGeneric
import Derived.Shelf.SlIter.Nil
import Derived.Shelf.SortM.Plain
import Derived.Shelf.SortM.SortNone
import Derived.Ground.GgzProg
import Derived.Ground.SlgmProg
import Derived.Test.YtihgnpobkpnipaaGreatDoorProg
namespace Go.Proofs.YtihgnpobkpnipaaGreatDoor
open Go.RowKit Go.Sort Go.Maps Go.Lib
theorem bsC_inj {a b : ByteArray} (h : bsOf a = bsOf b) : a = b := by
  have h2 := congrArg baOf h
  rwa [baOf_bsOf, baOf_bsOf] at h2
theorem bsEc {t : ByteArray} (h : bsOf t = []) : t = ⟨#[]⟩ := bsC_inj h
theorem catRead_small (t : Bs) : (catRead t).1.1.length ≤ 100000 ∧ (catRead t).1.2.length ≤ 100000 := by
  unfold catRead
  split
  · exact ⟨Nat.zero_le _, Nat.zero_le _⟩
  · cases readSt rdC 0 ([], []) (splitL 10 t) with
    | error i => exact ⟨Nat.zero_le _, Nat.zero_le _⟩
    | ok c =>
      by_cases h : catsF c.1 c.2 = 0
      · have e : rdEndC (.ok c) = (c, 0, 0) := by
          show (if catsF c.1 c.2 = 0 then (c, 0, 0) else (([], []), 0, catsF c.1 c.2) : Cst × Int × Int) = (c, 0, 0)
          rw [if_pos h]
        rw [e]
        have h1 := (catsF_ok h).1
        have h2 := (catsF_ok h).2.2.1
        exact ⟨by show c.1.length ≤ _; omega, by show c.2.length ≤ _; omega⟩
      · have e : rdEndC (.ok c) = (([], []), 0, catsF c.1 c.2) := by
          show (if catsF c.1 c.2 = 0 then (c, 0, 0) else (([], []), 0, catsF c.1 c.2) : Cst × Int × Int) = (([], []), 0, catsF c.1 c.2)
          rw [if_neg h]
        rw [e]
        exact ⟨Nat.zero_le _, Nat.zero_le _⟩
set_option maxHeartbeats 8000000 in
set_option maxRecDepth 100000 in
theorem CataloguesChecked_any (li : List Int) (v : Value) (w : World) (rl : Ints w 0 v li) (hl : ∀ x ∈ li, -9223372036854775808 ≤ x ∧ x ≤ 9223372036854775807) (hT : TxW w) :
    Calls Tryz.prog 3 #[v] w fun e w' => e = .returned (.bool true) ∧ Below w.heap.size w w' := by
  obtain ⟨xa, xcap, rfl, hc1, hc2⟩ := Ints.form rl
  obtain ⟨w0, hw0⟩ : ∃ w0, w0 = w.alloc (.cells #[.slice xa li.length xcap, .int .i64 0] 25) := ⟨_, rfl⟩
  have hs0 : Str w0 w.heap.size 0 := by rw [hw0]; exact Str.begin rl hl
  have hb0 : Below w.heap.size w w0 := by rw [hw0]; exact Bl.alloc (Below.refl w.heap.size w) _
  obtain ⟨hg1, hg2⟩ := hT.size
  have HG := Lib.hid (And.intro hg1 hg2)
  have HT := Lib.hid hT
  have HW0 := Lib.hid hw0
  have HB0 := Lib.hid hb0
  have hz0 : w.heap.size < w0.heap.size := hs0.lt
  clear rl hl hT hw0 hb0 hg1 hg2
  go_enter Tryz.func3, Tryz.ntmps3
  go_wp2_with fail
  rw [← HW0.out]
  refine (CatalogueOf_any w.heap.size 0 w0 hs0 (by omega)).mono ?_
  rintro e w1 ⟨⟨vp, va, ps, l, rfl, hOp, hOa, hp5, hl25, hkp, hka⟩, hS1, hG1⟩
  obtain ⟨pa, pc, rfl, _, _⟩ := hOp.form
  obtain ⟨aa, ac, rfl, _, _⟩ := hOa.form
  obtain ⟨w2, hw2⟩ : ∃ w2, w2 = w1.alloc (.cells #[.slice pa ps.length pc, .slice aa l.length ac] 29) := ⟨_, rfl⟩
  have hb2 : Below w1.heap.size w1 w2 := by rw [hw2]; exact Bl.alloc (Below.refl _ _) _
  obtain ⟨C, hC⟩ : ∃ C, C = w1.heap.size := ⟨_, rfl⟩
  have HS2 := Lib.hid (hS1.below hb2)
  have HB2 : Hid (Below w.heap.size w w2) := Lib.hid (Below.trans HB0.out (Below.trans (Gr.below hG1 (Nat.le_refl _) (Nat.le_of_lt hz0)) (hb2.mono (Nat.le_trans (Nat.le_of_lt hz0) hG1.size))))
  have HCR : Hid (∀ W, Below w2.heap.size w2 W → CatR W (.slice pa ps.length pc) (.slice aa l.length ac) ps l) := Lib.hid fun W hW => ⟨((hOp.below hb2).below hW).rec0, ((hOa.below hb2).below hW).rec0⟩
  have HCC : Hid (∀ W, Below w2.heap.size w2 W → W.cell? ⟨C, 0, none⟩ = some (.slice pa ps.length pc) ∧ W.cell? ⟨C, 1, none⟩ = some (.slice aa l.length ac)) := Lib.hid fun W hW => by
    have h3 : W.heap[C]? = _ := blk_below (show w2.heap[C]? = some (.cells #[.slice pa ps.length pc, .slice aa l.length ac] 29 (0, 0)) by rw [hw2, hC]; exact blk_new w1 _) hW
    exact ⟨blk_cell h3 0, blk_cell h3 1⟩
  have HZ : Hid (PrtZ ps ∧ AltZ l) := Lib.hid ⟨fun x hx => ⟨Nat.le_trans (hkp x hx).1 (by decide), Nat.le_trans (hkp x hx).2.1 (by decide)⟩, fun x hx => ⟨Nat.le_trans (hka x hx).1 (by decide), Nat.le_trans (hka x hx).2 (by decide)⟩⟩
  have HW2 := Lib.hid hw2
  have HCQ := Lib.hid hC
  obtain ⟨F, hF⟩ : ∃ F, F = catsF ps l := ⟨_, rfl⟩
  have HF := Lib.hid hF
  have H10 := CatalogueFault_any ps l (.slice pa ps.length pc) (.slice aa l.length ac) w2 (by omega) (by omega) HZ.out.1 HZ.out.2 (HCR.out _ (Below.refl _ _))
  have H20 := fun W (hW : Below w2.heap.size w2 W) => CheckCatalogue_any ps l (.slice pa ps.length pc) (.slice aa l.length ac) W (by omega) (by omega) HZ.out.1 HZ.out.2 (HCR.out _ hW)
  have H30 := fun W (hW : Below w2.heap.size w2 W) (h : ¬ F = 0) => CatText_bad ps l (.slice pa ps.length pc) (.slice aa l.length ac) W (by omega) (by omega) HZ.out.1 HZ.out.2 (HCR.out _ hW) (by rw [← hF]; exact h)
  have H40 := fun W (hW : Below w2.heap.size w2 W) (h : F = 0) => CatText_ok ps l (.slice pa ps.length pc) (.slice aa l.length ac) W (HT.out.below (Bl.trans HB2.out hW)) HZ.out.1 HZ.out.2 (HCR.out _ hW) (by rw [← hF]; exact h) (by have := catText_len (hF.symm.trans h); omega)
  have H50 := fun W (hW : Below w2.heap.size w2 W) (h : F = 0) => CatLines_any ps l (.slice pa ps.length pc) (.slice aa l.length ac) W (HT.out.below (Bl.trans HB2.out hW)) (HCR.out _ hW) (by rw [← hF]; exact h)
  rw [← hF] at H10
  simp only [← hF] at H20 H30
  obtain ⟨pn, hpn⟩ : ∃ q, q = ps.length := ⟨_, rfl⟩
  obtain ⟨an, han⟩ : ∃ q, q = l.length := ⟨_, rfl⟩
  rw [← hpn, ← han] at H10 HW2 HCC
  simp only [← hpn, ← han] at H20 H30 H40 H50
  rw [← hpn, ← han]
  have H1 := Lib.hid H10
  have H2 := Lib.hid H20
  have H3 := Lib.hid H30
  have H4 := Lib.hid H40
  have H5 := Lib.hid H50
  obtain ⟨q0, q1⟩ := HCC.out w2 (Below.refl _ _)
  clear hOp hOa hp5 hl25 hkp hka hS1 hG1 hw2 hb2 hC hF H10 H20 H30 H40 H50 hpn han
  go_upto_region 3 with fail
  rw [← HW2.out, ← HCQ.out]
  go_wp2_with fail
  refine H1.out.mono ?_
  rintro e w3 ⟨rfl, hb3⟩
  have HB3 := Lib.hid hb3
  obtain ⟨q0, q1⟩ := HCC.out w3 hb3
  clear hb3 H1
  go_wp2_with fail
  refine (H2.out _ HB3.out).mono ?_
  rintro e w4 ⟨rfl, hb4⟩
  have HB4 := Lib.hid (Bl.trans HB3.out hb4)
  obtain ⟨q0, q1⟩ := HCC.out w4 HB4.out
  clear hb4 H2
  by_cases h0 : F = 0
  case' pos =>
    have HT4 := Lib.hid (H4.out w4 HB4.out h0)
    have HL5 := Lib.hid fun W hW => H5.out W hW h0
    subst h0
    clear H3 H4 H5
    go_wp2_with fail
    refine HT4.out.mono ?_
    rintro e w5 ⟨r, rfl, hr, hb5⟩
    have HB5 := Lib.hid (Bl.trans HB4.out hb5)
    have HR := Lib.hid hr
    obtain ⟨q0, q1⟩ := HCC.out w5 HB5.out
    clear hb5 hr HT4
    go_wp2_with fail
    refine (HL5.out _ HB5.out).mono ?_
    rintro e w6 ⟨r2, rfl, hr2, hb6⟩
    obtain rfl : r2 = r := bsC_inj (hr2.trans HR.out.symm)
    have HB6 := Lib.hid (Bl.trans HB5.out hb6)
    clear hb6 hr2 HL5
  case' neg =>
    have HT4 := Lib.hid (H3.out w4 HB4.out h0)
    have h1 : (F != 0) = true := by simpa using h0
    have h2 : (F == 0) = false := by simpa using h0
    clear H3 H4 H5
    go_wp2_with fail
    refine HT4.out.mono ?_
    rintro e w6 ⟨rfl, hb6⟩
    have HB6 := Lib.hid (Bl.trans HB4.out hb6)
    clear hb6 HT4
  all_goals (
    obtain ⟨hg1, hg2⟩ := HG.out
    have hBE := Bl.trans HB2.out HB6.out
    have hsE := HS2.out.below HB6.out
    have hzE := hBE.size
    have HST := Lib.hid (CatString_any w.heap.size _ w6 hsE (HT.out.below hBE) hg1 hg2 (by omega))
    clear hsE hg1 hg2
    go_wp2_with fail
    refine HST.out.mono ?_
    rintro e wF ⟨tt, rfl, hts, hsF, hGF⟩
    have hBF := Below.trans hBE (Gr.below hGF (Nat.le_refl _) hzE)
    have HR10 : ∀ W, Below wF.heap.size wF W → Calls Tryz.prog 13 #[.string tt] W fun e w' => RdR (bsOf tt) W e w' := fun W hW => CatRead_any tt W (HT.out.below (Bl.trans hBF hW)) (by omega)
    have HR20 : ∀ W, Below wF.heap.size wF W → Calls Tryz.prog 14 #[.string tt] W fun e w' => RdR (bsOf tt) W e w' := fun W hW => CRead_any tt W (HT.out.below (Bl.trans hBF hW)) (by omega)
    have hsm := catRead_small (bsOf tt)
    obtain ⟨PP, hPP⟩ : ∃ q, q = (catRead (bsOf tt)).1.1 := ⟨_, rfl⟩
    obtain ⟨LL, hLL⟩ : ∃ q, q = (catRead (bsOf tt)).1.2 := ⟨_, rfl⟩
    obtain ⟨i2, hi2⟩ : ∃ q, q = (catRead (bsOf tt)).2.1 := ⟨_, rfl⟩
    obtain ⟨g2, hgg⟩ : ∃ q, q = (catRead (bsOf tt)).2.2 := ⟨_, rfl⟩
    unfold RdR at HR10 HR20
    rw [← hPP, ← hLL, ← hi2, ← hgg] at HR10 HR20
    rw [← hPP, ← hLL] at hsm
    have HSM := Lib.hid hsm
    have HR1 := Lib.hid (HR10 wF (Below.refl _ _))
    have HRR := Lib.hid HR20
    have HBF := Lib.hid hBF
    clear hsF hGF hBF HR10 HR20 hPP hLL hi2 hgg HST hBE hsm hzE hts
    go_wp2_with fail
    refine HR1.out.mono ?_
    rintro e wG ⟨p1, a1, rfl, hc1, hbG⟩
    obtain ⟨x1, y1, e1⟩ : ∃ x y, p1 = .slice x PP.length y := by obtain ⟨a, c, h, _, _⟩ := hc1.p.form; exact ⟨a, c, h⟩
    obtain ⟨x2, y2, e2⟩ : ∃ x y, a1 = .slice x LL.length y := by obtain ⟨a, c, h, _, _⟩ := hc1.a.form; exact ⟨a, c, h⟩
    obtain ⟨wH, hwH⟩ : ∃ q, q = wG.alloc (.cells #[p1, a1] 29) := ⟨_, rfl⟩
    have hbH : Below wG.heap.size wG wH := by rw [hwH]; exact Bl.alloc (Below.refl _ _) _
    have HHX : Hid (wH.heap[wG.heap.size]? = some (.cells #[p1, a1] 29 (0, 0))) := Lib.hid (by rw [hwH]; exact blk_new wG _)
    have HCH := Lib.hid (hc1.low hbH)
    have HBH := Lib.hid (Bl.trans hbG hbH)
    have HWH := Lib.hid hwH
    subst e1 e2
    clear hc1 hbG hbH hwH HR1
    go_upto_region 11 with fail
    rw [← HWH.out]
    go_wp2_with fail
    refine (HRR.out wH HBH.out).mono ?_
    rintro e wI ⟨p2, a2, rfl, hc2, hbI⟩
    obtain ⟨x3, y3, e3⟩ : ∃ x y, p2 = .slice x PP.length y := by obtain ⟨a, c, h, _, _⟩ := hc2.p.form; exact ⟨a, c, h⟩
    obtain ⟨x4, y4, e4⟩ : ∃ x y, a2 = .slice x LL.length y := by obtain ⟨a, c, h, _, _⟩ := hc2.a.form; exact ⟨a, c, h⟩
    obtain ⟨wJ, hwJ⟩ : ∃ q, q = wI.alloc (.cells #[p2, a2] 29) := ⟨_, rfl⟩
    have hbJ : Below wI.heap.size wI wJ := by rw [hwJ]; exact Bl.alloc (Below.refl _ _) _
    have hj2 : wJ.heap[wI.heap.size]? = some (.cells #[p2, a2] 29 (0, 0)) := by rw [hwJ]; exact blk_new wI _
    have hbHJ : Below wH.heap.size wH wJ := Bl.trans hbI hbJ
    have hj1 := blk_below HHX.out hbHJ
    subst e3 e4
    have HEQ := Lib.hid (SameCat_same PP LL _ _ _ _ wJ HSM.out.1 HSM.out.2 (HCH.out.low hbHJ) (hc2.low hbJ))
    have HBJ := Lib.hid (Bl.trans HBF.out (Bl.trans HBH.out hbHJ))
    have k0 : wJ.cell? ⟨wG.heap.size, 0, none⟩ = some (.slice x1 PP.length y1) := blk_cell hj1 0
    have k1 : wJ.cell? ⟨wG.heap.size, 1, none⟩ = some (.slice x2 LL.length y2) := blk_cell hj1 1
    have m0 : wJ.cell? ⟨wI.heap.size, 0, none⟩ = some (.slice x3 PP.length y3) := blk_cell hj2 0
    have m1 : wJ.cell? ⟨wI.heap.size, 1, none⟩ = some (.slice x4 LL.length y4) := blk_cell hj2 1
    have HWJ := Lib.hid hwJ
    clear hc2 hbI hbJ hbHJ hwJ hj1 hj2 HHX HCH HRR
    go_upto_region 12 with fail
    rw [← HWJ.out]
    go_wp2_with fail
    refine HEQ.out.mono ?_
    rintro e wK ⟨rfl, hbK⟩
    have HBK := Lib.hid (Bl.trans HBJ.out hbK)
    clear hbK HEQ
    go_wp2_with fail
    refine (aged_any _).mono ?_
    rintro e w' ⟨rfl, rfl⟩
    go_wp2
    go_ret
    exact ⟨rfl, HBK.out⟩)
end Go.Proofs.YtihgnpobkpnipaaGreatDoor
namespace Go.Proofs
open Go.Shelf
def Tryz.sorted76_ren : Go.Shelf.Ren := ⟨fun | 6 => 76 | 8 => 114 | 9 => 78 | 11 => 151 | 13 => 117 | 12 => 116 | 23 => 161 | 24 => 162 | 14 => 152 | 15 => 153 | 16 => 154 | 17 => 155 | 18 => 156 | 19 => 157 | 20 => 158 | 21 => 159 | 22 => 160 | 25 => 188 | 26 => 189 | 27 => 190 | 28 => 191 | 29 => 192 | 30 => 193 | 31 => 210 | n => n, fun | 26 => 9 | 28 => 138 | 24 => 45 | 0 => 0 | 3 => 3 | 37 => 175 | 48 => 216 | 50 => 202 | 4 => 4 | 40 => 210 | 39 => 209 | 45 => 52 | 5 => 5 | 9 => 9 | 51 => 237 | 55 => 241 | 57 => 257 | 58 => 258 | 33 => 58 | n => n, fun | n => n⟩
theorem Tryz.sorted76 : Go.Proofs.SlLaysZ.n6 Tryz.prog Tryz.sorted76_ren := {
  mixed := by kernel_rfl
  f6 := ⟨Tryz.f76.name, by decide, Tryz.func76.trans (congrArg some (by kernel_rfl))⟩
  f8 := ⟨Tryz.f114.name, by decide, Tryz.func114.trans (congrArg some (by kernel_rfl))⟩
  f11 := ⟨Tryz.f151.name, by decide, Tryz.func151.trans (congrArg some (by kernel_rfl))⟩
  t0 := Tryz.underlying0
  a0 := Tryz.isAgg0
  z0 := Tryz.sizeOf0
  v0 := Tryz.zeroValue0
  t24 := Tryz.underlying45
  a24 := Tryz.isAgg45
  z24 := Tryz.sizeOf45
  v24 := Tryz.zeroValue45
  t26 := Tryz.underlying9
  a26 := Tryz.isAgg9
  z26 := Tryz.sizeOf9
  v26 := Tryz.zeroValue9
  t28 := Tryz.underlying138
  a28 := Tryz.isAgg138
  z28 := Tryz.sizeOf138
  v28 := Tryz.zeroValue138
  i26 := by kernel_rfl }
def Tryz.sort78_ren : Go.Shelf.Ren := ⟨fun | 6 => 78 | 8 => 117 | 9 => 116 | 19 => 161 | 20 => 162 | 21 => 152 | 22 => 153 | 23 => 154 | 24 => 155 | 25 => 156 | 26 => 157 | 27 => 158 | 28 => 159 | 29 => 160 | 36 => 188 | 31 => 189 | 32 => 190 | 37 => 191 | 38 => 192 | 39 => 193 | 41 => 210 | n => n, fun | 27 => 45 | 29 => 9 | 3 => 3 | 32 => 175 | 26 => 45 | 0 => 0 | 44 => 216 | 46 => 202 | 4 => 4 | 36 => 210 | 35 => 209 | 41 => 52 | 5 => 5 | 9 => 9 | 53 => 237 | 57 => 241 | 63 => 257 | 64 => 258 | n => n, fun | n => n⟩
theorem Tryz.sort78 : Go.Proofs.SlLaysM.n6 Tryz.prog Tryz.sort78_ren := {
  mixed := by kernel_rfl
  f6 := ⟨Tryz.f78.name, by decide, Tryz.func78.trans (congrArg some (by kernel_rfl))⟩
  f8 := Tryz.func117.trans (congrArg some (by kernel_rfl))
  f9 := ⟨Tryz.f116.name, by decide, Tryz.func116.trans (congrArg some (by kernel_rfl))⟩
  f19 := Tryz.func161.trans (congrArg some (by kernel_rfl))
  f20 := Tryz.func162.trans (congrArg some (by kernel_rfl))
  f21 := ⟨Tryz.f152.name, by decide, Tryz.func152.trans (congrArg some (by kernel_rfl))⟩
  f22 := ⟨Tryz.f153.name, by decide, Tryz.func153.trans (congrArg some (by kernel_rfl))⟩
  f23 := ⟨Tryz.f154.name, by decide, Tryz.func154.trans (congrArg some (by kernel_rfl))⟩
  f24 := ⟨Tryz.f155.name, by decide, Tryz.func155.trans (congrArg some (by kernel_rfl))⟩
  f25 := ⟨Tryz.f156.name, by decide, Tryz.func156.trans (congrArg some (by kernel_rfl))⟩
  f26 := ⟨Tryz.f157.name, by decide, Tryz.func157.trans (congrArg some (by kernel_rfl))⟩
  f27 := ⟨Tryz.f158.name, by decide, Tryz.func158.trans (congrArg some (by kernel_rfl))⟩
  f28 := ⟨Tryz.f159.name, by decide, Tryz.func159.trans (congrArg some (by kernel_rfl))⟩
  f29 := ⟨Tryz.f160.name, by decide, Tryz.func160.trans (congrArg some (by kernel_rfl))⟩
  f31 := Tryz.func189.trans (congrArg some (by kernel_rfl))
  f32 := Tryz.func190.trans (congrArg some (by kernel_rfl))
  f36 := ⟨Tryz.f188.name, by decide, Tryz.func188.trans (congrArg some (by kernel_rfl))⟩
  f37 := ⟨Tryz.f191.name, by decide, Tryz.func191.trans (congrArg some (by kernel_rfl))⟩
  f38 := ⟨Tryz.f192.name, by decide, Tryz.func192.trans (congrArg some (by kernel_rfl))⟩
  f39 := ⟨Tryz.f193.name, by decide, Tryz.func193.trans (congrArg some (by kernel_rfl))⟩
  f41 := ⟨Tryz.f210.name, by decide, Tryz.func210.trans (congrArg some (by kernel_rfl))⟩
  t0 := Tryz.underlying0
  a0 := Tryz.isAgg0
  z0 := Tryz.sizeOf0
  v0 := Tryz.zeroValue0
  t3 := Tryz.underlying3
  a3 := Tryz.isAgg3
  z3 := Tryz.sizeOf3
  v3 := Tryz.zeroValue3
  t4 := Tryz.underlying4
  a4 := Tryz.isAgg4
  z4 := Tryz.sizeOf4
  v4 := Tryz.zeroValue4
  t5 := Tryz.underlying5
  a5 := Tryz.isAgg5
  z5 := Tryz.sizeOf5
  v5 := Tryz.zeroValue5
  t9 := Tryz.underlying9
  a9 := Tryz.isAgg9
  z9 := Tryz.sizeOf9
  v9 := Tryz.zeroValue9
  t26 := Tryz.underlying45
  a26 := Tryz.isAgg45
  z26 := Tryz.sizeOf45
  v26 := Tryz.zeroValue45
  t27 := Tryz.underlying45
  a27 := Tryz.isAgg45
  z27 := Tryz.sizeOf45
  v27 := Tryz.zeroValue45
  t29 := Tryz.underlying9
  a29 := Tryz.isAgg9
  z29 := Tryz.sizeOf9
  v29 := Tryz.zeroValue9
  t32 := Tryz.underlying175
  a32 := Tryz.isAgg175
  z32 := Tryz.sizeOf175
  v32 := Tryz.zeroValue175
  t35 := Tryz.underlying209
  a35 := Tryz.isAgg209
  z35 := Tryz.sizeOf209
  v35 := Tryz.zeroValue209
  t36 := Tryz.underlying210
  a36 := Tryz.isAgg210
  z36 := Tryz.sizeOf210
  v36 := Tryz.zeroValue210
  t41 := Tryz.underlying52
  a41 := Tryz.isAgg52
  z41 := Tryz.sizeOf52
  v41 := Tryz.zeroValue52
  t44 := Tryz.underlying216
  a44 := Tryz.isAgg216
  z44 := Tryz.sizeOf216
  v44 := Tryz.zeroValue216
  t46 := Tryz.underlying202
  a46 := Tryz.isAgg202
  z46 := Tryz.sizeOf202
  v46 := Tryz.zeroValue202
  t53 := Tryz.underlying237
  a53 := Tryz.isAgg237
  z53 := Tryz.sizeOf237
  v53 := Tryz.zeroValue237
  t57 := Tryz.underlying241
  a57 := Tryz.isAgg241
  z57 := Tryz.sizeOf241
  v57 := Tryz.zeroValue241
  t63 := Tryz.underlying257
  a63 := Tryz.isAgg257
  z63 := Tryz.sizeOf257
  v63 := Tryz.zeroValue257
  t64 := Tryz.underlying258
  a64 := Tryz.isAgg258
  z64 := Tryz.sizeOf258
  v64 := Tryz.zeroValue258 }
def Tryz.keys176_ren : Go.Shelf.Ren := ⟨fun | 7 => 176 | 10 => 204 | n => n, fun | 23 => 135 | 26 => 9 | 3 => 4 | 28 => 138 | 0 => 0 | 27 => 137 | 33 => 58 | 4 => 4 | n => n, fun | n => n⟩
theorem Tryz.keys176 : Go.Proofs.SlLaysZ.n7 Tryz.prog Tryz.keys176_ren := {
  mixed := by kernel_rfl
  f7 := ⟨Tryz.f176.name, by decide, Tryz.func176.trans (congrArg some (by kernel_rfl))⟩
  f10 := ⟨Tryz.f204.name, by decide, Tryz.func204.trans (congrArg some (by kernel_rfl))⟩
  t0 := Tryz.underlying0
  a0 := Tryz.isAgg0
  z0 := Tryz.sizeOf0
  v0 := Tryz.zeroValue0
  t4 := Tryz.underlying4
  a4 := Tryz.isAgg4
  z4 := Tryz.sizeOf4
  v4 := Tryz.zeroValue4
  t23 := Tryz.underlying135
  a23 := Tryz.isAgg135
  z23 := Tryz.sizeOf135
  v23 := Tryz.zeroValue135
  t26 := Tryz.underlying9
  a26 := Tryz.isAgg9
  z26 := Tryz.sizeOf9
  v26 := Tryz.zeroValue9
  t27 := Tryz.underlying137
  a27 := Tryz.isAgg137
  z27 := Tryz.sizeOf137
  v27 := Tryz.zeroValue137
  t28 := Tryz.underlying138
  a28 := Tryz.isAgg138
  z28 := Tryz.sizeOf138
  v28 := Tryz.zeroValue138
  t33 := Tryz.underlying58
  a33 := Tryz.isAgg58
  z33 := Tryz.sizeOf58
  v33 := Tryz.zeroValue58 }
open Go.RowKit Go.Maps Go.Sort
theorem Tryz.sorts76 (m : Nat) : AnyZ.SortsIn Tryz.prog Tryz.sorted76_ren Fence.wide m :=
  ⟨fun blk off cap ss W hH hblk hsz => callsIn_wide.2 (AnyM.slices_Sort_string Tryz.sort78 blk off cap ss W hH hblk hsz),
   fun p cap W => callsIn_wide.2 (AnyM.slices_Sort_string_none Tryz.sort78 p cap W)⟩
theorem Tryz.maps_Keys_176 (mb : Option Nat) (W : World) : CallsIn Fence.wide 5 Tryz.prog 176 #[.map mb] W fun e w' => e = .returned (.func (.func 204) #[] #[.pointer (some ⟨W.heap.size, 0, none⟩)]) ∧ w' = W.alloc (.cells #[.map mb] 135) :=
  AnyZ.keys_in Tryz.keys176 Fence.wide 5 trivial rfl mb W
set_option maxHeartbeats 1000000 in
theorem Tryz.slices_Sorted_keys_76_176 {H : Type} (b nn : Nat) (D0 : DataW H) (R : Value → Option (DataW H × List MemPlace)) (w : World) (hown : w.ownsMap Tryz.prog 9 R b nn D0) (hmax : Maps.size D0 ≤ maxLen) (hbytes : Maps.size D0 * 16 ≤ 140737488355328) :
    CallsIn Fence.wide 5 Tryz.prog 76 #[.func (.func 204) #[] #[.pointer (some ⟨w.heap.size, 0, none⟩)]] (w.alloc (.cells #[.map (some b)] 135)) fun e w' => ∃ (v : Value) (ss : List (List UInt8)), e = .returned v ∧ ss.Perm (strKeys D0) ∧
      w'.ownsRow (w.alloc (.cells #[.map (some b)] 135)).heap.size 9 1 v ss.length ((ss.mergeSort (fun x y => decide (x ≤ y))).map encStr) ∧ (v = .slice none 0 0 ↔ ss = []) ∧ Below (w.alloc (.cells #[.map (some b)] 135)).heap.size (w.alloc (.cells #[.map (some b)] 135)) w' := by
  have hbl := hown.lt
  have hseq : SeqGives Fence.wide 2 Tryz.prog 204 #[.pointer (some ⟨w.heap.size, 0, none⟩)] encStr (fun ss => ss.Perm (strKeys D0)) (Maps.size D0) (w.alloc (.cells #[.map (some b)] 135)) :=
    AnyZ.keys_gives (ρ := Tryz.keys176_ren) { Tryz.keys176 with } Fence.wide _ trivial rfl (by omega) w.heap.size b nn D0 _ (by simp) (by simp) (by
      obtain ⟨es, clock, hb, Ft, hs, hD⟩ := hown
      exact ⟨es, clock, (Below.heap_alloc _ _ b hbl).trans hb, Ft, hs, hD⟩)
  exact AnyZ.sorted_in Tryz.sorted76 Fence.wide 5 trivial trivial trivial trivial rfl (by omega) (Tryz.sorts76 _) (enters_of Tryz.func78 (by kernel_rfl) rfl) 204 #[.pointer (some ⟨w.heap.size, 0, none⟩)] trivial (enters_of Tryz.func204 (by kernel_rfl) rfl) _ _ hmax hbytes _ hseq
end Go.Proofs
