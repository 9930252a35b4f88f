/- Texts of the proof of a law, put together, part 40 of 41. Conditions: none beyond those that each theorem names. -/
import Derived.Test.YtihgnpobkpnipaaGreatDoorQz3
import Derived.Test.YtihgnpobkpnipaaGreatDoorQz24
import Derived.Test.YtihgnpobkpnipaaGreatDoorQz28
import Derived.Test.YtihgnpobkpnipaaGreatDoorQz36
import Derived.Test.YtihgnpobkpnipaaGreatDoorQz37
import Derived.Test.YtihgnpobkpnipaaGreatDoorQz39
namespace Go.Proofs.YtihgnpobkpnipaaGreatDoor
open Go.RowKit Go.Sort Go.Maps
def VTp (B : Nat) (l : List ByteArray) : Value → World → Prop := fun v W => ∃ v', v = .tuple #[v', .int .i64 0] ∧ OwnR TS W B v' l
def VOq (B : Nat) (l : List ByteArray) : Value → World → Prop := fun v W => OwnR TS W B v l
theorem VTp.low {B : Nat} {l : List ByteArray} {v : Value} {w w' : World} (h : VTp B l v w) (hb : Below w.heap.size w w') : VTp B l v w' := by
  obtain ⟨v', e, h⟩ := h
  exact ⟨v', e, h.below hb⟩
theorem VOq.low {B : Nat} {l : List ByteArray} {v : Value} {w w' : World} (h : VOq B l v w) (hb : Below w.heap.size w w') : VOq B l v w' := OwnR.below h hb
/-- a right catalogue's names are short, its rows are few. -/
theorem catsF_sml {ps : List Prt} {l : List Alt} (h : catsF ps l = 0) : PrtZ ps ∧ AltZ l ∧ ps.length ≤ 100000 ∧ l.length ≤ 100000 := by
  obtain ⟨h1, h2⟩ := catsF_PtT h
  have h3 := (catsF_ok h).1
  have h4 := (catsF_ok h).2.2.1
  refine ⟨fun x hx => ?_, fun x hx => ?_, by omega, by omega⟩
  · have a := keyB_size (h1 x hx).k
    have b := keyB_size (h1 x hx).p
    exact ⟨by omega, by omega⟩
  · have a := keyB_size (h2 x hx).f
    have b := keyB_size (h2 x hx).b
    exact ⟨by omega, by omega⟩
set_option maxHeartbeats 32000000 in
set_option maxRecDepth 100000 in
theorem CataloguesStay_any (li : List Int) (v : Value) (w : World) (rl : Ints w 0 v li) (hl : ∀ x ∈ li, -9223372036854775808 ≤ x ∧ x ≤ 9223372036854775807) (hT : TxW w) :
    Calls Tryz.prog 6 #[v] w fun e w' => e = .returned (.bool true) ∧ Below w.heap.size w w' := by
  obtain ⟨xa, xcap, rfl, hc1, hc2⟩ := Ints.form rl
  obtain ⟨w0, hw0⟩ : ∃ w0, w0 = (w.alloc (.cells #[.slice xa li.length xcap, .int .i64 0] 25)).alloc (.cells #[.slice xa li.length xcap, .int .i64 0] 25) := ⟨_, rfl⟩
  have hs1 : StrX w0 w.heap.size li 0 := by rw [hw0]; exact (StrX.begin rl hl).alloc _
  have hx2 : w0.heap[w.heap.size + 1]? = some (.cells #[.slice xa li.length xcap, .int .i64 0] 25 (0, 0)) := by rw [hw0]; exact blk_new' _ _ (by simp)
  have hz0 : w0.heap.size = w.heap.size + 2 := by rw [hw0]; simp
  have hb0 : Below w.heap.size w w0 := by rw [hw0]; exact Bl.alloc (Bl.alloc (Below.refl w.heap.size w) _) _
  have HL2 : Hid (∀ W, Below w.heap.size w W → W.heap[w.heap.size + 1]? = some (.cells #[.slice xa li.length xcap, .int .i64 0] 25 (0, 0)) → StrX W (w.heap.size + 1) li 0) := Lib.hid fun W hW hx => ⟨xa, xcap, hx, by omega, fun k x hk => by
    obtain ⟨b, o, ha, _, hb, hc⟩ := rl.at hk
    have hxx := hl x (List.mem_of_getElem? hk)
    exact ⟨b, o, ha, by omega, Nat.lt_of_lt_of_le hb hW.size, (hW.cell (p := ⟨b, o + k, none⟩) (by show b < w.heap.size; omega)).trans hc, hxx.1, hxx.2⟩⟩
  have HT := Lib.hid hT
  have HW0 := Lib.hid hw0
  have HB0 := Lib.hid hb0
  have HX2 := Lib.hid hx2
  have HZ0 := Lib.hid hz0
  clear rl hl hT hw0 hb0 hx2 hz0
  go_enter Tryz.func6, Tryz.ntmps6
  go_wp2_with fail
  rw [← HW0.out]
  refine (RightCatalogue_x w.heap.size 0 li w0 hs1 (by omega)).mono ?_
  rintro e wA ⟨⟨vp, va, rfl, hOp, hOa⟩, hGA⟩
  obtain ⟨hF, hp5, hl25⟩ := rightX_ok li 8 0
  have HRX := Lib.hid fun W hS => RightCatalogue_x (w.heap.size + 1) 0 li W hS (by omega)
  obtain ⟨ps, hps⟩ : ∃ q, q = (rightX li 8 0).1 := ⟨_, rfl⟩
  obtain ⟨l, hll⟩ : ∃ q, q = (rightX li 8 0).2 := ⟨_, rfl⟩
  rw [← hps] at hOp hF hp5
  rw [← hll] at hOa hF hl25
  rw [← hps, ← hll] at HRX
  have hz0 := HZ0.out
  have hx2A := (hGA.block (w.heap.size + 1) (by omega) (by intro e; injection e with e; omega)).trans HX2.out
  have hBA : Below w.heap.size w wA := Below.trans HB0.out (Gr.below hGA (Nat.le_refl _) (by omega))
  have HS2 := Lib.hid (HRX.out wA (HL2.out wA hBA hx2A))
  have HOp := Lib.hid hOp
  have HOa := Lib.hid hOa
  have HBA := Lib.hid hBA
  have hzA := hGA.size
  clear hs1 hx2A hBA hOp hOa hps hll hGA HL2 HX2 HRX
  go_wp2_with fail
  refine HS2.out.mono ?_
  rintro e wB ⟨⟨up, ua, rfl, hUp, hUa⟩, hGB⟩
  have hOpB := HOp.out.grown hGB (show w.heap.size + 1 < w0.heap.size by omega)
  have hOaB := HOa.out.grown hGB (show w.heap.size + 1 < w0.heap.size by omega)
  have hBB : Below w.heap.size w wB := Below.trans HBA.out (Gr.below hGB (by omega) (by omega))
  obtain ⟨pa, pc, rfl, _, _⟩ := hOpB.form
  obtain ⟨aa, ac, rfl, _, _⟩ := hOaB.form
  obtain ⟨qa, qc, rfl, _, _⟩ := hUp.form
  obtain ⟨ba, bc, rfl, _, _⟩ := hUa.form
  obtain ⟨C, hC⟩ : ∃ C, C = wB.heap.size := ⟨_, rfl⟩
  obtain ⟨wC, hwC⟩ : ∃ q, q = (wB.alloc (.cells #[.slice pa ps.length pc, .slice aa l.length ac] 29)).alloc (.cells #[.slice qa ps.length qc, .slice ba l.length bc] 29) := ⟨_, rfl⟩
  have hbc : Below wB.heap.size wB wC := by rw [hwC]; exact Bl.alloc (Bl.alloc (Below.refl _ _) _) _
  have hxC : wC.heap[C]? = some (.cells #[.slice pa ps.length pc, .slice aa l.length ac] 29 (0, 0)) := by rw [hwC, hC]; exact blk_old (blk_new wB _) _
  have hxD : wC.heap[C + 1]? = some (.cells #[.slice qa ps.length qc, .slice ba l.length bc] 29 (0, 0)) := by rw [hwC, hC]; exact blk_new' _ _ (by simp)
  obtain ⟨sz1, sz2, sz3, sz4⟩ := catsF_sml hF
  have htl : (catText (ps, l)).length ≤ 200000 := by have := catText_len hF; omega
  have HBC := Lib.hid (Bl.trans hBB hbc)
  have HOC := Lib.hid (hOpB.below hbc)
  have hcr : CatR wC (.slice pa ps.length pc) (.slice aa l.length ac) ps l := ⟨(hOpB.below hbc).rec0, (hOaB.below hbc).rec0⟩
  have hdr : CatR wC (.slice qa ps.length qc) (.slice ba l.length bc) ps l := ⟨(hUp.below hbc).rec0, (hUa.below hbc).rec0⟩
  obtain ⟨pn, hpn⟩ : ∃ q, q = ps.length := ⟨_, rfl⟩
  obtain ⟨an, han⟩ : ∃ q, q = l.length := ⟨_, rfl⟩
  rw [← hpn, ← han] at hcr hdr hxC hxD hwC
  rw [← hpn] at HOC
  rw [← hpn, ← han]
  have HCR := Lib.hid fun W (hW : Below wC.heap.size wC W) => hcr.low hW
  have HDR := Lib.hid fun W (hW : Below wC.heap.size wC W) => hdr.low hW
  have HCC : Hid (∀ W, Below wC.heap.size wC W → W.cell? ⟨C, 0, none⟩ = some (.slice pa pn pc) ∧ W.cell? ⟨C, 1, none⟩ = some (.slice aa an ac)) := Lib.hid fun W hW => ⟨blk_cell (blk_below hxC hW) 0, blk_cell (blk_below hxC hW) 1⟩
  have HDD : Hid (∀ W, Below wC.heap.size wC W → W.cell? ⟨C + 1, 0, none⟩ = some (.slice qa pn qc) ∧ W.cell? ⟨C + 1, 1, none⟩ = some (.slice ba an bc)) := Lib.hid fun W hW => ⟨blk_cell (blk_below hxD hW) 0, blk_cell (blk_below hxD hW) 1⟩
  have HTW : Hid (∀ W, Below wC.heap.size wC W → TxW W) := Lib.hid fun W hW => HT.out.below (Bl.trans HBC.out hW)
  have HGR0 := Groups_any ps l (.slice pa pn pc) (.slice aa an ac) wC (by omega) (by omega) sz1 sz2 hcr
  rw [hF] at HGR0
  have HGR := Lib.hid HGR0
  have HTX := Lib.hid fun W (hW : Below wC.heap.size wC W) => CatText_ok ps l (.slice pa pn pc) (.slice aa an ac) W (HTW.out W hW) sz1 sz2 (hcr.low hW) hF htl
  have HRS := Lib.hid (catRead_same hF htl)
  have HSZ := Lib.hid (And.intro sz1 (And.intro sz2 (And.intro hF (And.intro htl (And.intro hp5 hl25)))))
  have HWC := Lib.hid (And.intro hwC hC)
  have HPN := Lib.hid (And.intro hpn han)
  have hpn5 : pn ≤ 5 := by omega
  obtain ⟨q0, q1⟩ := HCC.out wC (Below.refl _ _)
  clear hGB hOpB hOaB hUp hUa hBB hC hwC hbc hxC hxD sz1 sz2 sz3 sz4 htl hcr hdr hpn han HGR0 HOp HOa HS2 hF hp5 hl25 HBA hzA
  go_upto_region 3 with fail
  rw [← HWC.out.1, ← HWC.out.2]
  go_wp2_with fail
  refine HGR.out.mono ?_
  rintro e wD ⟨⟨gv, hs, out, rfl, hOG, _, _⟩, hbD⟩
  have HBD := Lib.hid hbD
  have HOG := Lib.hid hOG
  obtain ⟨ga, gc, rfl, _, _⟩ := hOG.own.form
  obtain ⟨gn, hgn⟩ : ∃ q, q = hs.length := ⟨_, rfl⟩
  have HGN := Lib.hid hgn
  rw [← hgn] at HOG ⊢
  have hgn9 : gn ≤ 9223372036854775807 := by have := own_len hOG.own; omega
  obtain ⟨q0, q1⟩ := HCC.out wD hbD
  clear hbD hOG hgn HGR
  go_wp2_with fail
  refine (HTX.out wD HBD.out).mono ?_
  rintro e wE ⟨t, rfl, ht, hbE⟩
  have HBE := Lib.hid (Bl.trans HBD.out hbE)
  have HOG2 := Lib.hid (HOG.out.low hbE)
  have HRD0 := CatRead_own t wE (HTW.out wE HBE.out) (by rw [← bsOf_len, ht]; have := HSZ.out.2.2.2.1; omega)
  rw [ht] at HRD0
  unfold RdO at HRD0
  rw [HRS.out] at HRD0
  have HRD := Lib.hid HRD0
  clear ht hbE HRD0 q0 q1 HTX HRS HOG HBD
  go_wp2_with fail
  refine HRD.out.mono ?_
  rintro e wF ⟨xp, xq, rfl, hcx, hbF⟩
  obtain ⟨xb, xc, rfl, _, _⟩ := hcx.1.form
  obtain ⟨xd, xe, rfl, _, _⟩ := hcx.2.form
  have hxo : OwnR TPt wF wE.heap.size (.slice xb ps.length xc) ps := hcx.1
  obtain ⟨X, hX⟩ : ∃ q, q = wF.heap.size := ⟨_, rfl⟩
  obtain ⟨wG, hwG⟩ : ∃ q, q = wF.alloc (.cells #[.slice xb ps.length xc, .slice xd l.length xe] 29) := ⟨_, rfl⟩
  have hbg : Below wF.heap.size wF wG := by rw [hwG]; exact Bl.alloc (Below.refl _ _) _
  have hxG : wG.heap[X]? = some (.cells #[.slice xb ps.length xc, .slice xd l.length xe] 29 (0, 0)) := by rw [hwG, hX]; exact blk_new wF _
  have HBG := Lib.hid (Bl.trans (Bl.trans HBE.out hbF) hbg)
  have HOG3 := Lib.hid ((HOG2.out.low hbF).low hbg)
  have hzE := HBE.out.size
  have HXO := Lib.hid (OwnR.base (hxo.below hbg) hzE)
  rw [← HPN.out.1, ← HPN.out.2] at hxG hwG
  rw [← HPN.out.1] at HXO
  rw [← HPN.out.1, ← HPN.out.2]
  have HXG := Lib.hid hxG
  have HWG := Lib.hid (And.intro hwG hX)
  clear hcx hbF hxo hX hwG hbg hxG HRD HOG2 hzE
  go_upto_region 6 with fail
  rw [← HWG.out.1, ← HWG.out.2]
  go_wp2_with fail
  have HOB := Lib.hid HOG3.out.own
  have HSP : Hid (∀ (i : Nat) (h : Hdr) (g : List Bs), hs[i]? = some h → out[i]? = some g → SpO wG wC.heap.size (hdrV h) g.length) := Lib.hid fun i h g h1 h2 => ⟨g.map baOf, List.length_map _, HOG3.out.row i h g h1 h2⟩
  have HLN := Lib.hid HOG3.out.len
  clear HOG3
  go_loopw [59] (fun i wr => ∃ k : Nat, k ≤ gn ∧ i = .int .i64 k ∧ Hid (Below wC.heap.size wC wr) ∧ Hid (OwnR THs wr wC.heap.size (.slice ga gn gc) hs) ∧ Hid (∀ (i : Nat) (h : Hdr) (g : List Bs), hs[i]? = some h → out[i]? = some g → SpO wr wC.heap.size (hdrV h) g.length) ∧ Hid (OwnR TPt wr wC.heap.size (.slice xb pn xc) ps) ∧ Hid (wr.heap[X]? = some (.cells #[.slice xb pn xc, .slice xd an xe] 29 (0, 0)))) (fun i _ => gn - (intOf i).toNat)
  case atStart => exact ⟨0, Nat.zero_le _, rfl, HBG, HOB, HSP, HXO, HXG⟩
  case round =>
    obtain ⟨k, hk, rfl, HA, HB, HSP, HX, HE⟩ := hrel
    by_cases hlt : k < gn
    case pos =>
      obtain ⟨h, hh⟩ : ∃ h, hs[k]? = some h := ⟨_, List.getElem?_eq_getElem (by rw [← HGN.out]; exact hlt)⟩
      obtain ⟨g, hg⟩ : ∃ g, out[k]? = some g := ⟨_, List.getElem?_eq_getElem (by rw [← HLN.out, ← HGN.out]; exact hlt)⟩
      obtain ⟨nl, hnl, hno⟩ := HSP.out k h g hh hg
      obtain ⟨bp, op, rfl, _, lbp, z⟩ := HB.out.rec0.at THs.ok.len hh THs.ok.pos
      have c0 : wr.cell? ⟨bp, op + k, none⟩ = some (hdrV h) := by
        have h2 := z 0 _ rfl
        rw [show k * THs.k = k from Nat.mul_one k] at h2
        exact h2
      have HSC := Lib.hid (spoilC_any nl (hdrV h) wr wC.heap.size hno)
      have hw1 : IntKind.i64.wrap ((k : Int) + 1) = ((k + 1 : Nat) : Int) := by rw [IntWalk.i64_in _ (by omega)]; omega
      clear hh hg hnl hno z
      generalize hdrV h = hv at *
      go_wp2_with fail
      refine HSC.out.mono ?_
      rintro e w8 ⟨rfl, hb8, hs8, ht8⟩
      have HA2 := Lib.hid (Below.trans HA.out hb8)
      have HB2 := Lib.hid (OwnR.ty (by decide) HB.out ht8)
      have HSP2 : Hid (∀ (i : Nat) (h : Hdr) (g : List Bs), hs[i]? = some h → out[i]? = some g → SpO w8 wC.heap.size (hdrV h) g.length) := Lib.hid fun i h g h1 h2 => hs8 _ _ (HSP.out i h g h1 h2)
      have HX2 := Lib.hid (OwnR.ty (by decide) HX.out ht8)
      have HE2 := Lib.hid (ht8 X _ _ _ (by decide) HE.out)
      clear hb8 hs8 ht8 HSC
      go_wp2
      go_roundw
      case rel => exact ⟨k + 1, by omega, by go_num, HA2, HB2, HSP2, HX2, HE2⟩
      case measure => simp [intOf]; omega
    obtain rfl : k = gn := by omega
    obtain ⟨wR, hwR⟩ : ∃ q : World, q = wr := ⟨_, rfl⟩
    rw [← hwR] at HA HB HSP HX HE ⊢
    obtain ⟨q0, q1⟩ := HCC.out wR HA.out
    clear hwR HB HSP HOB
    by_cases hz : pn = 0
    case' pos =>
      have hz' : ¬ (0 : Int) < (pn : Int) := by omega
      clear hz
      obtain ⟨wH, hwH⟩ : ∃ q : World, q = wR := ⟨_, rfl⟩
      have HAH : Hid (Below wC.heap.size wC wH) := Lib.hid (by rw [hwH]; exact HA.out)
      have HXH : Hid (OwnR TPt wH wC.heap.size (.slice xb pn xc) ps) := Lib.hid (by rw [hwH]; exact HX.out)
      have HEH : Hid (wH.heap[X]? = some (.cells #[.slice xb pn xc, .slice xd an xe] 29 (0, 0))) := Lib.hid (by rw [hwH]; exact HE.out)
      rw [← hwH] at q0 q1 ⊢
      clear hwH HA HX HE
      have q2 : wH.cell? ⟨X, 0, none⟩ = some (.slice xb pn xc) := blk_cell HEH.out 0
    case' neg =>
      have hz' : (0 : Int) < (pn : Int) := by omega
      have HP0 : Hid ((0 : Int) < (pn : Int)) := Lib.hid hz'
      obtain ⟨x0, hx0⟩ : ∃ x, ps[0]? = some x := ⟨_, List.getElem?_eq_getElem (by have := HPN.out.1; omega)⟩
      obtain ⟨k0, px0, lx0, bx0⟩ := x0
      obtain ⟨pb, hpa⟩ : ∃ g, pa = some ⟨g, 0, none⟩ := by
        obtain ⟨g, c2, cur, hv9, _⟩ := HOC.out.blk (fun e => by rw [e] at hx0; simp at hx0)
        injection hv9 with e1 _ _
        exact ⟨g, e1⟩
      subst hpa
      have HKY : Hid (∀ W, Below wR.heap.size wR W → W.cell? ⟨pb, 0, none⟩ = some (.string k0)) := Lib.hid fun W hW =>
        (OwnR.cellf TPt.ok (HOC.out.below (Below.trans HA.out (hW.mono HA.out.size))) HPN.out.1 hx0 (fo := 0) rfl).1
      have HCL : Hid (∀ W, Below wR.heap.size wR W → W.cell? ⟨C, 0, none⟩ = some (.slice (some ⟨pb, 0, none⟩) pn pc) ∧ W.cell? ⟨C, 1, none⟩ = some (.slice aa an ac)) := Lib.hid fun W hW => HCC.out W (Below.trans HA.out (hW.mono HA.out.size))
      have hk0 : bsOf k0 ∈ keysP ps := keys_in (x := (k0, px0, lx0, bx0)) (List.mem_of_getElem? hx0)
      have hkn := known1 HSZ.out.2.2.1 hk0
      have hk9 : k0.size ≤ maxLen := Nat.le_trans (HSZ.out.1 _ (List.mem_of_getElem? hx0)).1 (by decide)
      obtain ⟨DL, hDL⟩ : ∃ q, q = dirS ps l k0 := ⟨_, rfl⟩
      obtain ⟨AL, hAL⟩ : ∃ q, q = allS ps l k0 := ⟨_, rfl⟩
      have HDI0 := fun W (hW : Below wR.heap.size wR W) => Direct_own ps l (.slice (some ⟨pb, 0, none⟩) pn pc) (.slice aa an ac) k0 W (by have := HSZ.out.2.2.2.2.1; omega) (by have := HSZ.out.2.2.2.2.2; omega) HSZ.out.1 HSZ.out.2.1 (HCR.out W (Below.trans HA.out (hW.mono HA.out.size))) hk9
      have HAL0 := fun W (hW : Below wR.heap.size wR W) => All_own ps l (.slice (some ⟨pb, 0, none⟩) pn pc) (.slice aa an ac) k0 W (by have := HSZ.out.2.2.2.2.1; omega) (by have := HSZ.out.2.2.2.2.2; omega) HSZ.out.1 HSZ.out.2.1 (HCR.out W (Below.trans HA.out (hW.mono HA.out.size))) hk9
      rw [← hDL, hkn] at HDI0
      rw [← hAL, hkn] at HAL0
      have HDI := Lib.hid HDI0
      have HAI := Lib.hid HAL0
      clear hx0 hk0 hkn hk9 hDL hAL HDI0 HAL0 hz
      go_wp2_with fail
      clear q0 q1
      refine wp_region_inv (by kernel_rfl) [71, 72, 73, 74, 75, 76, 77, 70, 78, 79, 16, 17] (fun _ W => Below wR.heap.size wR W) (fun W W' => Below W.heap.size W W') (fun i => [VE (.agg #[.slice (some ⟨pb, 0, none⟩) pn pc, .slice aa an ac]), VE (.pointer (some ⟨C, 0, none⟩)), VE (.slice (some ⟨pb, 0, none⟩) pn pc), VE (.pointer (some ⟨pb, 0, none⟩)), VE (.pointer (some ⟨pb, 0, none⟩)), VE (.string k0), VTp wR.heap.size DL, VTp wR.heap.size DL, VOq wR.heap.size DL, VE (.int .i64 0), VOq wR.heap.size DL, VE (.int .i64 0)].getD i VT) (by kernel_rfl) (by kernel_rfl) (fun u u' W hu h => h) (Below.drew (Below.refl _ _)) ?_ ?_ ?_ ?_
      · intro u W W' i v hB hR hV
        exact match i, hV with
          | 0, h => h
          | 1, h => h
          | 2, h => h
          | 3, h => h
          | 4, h => h
          | 5, h => h
          | 6, h => VTp.low h hR
          | 7, h => VTp.low h hR
          | 8, h => VOq.low h hR
          | 9, h => h
          | 10, h => VOq.low h hR
          | 11, h => h
          | (_ + 12), _ => trivial
      · intro i o v W ho hd
        match i, ho with
          | 0, ho => (obtain rfl := Option.some.inj ho; cases hd)
          | 1, ho => (obtain rfl := Option.some.inj ho; cases hd)
          | 2, ho => (obtain rfl := Option.some.inj ho; cases hd)
          | 3, ho => (obtain rfl := Option.some.inj ho; cases hd)
          | 4, ho => (obtain rfl := Option.some.inj ho; cases hd)
          | 5, ho => (obtain rfl := Option.some.inj ho; cases hd)
          | 6, ho => (obtain rfl := Option.some.inj ho; cases hd)
          | 7, ho => (obtain rfl := Option.some.inj ho; cases hd)
          | 8, ho => (obtain rfl := Option.some.inj ho; cases hd)
          | 9, ho => (obtain rfl := Option.some.inj ho; cases hd)
          | 10, ho => (obtain rfl := Option.some.inj ho; cases hd)
          | 11, ho => (obtain rfl := Option.some.inj ho; cases hd)
          | (_ + 12), _ => trivial
      · intro i o u f W ho hi hB hdep
        have hi' : i = 0 ∨ i = 1 ∨ i = 2 ∨ i = 3 ∨ i = 4 ∨ i = 5 ∨ i = 6 ∨ i = 7 ∨ i = 8 ∨ i = 9 ∨ i = 10 ∨ i = 11 := by
          have : i < 12 := hi
          omega
        rcases hi' with rfl | rfl | rfl | rfl | rfl | rfl | rfl | rfl | rfl | rfl | rfl | rfl
        · obtain ⟨y0, y1⟩ := HCL.out W hB
          refine iv_val ho (by obtain rfl := Option.some.inj ho; rfl) (.agg #[.slice (some ⟨pb, 0, none⟩) pn pc, .slice aa an ac]) W ?_ hB (Below.refl _ _) rfl
          · intro q hq
            obtain rfl := Option.some.inj ho
            have e5 := hq.tmp 5
            simp at e5
            simp [execOp, e5, go_sem, y0, y1]
        · refine iv_val ho (by obtain rfl := Option.some.inj ho; rfl) (.pointer (some ⟨C, 0, none⟩)) W ?_ hB (Below.refl _ _) rfl
          · intro q hq
            obtain rfl := Option.some.inj ho
            have e5 := hq.tmp 5
            simp at e5
            simp [execOp, e5, go_sem]
        · have d72 : f 72 = .pointer (some ⟨C, 0, none⟩) := hdep ⟨1, .data⟩ (by obtain rfl := Option.some.inj ho; simp) rfl
          obtain ⟨y0, y1⟩ := HCL.out W hB
          refine iv_val ho (by obtain rfl := Option.some.inj ho; rfl) (.slice (some ⟨pb, 0, none⟩) pn pc) W ?_ hB (Below.refl _ _) rfl
          · intro q hq
            obtain rfl := Option.some.inj ho
            have e72 := hq.tmp 72
            simp at e72
            simp [execOp, e72, d72, go_sem, y0]
        · have d73 : f 73 = .slice (some ⟨pb, 0, none⟩) pn pc := hdep ⟨2, .data⟩ (by obtain rfl := Option.some.inj ho; simp) rfl
          have i1 := HP0.out
          have i2 : ¬ pn = 0 := by omega
          refine iv_val ho (by obtain rfl := Option.some.inj ho; rfl) (.pointer (some ⟨pb, 0, none⟩)) W ?_ hB (Below.refl _ _) rfl
          · intro q hq
            obtain rfl := Option.some.inj ho
            have e73 := hq.tmp 73
            simp at e73
            simp [execOp, hq.const, e73, d73, go_sem, i2]
        · have d74 : f 74 = .pointer (some ⟨pb, 0, none⟩) := hdep ⟨3, .data⟩ (by obtain rfl := Option.some.inj ho; simp) rfl
          refine iv_val ho (by obtain rfl := Option.some.inj ho; rfl) (.pointer (some ⟨pb, 0, none⟩)) W ?_ hB (Below.refl _ _) rfl
          · intro q hq
            obtain rfl := Option.some.inj ho
            have e74 := hq.tmp 74
            simp at e74
            simp [execOp, e74, d74, go_sem]
        · have d75 : f 75 = .pointer (some ⟨pb, 0, none⟩) := hdep ⟨4, .data⟩ (by obtain rfl := Option.some.inj ho; simp) rfl
          have y9 := HKY.out W hB
          refine iv_val ho (by obtain rfl := Option.some.inj ho; rfl) (.string k0) W ?_ hB (Below.refl _ _) rfl
          · intro q hq
            obtain rfl := Option.some.inj ho
            have e75 := hq.tmp 75
            simp at e75
            simp [execOp, e75, d75, go_sem, y9]
        · have d71 : f 71 = .agg #[.slice (some ⟨pb, 0, none⟩) pn pc, .slice aa an ac] := hdep ⟨0, .data⟩ (by obtain rfl := Option.some.inj ho; simp) rfl
          have d76 : f 76 = .string k0 := hdep ⟨5, .data⟩ (by obtain rfl := Option.some.inj ho; simp) rfl
          refine iv_call ho (by obtain rfl := Option.some.inj ho; rfl) 32 #[.tmp 71, .tmp 76] _ (by obtain rfl := Option.some.inj ho; rfl) (enters_of Tryz.func32 (by kernel_rfl) rfl) #[.agg #[.slice (some ⟨pb, 0, none⟩) pn pc, .slice aa an ac], .string k0] (by intro q hq; have e71 := hq.tmp 71; simp at e71; have e76 := hq.tmp 76; simp at e76; simp [e71, e76, d71, d76, go_sem]) _ (HDI.out W hB) ?_
          rintro e W' ⟨⟨v', rfl, hr'⟩, hb'⟩
          exact ⟨_, rfl, Below.trans hB (hb'.mono hB.size), hb', ⟨v', rfl, OwnR.base hr' hB.size⟩⟩
        · have x77 : VTp wR.heap.size DL (f 77) W := hdep ⟨6, .data⟩ (by obtain rfl := Option.some.inj ho; simp) rfl
          refine iv_val ho (by obtain rfl := Option.some.inj ho; rfl) (f 77) W ?_ hB (Below.refl _ _) x77
          · intro q hq
            obtain rfl := Option.some.inj ho
            have e77 := hq.tmp 77
            simp at e77
            simp [execOp, e77, go_sem]
        · have x70 : VTp wR.heap.size DL (f 70) W := hdep ⟨7, .data⟩ (by obtain rfl := Option.some.inj ho; simp) rfl
          obtain ⟨v', d70, h'⟩ := x70
          refine iv_val ho (by obtain rfl := Option.some.inj ho; rfl) (v') W ?_ hB (Below.refl _ _) h'
          · intro q hq
            obtain rfl := Option.some.inj ho
            have e70 := hq.tmp 70
            simp at e70
            simp [execOp, e70, d70, go_sem]
        · have x70 : VTp wR.heap.size DL (f 70) W := hdep ⟨7, .data⟩ (by obtain rfl := Option.some.inj ho; simp) rfl
          obtain ⟨v', d70, _⟩ := x70
          refine iv_val ho (by obtain rfl := Option.some.inj ho; rfl) (.int .i64 0) W ?_ hB (Below.refl _ _) rfl
          · intro q hq
            obtain rfl := Option.some.inj ho
            have e70 := hq.tmp 70
            simp at e70
            simp [execOp, e70, go_sem, d70]
        · have x78 : VOq wR.heap.size DL (f 78) W := hdep ⟨8, .data⟩ (by obtain rfl := Option.some.inj ho; simp) rfl
          refine iv_val ho (by obtain rfl := Option.some.inj ho; rfl) (f 78) W ?_ hB (Below.refl _ _) x78
          · intro q hq
            obtain rfl := Option.some.inj ho
            have e78 := hq.tmp 78
            simp at e78
            simp [execOp, e78, go_sem]
        · have d79 : f 79 = .int .i64 0 := hdep ⟨9, .data⟩ (by obtain rfl := Option.some.inj ho; simp) rfl
          refine iv_val ho (by obtain rfl := Option.some.inj ho; rfl) (.int .i64 0) W ?_ hB (Below.refl _ _) rfl
          · intro q hq
            obtain rfl := Option.some.inj ho
            have e79 := hq.tmp 79
            simp at e79
            simp [execOp, e79, d79, go_sem]
      intro f0 wS hBS hV
      have x16 : OwnR TS wS wR.heap.size (f0 16) DL := hV 10 (by decide)
      have e17 : f0 17 = .int .i64 0 := hV 11 (by decide)
      clear hV
      unfold putsA
      simp only [List.mapIdx_toArray, List.mapIdx_cons, List.mapIdx_nil, List.contains_cons]
      simp
      rw [e17]
      generalize f0 16 = v16 at *
      obtain ⟨da, dc, rfl, _, _⟩ := x16.form
      have H16 := Lib.hid x16
      obtain ⟨dn, hdn⟩ : ∃ q, q = DL.length := ⟨_, rfl⟩
      have HDN := Lib.hid hdn
      rw [← hdn] at H16 ⊢
      have HBS := Lib.hid hBS
      have HCL2 := Lib.hid fun W (hW : Below wS.heap.size wS W) => HCL.out W (Bl.trans HBS.out hW)
      have HKY2 := Lib.hid fun W (hW : Below wS.heap.size wS W) => HKY.out W (Bl.trans HBS.out hW)
      have HAI2 := Lib.hid fun W (hW : Below wS.heap.size wS W) => HAI.out W (Bl.trans HBS.out hW)
      have HRS := HAI2
      clear HCL HKY HAI HDI x16 e17 hBS hdn HRS
      have HCL := HCL2
      have HKY := HKY2
      have HAI := HAI2
      clear HCL2 HKY2 HAI2
      go_wp2_with fail
      refine wp_region_inv (by kernel_rfl) [81, 82, 83, 84, 85, 86, 87, 80, 88, 89, 18, 19] (fun _ W => Below wS.heap.size wS W) (fun W W' => Below W.heap.size W W') (fun i => [VE (.agg #[.slice (some ⟨pb, 0, none⟩) pn pc, .slice aa an ac]), VE (.pointer (some ⟨C, 0, none⟩)), VE (.slice (some ⟨pb, 0, none⟩) pn pc), VE (.pointer (some ⟨pb, 0, none⟩)), VE (.pointer (some ⟨pb, 0, none⟩)), VE (.string k0), VTp wS.heap.size AL, VTp wS.heap.size AL, VOq wS.heap.size AL, VE (.int .i64 0), VOq wS.heap.size AL, VE (.int .i64 0)].getD i VT) (by kernel_rfl) (by kernel_rfl) (fun u u' W hu h => h) (Below.drew (Below.refl _ _)) ?_ ?_ ?_ ?_
      · intro u W W' i v hB hR hV
        exact match i, hV with
          | 0, h => h
          | 1, h => h
          | 2, h => h
          | 3, h => h
          | 4, h => h
          | 5, h => h
          | 6, h => VTp.low h hR
          | 7, h => VTp.low h hR
          | 8, h => VOq.low h hR
          | 9, h => h
          | 10, h => VOq.low h hR
          | 11, h => h
          | (_ + 12), _ => trivial
      · intro i o v W ho hd
        match i, ho with
          | 0, ho => (obtain rfl := Option.some.inj ho; cases hd)
          | 1, ho => (obtain rfl := Option.some.inj ho; cases hd)
          | 2, ho => (obtain rfl := Option.some.inj ho; cases hd)
          | 3, ho => (obtain rfl := Option.some.inj ho; cases hd)
          | 4, ho => (obtain rfl := Option.some.inj ho; cases hd)
          | 5, ho => (obtain rfl := Option.some.inj ho; cases hd)
          | 6, ho => (obtain rfl := Option.some.inj ho; cases hd)
          | 7, ho => (obtain rfl := Option.some.inj ho; cases hd)
          | 8, ho => (obtain rfl := Option.some.inj ho; cases hd)
          | 9, ho => (obtain rfl := Option.some.inj ho; cases hd)
          | 10, ho => (obtain rfl := Option.some.inj ho; cases hd)
          | 11, ho => (obtain rfl := Option.some.inj ho; cases hd)
          | (_ + 12), _ => trivial
      · intro i o u f W ho hi hB hdep
        have hi' : i = 0 ∨ i = 1 ∨ i = 2 ∨ i = 3 ∨ i = 4 ∨ i = 5 ∨ i = 6 ∨ i = 7 ∨ i = 8 ∨ i = 9 ∨ i = 10 ∨ i = 11 := by
          have : i < 12 := hi
          omega
        rcases hi' with rfl | rfl | rfl | rfl | rfl | rfl | rfl | rfl | rfl | rfl | rfl | rfl
        · obtain ⟨y0, y1⟩ := HCL.out W hB
          refine iv_val ho (by obtain rfl := Option.some.inj ho; rfl) (.agg #[.slice (some ⟨pb, 0, none⟩) pn pc, .slice aa an ac]) W ?_ hB (Below.refl _ _) rfl
          · intro q hq
            obtain rfl := Option.some.inj ho
            have e5 := hq.tmp 5
            simp at e5
            simp [execOp, e5, go_sem, y0, y1]
        · refine iv_val ho (by obtain rfl := Option.some.inj ho; rfl) (.pointer (some ⟨C, 0, none⟩)) W ?_ hB (Below.refl _ _) rfl
          · intro q hq
            obtain rfl := Option.some.inj ho
            have e5 := hq.tmp 5
            simp at e5
            simp [execOp, e5, go_sem]
        · have d82 : f 82 = .pointer (some ⟨C, 0, none⟩) := hdep ⟨1, .data⟩ (by obtain rfl := Option.some.inj ho; simp) rfl
          obtain ⟨y0, y1⟩ := HCL.out W hB
          refine iv_val ho (by obtain rfl := Option.some.inj ho; rfl) (.slice (some ⟨pb, 0, none⟩) pn pc) W ?_ hB (Below.refl _ _) rfl
          · intro q hq
            obtain rfl := Option.some.inj ho
            have e82 := hq.tmp 82
            simp at e82
            simp [execOp, e82, d82, go_sem, y0]
        · have d83 : f 83 = .slice (some ⟨pb, 0, none⟩) pn pc := hdep ⟨2, .data⟩ (by obtain rfl := Option.some.inj ho; simp) rfl
          have i1 := HP0.out
          have i2 : ¬ pn = 0 := by omega
          refine iv_val ho (by obtain rfl := Option.some.inj ho; rfl) (.pointer (some ⟨pb, 0, none⟩)) W ?_ hB (Below.refl _ _) rfl
          · intro q hq
            obtain rfl := Option.some.inj ho
            have e83 := hq.tmp 83
            simp at e83
            simp [execOp, hq.const, e83, d83, go_sem, i2]
        · have d84 : f 84 = .pointer (some ⟨pb, 0, none⟩) := hdep ⟨3, .data⟩ (by obtain rfl := Option.some.inj ho; simp) rfl
          refine iv_val ho (by obtain rfl := Option.some.inj ho; rfl) (.pointer (some ⟨pb, 0, none⟩)) W ?_ hB (Below.refl _ _) rfl
          · intro q hq
            obtain rfl := Option.some.inj ho
            have e84 := hq.tmp 84
            simp at e84
            simp [execOp, e84, d84, go_sem]
        · have d85 : f 85 = .pointer (some ⟨pb, 0, none⟩) := hdep ⟨4, .data⟩ (by obtain rfl := Option.some.inj ho; simp) rfl
          have y9 := HKY.out W hB
          refine iv_val ho (by obtain rfl := Option.some.inj ho; rfl) (.string k0) W ?_ hB (Below.refl _ _) rfl
          · intro q hq
            obtain rfl := Option.some.inj ho
            have e85 := hq.tmp 85
            simp at e85
            simp [execOp, e85, d85, go_sem, y9]
        · have d81 : f 81 = .agg #[.slice (some ⟨pb, 0, none⟩) pn pc, .slice aa an ac] := hdep ⟨0, .data⟩ (by obtain rfl := Option.some.inj ho; simp) rfl
          have d86 : f 86 = .string k0 := hdep ⟨5, .data⟩ (by obtain rfl := Option.some.inj ho; simp) rfl
          refine iv_call ho (by obtain rfl := Option.some.inj ho; rfl) 33 #[.tmp 81, .tmp 86] _ (by obtain rfl := Option.some.inj ho; rfl) (enters_of Tryz.func33 (by kernel_rfl) rfl) #[.agg #[.slice (some ⟨pb, 0, none⟩) pn pc, .slice aa an ac], .string k0] (by intro q hq; have e81 := hq.tmp 81; simp at e81; have e86 := hq.tmp 86; simp at e86; simp [e81, e86, d81, d86, go_sem]) _ (HAI.out W hB) ?_
          rintro e W' ⟨⟨v', rfl, hr'⟩, hb'⟩
          exact ⟨_, rfl, Below.trans hB (hb'.mono hB.size), hb', ⟨v', rfl, OwnR.base hr' hB.size⟩⟩
        · have x87 : VTp wS.heap.size AL (f 87) W := hdep ⟨6, .data⟩ (by obtain rfl := Option.some.inj ho; simp) rfl
          refine iv_val ho (by obtain rfl := Option.some.inj ho; rfl) (f 87) W ?_ hB (Below.refl _ _) x87
          · intro q hq
            obtain rfl := Option.some.inj ho
            have e87 := hq.tmp 87
            simp at e87
            simp [execOp, e87, go_sem]
        · have x80 : VTp wS.heap.size AL (f 80) W := hdep ⟨7, .data⟩ (by obtain rfl := Option.some.inj ho; simp) rfl
          obtain ⟨v', d80, h'⟩ := x80
          refine iv_val ho (by obtain rfl := Option.some.inj ho; rfl) (v') W ?_ hB (Below.refl _ _) h'
          · intro q hq
            obtain rfl := Option.some.inj ho
            have e80 := hq.tmp 80
            simp at e80
            simp [execOp, e80, d80, go_sem]
        · have x80 : VTp wS.heap.size AL (f 80) W := hdep ⟨7, .data⟩ (by obtain rfl := Option.some.inj ho; simp) rfl
          obtain ⟨v', d80, _⟩ := x80
          refine iv_val ho (by obtain rfl := Option.some.inj ho; rfl) (.int .i64 0) W ?_ hB (Below.refl _ _) rfl
          · intro q hq
            obtain rfl := Option.some.inj ho
            have e80 := hq.tmp 80
            simp at e80
            simp [execOp, e80, go_sem, d80]
        · have x88 : VOq wS.heap.size AL (f 88) W := hdep ⟨8, .data⟩ (by obtain rfl := Option.some.inj ho; simp) rfl
          refine iv_val ho (by obtain rfl := Option.some.inj ho; rfl) (f 88) W ?_ hB (Below.refl _ _) x88
          · intro q hq
            obtain rfl := Option.some.inj ho
            have e88 := hq.tmp 88
            simp at e88
            simp [execOp, e88, go_sem]
        · have d89 : f 89 = .int .i64 0 := hdep ⟨9, .data⟩ (by obtain rfl := Option.some.inj ho; simp) rfl
          refine iv_val ho (by obtain rfl := Option.some.inj ho; rfl) (.int .i64 0) W ?_ hB (Below.refl _ _) rfl
          · intro q hq
            obtain rfl := Option.some.inj ho
            have e89 := hq.tmp 89
            simp at e89
            simp [execOp, e89, d89, go_sem]
      intro f1 wT hBT hV
      have x18 : OwnR TS wT wS.heap.size (f1 18) AL := hV 10 (by decide)
      have e19 : f1 19 = .int .i64 0 := hV 11 (by decide)
      clear hV
      unfold putsA
      simp only [List.mapIdx_toArray, List.mapIdx_cons, List.mapIdx_nil, List.contains_cons]
      simp
      rw [e19]
      generalize f1 18 = v18 at *
      obtain ⟨ea, ec, rfl, _, _⟩ := x18.form
      have hzS := HBS.out.size
      have H16T := Lib.hid (H16.out.below hBT)
      have H18 : Hid (SpO wT wR.heap.size (.slice ea AL.length ec) AL.length) := Lib.hid ⟨AL, rfl, OwnR.base x18 hzS⟩
      have hBRT := Bl.trans HBS.out hBT
      have HAT := Lib.hid (Below.trans HA.out (hBRT.mono HA.out.size))
      have HXT := Lib.hid ((HX.out.below HBS.out).below hBT)
      have HET := Lib.hid (blk_below (blk_below HE.out HBS.out) hBT)
      have hzR := HA.out.size
      obtain ⟨en, hen⟩ : ∃ q, q = AL.length := ⟨_, rfl⟩
      rw [← hen] at H18 ⊢
      have HS16 := Lib.hid (spoilC_any DL (.slice da dn dc) wT wR.heap.size H16T.out)
      clear x18 e19 hBT hen hBRT HCL HKY HAI
      go_wp2_with fail
      refine HS16.out.mono ?_
      rintro e w8 ⟨rfl, hb8, hs8, ht8⟩
      have HAT2 := Lib.hid (Below.trans HAT.out (hb8.mono hzR))
      have HXT2 := Lib.hid (OwnR.ty (by decide) HXT.out ht8)
      have HET2 := Lib.hid (ht8 X _ _ _ (by decide) HET.out)
      obtain ⟨zl, _, hzo⟩ := hs8 _ _ H18.out
      have HS18 := Lib.hid (spoilC_any zl (.slice ea en ec) w8 wR.heap.size hzo)
      clear hb8 hs8 ht8 hzo HS16 H16T H18 HAT HXT HET
      go_wp2_with fail
      refine HS18.out.mono ?_
      rintro e wH ⟨rfl, hb9, _, ht9⟩
      have HAH := Lib.hid (Below.trans HAT2.out (hb9.mono hzR))
      have HXH := Lib.hid (OwnR.ty (by decide) HXT2.out ht9)
      have HEH := Lib.hid (ht9 X _ _ _ (by decide) HET2.out)
      have q2 : wH.cell? ⟨X, 0, none⟩ = some (.slice xb pn xc) := blk_cell HEH.out 0
      clear hb9 ht9 HS18 HA HX HE
    all_goals (
      have lX : X < wH.heap.size := blk_lt HEH.out
      go_wp2_with fail
      clear hz'
      go_loopw [103] (fun i wr => ∃ (k : Nat) (ps' : List Prt), k ≤ pn ∧ i = .int .i64 k ∧ Hid (pn = ps'.length) ∧ Hid (Below wC.heap.size wC wr) ∧ Hid (OwnR TPt wr wC.heap.size (.slice xb pn xc) ps') ∧ Hid (wr.heap[X]? = some (.cells #[.slice xb pn xc, .slice xd an xe] 29 (0, 0)))) (fun i _ => pn - (intOf i).toNat)
      case atStart => exact ⟨0, ps, Nat.zero_le _, rfl, Lib.hid HPN.out.1, HAH, HXH, HEH⟩
      case round =>
        obtain ⟨k, ps', hk, rfl, HL, HA, HX, HE⟩ := hrel
        by_cases hlt : k < pn
        · first
          | (exfalso; omega)
          | (obtain ⟨x, hx⟩ : ∃ x, ps'[k]? = some x := ⟨_, List.getElem?_eq_getElem (by rw [← HL.out]; exact hlt)⟩
             obtain ⟨g, hca⟩ : ∃ g, xb = some ⟨g, 0, none⟩ := by
               obtain ⟨g, c2, cur, hv9, _⟩ := HX.out.blk (fun e => by rw [e] at hx; simp at hx)
               injection hv9 with e1 _ _
               exact ⟨g, e1⟩
             subst hca
             obtain ⟨xk, xp, xl, xv⟩ := x
             obtain ⟨g2, c2, cur, hv9, hgB, hgb, _⟩ := HX.out.blk (fun e => by rw [e] at hx; simp at hx)
             obtain rfl : g = g2 := by
               injection hv9 with e1 _ _
               injection e1 with e1
               injection e1
             obtain ⟨y9, g9⟩ := OwnR.cellf TPt.ok HX.out HL.out hx (fo := 0) rfl
             replace y9 : wr.cell? ⟨g, k * 4, none⟩ = some (.string xk) := y9
             replace g9 : wr.frozen? ⟨g, k * 4, none⟩ = false := g9
             have hO2 : OwnR TPt (wr.setCell ⟨g, k * 4, none⟩ (.string ⟨#[115, 112, 111, 105, 108, 116]⟩)) wC.heap.size (.slice (some ⟨g, 0, none⟩) pn xc) (ps'.set k (⟨#[115, 112, 111, 105, 108, 116]⟩, xp, xl, xv)) := OwnR.setf TPt.ok HX.out HL.out hx (fo := 0) (by decide) rfl
             have hXg : X ≠ g := fun e => by
               have h1 := HE.out
               rw [e, hgb] at h1
               injection h1 with h1
               injection h1 with _ e2 _
               exact absurd e2 (by decide)
             have HA2 := Lib.hid (Bl.set HA.out g (k * 4) hgB (.string ⟨#[115, 112, 111, 105, 108, 116]⟩))
             have HX2 := Lib.hid hO2
             have HE2 := Lib.hid ((Below.heap_setCell wr ⟨g, k * 4, none⟩ (.string ⟨#[115, 112, 111, 105, 108, 116]⟩) X hXg).trans HE.out)
             have HL2 : Hid (pn = (ps'.set k (⟨#[115, 112, 111, 105, 108, 116]⟩, xp, xl, xv)).length) := Lib.hid (by rw [List.length_set]; exact HL.out)
             have hw1 : IntKind.i64.wrap ((k : Int) + 1) = ((k + 1 : Nat) : Int) := by rw [IntWalk.i64_in _ (by omega)]; omega
             have hi0 : (0 : Int) ≤ (k : Int) := by omega
             have hi1 : (k : Int) < (pn : Int) := by omega
             have q9 : wr.cell? ⟨X, 0, none⟩ = some (.slice (some ⟨g, 0, none⟩) pn xc) := blk_cell HE.out 0
             have lXr : X < wr.heap.size := blk_lt HE.out
             have lgr : g < wr.heap.size := blk_lt hgb
             clear hx hO2 hv9 hgb
             go_wp2
             generalize wr.setCell ⟨g, k * 4, none⟩ (.string ⟨#[115, 112, 111, 105, 108, 116]⟩) = w11 at *
             go_roundw
             case rel => exact ⟨k + 1, _, by omega, by go_num, HL2, HA2, HX2, HE2⟩
             case measure => simp [intOf]; omega)
        · obtain rfl : k = pn := by omega
          obtain ⟨r0, r1⟩ := HCC.out wr HA.out
          obtain ⟨d0, d1⟩ := HDD.out wr HA.out
          have HEQ := Lib.hid (SameCat_same ps l _ _ _ _ wr (by have := HSZ.out.2.2.2.2.1; omega) (by have := HSZ.out.2.2.2.2.2; omega) (HCR.out wr HA.out) (HDR.out wr HA.out))
          go_wp2_with fail
          refine HEQ.out.mono ?_
          rintro e w12 ⟨rfl, hb12⟩
          have HB12 := Lib.hid (Bl.trans (Below.trans HBC.out (HA.out.mono HBC.out.size)) hb12)
          clear hb12 HEQ
          go_wp2_with fail
          refine (ready_any _).mono ?_
          rintro e w13 ⟨rfl, hb13⟩
          go_wp2
          go_ret
          exact ⟨rfl, Bl.trans HB12.out hb13⟩)
end Go.Proofs.YtihgnpobkpnipaaGreatDoor
