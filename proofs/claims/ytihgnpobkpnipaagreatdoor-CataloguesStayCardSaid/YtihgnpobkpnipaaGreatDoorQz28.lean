/- Texts of the proof of a law, put together, part 28 of 41. Conditions: none beyond those that each theorem names. -/
import Derived.Test.YtihgnpobkpnipaaGreatDoorQz11
import Derived.Test.YtihgnpobkpnipaaGreatDoorQz17
import Derived.Test.YtihgnpobkpnipaaGreatDoorQz19
import Derived.Test.YtihgnpobkpnipaaGreatDoorQz21
import Derived.Test.YtihgnpobkpnipaaGreatDoorQz26
import Derived.Test.YtihgnpobkpnipaaGreatDoorQz27
import Derived.Deep.RegionLaw
import Derived.Deep.Cut
import Derived.Deep.CutRange
namespace Go.Proofs.YtihgnpobkpnipaaGreatDoor
open Go.RowKit Go.Sort Go.Maps
set_option maxHeartbeats 8000000 in
set_option maxRecDepth 100000 in
theorem CatText_ok (ps : List Prt) (l : List Alt) (vp va : Value) (w : World) (hT : TxW w) (hz : PrtZ ps) (hz2 : AltZ l) (hc : CatR w vp va ps l) (h0 : catsF ps l = 0) (ht : (catText (ps, l)).length ≤ 200000) :
    Calls Tryz.prog 10 #[.agg #[vp, va]] w fun e w' => ∃ r : ByteArray, e = .returned (.tuple #[.string r, .int .i64 0]) ∧ bsOf r = catText (ps, l) ∧ Below w.heap.size w w' := by
  have HCC := Lib.hid fun W (hW : Below w.heap.size w W) => CheckCatalogue_any ps l vp va W (by have := (catsF_ok h0).1; omega) (by have := (catsF_ok h0).2.2.1; omega) hz hz2 (hc.low hW)
  rw [h0] at HCC
  have HPT := Lib.hid (catsF_PtT h0).1
  have HAT := Lib.hid (catsF_PtT h0).2
  have HPK := Lib.hid (prtsF1_ok (catsF_ok h0).2.1)
  have hn1 := (catsF_ok h0).1
  have hn2 := (catsF_ok h0).2.2.1
  have HTL : Hid (∀ k, (textL wrPt (ps.take k)).length ≤ 131000) := Lib.hid fun k => by
    have h1 := textC_len wrPt (ps.take k) fun x hx => by
      obtain ⟨_, g1, g2⟩ := (prtsF1_ok (catsF_ok h0).2.1) x (List.mem_of_mem_take hx)
      exact wrPt_len ((catsF_PtT h0).1 x (List.mem_of_mem_take hx)) (by omega) (by omega)
    have h2 : (ps.take k).length ≤ 1000 := by rw [List.length_take]; omega
    omega
  have HTM : Hid (∀ k, (textL wrPt ps ++ textL wrAl (l.take k)).length ≤ 400000) := Lib.hid fun k => by
    have h1 := textC_len wrAl (l.take k) fun x hx => wrAl_len ((catsF_PtT h0).2 x (List.mem_of_mem_take hx))
    have h2 : (l.take k).length ≤ 2000 := by rw [List.length_take]; omega
    have h3 := HTL.out ps.length
    rw [List.take_length] at h3
    rw [List.length_append]
    omega
  have HRP := Lib.hid fun W (hW : Below w.heap.size w W) => hc.p.below hW
  have HRA := Lib.hid fun W (hW : Below w.heap.size w W) => hc.a.below hW
  have HT := Lib.hid hT
  obtain ⟨pa, pc, rfl, _, _⟩ := hc.p.form
  obtain ⟨aa, ac, rfl, _, _⟩ := hc.a.form
  obtain ⟨pn, hpn⟩ : ∃ q, q = ps.length := ⟨_, rfl⟩
  obtain ⟨an, han⟩ : ∃ q, q = l.length := ⟨_, rfl⟩
  have HPN := Lib.hid hpn
  have HAN := Lib.hid han
  rw [← hpn] at HRP hn1 ⊢
  rw [← han] at HRA hn2 ⊢
  obtain ⟨w1, hw1⟩ : ∃ w1, w1 = w.alloc (.cells #[.slice pa pn pc, .slice aa an ac] 29) := ⟨_, rfl⟩
  have hA1 : Below w.heap.size w w1 := by rw [hw1]; exact Bl.alloc (Below.refl _ _) _
  have hx0 : w1.heap[w.heap.size]? = some (.cells #[.slice pa pn pc, .slice aa an ac] 29 (0, 0)) := by rw [hw1]; exact blk_new w _
  have HXC := Lib.hid (show ∀ W, Below w1.heap.size w1 W → W.cell? ⟨w.heap.size, 0, none⟩ = some (.slice pa pn pc) ∧ W.cell? ⟨w.heap.size, 1, none⟩ = some (.slice aa an ac) ∧ w.heap.size < W.heap.size from fun W hW => ⟨blk_cell (blk_below hx0 hW) 0, blk_cell (blk_below hx0 hW) 1, blk_lt (blk_below hx0 hW)⟩)
  have HW1 := Lib.hid hw1
  have HB1 := Lib.hid hA1
  have HC1 := Lib.hid (HCC.out w1 hA1)
  have HTX := Lib.hid ht
  rw [← hpn, ← han] at HC1
  obtain ⟨q0, q1, lC⟩ := HXC.out w1 (Below.refl _ _)
  clear hc hT hz hz2 h0 ht hw1 hA1 hx0 hpn han HCC
  go_enter Tryz.func10, Tryz.ntmps10
  go_wp2_with fail
  rw [← HW1.out]
  refine HC1.out.mono ?_
  rintro e w0 ⟨rfl, hb0⟩
  have HL0 := Lib.hid hb0
  have HB0 := Lib.hid (Bl.trans HB1.out hb0)
  obtain ⟨r0, r1, lC0⟩ := HXC.out w0 hb0
  have hbx : ∀ o, (w0.alloc o).cell? ⟨w.heap.size, 0, none⟩ = some (.slice pa pn pc) := fun o => (HXC.out _ (Bl.alloc hb0 o)).1
  clear hb0 q0 q1 lC HC1
  go_wp2_with fail
  clear hbx
  go_loopw [19] (fun i wr => ∃ (k : Nat), k ≤ pn ∧ i = .int .i64 k ∧ Hid (Bd8 w0.heap.size w0.heap.size (textL wrPt (ps.take k)) wr) ∧ Hid (Below w0.heap.size w0 wr)) (fun i _ => pn - (intOf i).toNat)
  case atStart =>
    refine ⟨0, Nat.zero_le _, rfl, Lib.hid ?_, Lib.hid (by first | exact Bl.alloc (Below.refl _ _) _ | exact Below.refl _ _)⟩
    refine .inl ⟨Nat.le_refl _, .slice none 0 0, blk_new w0 _, World.ownsRow_nil _ _ _ 1, by simp [Value.ownBlock]⟩
  case round =>
    obtain ⟨k, hk, rfl, HBd, HBr⟩ := hrel
    by_cases hlt : k < pn
    · obtain ⟨s, hs⟩ : ∃ x, ps[k]? = some x := ⟨_, List.getElem?_eq_getElem (by rw [← HPN.out]; exact hlt)⟩
      have HTK : Hid (textL wrPt (ps.take (k + 1)) = textL wrPt (ps.take k) ++ (wrPt s ++ [10])) := Lib.hid (textC_take hs)
      have hsm := List.mem_of_getElem? hs
      have hPT := HPT.out s hsm
      obtain ⟨_, hlv, hbk⟩ := HPK.out s hsm
      have hwl := wrPt_len hPT (by omega) (by omega)
      have htl := HTL.out k
      obtain ⟨b1, o1, rfl, _, _, hc1⟩ := (HRP.out wr (Bl.trans HB0.out HBr.out)).at TPt.ok.len hs TPt.ok.pos
      obtain ⟨ky, pk, lv, bk⟩ := s
      have c0 : wr.cell? ⟨b1, o1 + k * 4, none⟩ = some (.string ky) := hc1 0 _ rfl
      have c1 : wr.cell? ⟨b1, o1 + k * 4 + 1, none⟩ = some (.string pk) := hc1 1 _ rfl
      have c2 : wr.cell? ⟨b1, o1 + k * 4 + 2, none⟩ = some (.int .i64 lv) := hc1 2 _ rfl
      have c3 : wr.cell? ⟨b1, o1 + k * 4 + 3, none⟩ = some (.int .i64 bk) := hc1 3 _ rfl
      have hadd : IntKind.i64.wrap ((k : Int) + 1) = ((k + 1 : Nat) : Int) := by rw [IntWalk.i64_in _ (by omega)]; omega
      replace hlv : 1 ≤ lv ∧ lv ≤ 6 := hlv
      replace hbk : 0 ≤ bk ∧ bk ≤ 720000000 := hbk
      obtain ⟨ia, hia⟩ : ∃ q : ByteArray, q = ⟨(Lib.itoa lv).toArray⟩ := ⟨_, rfl⟩
      obtain ⟨ib, hib⟩ : ∃ q : ByteArray, q = ⟨(Lib.itoa bk).toArray⟩ := ⟨_, rfl⟩
      have eia : bsOf ia = Lib.itoa lv := by rw [hia]; exact bsOf_baOf _
      have eib : bsOf ib = Lib.itoa bk := by rw [hib]; exact bsOf_baOf _
      obtain ⟨jn, hjn⟩ : ∃ q, q = baOf (wrPt (ky, pk, lv, bk) ++ [10]) := ⟨_, rfl⟩
      have HJB : Hid (bsOf jn = wrPt (ky, pk, lv, bk) ++ [10]) := Lib.hid (by rw [hjn]; exact bsOf_baOf _)
      obtain ⟨P, hP⟩ : ∃ P, P = wr.heap.size := ⟨_, rfl⟩
      obtain ⟨W5, hW5⟩ : ∃ W5, W5 = wr.alloc (.cells #[.string ky, .string pk, .int .i64 lv, .int .i64 bk] 66) := ⟨_, rfl⟩
      have hA : Below wr.heap.size wr W5 := by rw [hW5]; exact Bl.alloc (Below.refl _ _) _
      have hx5 : W5.heap[P]? = some (.cells #[.string ky, .string pk, .int .i64 lv, .int .i64 bk] 66 (0, 0)) := by rw [hW5, hP]; exact blk_new wr _
      have HXP : Hid (∀ W, Below W5.heap.size W5 W → W.cell? ⟨P, 0, none⟩ = some (.string ky) ∧ W.cell? ⟨P, 1, none⟩ = some (.string pk) ∧ W.cell? ⟨P, 2, none⟩ = some (.int .i64 lv) ∧ W.cell? ⟨P, 3, none⟩ = some (.int .i64 bk) ∧ P < W.heap.size) := Lib.hid fun W hW => ⟨blk_cell (blk_below hx5 hW) 0, blk_cell (blk_below hx5 hW) 1, blk_cell (blk_below hx5 hW) 2, blk_cell (blk_below hx5 hW) 3, blk_lt (blk_below hx5 hW)⟩
      have HR5 := Lib.hid (Bl.trans HBr.out hA)
      have HT5 := Lib.hid (HT.out.below (Bl.trans HB0.out HR5.out))
      have HIA : Hid (∀ U, Below W5.heap.size W5 U → Calls Tryz.prog 25 #[.int .i64 lv] U fun e w' => e = .returned (.string ia) ∧ Below U.heap.size U w') := Lib.hid fun U hU => by
        rw [hia]
        refine (Itoa_any lv U (HT5.out.below hU) (by omega) (by omega)).mono ?_
        rintro e w' ⟨rfl, hh⟩
        exact ⟨rfl, hh⟩
      have HIB : Hid (∀ U, Below W5.heap.size W5 U → Calls Tryz.prog 25 #[.int .i64 bk] U fun e w' => e = .returned (.string ib) ∧ Below U.heap.size U w') := Lib.hid fun U hU => by
        rw [hib]
        refine (Itoa_any bk U (HT5.out.below hU) (by omega) (by omega)).mono ?_
        rintro e w' ⟨rfl, hh⟩
        exact ⟨rfl, hh⟩
      have HJN : Hid (∀ (U : World) (v : Value), RecR TS U 0 v [⟨#[112, 97, 114, 116]⟩, ky, pk, ia, ib] → Calls Tryz.prog 49 #[v] U fun e w' => e = .returned (.string jn) ∧ Below U.heap.size U w') := Lib.hid fun U v hv => by
        have he : ([⟨#[112, 97, 114, 116]⟩, ky, pk, ia, ib] : List ByteArray).map bsOf = [kwPart, bsOf ky, bsOf pk, Lib.itoa lv, Lib.itoa bk] := by
          simp only [List.map_cons, List.map_nil, eia, eib]
          rfl
        refine (JoinR_any v [⟨#[112, 97, 114, 116]⟩, ky, pk, ia, ib] U hv (by simp) (by simp) (by rw [he]; exact Nat.le_trans hwl (by decide))).mono ?_
        rintro e w' ⟨r, rfl, h1, h2⟩
        rw [he] at h1
        have hr : r = jn := by
          have h3 : bsOf r = bsOf jn := h1.trans HJB.out.symm
          rw [← baOf_bs r, h3, baOf_bs]
        rw [hr]
        exact ⟨rfl, h2⟩
      have hb8 := HBd.out.below hA
      have HWS : Hid (∀ (st : ByteArray), bsOf st = wrPt (ky, pk, lv, bk) ++ [10] → ∀ U, Below W5.heap.size W5 U → Calls Tryz.prog 48 #[.pointer (some ⟨w0.heap.size, 0, none⟩), .string st] U fun e w' => (∃ rv, e = .returned rv) ∧ Bd8 w0.heap.size w0.heap.size (textL wrPt (ps.take (k + 1))) w' ∧ Below w0.heap.size W5 w') := Lib.hid fun st e1 U hU => by
        have hz5 := HR5.out.size
        have hzU := hU.size
        have hz0 := HR5.out.size
        have e2 : st.size ≤ 131 := by
          rw [← bsOf_len, e1, List.length_append, List.length_singleton]
          omega
        refine (WriteString_any w0.heap.size w0.heap.size _ st U (hb8.below hU) (by omega) (by omega)).mono ?_
        rintro e w' ⟨h0, h1, h2⟩
        have e3 : st.data.toList = wrPt (ky, pk, lv, bk) ++ [10] := e1
        rw [e3, ← HTK.out] at h1
        exact ⟨⟨_, h0⟩, h1, (hU.mono (by omega)).trans h2⟩
      have HWX := Lib.hid (And.intro hP hW5)
      clear hs hsm hPT hlv hbk hwl htl hc1 hia hib hjn hP hW5 hA hx5 hb8 eia eib
      go_wp2_with fail
      rw [← HWX.out.2, ← HWX.out.1]
      clear c0 c1 c2 c3
      refine wp_region_last (by kernel_rfl) [23, 24, 25, 26, 27, 28, 29, 30, 31, 32, 33, 34, 35] 12 (fun W => Below W5.heap.size W5 W) (fun W => Bd8 w0.heap.size w0.heap.size (textL wrPt (ps.take (k + 1))) W ∧ Below w0.heap.size W5 W) (fun W W' => Below W.heap.size W W') (fun i => [VE (.pointer (some ⟨P, 0, none⟩)), VE (.string ky), VE (.pointer (some ⟨P, 1, none⟩)), VE (.string pk), VE (.pointer (some ⟨P, 2, none⟩)), VE (.int .i64 lv), VE (.string ia), VE (.pointer (some ⟨P, 3, none⟩)), VE (.int .i64 bk), VE (.string ib), VOw TS W5.heap.size [⟨#[112, 97, 114, 116]⟩, ky, pk, ia, ib], VE (.string jn), VT].getD i VT) (by kernel_rfl) (by kernel_rfl) (by kernel_rfl) (by kernel_rfl) (by decide) (Below.drew (Below.refl _ _)) ?_ ?_ ?_ ?_
      · intro W W' i v hB hR hV
        exact match i, hV with
          | 0, h => h
          | 1, h => h
          | 2, h => h
          | 3, h => h
          | 4, h => h
          | 5, h => h
          | 6, h => h
          | 7, h => h
          | 8, h => h
          | 9, h => h
          | 10, h => VOw.low h hR
          | 11, h => h
          | 12, _ => trivial
          | (_ + 13), _ => trivial
      · intro i o f W ho hi him hB hdep
        have hi' : i = 0 ∨ i = 1 ∨ i = 2 ∨ i = 3 ∨ i = 4 ∨ i = 5 ∨ i = 6 ∨ i = 7 ∨ i = 8 ∨ i = 9 ∨ i = 10 ∨ i = 11 ∨ i = 12 := by
          have : i < 13 := hi
          omega
        rcases hi' with rfl | rfl | rfl | rfl | rfl | rfl | rfl | rfl | rfl | rfl | rfl | rfl | rfl
        · refine iv_val ho (by obtain rfl := Option.some.inj ho; rfl) (.pointer (some ⟨P, 0, none⟩)) W ?_ hB (Below.refl _ _) rfl
          · intro q hq
            obtain rfl := Option.some.inj ho
            have e7 := hq.tmp 7
            simp at e7
            simp [execOp, e7, go_sem]
        · have d23 : f 23 = .pointer (some ⟨P, 0, none⟩) := hdep ⟨0, .data⟩ (by obtain rfl := Option.some.inj ho; simp) rfl
          have y0 := (HXP.out W hB).1
          refine iv_val ho (by obtain rfl := Option.some.inj ho; rfl) (.string ky) W ?_ hB (Below.refl _ _) rfl
          · intro q hq
            obtain rfl := Option.some.inj ho
            have e23 := hq.tmp 23
            simp at e23
            simp [execOp, e23, d23, go_sem, y0]
        · refine iv_val ho (by obtain rfl := Option.some.inj ho; rfl) (.pointer (some ⟨P, 1, none⟩)) W ?_ hB (Below.refl _ _) rfl
          · intro q hq
            obtain rfl := Option.some.inj ho
            have e7 := hq.tmp 7
            simp at e7
            simp [execOp, e7, go_sem]
        · have d25 : f 25 = .pointer (some ⟨P, 1, none⟩) := hdep ⟨2, .data⟩ (by obtain rfl := Option.some.inj ho; simp) rfl
          have y0 := (HXP.out W hB).2.1
          refine iv_val ho (by obtain rfl := Option.some.inj ho; rfl) (.string pk) W ?_ hB (Below.refl _ _) rfl
          · intro q hq
            obtain rfl := Option.some.inj ho
            have e25 := hq.tmp 25
            simp at e25
            simp [execOp, e25, d25, go_sem, y0]
        · refine iv_val ho (by obtain rfl := Option.some.inj ho; rfl) (.pointer (some ⟨P, 2, none⟩)) W ?_ hB (Below.refl _ _) rfl
          · intro q hq
            obtain rfl := Option.some.inj ho
            have e7 := hq.tmp 7
            simp at e7
            simp [execOp, e7, go_sem]
        · have d27 : f 27 = .pointer (some ⟨P, 2, none⟩) := hdep ⟨4, .data⟩ (by obtain rfl := Option.some.inj ho; simp) rfl
          have y0 := (HXP.out W hB).2.2.1
          refine iv_val ho (by obtain rfl := Option.some.inj ho; rfl) (.int .i64 lv) W ?_ hB (Below.refl _ _) rfl
          · intro q hq
            obtain rfl := Option.some.inj ho
            have e27 := hq.tmp 27
            simp at e27
            simp [execOp, e27, d27, go_sem, y0]
        · have d28 : f 28 = .int .i64 lv := hdep ⟨5, .data⟩ (by obtain rfl := Option.some.inj ho; simp) rfl
          refine iv_call ho (by obtain rfl := Option.some.inj ho; rfl) 25 #[.tmp 28] _ (by obtain rfl := Option.some.inj ho; rfl) (enters_of Tryz.func25 (by kernel_rfl) rfl) #[.int .i64 lv] (by intro q hq; have e28 := hq.tmp 28; simp at e28; simp [e28, d28, go_sem]) _ (HIA.out W hB) ?_
          rintro e W' ⟨rfl, hb'⟩
          exact ⟨_, rfl, Below.trans hB (hb'.mono hB.size), hb', rfl⟩
        · refine iv_val ho (by obtain rfl := Option.some.inj ho; rfl) (.pointer (some ⟨P, 3, none⟩)) W ?_ hB (Below.refl _ _) rfl
          · intro q hq
            obtain rfl := Option.some.inj ho
            have e7 := hq.tmp 7
            simp at e7
            simp [execOp, e7, go_sem]
        · have d30 : f 30 = .pointer (some ⟨P, 3, none⟩) := hdep ⟨7, .data⟩ (by obtain rfl := Option.some.inj ho; simp) rfl
          have y0 := (HXP.out W hB).2.2.2.1
          refine iv_val ho (by obtain rfl := Option.some.inj ho; rfl) (.int .i64 bk) W ?_ hB (Below.refl _ _) rfl
          · intro q hq
            obtain rfl := Option.some.inj ho
            have e30 := hq.tmp 30
            simp at e30
            simp [execOp, e30, d30, go_sem, y0]
        · have d31 : f 31 = .int .i64 bk := hdep ⟨8, .data⟩ (by obtain rfl := Option.some.inj ho; simp) rfl
          refine iv_call ho (by obtain rfl := Option.some.inj ho; rfl) 25 #[.tmp 31] _ (by obtain rfl := Option.some.inj ho; rfl) (enters_of Tryz.func25 (by kernel_rfl) rfl) #[.int .i64 bk] (by intro q hq; have e31 := hq.tmp 31; simp at e31; simp [e31, d31, go_sem]) _ (HIB.out W hB) ?_
          rintro e W' ⟨rfl, hb'⟩
          exact ⟨_, rfl, Below.trans hB (hb'.mono hB.size), hb', rfl⟩
        · have d24 : f 24 = .string ky := hdep ⟨1, .data⟩ (by obtain rfl := Option.some.inj ho; simp) rfl
          have d26 : f 26 = .string pk := hdep ⟨3, .data⟩ (by obtain rfl := Option.some.inj ho; simp) rfl
          have d29 : f 29 = .string ia := hdep ⟨6, .data⟩ (by obtain rfl := Option.some.inj ho; simp) rfl
          have d32 : f 32 = .string ib := hdep ⟨9, .data⟩ (by obtain rfl := Option.some.inj ho; simp) rfl
          refine iv_val ho (by obtain rfl := Option.some.inj ho; rfl) (.slice (some ⟨W.heap.size, 0, none⟩) 5 5) (W.alloc (.cells #[.string ⟨#[112, 97, 114, 116]⟩, .string ky, .string pk, .string ia, .string ib] 9)) ?_ (Bl.alloc hB _) (Bl.alloc (Below.refl _ _) _) (ownS_new W W5.heap.size 5 [⟨#[112, 97, 114, 116]⟩, ky, pk, ia, ib] hB.size rfl (by decide))
          · intro q hq
            obtain rfl := Option.some.inj ho
            have e24 := hq.tmp 24
            have e26 := hq.tmp 26
            have e29 := hq.tmp 29
            have e32 := hq.tmp 32
            simp at e24 e26 e29 e32
            simp [execOp, hq.const, e24, e26, e29, e32, d24, d26, d29, d32, go_sem]
        · have x33 : VOw TS W5.heap.size [⟨#[112, 97, 114, 116]⟩, ky, pk, ia, ib] (f 33) W := hdep ⟨10, .data⟩ (by obtain rfl := Option.some.inj ho; simp) rfl
          refine iv_call ho (by obtain rfl := Option.some.inj ho; rfl) 49 #[.tmp 33] _ (by obtain rfl := Option.some.inj ho; rfl) (enters_of Tryz.func49 (by kernel_rfl) rfl) #[f 33] (by intro q hq; have e33 := hq.tmp 33; simp at e33; simp [e33, go_sem]) _ (HJN.out W (f 33) (OwnR.rec0 x33)) ?_
          rintro e W' ⟨rfl, hb'⟩
          exact ⟨_, rfl, Below.trans hB (hb'.mono hB.size), hb', rfl⟩
        · exact absurd rfl him
      · intro o f W ho hB hV
        have d34 : f 34 = .string jn := hV 11 (by decide) (by decide)
        refine iv_call ho (by obtain rfl := Option.some.inj ho; rfl) 48 #[.tmp 5, .tmp 34] _ (by obtain rfl := Option.some.inj ho; rfl) (enters_of Tryz.func48 (by kernel_rfl) rfl) #[.pointer (some ⟨w0.heap.size, 0, none⟩), .string jn] (by intro q hq; have e5 := hq.tmp 5; simp at e5; have e34 := hq.tmp 34; simp at e34; simp [e5, e34, d34, go_sem]) _ (HWS.out _ HJB.out W hB) ?_
        rintro e W' ⟨⟨rv, rfl⟩, h8, h5⟩
        exact ⟨_, rfl, ⟨h8, h5⟩, trivial, trivial⟩
      intro f w5 hp5
      have H8 := Lib.hid hp5.1
      have HF3 : Hid (Below w0.heap.size w0 w5) := Lib.hid (HR5.out.trans (hp5.2.mono (Nat.le_refl _)))
      clear hp5
      unfold putsA
      simp only [List.mapIdx_toArray, List.mapIdx_cons, List.mapIdx_nil, List.contains_cons]
      simp
      go_wp2
      go_roundw
      case rel => exact ⟨k + 1, by omega, by go_num, H8, HF3⟩
      case measure => simp [intOf]; omega
    · obtain rfl : k = pn := by omega
      have hb0 := HBd.out
      rw [HPN.out, List.take_length] at hb0
      have HBS : Hid (Bd8 w0.heap.size w0.heap.size (textL wrPt ps ++ textL wrAl (l.take 0)) wr) := Lib.hid (by
        rw [List.take_zero]
        show Bd8 _ _ (textL wrPt ps ++ []) _
        rw [List.append_nil]
        exact hb0)
      obtain ⟨s0, s1, lC1⟩ := HXC.out wr (Bl.trans HL0.out HBr.out)
      have HBR := HBr
      clear hb0
      go_wp2_with fail
      go_loopw [40] (fun i wr => ∃ (k : Nat), k ≤ an ∧ i = .int .i64 k ∧ Hid (Bd8 w0.heap.size w0.heap.size (textL wrPt ps ++ textL wrAl (l.take k)) wr) ∧ Hid (Below w0.heap.size w0 wr)) (fun i _ => an - (intOf i).toNat)
      case atStart => exact ⟨0, Nat.zero_le _, rfl, HBS, HBR⟩
      case round =>
        obtain ⟨k, hk, rfl, HBd, HBr⟩ := hrel
        by_cases hlt : k < an
        · obtain ⟨s, hs⟩ : ∃ x, l[k]? = some x := ⟨_, List.getElem?_eq_getElem (by rw [← HAN.out]; exact hlt)⟩
          have HTK : Hid (textL wrAl (l.take (k + 1)) = textL wrAl (l.take k) ++ (wrAl s ++ [10])) := Lib.hid (textC_take hs)
          have hAT := HAT.out s (List.mem_of_getElem? hs)
          have hwl := wrAl_len hAT
          have htl := HTM.out k
          obtain ⟨b1, o1, rfl, _, _, hc1⟩ := (HRA.out wr (Bl.trans HB0.out HBr.out)).at TAl.ok.len hs TAl.ok.pos
          obtain ⟨fr, by', bo⟩ := s
          have c0 : wr.cell? ⟨b1, o1 + k * 3, none⟩ = some (.string fr) := hc1 0 _ rfl
          have c1 : wr.cell? ⟨b1, o1 + k * 3 + 1, none⟩ = some (.string by') := hc1 1 _ rfl
          have c2 : wr.cell? ⟨b1, o1 + k * 3 + 2, none⟩ = some (.bool bo) := hc1 2 _ rfl
          have hadd : IntKind.i64.wrap ((k : Int) + 1) = ((k + 1 : Nat) : Int) := by rw [IntWalk.i64_in _ (by omega)]; omega
          obtain ⟨P, hP⟩ : ∃ P, P = wr.heap.size := ⟨_, rfl⟩
          obtain ⟨W5, hW5⟩ : ∃ W5, W5 = wr.alloc (.cells #[.string fr, .string by', .bool bo] 72) := ⟨_, rfl⟩
          have hA : Below wr.heap.size wr W5 := by rw [hW5]; exact Bl.alloc (Below.refl _ _) _
          have hx5 : W5.heap[P]? = some (.cells #[.string fr, .string by', .bool bo] 72 (0, 0)) := by rw [hW5, hP]; exact blk_new wr _
          have x0 : W5.cell? ⟨P, 0, none⟩ = some (.string fr) := blk_cell hx5 0
          have x1 : W5.cell? ⟨P, 1, none⟩ = some (.string by') := blk_cell hx5 1
          have x2 : W5.cell? ⟨P, 2, none⟩ = some (.bool bo) := blk_cell hx5 2
          have lP := blk_lt hx5
          have HR5 := Lib.hid (Bl.trans HBr.out hA)
          have hb8 := HBd.out.below hA
          have HWS : Hid (∀ (st : ByteArray), bsOf st = wrAl (fr, by', bo) ++ [10] → ∀ U, Below W5.heap.size W5 U → Calls Tryz.prog 48 #[.pointer (some ⟨w0.heap.size, 0, none⟩), .string st] U fun e w' => (∃ rv, e = .returned rv) ∧ Bd8 w0.heap.size w0.heap.size (textL wrPt ps ++ textL wrAl (l.take (k + 1))) w' ∧ Below w0.heap.size W5 w') := Lib.hid fun st e1 U hU => by
            have hz5 := HR5.out.size
            have hzU := hU.size
            have hz0 := HR5.out.size
            have e2 : st.size ≤ 131 := by
              rw [← bsOf_len, e1, List.length_append, List.length_singleton]
              omega
            refine (WriteString_any w0.heap.size w0.heap.size _ st U (hb8.below hU) (by omega) (by omega)).mono ?_
            rintro e w' ⟨h0, h1, h2⟩
            have e3 : st.data.toList = wrAl (fr, by', bo) ++ [10] := e1
            rw [e3, List.append_assoc, ← HTK.out] at h1
            exact ⟨⟨_, h0⟩, h1, (hU.mono (by omega)).trans h2⟩
          have HJN : Hid (∀ (kw : ByteArray), bsOf kw = kwAlt bo → ∀ U, Below W5.heap.size W5 U → Calls Tryz.prog 49 #[.slice (some ⟨U.heap.size, 0, none⟩) 4 4] (U.alloc (.cells #[.string kw, .string by', .string ⟨#[102, 111, 114]⟩, .string fr] 9)) fun e w' => (∃ r, e = .returned (.string r) ∧ Hid (bsOf r = wrAl (fr, by', bo) ++ [10])) ∧ Below W5.heap.size W5 w') := Lib.hid fun kw hkw U hU => by
            have he : ([kw, by', ⟨#[102, 111, 114]⟩, fr] : List ByteArray).map bsOf = [kwAlt bo, bsOf by', kwFor, bsOf fr] := by
              simp only [List.map_cons, List.map_nil, hkw]
              rfl
            refine (JoinR_any (.slice (some ⟨U.heap.size, 0, none⟩) 4 4) [kw, by', ⟨#[102, 111, 114]⟩, fr] _ (RecR.of_blk (T := TS) (blk_new U _) rfl rfl (by simp) (by omega) (Nat.zero_le _)) (by simp) (by simp) (by rw [he]; exact Nat.le_trans hwl (by decide))).mono ?_
            rintro e w' ⟨r, rfl, h1, h2⟩
            rw [he] at h1
            exact ⟨⟨r, rfl, Lib.hid h1⟩, Bl.trans (Bl.alloc hU _) h2⟩
          have HWX := Lib.hid (And.intro hP hW5)
          clear hs hAT hwl htl hc1 hP hW5 hA hx5 hb8
          go_upto_region 13 with fail
          rw [← HWX.out.2, ← HWX.out.1]
          clear c0 c1 c2
          cases bo
          all_goals (
            go_wp2_with fail
            refine (HJN.out _ rfl W5 (Below.refl _ _)).mono ?_
            rintro e w4 ⟨⟨r, rfl, HRB⟩, hb4⟩
            have HB4 := Lib.hid hb4
            clear hb4
            go_wp2_with fail
            refine (HWS.out r HRB.out w4 HB4.out).mono ?_
            rintro e w5 ⟨⟨rv, rfl⟩, h8, h5⟩
            have H8 := Lib.hid h8
            have HF3 : Hid (Below w0.heap.size w0 w5) := Lib.hid (HR5.out.trans (h5.mono (Nat.le_refl _)))
            clear h8 h5
            go_wp2
            go_roundw
            case rel => exact ⟨k + 1, by omega, by go_num, H8, HF3⟩
            case measure => simp [intOf]; omega)
        · obtain rfl : k = an := by omega
          have hbE := HBd.out
          rw [HAN.out, List.take_length] at hbE
          have HBE := Lib.hid hbE
          obtain ⟨T, hTe⟩ : ∃ T, T = textL wrPt ps ++ textL wrAl l := ⟨_, rfl⟩
          have HTE : Hid (catText (ps, l) = T) := Lib.hid hTe.symm
          rw [← hTe] at HBE
          have HS := Lib.hid fun (hz : w0.heap.size ≤ wr.heap.size) => BString_any w0.heap.size w0.heap.size T wr HBE.out hz
          have HL := Lib.hid (BLen_any w0.heap.size w0.heap.size T wr HBE.out)
          obtain ⟨tl, htl⟩ : ∃ n, n = T.length := ⟨_, rfl⟩
          rw [← htl] at HL
          have htl2 : ¬ (200000 : Int) < (tl : Int) := by have h1 := HTX.out; rw [HTE.out] at h1; omega
          clear htl hbE hTe
          go_wp2_with fail
          refine HL.out.mono ?_
          rintro e w2 ⟨rfl, rfl⟩
          go_wp2_with fail
          refine (HS.out HBr.out.size).mono ?_
          rintro e w3 ⟨rfl, hb⟩
          have HBF := Lib.hid ((Bl.trans HB0.out HBr.out).trans (hb.mono HB0.out.size))
          clear hb
          go_wp2
          go_ret2
          exact ⟨_, rfl, by rw [HTE.out]; exact bsOf_baOf _, HBF.out⟩
end Go.Proofs.YtihgnpobkpnipaaGreatDoor
namespace Go.Proofs.YtihgnpobkpnipaaGreatDoor
open Go.RowKit Go.Sort Go.Maps
/-! alternates whose parts have different packages -/
/-- the package of a part. -/
def pkgP (ps : List Prt) (k : ByteArray) : ByteArray := ((ps.find? fun x => decide (x.1 = k)).map (·.2.1)).getD ByteArray.empty
def oddP (ps : List Prt) (l : List Alt) : List (ByteArray × ByteArray) := (l.filter fun x => decide (pkgP ps x.1 ≠ pkgP ps x.2.1)).map fun x => (x.1, x.2.1)
end Go.Proofs.YtihgnpobkpnipaaGreatDoor
