/- Texts of the proof of a law, put together, part 27 of 35. Conditions: none beyond those that each theorem names. -/
import Derived.Test.YtihgnpobkpnipaaGreatDoorCz11
import Derived.Test.YtihgnpobkpnipaaGreatDoorCz25
import Derived.Test.YtihgnpobkpnipaaGreatDoorCz26
namespace Go.Proofs.YtihgnpobkpnipaaGreatDoor
open Go.RowKit Go.Sort Go.Maps
theorem cut_one_c (t : List UInt8) : ((10 : UInt8) ∉ t ∧ Lib.cut t [10] = (t, [], false)) ∨ ∃ a b, t = a ++ 10 :: b ∧ (10 : UInt8) ∉ a ∧ Lib.cut t [10] = (a, b, true) := by
  rcases index_one 10 t with ⟨h1, h2⟩ | ⟨i, h1, h2, h3, h4⟩
  · refine .inl ⟨h2, ?_⟩
    unfold Lib.cut
    rw [h1]
    simp
  · refine .inr ⟨t.take i, t.drop (i + 1), ?_, h3, ?_⟩
    · rw [← h4, List.take_append_drop]
    · unfold Lib.cut
      rw [h1]
      simp
theorem readSt_open {c : Cst} {t : Bs} (h : (10 : UInt8) ∉ t) (h0 : t ≠ []) (i : Nat) : readSt rdC i c (splitL 10 t) = .error i := by
  rw [splitL_no h]; unfold readSt; rw [if_neg h0]
theorem readSt_bad {c : Cst} {a : Bs} (h : (10 : UInt8) ∉ a) (b : Bs) (i : Nat) (hd : rdC c a = none) : readSt rdC i c (splitL 10 (a ++ 10 :: b)) = .error i := by
  rw [splitL_sep b h]
  cases hs : splitL 10 b with
  | nil => exact absurd hs (splitL_ne 10 b)
  | cons y r => rw [readSt, hd]
theorem readSt_good {c d : Cst} {a : Bs} (h : (10 : UInt8) ∉ a) (b : Bs) (i : Nat) (hd : rdC c a = some d) : readSt rdC i c (splitL 10 (a ++ 10 :: b)) = readSt rdC (i + 1) d (splitL 10 b) := by
  rw [splitL_sep b h]
  cases hs : splitL 10 b with
  | nil => exact absurd hs (splitL_ne 10 b)
  | cons y r => rw [readSt, hd]
/-- how Lines ends. -/
def LnEndC (b : Nat) (r : Except Nat Cst) (e : Ending) (W : World) : Prop := match r with
  | .error i => e = .returned (.tuple #[.int .i64 i, .bool false])
  | .ok c => e = .returned (.tuple #[.int .i64 0, .bool true]) ∧ CatBox W b c ∧ ∃ k, k ≤ 200000 ∧ SmC 200000 c k
set_option maxHeartbeats 4000000 in
set_option maxRecDepth 100000 in
theorem CRLines_any (b : Nat) (s : ByteArray) (W : World) (hT : TxW W) (hg1 : 3 < b) (hg2 : 0 < b) (hs : s.size ≤ 200000) (hI : CatBox W b ([], [])) (hbW : b < W.heap.size) :
    Calls Tryz.prog 55 #[.string s, .func (.func 56) #[] #[.pointer (some ⟨b, 0, none⟩)]] W fun e W' => LnEndC b (readSt rdC 0 ([], []) (splitL 10 s.data.toList)) e W' ∧ Below b W W' := by
  obtain ⟨R, hR⟩ : ∃ R, R = readSt rdC 0 ([], []) (splitL 10 s.data.toList) := ⟨_, rfl⟩
  rw [← hR]
  have HT := Lib.hid hT
  have HR0 := Lib.hid hR
  have HS0 : Hid (SmC 200000 ([], []) 0) := Lib.hid ⟨rfl, fun _ h => by simp at h, fun _ h => by simp at h⟩
  clear hT hR
  go_enter Tryz.func55, Tryz.ntmps55
  go_wp2_with fail
  go_loopg [0, 6] s.size (fun gk sv iv wr => ∃ (t : ByteArray) (i : Nat) (c : Cst), gk = t.size ∧ sv = .string t ∧ iv = .int .i64 i ∧ Hid (R = readSt rdC i c (splitL 10 t.data.toList)) ∧ i + t.size ≤ 200000 ∧ Hid (SmC 200000 c i) ∧ Hid (CatBox wr b c) ∧ Hid (Below b W wr) ∧ b < wr.heap.size)
  case atStart => exact ⟨s, 0, ([], []), rfl, rfl, rfl, HR0, by omega, HS0, Lib.hid hI, Lib.hid (Below.refl _ _), hbW⟩
  case round =>
    obtain ⟨t, i, c, rfl, rfl, rfl, hP, hit, HSM, HBx, HB, hBw⟩ := hrel
    have hts : t.data.toList.length = t.size := Array.length_toList
    by_cases h0 : t.size = 0
    · obtain rfl : t = ⟨#[]⟩ := by
        apply ByteArray.ext
        exact Array.eq_empty_of_size_eq_zero h0
      have HR : Hid (R = .ok c) := Lib.hid (by rw [hP.out]; simp [splitL, readSt])
      clear hP h0 hts
      go_wp2
      go_ret2
      refine ⟨?_, HB.out⟩
      unfold LnEndC
      rw [HR.out]
      exact ⟨rfl, HBx.out, i, by omega, HSM.out⟩
    · have hne : t.data.toList ≠ [] := fun e => by rw [e] at hts; exact h0 hts.symm
      have e1 : t.toList.isEmpty = false := by
        rw [ByteArray.toList_eq]; cases h : t.data.toList with | nil => exact absurd h hne | cons => rfl
      have e2 : ¬ t.toList = [] := by rw [ByteArray.toList_eq]; exact hne
      have hTk : TxW wr := HT.out.belowB HB.out hg1 hg2
      have HCT : Hid (∀ (U : World), TxW U → Calls Tryz.prog 95 #[.string t, .string ⟨#[10]⟩] U fun e w' => e = .returned (.tuple #[.string ⟨(Lib.cut t.data.toList [10]).1.toArray⟩, .string ⟨(Lib.cut t.data.toList [10]).2.1.toArray⟩, .bool (Lib.cut t.data.toList [10]).2.2]) ∧ Below U.heap.size U w') := Lib.hid fun U hU => by
        obtain ⟨m, hm⟩ := hU.max
        refine (Tryz.strings_Cut t ⟨#[10]⟩ m U (by omega) hm).mono ?_
        rintro e w' ⟨rfl, n, rfl⟩
        exact ⟨rfl, drewN_below U n⟩
      rcases cut_one_c t.data.toList with ⟨h1, h2⟩ | ⟨a, bb, h1, h2, h3⟩
      · have HR : Hid (R = .error i) := Lib.hid (by rw [hP.out, readSt_open h1 hne])
        rw [h2] at HCT
        clear hP h1 h2 hne hts
        go_wp2_with fail
        refine (HCT.out _ hTk).mono ?_
        rintro e w1 ⟨rfl, hb1⟩
        have HBE := Lib.hid (HB.out.trans (hb1.mono (Nat.le_of_lt hBw)))
        clear hb1
        go_wp2
        go_ret2
        refine ⟨?_, HBE.out⟩
        unfold LnEndC
        rw [HR.out]
        exact rfl
      · have hlen : a.length + bb.length + 1 = t.size := by rw [← hts, h1]; simp; omega
        obtain ⟨ax, has⟩ : ∃ x : ByteArray, x = ⟨a.toArray⟩ := ⟨_, rfl⟩
        obtain ⟨bs, hbs⟩ : ∃ x : ByteArray, x = ⟨bb.toArray⟩ := ⟨_, rfl⟩
        have ha : ax.data.toList = a := by rw [has]
        have hb : bs.data.toList = bb := by rw [hbs]
        have haz : ax.size = a.length := by rw [← ha]; exact (Array.length_toList).symm
        have hbz : bs.size = bb.length := by rw [← hb]; exact (Array.length_toList).symm
        have HGO : Hid (∀ d, rdC c (bsOf ax) = some d → R = readSt rdC (i + 1) d (splitL 10 bs.data.toList)) := Lib.hid fun d hd => by
          rw [hP.out, h1, hb]
          exact readSt_good h2 bb i (by rw [← ha]; exact hd)
        have HNO : Hid (rdC c (bsOf ax) = none → R = .error i) := Lib.hid fun hd => by
          rw [hP.out, h1]
          exact readSt_bad h2 bb i (by rw [← ha]; exact hd)
        have HXS : Hid ((bsOf ax).length ≤ 200000) := Lib.hid (by rw [bsOf_len]; omega)
        simp only [h3] at HCT
        rw [← has, ← hbs] at HCT
        have HRP := Lib.hid fun (U : World) (hT : TxW U) (hI : CatBox U b c) => CatClo_any b c ax U hT (by omega) hI (by have := HSM.out.1; omega) (by have := HSM.out.1; omega)
        have hsb : bs.size < t.size := by omega
        have hw1 : IntKind.i64.wrap ((i : Int) + 1) = ((i + 1 : Nat) : Int) := by rw [IntWalk.i64_in _ (by omega)]; omega
        have hib : i + 1 + bs.size ≤ 200000 := by omega
        obtain ⟨od, hod⟩ : ∃ q, q = rdC c (bsOf ax) := ⟨_, rfl⟩
        have HOD := Lib.hid hod
        rw [← hod] at HRP HGO HNO
        clear hP h1 h2 h3 hne hts has hbs ha hb haz hbz hlen hod
        go_wp2_with fail
        refine (HCT.out _ hTk).mono ?_
        rintro e w1 ⟨rfl, hb1⟩
        have HB1 := Lib.hid (HB.out.trans (hb1.mono (Nat.le_of_lt hBw)))
        have hz1 := hb1.size
        have HT1 := Lib.hid (hTk.below hb1)
        have HX1 := Lib.hid (HBx.out.low hb1)
        have hRP := HRP.out w1 HT1.out HX1.out
        have hBw1 : b < w1.heap.size := by omega
        clear hTk hb1
        cases od with
        | none =>
          have HR : Hid (R = .error i) := Lib.hid (HNO.out rfl)
          have HRQ := Lib.hid hRP
          clear hRP
          go_wp2_with fail
          refine HRQ.out.mono ?_
          rintro e w2 ⟨rfl, _, hb2⟩
          have HBE := Lib.hid (HB1.out.trans hb2)
          clear hb2
          go_wp2
          go_ret2
          refine ⟨?_, HBE.out⟩
          unfold LnEndC
          rw [HR.out]
          exact rfl
        | some d =>
          have HR : Hid (R = readSt rdC (i + 1) d (splitL 10 bs.data.toList)) := Lib.hid (HGO.out d rfl)
          have HSN := Lib.hid (rdC_sm HXS.out HSM.out HOD.out.symm)
          have HRQ := Lib.hid hRP
          clear hRP
          go_wp2_with fail
          refine HRQ.out.mono ?_
          rintro e w2 ⟨rfl, hd2, hb2⟩
          have HD2 := Lib.hid (hd2 d rfl)
          have HB2 := Lib.hid (HB1.out.trans hb2)
          have hz2 : b < w2.heap.size := Nat.lt_of_lt_of_le hBw1 hb2.size
          clear hd2 hb2
          go_wp2
          go_roundg bs.size
          case rel => exact ⟨bs, i + 1, d, rfl, rfl, by go_num, HR, hib, HSN, HD2, HB2, hz2⟩
          all_goals (first | exact hsb | omega)
end Go.Proofs.YtihgnpobkpnipaaGreatDoor
namespace Go.Proofs.YtihgnpobkpnipaaGreatDoor
open Go.RowKit Go.Sort Go.Maps
set_option maxHeartbeats 16000000 in
set_option maxRecDepth 100000 in
theorem CRead_any (s : ByteArray) (w : World) (hT : TxW w) (hs : s.size ≤ 1000000) :
    Calls Tryz.prog 14 #[.string s] w fun e w' => RdR (bsOf s) w e w' := by
  have hsz : (bsOf s).length = s.size := bsOf_len s
  obtain ⟨w1, hw1⟩ : ∃ w1, w1 = w.alloc (.cells #[.slice none 0 0, .slice none 0 0] 29) := ⟨_, rfl⟩
  have hA1 : Below w.heap.size w w1 := by rw [hw1]; exact Bl.alloc (Below.refl _ _) _
  have hx1 : w1.heap[w.heap.size]? = some (.cells #[.slice none 0 0, .slice none 0 0] 29 (0, 0)) := by rw [hw1]; exact blk_new w _
  have hz1 : w1.heap.size = w.heap.size + 1 := by rw [hw1]; simp
  obtain ⟨w2, hw2⟩ : ∃ w2, w2 = w1.alloc (.cells #[.slice none 0 0, .slice none 0 0] 29) := ⟨_, rfl⟩
  have hz2 : w2.heap.size = w.heap.size + 1 + 1 := by rw [hw2, ← hz1]; simp
  have hA2 : Below w.heap.size w w2 := by rw [hw2]; exact Bl.alloc hA1 _
  have hA2' : Below w1.heap.size w1 w2 := by rw [hw2]; exact Bl.alloc (Below.refl _ _) _
  have hx2 : w2.heap[w1.heap.size]? = some (.cells #[.slice none 0 0, .slice none 0 0] 29 (0, 0)) := by
    rw [hw2]
    exact blk_new w1 _
  have hxr : w2.heap[w.heap.size]? = some (.cells #[.slice none 0 0, .slice none 0 0] 29 (0, 0)) := blk_below hx1 hA2'
  have HW1 := Lib.hid hw1
  have HW2 := Lib.hid hw2
  by_cases hbig : 200000 < s.size
  · have HV : Hid (catRead (bsOf s) = (([], []), 0, 2)) := Lib.hid (by unfold catRead; rw [if_pos (by omega)])
    have hb1 : (200000 : Int) < (s.size : Int) := by omega
    have q0 : w2.cell? ⟨w.heap.size, 0, none⟩ = some (.slice none 0 0) := blk_cell hxr 0
    have q1 : w2.cell? ⟨w.heap.size, 1, none⟩ = some (.slice none 0 0) := blk_cell hxr 1
    have n0 : w2.cell? ⟨w1.heap.size, 0, none⟩ = some (.slice none 0 0) := blk_cell hx2 0
    have n1 : w2.cell? ⟨w1.heap.size, 1, none⟩ = some (.slice none 0 0) := blk_cell hx2 1
    have g0 := blk_free hxr 0
    have g1 := blk_free hxr 1
    have lR := blk_lt hxr
    have ln := blk_lt hx2
    have HZ := Lib.hid (blk_set (blk_set hxr 0 (.slice none 0 0)) 1 (.slice none 0 0))
    have HBZ := Lib.hid (Bl.set (Bl.set hA2 w.heap.size 0 (Nat.le_refl _) (.slice none 0 0)) w.heap.size 1 (Nat.le_refl _) (.slice none 0 0))
    clear hsz hT hx1 hA1 hA2 hA2' hx2 hxr
    go_enter Tryz.func14, Tryz.ntmps14
    go_upto_region 1 with fail
    rw [← HW1.out]
    clear hw1 hz1
    go_upto_region 2 with fail
    rw [← HW2.out]
    clear hw2 hz2
    go_wp2
    generalize ((w2.setCell ⟨w.heap.size, 0, none⟩ (.slice none 0 0)).setCell ⟨w.heap.size, 1, none⟩ (.slice none 0 0)) = w9 at *
    have r0 : w9.cell? ⟨w.heap.size, 0, none⟩ = some (.slice none 0 0) := blk_cell HZ.out 0
    have r1 : w9.cell? ⟨w.heap.size, 1, none⟩ = some (.slice none 0 0) := blk_cell HZ.out 1
    refine bodyPost_ret (v := .tuple #[.agg #[.slice none 0 0, .slice none 0 0], .int .i64 0, .int .i64 2]) (by simp [results, Tryz.results14, go_sem, r0, r1]) rfl ?_
    exact RdR.mk HV.out (CatR.nil _) HBZ.out
  · obtain ⟨R, hR⟩ : ∃ R, R = readSt rdC 0 ([], []) (splitL 10 s.data.toList) := ⟨_, rfl⟩
    have HV : Hid (catRead (bsOf s) = rdEndC R) := Lib.hid (by unfold catRead; rw [if_neg (by omega), hR]; rfl)
    have hb1 : ¬ (200000 : Int) < (s.size : Int) := by omega
    obtain ⟨w3, hw3⟩ : ∃ w3, w3 = w2.alloc (.cells #[.slice none 0 0, .slice none 0 0] 29) := ⟨_, rfl⟩
    have hA3 : Below w.heap.size w w3 := by rw [hw3]; exact Bl.alloc hA2 _
    have hA3' : Below w2.heap.size w2 w3 := by rw [hw3]; exact Bl.alloc (Below.refl _ _) _
    have hx3 : w3.heap[w2.heap.size]? = some (.cells #[.slice none 0 0, .slice none 0 0] 29 (0, 0)) := by rw [hw3]; exact blk_new w2 _
    obtain ⟨b, hb⟩ : ∃ b, b = w2.heap.size := ⟨_, rfl⟩
    have HBQ := Lib.hid hb
    have HW3 := Lib.hid hw3
    have hlb : w.heap.size < b := by omega
    have hlb2 : w1.heap.size < b := by omega
    rw [← hb] at hx3 hA3'
    obtain ⟨g1, g2⟩ := hT.size
    have HL := Lib.hid (CRLines_any b s w3 (hT.below hA3) (by omega) (by omega) (by omega) (CatBox.new hx3) (blk_lt hx3))
    rw [← hR] at HL
    have HA3 := Lib.hid hA3
    have HXR := Lib.hid ((hA3'.block _ hlb).trans hxr)
    have HX2 := Lib.hid ((hA3'.block _ hlb2).trans hx2)
    clear hsz hT hx1 hA1 hA2 hA2' hx2 hxr hA3 hA3' hx3 hR hb
    go_enter Tryz.func14, Tryz.ntmps14
    go_upto_region 1 with fail
    rw [← HW1.out]
    clear hw1 hz1
    go_upto_region 2 with fail
    rw [← HW2.out]
    clear hw2 hz2
    go_upto_region 5 with fail
    rw [← HW3.out, ← HBQ.out]
    clear hw3
    go_wp2_with fail
    refine HL.out.mono ?_
    rintro e w4 ⟨hE, hb4⟩
    have HB4 := Lib.hid (HA3.out.trans (hb4.mono (Nat.le_of_lt hlb)))
    have HXR4 := Lib.hid ((hb4.block _ hlb).trans HXR.out)
    have HX24 := Lib.hid ((hb4.block _ hlb2).trans HX2.out)
    have q0 : w4.cell? ⟨w.heap.size, 0, none⟩ = some (.slice none 0 0) := blk_cell HXR4.out 0
    have q1 : w4.cell? ⟨w.heap.size, 1, none⟩ = some (.slice none 0 0) := blk_cell HXR4.out 1
    have n0 : w4.cell? ⟨w1.heap.size, 0, none⟩ = some (.slice none 0 0) := blk_cell HX24.out 0
    have n1 : w4.cell? ⟨w1.heap.size, 1, none⟩ = some (.slice none 0 0) := blk_cell HX24.out 1
    have g0 := blk_free HXR4.out 0
    have g1 := blk_free HXR4.out 1
    have lR := blk_lt HXR4.out
    have ln := blk_lt HX24.out
    clear hb4 HL HA3 HXR HX2
    cases R with
    | error i =>
      have HV : Hid (catRead (bsOf s) = (([], []), (i : Int), 9)) := Lib.hid HV.out
      obtain rfl := hE
      have HZ := Lib.hid (blk_set (blk_set HXR4.out 0 (.slice none 0 0)) 1 (.slice none 0 0))
      have HBZ := Lib.hid (Bl.set (Bl.set HB4.out w.heap.size 0 (Nat.le_refl _) (.slice none 0 0)) w.heap.size 1 (Nat.le_refl _) (.slice none 0 0))
      go_wp2
      generalize ((w4.setCell ⟨w.heap.size, 0, none⟩ (.slice none 0 0)).setCell ⟨w.heap.size, 1, none⟩ (.slice none 0 0)) = w9 at *
      have r0 : w9.cell? ⟨w.heap.size, 0, none⟩ = some (.slice none 0 0) := blk_cell HZ.out 0
      have r1 : w9.cell? ⟨w.heap.size, 1, none⟩ = some (.slice none 0 0) := blk_cell HZ.out 1
      refine bodyPost_ret (v := .tuple #[.agg #[.slice none 0 0, .slice none 0 0], .int .i64 i, .int .i64 9]) (by simp [results, Tryz.results14, go_sem, r0, r1]) rfl ?_
      exact RdR.mk HV.out (CatR.nil _) HBZ.out
    | ok c =>
      have HV1 : Hid (catRead (bsOf s) = if catsF c.1 c.2 = 0 then (c, 0, 0) else (([], []), 0, catsF c.1 c.2)) := Lib.hid (by rw [HV.out]; rfl)
      obtain ⟨rfl, ⟨pv, av, hbx, hpo, hao⟩, kk, hkk, hsm⟩ := hE
      obtain ⟨zp, za⟩ := hsm.z (by decide)
      have h11 := hsm.1
      have HCC := Lib.hid (CatalogueFault_any c.1 c.2 pv av w4 (by omega) (by omega) zp za ⟨hpo.rec0, hao.rec0⟩)
      obtain ⟨pa, pc, rfl, _, _⟩ := hpo.form
      obtain ⟨aa, ac, rfl, _, _⟩ := hao.form
      obtain ⟨pn, hpn⟩ : ∃ q, q = c.1.length := ⟨_, rfl⟩
      obtain ⟨an, han⟩ : ∃ q, q = c.2.length := ⟨_, rfl⟩
      rw [← hpn, ← han] at HCC hbx
      rw [← hpn] at hpo
      rw [← han] at hao
      have HPO := Lib.hid (And.intro hpo hao)
      have HBX := Lib.hid hbx
      obtain ⟨F, hF⟩ : ∃ F, F = catsF c.1 c.2 := ⟨_, rfl⟩
      rw [← hF] at HV1 HCC
      have k0 : w4.cell? ⟨b, 0, none⟩ = some (.slice pa pn pc) := blk_cell hbx 0
      have k1 : w4.cell? ⟨b, 1, none⟩ = some (.slice aa an ac) := blk_cell hbx 1
      have lb := blk_lt hbx
      clear hbx hpo hao zp za hpn han hF HV hsm h11
      go_wp2_with fail
      refine HCC.out.mono ?_
      rintro e w5 ⟨rfl, hb5⟩
      have HB5 := Lib.hid (Bl.trans HB4.out hb5)
      have hx5 := blk_below HXR4.out hb5
      have hn5 := blk_below HX24.out hb5
      have hbx5 := blk_below HBX.out hb5
      have HPO5 := Lib.hid (And.intro (HPO.out.1.below hb5) (HPO.out.2.below hb5))
      have q0 : w5.cell? ⟨w.heap.size, 0, none⟩ = some (.slice none 0 0) := blk_cell hx5 0
      have q1 : w5.cell? ⟨w.heap.size, 1, none⟩ = some (.slice none 0 0) := blk_cell hx5 1
      have n0 : w5.cell? ⟨w1.heap.size, 0, none⟩ = some (.slice none 0 0) := blk_cell hn5 0
      have n1 : w5.cell? ⟨w1.heap.size, 1, none⟩ = some (.slice none 0 0) := blk_cell hn5 1
      have g0 := blk_free hx5 0
      have g1 := blk_free hx5 1
      have lR := blk_lt hx5
      have ln := blk_lt hn5
      have m0 : w5.cell? ⟨b, 0, none⟩ = some (.slice pa pn pc) := blk_cell hbx5 0
      have m1 : w5.cell? ⟨b, 1, none⟩ = some (.slice aa an ac) := blk_cell hbx5 1
      have lb5 := blk_lt hbx5
      have HX5 := Lib.hid hx5
      clear hb5 hx5 hbx5 hn5 k0 k1 lb HCC
      by_cases h0 : F = 0
      · have HR : Hid (catRead (bsOf s) = (c, 0, 0)) := Lib.hid (by rw [HV1.out, if_pos h0])
        have HZ := Lib.hid (blk_set (blk_set HX5.out 0 (.slice pa pn pc)) 1 (.slice aa an ac))
        have HBZ := Lib.hid (Bl.set (Bl.set HB5.out w.heap.size 0 (Nat.le_refl _) (.slice pa pn pc)) w.heap.size 1 (Nat.le_refl _) (.slice aa an ac))
        have HCZ : Hid (CatR ((w5.setCell ⟨w.heap.size, 0, none⟩ (.slice pa pn pc)).setCell ⟨w.heap.size, 1, none⟩ (.slice aa an ac)) (.slice pa pn pc) (.slice aa an ac) c.1 c.2) := Lib.hid ⟨((HPO5.out.1.far (show w.heap.size < b + 1 by omega) 0 _).far (show w.heap.size < b + 1 by omega) 1 _).rec0, ((HPO5.out.2.far (show w.heap.size < b + 1 by omega) 0 _).far (show w.heap.size < b + 1 by omega) 1 _).rec0⟩
        subst h0
        clear HV1
        go_wp2
        generalize ((w5.setCell ⟨w.heap.size, 0, none⟩ (.slice pa pn pc)).setCell ⟨w.heap.size, 1, none⟩ (.slice aa an ac)) = w9 at *
        have r0 : w9.cell? ⟨w.heap.size, 0, none⟩ = some (.slice pa pn pc) := blk_cell HZ.out 0
        have r1 : w9.cell? ⟨w.heap.size, 1, none⟩ = some (.slice aa an ac) := blk_cell HZ.out 1
        refine bodyPost_ret (v := .tuple #[.agg #[.slice pa pn pc, .slice aa an ac], .int .i64 0, .int .i64 0]) (by simp [results, Tryz.results14, go_sem, r0, r1]) rfl ?_
        exact RdR.mk HR.out HCZ.out HBZ.out
      · have HR : Hid (catRead (bsOf s) = (([], []), 0, F)) := Lib.hid (by rw [HV1.out, if_neg h0])
        have h0' : (F != 0) = true := by simpa using h0
        have HZ := Lib.hid (blk_set (blk_set HX5.out 0 (.slice none 0 0)) 1 (.slice none 0 0))
        have HBZ := Lib.hid (Bl.set (Bl.set HB5.out w.heap.size 0 (Nat.le_refl _) (.slice none 0 0)) w.heap.size 1 (Nat.le_refl _) (.slice none 0 0))
        clear HV1
        go_wp2
        generalize ((w5.setCell ⟨w.heap.size, 0, none⟩ (.slice none 0 0)).setCell ⟨w.heap.size, 1, none⟩ (.slice none 0 0)) = w9 at *
        have r0 : w9.cell? ⟨w.heap.size, 0, none⟩ = some (.slice none 0 0) := blk_cell HZ.out 0
        have r1 : w9.cell? ⟨w.heap.size, 1, none⟩ = some (.slice none 0 0) := blk_cell HZ.out 1
        refine bodyPost_ret (v := .tuple #[.agg #[.slice none 0 0, .slice none 0 0], .int .i64 0, .int .i64 F]) (by simp [results, Tryz.results14, go_sem, r0, r1]) rfl ?_
        exact RdR.mk HR.out (CatR.nil _) HBZ.out
end Go.Proofs.YtihgnpobkpnipaaGreatDoor
namespace Go.Proofs.YtihgnpobkpnipaaGreatDoor
open Go.RowKit Go.Sort
theorem neqPrt_no (x1 x2 : ByteArray) (n1 n2 : Int) (W : World) : (binOp .neq 66 (.agg #[.string x1, .string x2, .int .i64 n1, .int .i64 n2]) (.agg #[.string x1, .string x2, .int .i64 n1, .int .i64 n2])).run Tryz.prog W = .ok (.bool false) W := by
  go_simp
theorem neqAlt_no (x1 x2 : ByteArray) (bo : Bool) (W : World) : (binOp .neq 72 (.agg #[.string x1, .string x2, .bool bo]) (.agg #[.string x1, .string x2, .bool bo])).run Tryz.prog W = .ok (.bool false) W := by
  go_simp
set_option maxHeartbeats 4000000 in
set_option maxRecDepth 100000 in
theorem EqPt_same (l : List Prt) (v u : Value) (w : World) (_hl : l.length ≤ 100000) (rl : RecR TPt w 0 v l) (rm : RecR TPt w 0 u l) :
    Calls Tryz.prog 59 #[v, u] w fun e w' => e = .returned (.bool true) ∧ Below w.heap.size w w' := by
  obtain ⟨a, ca, rfl, _, _⟩ := rl.form
  obtain ⟨b, cb, rfl, _, _⟩ := rm.form
  have RL := Lib.hid rl
  have RM := Lib.hid rm
  clear rl rm
  go_enter Tryz.func59, Tryz.ntmps59
  go_wp2_with fail
  go_loopw [13] (fun i wr => ∃ k : Nat, k ≤ l.length ∧ i = .int .i64 k ∧ Below w.heap.size w wr) (fun i _ => l.length - (intOf i).toNat)
  case atStart => exact ⟨0, Nat.zero_le _, rfl, Below.refl _ _⟩
  case round =>
    obtain ⟨k, hk, rfl, hB⟩ := hrel
    by_cases hlt : k < l.length
    · obtain ⟨x, hx⟩ : ∃ x, l[k]? = some x := ⟨_, List.getElem?_eq_getElem hlt⟩
      obtain ⟨b1, o1, rfl, _, _, hc1⟩ := (RL.out.below hB).at TPt.ok.len hx TPt.ok.pos
      obtain ⟨b2, o2, rfl, _, _, hc2⟩ := (RM.out.below hB).at TPt.ok.len hx TPt.ok.pos
      obtain ⟨x1, x2, n1, n2⟩ := x
      have cx0 : wr.cell? ⟨b1, o1 + k * 4, none⟩ = some (.string x1) := hc1 0 _ rfl
      have cx1 : wr.cell? ⟨b1, o1 + k * 4 + 1, none⟩ = some (.string x2) := hc1 1 _ rfl
      have cx2 : wr.cell? ⟨b1, o1 + k * 4 + 2, none⟩ = some (.int .i64 n1) := hc1 2 _ rfl
      have cx3 : wr.cell? ⟨b1, o1 + k * 4 + 3, none⟩ = some (.int .i64 n2) := hc1 3 _ rfl
      have cy0 : wr.cell? ⟨b2, o2 + k * 4, none⟩ = some (.string x1) := hc2 0 _ rfl
      have cy1 : wr.cell? ⟨b2, o2 + k * 4 + 1, none⟩ = some (.string x2) := hc2 1 _ rfl
      have cy2 : wr.cell? ⟨b2, o2 + k * 4 + 2, none⟩ = some (.int .i64 n1) := hc2 2 _ rfl
      have cy3 : wr.cell? ⟨b2, o2 + k * 4 + 3, none⟩ = some (.int .i64 n2) := hc2 3 _ rfl
      have hw1 : IntKind.i64.wrap ((k : Int) + 1) = ((k + 1 : Nat) : Int) := by rw [IntWalk.i64_in _ (by omega)]; omega
      clear hc1 hc2 hx
      have hne := neqPrt_no x1 x2 n1 n2
      go_wp2_with fail
      go_region
      all_goals (
        go_wp2
        go_roundw
        case rel => exact ⟨k + 1, by omega, by go_num, Below.drew hB⟩
        case measure => simp [intOf]; omega)
    · go_wp2
      go_ret
      exact ⟨rfl, hB⟩
set_option maxHeartbeats 4000000 in
set_option maxRecDepth 100000 in
theorem EqAl_same (l : List Alt) (v u : Value) (w : World) (_hl : l.length ≤ 100000) (rl : RecR TAl w 0 v l) (rm : RecR TAl w 0 u l) :
    Calls Tryz.prog 60 #[v, u] w fun e w' => e = .returned (.bool true) ∧ Below w.heap.size w w' := by
  obtain ⟨a, ca, rfl, _, _⟩ := rl.form
  obtain ⟨b, cb, rfl, _, _⟩ := rm.form
  have RL := Lib.hid rl
  have RM := Lib.hid rm
  clear rl rm
  go_enter Tryz.func60, Tryz.ntmps60
  go_wp2_with fail
  go_loopw [13] (fun i wr => ∃ k : Nat, k ≤ l.length ∧ i = .int .i64 k ∧ Below w.heap.size w wr) (fun i _ => l.length - (intOf i).toNat)
  case atStart => exact ⟨0, Nat.zero_le _, rfl, Below.refl _ _⟩
  case round =>
    obtain ⟨k, hk, rfl, hB⟩ := hrel
    by_cases hlt : k < l.length
    · obtain ⟨x, hx⟩ : ∃ x, l[k]? = some x := ⟨_, List.getElem?_eq_getElem hlt⟩
      obtain ⟨b1, o1, rfl, _, _, hc1⟩ := (RL.out.below hB).at TAl.ok.len hx TAl.ok.pos
      obtain ⟨b2, o2, rfl, _, _, hc2⟩ := (RM.out.below hB).at TAl.ok.len hx TAl.ok.pos
      obtain ⟨x1, x2, bo⟩ := x
      have cx0 : wr.cell? ⟨b1, o1 + k * 3, none⟩ = some (.string x1) := hc1 0 _ rfl
      have cx1 : wr.cell? ⟨b1, o1 + k * 3 + 1, none⟩ = some (.string x2) := hc1 1 _ rfl
      have cx2 : wr.cell? ⟨b1, o1 + k * 3 + 2, none⟩ = some (.bool bo) := hc1 2 _ rfl
      have cy0 : wr.cell? ⟨b2, o2 + k * 3, none⟩ = some (.string x1) := hc2 0 _ rfl
      have cy1 : wr.cell? ⟨b2, o2 + k * 3 + 1, none⟩ = some (.string x2) := hc2 1 _ rfl
      have cy2 : wr.cell? ⟨b2, o2 + k * 3 + 2, none⟩ = some (.bool bo) := hc2 2 _ rfl
      have hw1 : IntKind.i64.wrap ((k : Int) + 1) = ((k + 1 : Nat) : Int) := by rw [IntWalk.i64_in _ (by omega)]; omega
      clear hc1 hc2 hx
      have hne := neqAlt_no x1 x2 bo
      go_wp2_with fail
      go_region
      all_goals (
        go_wp2
        go_roundw
        case rel => exact ⟨k + 1, by omega, by go_num, Below.drew hB⟩
        case measure => simp [intOf]; omega)
    · go_wp2
      go_ret
      exact ⟨rfl, hB⟩
end Go.Proofs.YtihgnpobkpnipaaGreatDoor
