/- Texts of the proof of a law, put together, part 23 of 35. Conditions: none beyond those that each theorem names. -/
import Derived.Test.YtihgnpobkpnipaaGreatDoorCz22
namespace Go.Proofs.YtihgnpobkpnipaaGreatDoor
open Go.RowKit Go.Sort Go.Maps
/-- what Read has told. -/
def RdR (t : Bs) (w : World) (e : Ending) (w' : World) : Prop := ∃ pv av, e = .returned (.tuple #[.agg #[pv, av], .int .i64 (catRead t).2.1, .int .i64 (catRead t).2.2]) ∧ CatR w' pv av (catRead t).1.1 (catRead t).1.2 ∧ Below w.heap.size w w'
theorem RdR.mk {t : Bs} {w w' : World} {pv av : Value} {c : Cst} {i F : Int} (h : catRead t = (c, i, F)) (hc : CatR w' pv av c.1 c.2) (hb : Below w.heap.size w w') : RdR t w (.returned (.tuple #[.agg #[pv, av], .int .i64 i, .int .i64 F])) w' := ⟨pv, av, by rw [h], by rw [h]; exact hc, hb⟩
theorem CatR.nil (w : World) : CatR w (.slice none 0 0) (.slice none 0 0) [] [] := ⟨RecR.nil _ _, RecR.nil _ _⟩
theorem readKt_bad {en : Bool} {i : Nat} {c : Cst} {x : Bs} {r : List Bs} (h : rdC c x = none ∨ (en = false ∧ r = [])) : readKt rdC en i c (x :: r) = .error i := by
  rw [readKt]
  cases hx : rdC c x with
  | none => rfl
  | some d =>
    rcases h with h | h
    · rw [hx] at h; cases h
    · simp only [if_pos h]
theorem readKt_good {en : Bool} {i : Nat} {c d : Cst} {x : Bs} {r : List Bs} (hx : rdC c x = some d) (h : ¬(en = false ∧ r = [])) : readKt rdC en i c (x :: r) = readKt rdC en (i + 1) d r := by
  rw [readKt, hx]
  simp only [if_neg h]
theorem CatBox.new {w : World} {b : Nat} (h : w.heap[b]? = some (.cells #[.slice none 0 0, .slice none 0 0] 29 (0, 0))) : CatBox w b ([], []) := ⟨_, _, h, OwnR.nil _ _, OwnR.nil _ _⟩
theorem SmC.z {n k : Nat} {c : Cst} (h : SmC n c k) (hn : n ≤ 140737488355328) : PrtZ c.1 ∧ AltZ c.2 := ⟨fun x hx => ⟨Nat.le_trans (h.2.1 x hx).1 hn, Nat.le_trans (h.2.1 x hx).2.1 hn⟩, fun x hx => ⟨Nat.le_trans (h.2.2 x hx).1 hn, Nat.le_trans (h.2.2 x hx).2 hn⟩⟩
set_option maxHeartbeats 16000000 in
set_option maxRecDepth 100000 in
theorem CatRead_any (s : ByteArray) (w : World) (hT : TxW w) (hs : s.size ≤ 1000000) :
    Calls Tryz.prog 13 #[.string s] w fun e w' => RdR (bsOf s) w e w' := by
  have hsz : (bsOf s).length = s.size := bsOf_len s
  obtain ⟨w1, hw1⟩ : ∃ w1, w1 = w.alloc (.cells #[.slice none 0 0, .slice none 0 0] 29) := ⟨_, rfl⟩
  have hA1 : Below w.heap.size w w1 := by rw [hw1]; exact Bl.alloc (Below.refl _ _) _
  have hx1 : w1.heap[w.heap.size]? = some (.cells #[.slice none 0 0, .slice none 0 0] 29 (0, 0)) := by rw [hw1]; exact blk_new w _
  have HW1 := Lib.hid hw1
  by_cases hbig : 200000 < s.size
  · have HV : Hid (catRead (bsOf s) = (([], []), 0, 2)) := Lib.hid (by unfold catRead; rw [if_pos (by omega)])
    have hb1 : (200000 : Int) < (s.size : Int) := by omega
    have q0 : w1.cell? ⟨w.heap.size, 0, none⟩ = some (.slice none 0 0) := blk_cell hx1 0
    have q1 : w1.cell? ⟨w.heap.size, 1, none⟩ = some (.slice none 0 0) := blk_cell hx1 1
    have g0 := blk_free hx1 0
    have g1 := blk_free hx1 1
    have lR := blk_lt hx1
    have hZ := blk_set (blk_set hx1 0 (.slice none 0 0)) 1 (.slice none 0 0)
    have hBZ := Bl.set (Bl.set hA1 w.heap.size 0 (Nat.le_refl _) (.slice none 0 0)) w.heap.size 1 (Nat.le_refl _) (.slice none 0 0)
    clear hsz hT hx1 hA1
    go_enter Tryz.func13, Tryz.ntmps13
    go_upto_region 2 with fail
    rw [← HW1.out]
    clear hw1
    go_wp2
    generalize ((w1.setCell ⟨w.heap.size, 0, none⟩ (.slice none 0 0)).setCell ⟨w.heap.size, 1, none⟩ (.slice none 0 0)) = w9 at *
    have r0 : w9.cell? ⟨w.heap.size, 0, none⟩ = some (.slice none 0 0) := blk_cell hZ 0
    have r1 : w9.cell? ⟨w.heap.size, 1, none⟩ = some (.slice none 0 0) := blk_cell hZ 1
    refine bodyPost_ret (v := .tuple #[.agg #[.slice none 0 0, .slice none 0 0], .int .i64 0, .int .i64 2]) (by simp [results, Tryz.results13, go_sem, r0, r1]) rfl ?_
    exact RdR.mk HV.out (CatR.nil _) hBZ
  · have HV : Hid (catRead (bsOf s) = rdEndC (readKt rdC (linesK (bsOf s)).2 0 ([], []) (linesK (bsOf s)).1)) := Lib.hid (by unfold catRead; rw [if_neg (by omega), readKt_eq])
    have hb1 : ¬ (200000 : Int) < (s.size : Int) := by omega
    have HLI := Lib.hid (Lines_any s w1 (hT.below hA1) hs)
    have hle := linesS_le (bsOf s)
    have hln := linesS_len (bsOf s)
    have HLE := Lib.hid hle
    obtain ⟨bo, hbo⟩ : ∃ bo, bo = (linesK (bsOf s)).2 := ⟨_, rfl⟩
    obtain ⟨Ls, hLs⟩ : ∃ Ls, Ls = (linesK (bsOf s)).1 := ⟨_, rfl⟩
    change Hid (Calls _ _ _ _ fun e w' => ∃ v l, e = .returned (.tuple #[v, .bool (linesK (bsOf s)).2]) ∧ OwnR TS w' w1.heap.size v l ∧ l.map bsOf = (linesK (bsOf s)).1 ∧ l.length ≤ 1000001 ∧ Below w1.heap.size w1 w') at HLI
    rw [← hbo, ← hLs] at HV HLI
    rw [← hLs] at HLE hln
    have HT1 := Lib.hid (hT.below hA1)
    have HX1 := Lib.hid hx1
    have HA1 := Lib.hid hA1
    clear hbo hLs hT hle hw1 hA1 hx1
    go_enter Tryz.func13, Tryz.ntmps13
    go_wp2_with fail
    rw [← HW1.out]
    refine HLI.out.mono ?_
    rintro e w2 ⟨v, l, rfl, hO, hm, _, hb2⟩
    obtain ⟨n, hn⟩ : ∃ n, n = l.length := ⟨_, rfl⟩
    obtain ⟨sa, sc, rfl, _, _⟩ := hO.form
    rw [← hn] at hO ⊢
    have HN := Lib.hid hn
    have hll : l.length = Ls.length := by rw [← hm, List.length_map]
    have hn1 : n ≤ 200001 := by omega
    have HO := Lib.hid hO
    have HM := Lib.hid hm
    have HLL : Hid (n = Ls.length) := Lib.hid (by rw [hn, hll])
    have HB2 := Lib.hid (Bl.trans HA1.out hb2)
    have HX2 := Lib.hid (blk_below HX1.out hb2)
    have HT2 := Lib.hid (HT1.out.below hb2)
    obtain ⟨b, hb⟩ : ∃ b, b = w2.heap.size := ⟨_, rfl⟩
    obtain ⟨w3, hw3⟩ : ∃ w3, w3 = w2.alloc (.cells #[.slice none 0 0, .slice none 0 0] 29) := ⟨_, rfl⟩
    have HB3 : Hid (Below w2.heap.size w2 w3) := Lib.hid (by rw [hw3]; exact Bl.alloc (Below.refl _ _) _)
    have HC3 : Hid (CatBox w3 b ([], [])) := Lib.hid (CatBox.new (by rw [hw3, hb]; exact blk_new w2 _))
    have HRX := Lib.hid (And.intro hb hw3)
    have hRb : w.heap.size < b := by rw [hb]; exact blk_lt HX2.out
    have HS0 : Hid (SmC 200000 ([], []) 0) := Lib.hid ⟨rfl, fun _ h => by simp at h, fun _ h => by simp at h⟩
    have HBB : Hid (b = w2.heap.size) := Lib.hid hb
    clear hO hm hll hln hb2 hn hw3 hb
    go_upto_region 5 with fail
    rw [← HRX.out.2, ← HRX.out.1]
    go_wp2_with fail
    go_loopw [22] (fun i wr => ∃ (k : Nat) (c : Cst), k ≤ n ∧ i = .int .i64 k ∧ Hid (CatBox wr b c) ∧ Hid (SmC 200000 c k) ∧ Hid (readKt rdC bo 0 ([], []) Ls = readKt rdC bo k c (Ls.drop k)) ∧ Hid (Below w2.heap.size w2 wr)) (fun i _ => n - (intOf i).toNat)
    case atStart => exact ⟨0, ([], []), Nat.zero_le _, rfl, HC3, HS0, Lib.hid rfl, HB3⟩
    case round =>
      obtain ⟨k, c, hk, rfl, HC, HSM, HP, HB⟩ := hrel
      have HTk := Lib.hid (HT2.out.below HB.out)
      have HBW := Lib.hid (Bl.trans HB2.out HB.out)
      have HRk := Lib.hid (blk_below HX2.out HB.out)
      by_cases hlt : k < n
      · obtain ⟨x, hx⟩ : ∃ x, l[k]? = some x := ⟨_, List.getElem?_eq_getElem (by rw [← HN.out]; exact hlt)⟩
        have hLx : Ls[k]? = some (bsOf x) := by rw [← HM.out, List.getElem?_map, hx]; rfl
        obtain ⟨hkl, hLk⟩ := List.getElem?_eq_some_iff.1 hLx
        have hdr : Ls.drop k = bsOf x :: Ls.drop (k + 1) := by rw [List.drop_eq_getElem_cons hkl, hLk]
        have hxs : x.size ≤ 200000 := by
          have h1 := HLE.out _ (List.mem_of_getElem? hLx)
          have h2 := bsOf_len x
          omega
        obtain ⟨b1, o1, rfl, _, _, c0⟩ := str_at (HO.out.rec.below HB.out) hx
        have hw1 : IntKind.i64.wrap ((k : Int) + 1) = ((k + 1 : Nat) : Int) := by rw [IntWalk.i64_in _ (by omega)]; omega
        have hw2 : IntKind.i64.wrap ((n : Int) - 1) = ((n - 1 : Nat) : Int) := by rw [IntWalk.i64_in _ (by omega)]; omega
        have HRL := Lib.hid (CatLine_any b c x wr HTk.out (by omega) HC.out (by have := HSM.out.1; omega) (by have := HSM.out.1; omega))
        have HDR := Lib.hid hdr
        have HXS : Hid ((bsOf x).length ≤ 200000) := Lib.hid (by rw [bsOf_len]; exact hxs)
        clear hx hLx hkl hLk hdr
        have HBAD := Lib.hid (show (rdC c (bsOf x) = none ∨ (bo = false ∧ Ls.drop (k + 1) = [])) → catRead (bsOf s) = (([], []), (k : Int), 9) from fun h => by
          have h1 := HP.out
          rw [HDR.out, readKt_bad h] at h1
          rw [HV.out, h1]; rfl)
        obtain ⟨od, hod⟩ : ∃ q, q = rdC c (bsOf x) := ⟨_, rfl⟩
        have HOD := Lib.hid hod
        rw [← hod] at HRL
        clear hod
        go_wp2_with fail
        refine HRL.out.mono ?_
        rintro e w4 ⟨rfl, hc4, hb4⟩
        have HB4 : Hid (Below w2.heap.size w2 w4) := Lib.hid (Below.trans HB.out (by rw [← HBB.out]; exact hb4))
        have HC4 := Lib.hid hc4
        have hx4 := blk_below HX2.out HB4.out
        have HBW4 := Lib.hid (Bl.trans HB2.out HB4.out)
        have q0 : w4.cell? ⟨w.heap.size, 0, none⟩ = some (.slice none 0 0) := blk_cell hx4 0
        have q1 : w4.cell? ⟨w.heap.size, 1, none⟩ = some (.slice none 0 0) := blk_cell hx4 1
        have g0 := blk_free hx4 0
        have g1 := blk_free hx4 1
        have lR := blk_lt hx4
        have HZ := Lib.hid (blk_set (blk_set hx4 0 (.slice none 0 0)) 1 (.slice none 0 0))
        have HBZ := Lib.hid (Bl.set (Bl.set HBW4.out w.heap.size 0 (Nat.le_refl _) (.slice none 0 0)) w.heap.size 1 (Nat.le_refl _) (.slice none 0 0))
        clear hc4 hb4 hx4 HRL c0
        cases od with
        | none =>
          have HR : Hid (catRead (bsOf s) = (([], []), (k : Int), 9)) := Lib.hid (HBAD.out (.inl HOD.out.symm))
          clear HBAD
          go_wp2
          generalize ((w4.setCell ⟨w.heap.size, 0, none⟩ (.slice none 0 0)).setCell ⟨w.heap.size, 1, none⟩ (.slice none 0 0)) = w9 at *
          have r0 : w9.cell? ⟨w.heap.size, 0, none⟩ = some (.slice none 0 0) := blk_cell HZ.out 0
          have r1 : w9.cell? ⟨w.heap.size, 1, none⟩ = some (.slice none 0 0) := blk_cell HZ.out 1
          refine bodyPost_ret (v := .tuple #[.agg #[.slice none 0 0, .slice none 0 0], .int .i64 k, .int .i64 9]) (by simp [results, Tryz.results13, go_sem, r0, r1]) rfl ?_
          exact RdR.mk HR.out (CatR.nil _) HBZ.out
        | some d =>
          have HD4 : Hid (CatBox w4 b d) := HC4
          have HSN := Lib.hid (rdC_sm HXS.out HSM.out HOD.out.symm)
          by_cases hlast : bo = false ∧ k + 1 = n
          · obtain ⟨rfl, hl9⟩ := hlast
            have HR : Hid (catRead (bsOf s) = (([], []), (k : Int), 9)) := Lib.hid (HBAD.out (.inr ⟨rfl, by rw [List.drop_eq_nil_iff]; have := HLL.out; omega⟩))
            have hqb : ((k : Int) == ((n - 1 : Nat) : Int)) = true := by simp; omega
            have hqc : (k : Int) = ((n - 1 : Nat) : Int) := by omega
            clear hl9 HBAD
            go_wp2
            generalize ((w4.setCell ⟨w.heap.size, 0, none⟩ (.slice none 0 0)).setCell ⟨w.heap.size, 1, none⟩ (.slice none 0 0)) = w9 at *
            have r0 : w9.cell? ⟨w.heap.size, 0, none⟩ = some (.slice none 0 0) := blk_cell HZ.out 0
            have r1 : w9.cell? ⟨w.heap.size, 1, none⟩ = some (.slice none 0 0) := blk_cell HZ.out 1
            refine bodyPost_ret (v := .tuple #[.agg #[.slice none 0 0, .slice none 0 0], .int .i64 k, .int .i64 9]) (by simp [results, Tryz.results13, go_sem, r0, r1] <;> omega) rfl ?_
            exact RdR.mk HR.out (CatR.nil _) HBZ.out
          · have hgood : ¬(bo = false ∧ Ls.drop (k + 1) = []) := fun h => hlast ⟨h.1, by have h2 := h.2; rw [List.drop_eq_nil_iff] at h2; have := HLL.out; omega⟩
            have HP3 : Hid (readKt rdC bo 0 ([], []) Ls = readKt rdC bo (k + 1) d (Ls.drop (k + 1))) := Lib.hid (by rw [HP.out, HDR.out, readKt_good HOD.out.symm hgood])
            have hqq : bo = true ∨ (bo = false ∧ ((k : Int) == ((n - 1 : Nat) : Int)) = false ∧ ¬ (k : Int) = ((n - 1 : Nat) : Int)) := by
              cases bo with
              | true => exact .inl rfl
              | false =>
                have h9 : ¬ (k : Int) = ((n - 1 : Nat) : Int) := fun e => hlast ⟨rfl, by omega⟩
                exact .inr ⟨rfl, by simpa using h9, h9⟩
            clear hlast hgood HBAD HP q0 q1 g0 g1 HZ HBZ lR
            rcases hqq with rfl | ⟨rfl, hq1, hq2⟩
            all_goals
              go_wp2
              go_roundw
              case rel => exact ⟨k + 1, d, by omega, by go_num, HD4, HSN, HP3, HB4⟩
              case measure => simp [intOf]; omega
      · obtain rfl : k = n := by omega
        have HR : Hid (readKt rdC bo 0 ([], []) Ls = .ok c) := Lib.hid (by
          rw [HP.out, HLL.out, List.drop_length]; rfl)
        have HV1 : Hid (catRead (bsOf s) = if catsF c.1 c.2 = 0 then (c, 0, 0) else (([], []), 0, catsF c.1 c.2)) := Lib.hid (by rw [HV.out, HR.out]; rfl)
        obtain ⟨pv, av, hbx, hpo, hao⟩ := HC.out
        obtain ⟨zp, za⟩ := HSM.out.z (by decide)
        have HCC := Lib.hid (CheckCatalogue_any c.1 c.2 pv av wr (by have := HSM.out.1; omega) (by have := HSM.out.1; omega) zp za ⟨hpo.rec0, hao.rec0⟩)
        obtain ⟨pa, pc, rfl, _, _⟩ := hpo.form
        obtain ⟨aa, ac, rfl, _, _⟩ := hao.form
        obtain ⟨pn, hpn⟩ : ∃ q, q = c.1.length := ⟨_, rfl⟩
        obtain ⟨an, han⟩ : ∃ q, q = c.2.length := ⟨_, rfl⟩
        rw [← hpn, ← han] at HCC hbx
        rw [← hpn] at hpo
        rw [← han] at hao
        have HPO := Lib.hid (And.intro hpo hao)
        have HBX := Lib.hid hbx
        obtain ⟨F, hF⟩ : ∃ F, F = catsF c.1 c.2 := ⟨_, rfl⟩
        rw [← hF] at HV1 HCC
        have k0 : wr.cell? ⟨b, 0, none⟩ = some (.slice pa pn pc) := blk_cell hbx 0
        have k1 : wr.cell? ⟨b, 1, none⟩ = some (.slice aa an ac) := blk_cell hbx 1
        have lb := blk_lt hbx
        clear hbx hpo hao zp za hpn han hF HV HR HP
        go_wp2_with fail
        refine HCC.out.mono ?_
        rintro e w5 ⟨rfl, hb5⟩
        have HB5 := Lib.hid (Bl.trans HBW.out hb5)
        have hx5 := blk_below HRk.out hb5
        have hbx5 := blk_below HBX.out hb5
        have HPO5 := Lib.hid (And.intro (HPO.out.1.below hb5) (HPO.out.2.below hb5))
        have q0 : w5.cell? ⟨w.heap.size, 0, none⟩ = some (.slice none 0 0) := blk_cell hx5 0
        have q1 : w5.cell? ⟨w.heap.size, 1, none⟩ = some (.slice none 0 0) := blk_cell hx5 1
        have g0 := blk_free hx5 0
        have g1 := blk_free hx5 1
        have lR := blk_lt hx5
        have m0 : w5.cell? ⟨b, 0, none⟩ = some (.slice pa pn pc) := blk_cell hbx5 0
        have m1 : w5.cell? ⟨b, 1, none⟩ = some (.slice aa an ac) := blk_cell hbx5 1
        have lb5 := blk_lt hbx5
        have HX5 := Lib.hid hx5
        clear hb5 hx5 hbx5 k0 k1 lb HCC
        by_cases h0 : F = 0
        · have HR : Hid (catRead (bsOf s) = (c, 0, 0)) := Lib.hid (by rw [HV1.out, if_pos h0])
          have HZ := Lib.hid (blk_set (blk_set HX5.out 0 (.slice pa pn pc)) 1 (.slice aa an ac))
          have HBZ := Lib.hid (Bl.set (Bl.set HB5.out w.heap.size 0 (Nat.le_refl _) (.slice pa pn pc)) w.heap.size 1 (Nat.le_refl _) (.slice aa an ac))
          have HCZ : Hid (CatR ((w5.setCell ⟨w.heap.size, 0, none⟩ (.slice pa pn pc)).setCell ⟨w.heap.size, 1, none⟩ (.slice aa an ac)) (.slice pa pn pc) (.slice aa an ac) c.1 c.2) := Lib.hid ⟨((HPO5.out.1.far (show w.heap.size < b + 1 by omega) 0 _).far (show w.heap.size < b + 1 by omega) 1 _).rec0, ((HPO5.out.2.far (show w.heap.size < b + 1 by omega) 0 _).far (show w.heap.size < b + 1 by omega) 1 _).rec0⟩
          subst h0
          clear HV1
          go_wp2
          generalize ((w5.setCell ⟨w.heap.size, 0, none⟩ (.slice pa pn pc)).setCell ⟨w.heap.size, 1, none⟩ (.slice aa an ac)) = w9 at *
          have r0 : w9.cell? ⟨w.heap.size, 0, none⟩ = some (.slice pa pn pc) := blk_cell HZ.out 0
          have r1 : w9.cell? ⟨w.heap.size, 1, none⟩ = some (.slice aa an ac) := blk_cell HZ.out 1
          refine bodyPost_ret (v := .tuple #[.agg #[.slice pa pn pc, .slice aa an ac], .int .i64 0, .int .i64 0]) (by simp [results, Tryz.results13, go_sem, r0, r1]) rfl ?_
          exact RdR.mk HR.out HCZ.out HBZ.out
        · have HR : Hid (catRead (bsOf s) = (([], []), 0, F)) := Lib.hid (by rw [HV1.out, if_neg h0])
          have h0' : (F != 0) = true := by simpa using h0
          have HZ := Lib.hid (blk_set (blk_set HX5.out 0 (.slice none 0 0)) 1 (.slice none 0 0))
          have HBZ := Lib.hid (Bl.set (Bl.set HB5.out w.heap.size 0 (Nat.le_refl _) (.slice none 0 0)) w.heap.size 1 (Nat.le_refl _) (.slice none 0 0))
          clear HV1
          go_wp2
          generalize ((w5.setCell ⟨w.heap.size, 0, none⟩ (.slice none 0 0)).setCell ⟨w.heap.size, 1, none⟩ (.slice none 0 0)) = w9 at *
          have r0 : w9.cell? ⟨w.heap.size, 0, none⟩ = some (.slice none 0 0) := blk_cell HZ.out 0
          have r1 : w9.cell? ⟨w.heap.size, 1, none⟩ = some (.slice none 0 0) := blk_cell HZ.out 1
          refine bodyPost_ret (v := .tuple #[.agg #[.slice none 0 0, .slice none 0 0], .int .i64 0, .int .i64 F]) (by simp [results, Tryz.results13, go_sem, r0, r1]) rfl ?_
          exact RdR.mk HR.out (CatR.nil _) HBZ.out
end Go.Proofs.YtihgnpobkpnipaaGreatDoor
