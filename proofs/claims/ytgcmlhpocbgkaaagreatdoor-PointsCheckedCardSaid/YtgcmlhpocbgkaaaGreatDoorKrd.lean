/- tour.Read. Conditions: what lies in the library (TxW); texts of at most 10^6 bytes. -/
import Derived.Test.YtgcmlhpocbgkaaaGreatDoorRrd
import Derived.Deep.RegionLaw
namespace Go.Proofs.YtgcmlhpocbgkaaaGreatDoor
open Go.RowKit Go.Sort

theorem linesK_le (t : List UInt8) : ∀ z ∈ (linesK t).1, z.length ≤ t.length := by
  intro z hz
  unfold linesK at hz
  split at hz
  · simp at hz
  · split at hz
    · have := splitL_le 10 _ z hz
      simp at this; omega
    · exact splitL_le 10 _ z hz
theorem linesK_len (t : List UInt8) : (linesK t).1.length ≤ t.length + 1 := by
  unfold linesK
  split
  · simp
  · split
    · have h1 := splitL_len 10 t.dropLast
      have h2 := List.count_le_length (a := (10 : UInt8)) (l := t.dropLast)
      simp only
      rw [h1]
      simp at h2
      omega
    · have h1 := splitL_len 10 t
      have h2 := List.count_le_length (a := (10 : UInt8)) (l := t)
      simp only
      rw [h1]
      omega
theorem rdP_nums (x : List UInt8) : rdP x = (numsK (splitL 32 x)).bind fun ns => match ns with | [m, n] => some (m, n) | _ => none := by
  by_cases h : (splitL 32 x).length = 2
  · match hs : splitL 32 x with
    | [] => rw [hs] at h; cases h
    | [a] => rw [hs] at h; cases h
    | [a, b] => exact rdP_two hs
    | a :: b :: c :: r => rw [hs] at h; simp at h
  · rw [rdP_no h]
    cases hk : numsK (splitL 32 x) with
    | none => rfl
    | some ns =>
      have := numsK_len hk
      match ns with
      | [] => rfl
      | [a] => rfl
      | [a, b] => exact absurd this.symm h
      | a :: b :: c :: r => rfl
theorem readK_bad {b : Bool} {k : Nat} {x : List UInt8} {r : List (List UInt8)} (h : rdP x = none ∨ (b = false ∧ r = [])) : readK rdP b k (x :: r) = .error k := by
  rw [readK]
  rcases h with h | ⟨h1, h2⟩
  · rw [h]
  · cases rdP x with
    | none => rfl
    | some a => simp only; rw [if_pos ⟨h1, h2⟩]
theorem readK_good {b : Bool} {k : Nat} {x : List UInt8} {r : List (List UInt8)} {p : Pt} (h : rdP x = some p) (h2 : ¬(b = false ∧ r = [])) (pts : List Pt) : onto pts (readK rdP b k (x :: r)) = onto (pts ++ [p]) (readK rdP b (k + 1) r) := by
  rw [readK, h]
  simp only
  rw [if_neg h2]
  cases readK rdP b (k + 1) r with
  | error e => rfl
  | ok l => simp [onto]
set_option maxHeartbeats 4000000 in
set_option maxRecDepth 100000 in
theorem Read_any (s : ByteArray) (w : World) (hT : TxW w) (hs : s.size ≤ 1000000) :
    Calls Tryz.prog 39 #[.string s] w fun e w' => ∃ v, e = .returned (.tuple #[v, .int .i64 (ptsRead s.data.toList).2.1, .int .i64 (ptsRead s.data.toList).2.2]) ∧ OwnP w' w.heap.size v (ptsRead s.data.toList).1 ∧ Below w.heap.size w w' := by
  have hsz : s.data.toList.length = s.size := Array.length_toList
  by_cases hbig : 200000 < s.size
  · have HV : Hid (ptsRead s.data.toList = ([], 0, 2)) := Lib.hid (by unfold ptsRead; rw [if_pos (by omega)])
    have hb1 : (200000 : Int) < (s.size : Int) := by omega
    clear hsz
    go_enter Tryz.func39, Tryz.ntmps39
    go_wp2
    go_ret3
    exact ⟨_, by rw [HV.out] <;> rfl, by rw [HV.out]; exact OwnP.nil _ _, Below.refl _ _⟩
  · have HV : Hid (ptsRead s.data.toList = rdEnd (readK rdP (linesK s.data.toList).2 0 (linesK s.data.toList).1)) := Lib.hid (by unfold ptsRead; rw [if_neg (by omega), readK_eq])
    have hb1 : ¬ (200000 : Int) < (s.size : Int) := by omega
    have HLI := Lib.hid (Lines_any s w hT hs)
    have hle := linesK_le s.data.toList
    have hln := linesK_len s.data.toList
    have HLE := Lib.hid hle
    obtain ⟨bo, hbo⟩ : ∃ bo, bo = (linesK s.data.toList).2 := ⟨_, rfl⟩
    obtain ⟨Ls, hLs⟩ : ∃ Ls, Ls = (linesK s.data.toList).1 := ⟨_, rfl⟩
    rw [← hbo, ← hLs] at HV HLI
    rw [← hLs] at HLE hln
    have HT := Lib.hid hT
    clear hbo hLs hT hle
    go_enter Tryz.func39, Tryz.ntmps39
    go_wp2_with fail
    refine HLI.out.mono ?_
    rintro e w1 ⟨v, l, rfl, hO, hm, _, hb⟩
    obtain ⟨sa, scap, rfl, hc1, hc2⟩ := hO.form
    have hll : l.length = Ls.length := by rw [← hm, List.length_map]
    have hl1 : l.length ≤ 200001 := by omega
    have HO := Lib.hid hO
    have HM := Lib.hid hm
    have HLL := Lib.hid hll
    have hz1 := hb.size
    have hT1 := HT.out.below hb
    have HT1 := Lib.hid hT1
    have HB := Lib.hid hb
    clear hO hm hll hln hT1 hb
    go_wp2_with fail
    go_loopw [7, 23] (fun v i wr => ∃ (k : Nat) (pts : List Pt), k ≤ l.length ∧ i = .int .i64 k ∧ OwnR TPo wr w1.heap.size v pts ∧ Hid (pts.length = k ∧ readK rdP bo 0 Ls = onto pts (readK rdP bo k (Ls.drop k))) ∧ Below w1.heap.size w1 wr) (fun _ i _ => l.length - (intOf i).toNat)
    case atStart =>
      refine ⟨0, [], Nat.zero_le _, rfl, OwnR.nil _ _, Lib.hid ⟨rfl, ?_⟩, Below.refl _ _⟩
      rw [List.drop_zero]
      cases readK rdP bo 0 Ls <;> simp [onto]
    case round =>
      obtain ⟨k, pts, hk, rfl, hOp, hP, hB⟩ := hrel
      by_cases hlt : k < l.length
      · obtain ⟨x, hx⟩ : ∃ x, l[k]? = some x := ⟨_, List.getElem?_eq_getElem hlt⟩
        have hLx : Ls[k]? = some x.data.toList := by rw [← HM.out, List.getElem?_map, hx]; rfl
        obtain ⟨hkl, hLk⟩ := List.getElem?_eq_some_iff.1 hLx
        have hdr : Ls.drop k = x.data.toList :: Ls.drop (k + 1) := by rw [List.drop_eq_getElem_cons hkl, hLk]
        have hxs : x.size ≤ 200000 := by
          have h1 := HLE.out _ (List.mem_of_getElem? hLx)
          have h2 : x.data.toList.length = x.size := Array.length_toList
          omega
        obtain ⟨b, o, rfl, _, hb, c0⟩ := strs_at (HO.out.rec.below hB) hx
        have hw1 : IntKind.i64.wrap ((k : Int) + 1) = ((k + 1 : Nat) : Int) := by rw [IntWalk.i64_in _ (by omega)]; omega
        have hw2 : IntKind.i64.wrap ((l.length : Int) - 1) = ((l.length - 1 : Nat) : Int) := by rw [IntWalk.i64_in _ (by omega)]; omega
        have HSP := Lib.hid fun (U : World) (hU : TxW U) => Split_any x 32 U hU (by omega)
        have HDR := Lib.hid hdr
        have HRN := Lib.hid (rdP_nums x.data.toList)
        clear hx hLx hkl hLk hdr
        have hTk := HT1.out.below hB
        go_wp2_with fail
        refine (HSP.out _ hTk).mono ?_
        rintro e w2 ⟨v2, ps, rfl, hO2, hm2, hl2, hb2⟩
        have hps : ps.length ≤ 1000000 := by
          have h1 := splitL_len 32 x.data.toList
          have h2 := List.count_le_length (a := (32 : UInt8)) (l := x.data.toList)
          have h3 : x.data.toList.length = x.size := Array.length_toList
          rw [← hm2, List.length_map] at h1
          omega
        have HN := Lib.hid (Numbers_any v2 ps w2 hO2.rec0 hps (fun y hy => by
          have h1 := splitL_le 32 x.data.toList y.data.toList (by rw [← hm2]; exact List.mem_map_of_mem hy)
          have h2 : y.data.toList.length = y.size := Array.length_toList
          have h3 : x.data.toList.length = x.size := Array.length_toList
          omega))
        rw [hm2] at HN
        clear hO2 hm2 hl2 hTk hps
        have HBAD := Lib.hid (show (rdP x.data.toList = none ∨ (bo = false ∧ Ls.drop (k + 1) = [])) → ptsRead s.data.toList = ([], (k : Int), 9) from fun h => by rw [HV.out, hP.out.2, HDR.out, readK_bad h]; rfl)
        have hB2 := Bl.trans hB hb2
        have hOp2 := hOp.below hb2
        have hz2 := hB2.size
        obtain ⟨pa, pcap, rfl, _, _⟩ := hOp2.form
        have HOp := Lib.hid hOp2
        clear hOp hOp2 hB hb2
        cases hk2 : numsK (splitL 32 x.data.toList) with
        | none =>
          have HR : Hid (ptsRead s.data.toList = ([], (k : Int), 9)) := Lib.hid (HBAD.out (.inl (by rw [HRN.out, hk2]; rfl)))
          rw [hk2] at HN
          clear hk2
          go_wp2_with fail
          refine HN.out.mono ?_
          rintro e w3 ⟨u, rfl, hu, hb3⟩
          have hB3 := HB.out.trans ((Bl.trans hB2 hb3).mono hz1)
          clear hu hb3
          go_wp2
          go_ret3
          exact ⟨_, by rw [HR.out] <;> rfl, by rw [HR.out]; exact OwnP.nil _ _, hB3⟩
        | some ns =>
          have HK2 := Lib.hid hk2
          rw [hk2] at HN
          clear hk2
          by_cases h2 : ns.length = 2
          · obtain ⟨m, n, rfl⟩ : ∃ m n, ns = [m, n] := by
              match ns, h2 with
              | [m, n], _ => exact ⟨m, n, rfl⟩
            clear h2
            have HP2 : Hid (rdP x.data.toList = some (m, n)) := Lib.hid (by rw [HRN.out, HK2.out]; rfl)
            by_cases hlast : bo = false ∧ k + 1 = l.length
            · obtain ⟨rfl, hl9⟩ := hlast
              have HR : Hid (ptsRead s.data.toList = ([], (k : Int), 9)) := Lib.hid (HBAD.out (.inr ⟨rfl, by rw [List.drop_eq_nil_iff]; have := HLL.out; omega⟩))
              have hqb : ((k : Int) == ((l.length - 1 : Nat) : Int)) = true := by simp; omega
              have hqc : (k : Int) = ((l.length - 1 : Nat) : Int) := by omega
              have HQC := Lib.hid hqc
              clear hl9 hqc
              go_wp2_with fail
              refine HN.out.mono ?_
              rintro e w3 ⟨u, rfl, hu, hb3⟩
              have hB3 := HB.out.trans ((Bl.trans hB2 hb3).mono hz1)
              obtain ⟨ua, ucap, hu2, _, _⟩ := Ints.form hu.ints
              simp only [Option.getD_some, List.length_cons, List.length_nil] at hu2
              subst hu2
              clear hu hb3
              go_wp2
              go_ret3
              exact ⟨_, by rw [HR.out] <;> rfl, by rw [HR.out]; exact OwnP.nil _ _, hB3⟩
            · have hgood : ¬(bo = false ∧ Ls.drop (k + 1) = []) := fun h => hlast ⟨h.1, by have h2 := h.2; rw [List.drop_eq_nil_iff] at h2; have := HLL.out; omega⟩
              have HP3 : Hid ((pts ++ [(m, n)]).length = k + 1 ∧ readK rdP bo 0 Ls = onto (pts ++ [(m, n)]) (readK rdP bo (k + 1) (Ls.drop (k + 1)))) := Lib.hid ⟨by rw [List.length_append, hP.out.1]; rfl, by rw [hP.out.2, HDR.out, readK_good HP2.out hgood]⟩
              have hpk : pts.length ≤ 200001 := by rw [hP.out.1]; omega
              have hqq : bo = true ∨ (bo = false ∧ ((k : Int) == ((l.length - 1 : Nat) : Int)) = false ∧ ¬ (k : Int) = ((l.length - 1 : Nat) : Int)) := by
                cases bo with
                | true => exact .inl rfl
                | false =>
                  have h9 : ¬ (k : Int) = ((l.length - 1 : Nat) : Int) := fun e => hlast ⟨rfl, by omega⟩
                  exact .inr ⟨rfl, by simpa using h9, h9⟩
              clear hlast hgood HBAD
              rcases hqq with rfl | ⟨rfl, hq1, hq2⟩
              all_goals
                go_wp2_with fail
                refine HN.out.mono ?_
                rintro e w3 ⟨u, rfl, hu, hb3⟩
                have hu' : Own w3 w2.heap.size u [m, n] := hu
                have hu1 : ∃ gu ucap, u = .slice (some ⟨gu, 0, none⟩) 2 ucap ∧ gu < w3.heap.size ∧ 2 ≤ ucap ∧ w3.cell? ⟨gu, 0, none⟩ = some (.int .i64 m) ∧ w3.cell? ⟨gu, 1, none⟩ = some (.int .i64 n) := by
                  rcases hu'.2 with ⟨_, h⟩ | ⟨g, cap, cur, rfl, hB, hb, h1, h2, h3, h4⟩
                  · simp at h
                  · refine ⟨g, cap, rfl, blk_lt hb, h1, ?_, ?_⟩
                    · rw [blk_cell hb 0]
                      have := congrArg (fun l => l[0]?) h4
                      simpa [ics] using this
                    · rw [blk_cell hb 1]
                      have := congrArg (fun l => l[1]?) h4
                      simpa [ics] using this
                obtain ⟨gu, ucap, rfl, hgu, huc, c1, c2⟩ := hu1
                have hOp3 := HOp.out.below hb3
                have HVO := Lib.hid (show ∀ U, Below w3.heap.size w3 U → OwnR TPo U w1.heap.size (.slice pa pts.length pcap) pts from fun U hU => hOp3.below hU)
                have hB3 := Bl.trans hB2 hb3
                have hz3 := hB3.size
                have HB3 := Lib.hid hB3
                clear hu hu' hOp3 hB3 hb3
                go_wp2
                go_region_law (refine step_app_rec TPo.ok rfl (.tmp 53) (.tmp 61) rfl w1.heap.size _ pts (by simp [Act.eval]) (HVO.out _ (by first | exact Below.drew (Bl.alloc (Below.refl _ _) _) | exact Bl.alloc (Below.drew (Below.refl _ _)) _)) w3.heap.size 1 (m, n) (by simp [Act.eval]) (by first | exact blk_new w3 _ | exact blk_new w3.drew _) rfl (by omega) (by simp; omega) ?_; intro v4 w4 hO4 hg4 hb4; have HW4 : Hid (Below w1.heap.size w1 w4) := Lib.hid ((HB3.out.trans ((show Below w3.heap.size w3 _ from by first | exact Below.drew (Bl.alloc (Below.refl _ _) _) | exact Bl.alloc (Below.drew (Below.refl _ _)) _).mono hz3)).trans hb4); clear hg4 hb4)
                all_goals (
                  go_wp2
                  go_roundw
                  case rel => exact ⟨k + 1, pts ++ [(m, n)], by omega, by go_num, hO4, HP3, HW4.out⟩
                  case measure => simp [intOf]; omega)
          · have HR : Hid (ptsRead s.data.toList = ([], (k : Int), 9)) := Lib.hid (HBAD.out (.inl (rdP_no (by rw [← numsK_len HK2.out]; exact h2))))
            have hn2 : ¬ (ns.length : Int) = 2 := by omega
            clear h2
            go_wp2_with fail
            refine HN.out.mono ?_
            rintro e w3 ⟨u, rfl, hu, hb3⟩
            have hB3 := HB.out.trans ((Bl.trans hB2 hb3).mono hz1)
            obtain ⟨ua, ucap, hu2, _, _⟩ := Ints.form hu.ints
            simp only [Option.getD_some] at hu2
            subst hu2
            clear hu hb3
            go_wp2
            go_ret3
            exact ⟨_, by rw [HR.out] <;> rfl, by rw [HR.out]; exact OwnP.nil _ _, hB3⟩
      · obtain rfl : k = l.length := by omega
        have HR : Hid (readK rdP bo 0 Ls = .ok pts) := Lib.hid (by
          have := hP.out.2
          rw [HLL.out, List.drop_length] at this
          rw [this]; simp [readK, onto])
        have hpl : pts.length ≤ 300000 := by rw [hP.out.1]; omega
        have HPo := Lib.hid hOp.ownP
        obtain ⟨pa, pcap, rfl, _, _⟩ := hOp.form
        have HC := Lib.hid (CheckPoints_big pts (.slice pa pts.length pcap) wr hpl (HPo.out.pts.mono (Nat.zero_le _)))
        obtain ⟨f, hf⟩ : ∃ f, f = ptsF pts 500 := ⟨_, rfl⟩
        rw [← hf] at HC
        have HV1 : Hid (ptsRead s.data.toList = if f = 0 then (pts, 0, 0) else ([], 0, f)) := Lib.hid (by rw [HV.out, HR.out, hf]; rfl)
        have hBw := HB.out.trans (hB.mono hz1)
        clear hf HV hOp hP hB
        by_cases h0 : f = 0
        · have HV0 : Hid (ptsRead s.data.toList = (pts, 0, 0)) := Lib.hid (by rw [HV1.out, if_pos h0])
          clear HV1
          subst h0
          go_wp2_with fail
          refine HC.out.mono ?_
          rintro e w2 ⟨rfl, hb2⟩
          have HO2 := Lib.hid (HPo.out.below hb2)
          have hB2 := Bl.trans hBw hb2
          go_wp2
          go_ret3
          exact ⟨_, by rw [HV0.out] <;> rfl, by rw [HV0.out]; exact OwnP.base HO2.out hz1, hB2⟩
        · go_wp2_with fail
          refine HC.out.mono ?_
          rintro e w2 ⟨rfl, hb2⟩
          have hB2 := Bl.trans hBw hb2
          go_wp2
          go_ret3
          exact ⟨_, by rw [HV1.out, if_neg h0] <;> rfl, by rw [HV1.out, if_neg h0]; exact OwnP.nil _ _, hB2⟩
end Go.Proofs.YtgcmlhpocbgkaaaGreatDoor
