/- The walk of the law CyclesDivided: whatever the input: true. -/
import Derived.Test.YtgcmlhpocbgkaaaCycW
import Derived.Test.YtgcmlhpocbgkaaaLaw
namespace Go.Proofs.Ytgcmlhpocbgkaaa
open Go.RowKit Go.Sort

theorem scan_nonneg (P : List Pt) (T : Nat → Nat → Int) (hT : ∀ k s, 0 ≤ T k s) (a : Pt) (set k : Nat) : 0 ≤ (scanTo P T a set k).2 := by
  obtain ⟨_, g2, g3⟩ := scan_ok P T a set k
  by_cases h : 0 ≤ (scanTo P T a set k).1
  · rw [(g2 h).2]
    have := dist_nonneg a (pt P (scanTo P T a set k).1.toNat)
    have := hT (scanTo P T a set k).1.toNat (clr set (scanTo P T a set k).1.toNat)
    omega
  · rw [(g3 (by omega)).1]; exact Int.le_refl _
theorem tab_nonneg (st : Pt) (P : List Pt) : ∀ m k set, 0 ≤ tab st P m k set
  | 0, _, _ => Int.le_refl _
  | m + 1, k, set => by
    simp only [tab]
    split
    · split
      · exact dist_nonneg _ _
      · exact scan_nonneg P _ (fun k s => tab_nonneg st P m k s) _ _ _
    · exact tab_nonneg st P m k set
theorem V_nonneg (st : Pt) (P : List Pt) (a : Pt) (s : Nat) : 0 ≤ V st P a s := by
  unfold V
  split
  · exact dist_nonneg _ _
  · exact scan_nonneg P _ (fun k s => tab_nonneg st P _ k s) _ _ _
theorem nats_inj {a b : List Nat} (h : nats a = nats b) : a = b := by
  unfold nats at h
  exact (List.map_inj_right (f := fun k : Nat => (k : Int)) (fun x y e => by have e' : (x : Int) = (y : Int) := e; omega)).1 h
theorem tlv_inj (st : Pt) (P : List Pt) (hn : P.length ≤ 16) {s t : Nat} (hs : s < 2 ^ P.length) (ht : t < 2 ^ P.length) (h : tlv st P s = tlv st P t) : s = t := by
  have h2 := nats_inj h
  refine Nat.eq_of_testBit_eq fun i => ?_
  have e1 := tlist_mem (st := st) hn i P.length s st (Few.start (sub_of_lt hs)) (sub_of_lt hs)
  have e2 := tlist_mem (st := st) hn i P.length t st (Few.start (sub_of_lt ht)) (sub_of_lt ht)
  rw [h2] at e1
  rw [Bool.eq_iff_iff]
  exact e1.symm.trans e2
theorem cyc_same (st : Pt) (P : List Pt) {z : Nat} {L : Nat → Int × Int} {F : Nat → Nat} (hz1 : 1 ≤ z) (hz8 : z ≤ 8) (hn : P.length ≤ 5) (h0 : L 0 = (0, 0)) (hF : ∀ s, 0 < s → s < pw P.length → Best (tlv st P) (lgv st P) z L s 0 (L s) (F s)) :
    ((leaves z P.length 0 []).foldl (stepC st P) (-1, [])).2 = (walkF F 31 (pw P.length - 1)).map (tlv st P) ∧ max ((leaves z P.length 0 []).foldl (stepC st P) (-1, [])).1 0 = (L (pw P.length - 1)).1 := by
  have hinj : ∀ s t, s < 2 ^ P.length → t < 2 ^ P.length → tlv st P s = tlv st P t → s = t := fun s t hs ht h => tlv_inj st P (by omega) hs ht h
  have hl := cycles_law (tlv st P) (lgv st P) hz1 hz8 hn (fun s => V_nonneg st P st s) hinj h0 hF
  have hp : 2 ^ P.length ≤ 32 := pw_5 hn
  have hp0 : 0 < 2 ^ P.length := Nat.two_pow_pos _
  have hv := has_valid
  rw [List.all_eq_true] at hv
  have hex : ∀ set, 0 < set → set < 2 ^ P.length → ∃ t, valid z set t = true := by
    intro set hs0 hs
    have hv1 := hv set (List.mem_range.2 (by omega))
    rw [List.all_eq_true] at hv1
    have hv2 := hv1 (z - 1) (List.mem_range.2 (by omega))
    rw [show z - 1 + 1 = z by omega] at hv2
    simp only [Bool.or_eq_true, beq_iff_eq, List.any_eq_true] at hv2
    rcases hv2 with hv2 | ⟨t, _, ht⟩
    · omega
    · exact ⟨t, ht⟩
  obtain ⟨_, w2, _⟩ := dp_min (tlv st P) (lgv st P) hinj hex h0 hF 31 (2 ^ P.length - 1) (by omega) (by omega)
  have hnn : 0 ≤ (valD (tlv st P) (lgv st P) (walkF F 31 (2 ^ P.length - 1))).1 := by
    unfold valD
    induction (walkF F 31 (2 ^ P.length - 1)) with
    | nil => simp
    | cons x l ih =>
      simp only [List.map_cons, List.sum_cons] at ih ⊢
      have := V_nonneg st P st x
      show 0 ≤ V st P st x + _
      omega
  have hl' : (leaves z P.length 0 []).foldl (stepC st P) (-1, []) = valD (tlv st P) (lgv st P) (walkF F 31 (2 ^ P.length - 1)) := hl
  rw [hl']
  refine ⟨rfl, ?_⟩
  show max _ 0 = (L (2 ^ P.length - 1)).1
  rw [w2]
  simp only
  omega

theorem walkF_len (F : Nat → Nat) : ∀ (f s : Nat), (walkF F f s).length ≤ f
  | 0, _ => Nat.le_refl _
  | f + 1, s => by
    simp only [walkF]
    split
    · simp
    · rw [List.length_cons]; have := walkF_len F f (s - F s); omega
set_option maxHeartbeats 1000000 in
set_option maxRecDepth 100000 in
theorem Cycles_bad1 (st : Pt) (P : List Pt) (vp : Value) (z : Int) (w : World) (hn : P.length ≤ 1000) (hT8 : tourF st P 8 ≠ 0) (rp : Pts w 0 vp P) :
    Calls Try.prog 24 #[ptv st, vp, .int .i64 z] w fun e w' => e = .returned (.tuple #[.slice none 0 0, .int .i64 0, .int .i64 (tourF st P 8)]) ∧ Below w.heap.size w w' := by
  obtain ⟨sx, sy⟩ := st
  obtain ⟨va, cap, rfl, hc1, hc2⟩ := Pts.form rp
  unfold ptv
  have hb0 := Bl.alloc (Below.refl w.heap.size w) (.cells #[.int .i64 sx, .int .i64 sy] 27)
  go_enter Try.func24, Try.ntmps24
  go_wp2_with fail
  refine (pointsFault_any (sx, sy) P 8 _ _ hn (rp.alloc _)).mono ?_
  rintro e w1 ⟨rfl, hb1⟩
  have hb1' := Bl.trans hb0 hb1
  generalize hTe : tourF (sx, sy) P 8 = T8 at *
  have HTE := Lib.hid hTe
  have h8 : (T8 != 0) = true := by simpa using hT8
  clear hb1 hb0 hTe
  go_wp2
  go_ret3
  rw [HTE.out]
  exact ⟨rfl, hb1'⟩
set_option maxHeartbeats 1000000 in
set_option maxRecDepth 100000 in
theorem Cycles_bad2 (st : Pt) (P : List Pt) (vp : Value) (z : Int) (w : World) (hn : P.length ≤ 1000) (hT8 : tourF st P 8 = 0) (hz : inB 1 z 8 = false) (rp : Pts w 0 vp P) :
    Calls Try.prog 24 #[ptv st, vp, .int .i64 z] w fun e w' => e = .returned (.tuple #[.slice none 0 0, .int .i64 0, .int .i64 1]) ∧ Below w.heap.size w w' := by
  obtain ⟨sx, sy⟩ := st
  obtain ⟨va, cap, rfl, hc1, hc2⟩ := Pts.form rp
  unfold ptv
  have hb0 := Bl.alloc (Below.refl w.heap.size w) (.cells #[.int .i64 sx, .int .i64 sy] 27)
  have HT8 := Lib.hid hT8
  clear hT8
  go_enter Try.func24, Try.ntmps24
  go_wp2_with fail
  refine (pointsFault_any (sx, sy) P 8 _ _ hn (rp.alloc _)).mono ?_
  rintro e w1 ⟨rfl, hb1⟩
  have hb1' := Bl.trans hb0 hb1
  rw [HT8.out]
  clear hb1 hb0
  go_wp2_with (go_at_call 49; refine (Outside_any _ _ _ _).mono ?_; rintro e w' ⟨rfl, rfl⟩)
  go_ret3
  exact ⟨rfl, hb1'⟩

set_option maxHeartbeats 8000000 in
set_option maxRecDepth 100000 in
theorem CyclesDivided_any (l : List Int) (v : Value) (w : World) (rl : Ints w 0 v l) (hl : ∀ x ∈ l, -9223372036854775808 ≤ x ∧ x ≤ 9223372036854775807) :
    Calls Try.prog 4 #[v] w fun e w' => e = .returned (.bool true) ∧ Below w.heap.size w w' := by
  obtain ⟨va, cap, rfl, hc1, hc2⟩ := Ints.form rl
  have hs0 := Str.start rl hl
  have hb0 := Bl.alloc (Below.refl w.heap.size w) (.cells #[.slice va l.length cap, .int .i64 0] 25)
  go_enter Try.func4, Try.ntmps4
  go_wp2_with fail
  refine (APlace_any _ _ _ hs0 (by omega)).mono ?_
  rintro e w1 ⟨⟨sx, sy⟩, he, hst, hs1, hg1⟩
  simp only [ptv] at he
  subst he
  have hb1 := Below.trans hb0 (Gr.below hg1 (Nat.le_refl _) hb0.size)
  have l1 := hs1.lt
  clear hg1
  go_wp2_with fail
  refine (PointsOf_any _ 5 _ _ hs1 (by omega) (by omega)).mono ?_
  rintro e w2 ⟨vp, P, rfl, hP2, hPl, hPb, hs2, hg2⟩
  have hb2 := Below.trans hb1 (Gr.below hg2 (Nat.le_refl _) hb1.size)
  obtain ⟨pa, pcap, rfl, hp1, hp2⟩ := Pts.form hP2.pts
  have l2 := hs2.lt
  have hP2 := own_base' hP2 (show w.heap.size + 1 ≤ _ by omega)
  clear hg2
  have hs2' := hs2.alloc (.cells #[.int .i64 1, .int .i64 2, .int .i64 2, .int .i64 3, .int .i64 4, .int .i64 0, .int .i64 9] 3)
  have hI2 := blk_new w2 (.cells #[.int .i64 1, .int .i64 2, .int .i64 2, .int .i64 3, .int .i64 4, .int .i64 0, .int .i64 9] 3)
  have hP2' := hP2.alloc (.cells #[.int .i64 1, .int .i64 2, .int .i64 2, .int .i64 3, .int .i64 4, .int .i64 0, .int .i64 9] 3)
  have hb2' := Bl.alloc hb2 (.cells #[.int .i64 1, .int .i64 2, .int .i64 2, .int .i64 3, .int .i64 4, .int .i64 0, .int .i64 9] 3)
  have hz2 := hb2.size
  go_wp2_with fail
  refine (Pick_any _ _ [1, 2, 2, 3, 4, 0, 9] _ _ hs2' (by omega) (Ints.of_blk hI2 rfl rfl (Nat.le_refl _) (by simp) (by omega)) (by simp) (by simp)).mono ?_
  rintro e w3 ⟨many, rfl, hmany, hs3, hg3⟩
  have hmz : ∃ z : Nat, many = z ∧ z ≤ 9 := by
    simp only [List.mem_cons, List.not_mem_nil, or_false] at hmany
    rcases hmany with rfl | rfl | rfl | rfl | rfl | rfl | rfl
    · exact ⟨1, rfl, by omega⟩
    · exact ⟨2, rfl, by omega⟩
    · exact ⟨2, rfl, by omega⟩
    · exact ⟨3, rfl, by omega⟩
    · exact ⟨4, rfl, by omega⟩
    · exact ⟨0, rfl, by omega⟩
    · exact ⟨9, rfl, by omega⟩
  obtain ⟨z, rfl, hz9⟩ := hmz
  have hb3 := Below.trans hb2' (Gr.below hg3 (Nat.le_refl _) hb2'.size)
  have hP3 := hP2'.grown hg3 (by omega)
  have l3 := hs3.lt
  clear hg3 hmany hI2 hs2' hP2' hb2' hP2 hs2
  have hs4 := hs3.alloc (.cells #[.int .i64 sx, .int .i64 sy] 27)
  have hS4 := blk_new w3 (.cells #[.int .i64 sx, .int .i64 sy] 27)
  have hP4 := hP3.alloc (.cells #[.int .i64 sx, .int .i64 sy] 27)
  have hb4 := Bl.alloc hb3 (.cells #[.int .i64 sx, .int .i64 sy] 27)
  have hz3 := hb3.size
  go_wp2_with fail
  refine (Flip_any _ _ 20 _ hs4 (by omega) (by omega)).mono ?_
  rintro e w5 ⟨fl, rfl, hs5, hg5⟩
  have hb5 := Below.trans hb4 (Gr.below hg5 (Nat.le_refl _) hb4.size)
  have hP5 := hP4.grown hg5 (by omega)
  have hS5 := Gr.blk hg5 hS4 (by omega)
  have l5 := hs5.lt
  clear hg5 hs4 hS4 hP4 hb4 hP3 hs3 hb3
  go_upto_if 24 with fail
  go_cut [5] from 25 to 27 (fun v5 wx => ∃ (pa : Option Addr) (pcap : Nat) (P : List Pt), v5 = .slice pa P.length pcap ∧ Pts wx 0 (.slice pa P.length pcap) P ∧ (P.length ≤ 5 ∨ P.length = 9) ∧ (∀ p ∈ P, Bd p) ∧ wx.heap[w3.heap.size]? = some (.cells #[.int .i64 sx, .int .i64 sy] 27 (0, 0)) ∧ Below w.heap.size w wx)
  case first =>
    cases fl
    · go_wp2_with fail
      go_meet
      case rel => exact ⟨pa, pcap, P, rfl, hP5.pts.mono (Nat.zero_le _), .inl (by omega), hPb, hS5, hb5⟩
    · have hA := blk_new w5 (.cells #[.int .i64 1, .int .i64 0] 27)
      have hS6 := blk_old hS5 (.cells #[.int .i64 1, .int .i64 0] 27)
      have hb6 := Bl.alloc hb5 (.cells #[.int .i64 1, .int .i64 0] 27)
      go_wp2_with fail
      refine (Repeat_any (1, 0) 9 _ _ (by omega) (by omega) (Pts.of_blk hA rfl rfl (Nat.le_refl _) (by simp) (Nat.zero_le _))).mono ?_
      rintro e w7 ⟨v7, rfl, hP7, hb7⟩
      obtain ⟨qa, qcap, rfl, _, _⟩ := Pts.form hP7.pts
      go_wp2_with fail
      go_meet
      case rel =>
        refine ⟨qa, qcap, List.replicate 9 (1, 0), by simp, hP7.pts.mono (Nat.zero_le _), .inr (by simp), fun p hp => ?_, blk_below hS6 hb7, Bl.trans hb6 hb7⟩
        rw [(List.mem_replicate.1 hp).2]
        unfold Bd; omega
  case rest =>
    obtain ⟨pa, pcap, P, rfl, rp, hPlen, hPb, hS, hb⟩ := hcut
    clear rl hl hs0 hb0 hs1 hb1 hb2 hP5 hS5 hb5 hs5 l1 l2 l3 l5 hz2 hz3
    obtain ⟨z1, z2⟩ := blk2 hS
    by_cases hT : tourF (sx, sy) P 8 = 0
    · have hP5 : P.length ≤ 5 := by
        rcases hPlen with h | h
        · exact h
        · have := tourF_len hT; omega
      by_cases hz : 1 ≤ z ∧ z ≤ 8
      · have HT := Lib.hid hT
        have HSP : Hid (spanF (z : Int) 1 8 = 0) := Lib.hid (by unfold spanF; rw [if_pos (by omega)])
        have HOR : Hid (orF [0, 0] = 0) := Lib.hid rfl
        go_wp2_with fail
        refine (Cycles_ok (sx, sy) P _ z _ hst hPb hP5 hz.1 hz.2 hT rp).mono ?_
        rintro e w1 ⟨⟨L, F, vr, rfl, hL1, h00, hBe⟩, hb1⟩
        obtain ⟨e1, e2⟩ := cyc_same (sx, sy) P hz.1 hz.2 hP5 h00 hBe
        have hfl : ((walkF F 31 (pw P.length - 1)).map (tlv (sx, sy) P)).length ≤ 31 := by rw [List.length_map]; exact walkF_len F 31 _
        have hfl2 : ∀ x ∈ (walkF F 31 (pw P.length - 1)).map (tlv (sx, sy) P), x.length ≤ 1000000 := by
          intro x hx
          obtain ⟨s, _, rfl⟩ := List.mem_map.1 hx
          unfold tlv
          rw [nats_len]
          have := tlist_le (sx, sy) P P.length (sx, sy) s
          omega
        generalize hfull : (walkF F 31 (pw P.length - 1)).map (tlv (sx, sy) P) = full at *
        generalize hls : (L (pw P.length - 1)).1 = ls at *
        have E1 := Lib.hid e1
        have E2 := Lib.hid e2
        have HF2 := Lib.hid hfl2
        have HB0 := Lib.hid hBe
        have HPB := Lib.hid hPb
        obtain ⟨ra, rcap, rfl, _, _⟩ := Lists.form hL1
        have HL1 := Lib.hid hL1
        have HW1 := Lib.hid hb1
        clear e1 e2 hT h00 hfl2 hBe hPb hls hfull
        have hS1 := blk_below hS hb1
        have rp1 := rp.below hb1
        have hb01 := Bl.trans hb hb1
        clear z1 z2
        obtain ⟨z1, z2⟩ := blk2 hS1
        go_wp2_with fail
        refine (TourFault_any (sx, sy) P 8 _ _ (by omega) rp1).mono ?_
        rintro e w2 ⟨rfl, hb2⟩
        rw [HT.out]
        have hb02 := Bl.trans hb01 hb2
        have hS2 := blk_below hS1 hb2
        have rp2 := rp1.below hb2
        have HB2 := Lib.hid hb2
        have HL2 := Lib.hid (hL1.below hb2)
        clear z1 z2 hb2 hS1 hb1 hb01
        go_wp2_with fail
        refine (SpanFault_any z 1 8 _).mono ?_
        rintro e w' ⟨rfl, rfl⟩
        rw [HSP.out]
        have hb03 := Bl.alloc hb02 (.cells #[.int .i64 0, .int .i64 0] 35)
        have hS3 := blk_old hS2 (.cells #[.int .i64 0, .int .i64 0] 35)
        have rp3 := rp2.alloc (.cells #[.int .i64 0, .int .i64 0] 35)
        go_wp2_with fail
        refine (OrErrno_any [0, 0] _ _ (by simp) (Ints.of_blk (blk_new w2 (.cells #[.int .i64 0, .int .i64 0] 35)) rfl rfl (Nat.le_refl _) (by simp) (Nat.zero_le _))).mono ?_
        rintro e w3 ⟨rfl, hw3⟩
        rw [hw3, HOR.out]
        have hL4 := HL2.out.alloc (.cells #[.int .i64 0, .int .i64 0] 35)
        generalize hw4 : w2.alloc (.cells #[.int .i64 0, .int .i64 0] 35) = w4 at *
        clear hw4 hw3 hb02 hS2 rp2
        obtain ⟨z1, z2⟩ := blk2 hS3
        go_wp2_with fail
        refine (CyclesOf_any (sx, sy) P _ z _ hst HPB.out (by omega) rp3).mono ?_
        rintro e w5 ⟨⟨v5, rfl, hL5⟩, hb5⟩
        rw [E1.out] at hL5
        rw [E2.out]
        have hL45 := hL4.below hb5
        obtain ⟨sa, scap, rfl, _, _⟩ := Lists.form hL5
        go_wp2_with fail
        refine (EqualLL_any full _ _ _ (by omega) HF2.out hL45 (hL5.mono (Nat.zero_le _))).mono ?_
        rintro e w6 ⟨rfl, hb6⟩
        go_wp2_with fail
        refine (toured_any _).mono ?_
        rintro e w7 ⟨rfl, hb7⟩
        go_wp2
        go_ret
        exact ⟨rfl, Bl.trans (Bl.trans (Bl.trans hb03 hb5) hb6) hb7⟩
      · have HT := Lib.hid hT
        have HSP : Hid (spanF (z : Int) 1 8 = 1) := Lib.hid (by unfold spanF; rw [if_neg (by omega)])
        have HOR : Hid (orF [0, 1] = 1) := Lib.hid rfl
        have hin : inB 1 (z : Int) 8 = false := by
          unfold inB
          by_cases h1 : 1 ≤ z
          · have : ¬ ((z : Int) ≤ 8) := by omega
            simp [this]
          · have : ¬ ((1 : Int) ≤ (z : Int)) := by omega
            simp [this]
        go_wp2_with fail
        refine (Cycles_bad2 (sx, sy) P _ z _ (by omega) hT hin rp).mono ?_
        rintro e w1 ⟨rfl, hb1⟩
        clear hT
        have hS1 := blk_below hS hb1
        have rp1 := rp.below hb1
        have hb01 := Bl.trans hb hb1
        clear z1 z2
        obtain ⟨z1, z2⟩ := blk2 hS1
        go_wp2_with fail
        refine (TourFault_any (sx, sy) P 8 _ _ (by omega) rp1).mono ?_
        rintro e w2 ⟨rfl, hb2⟩
        rw [HT.out]
        have hb02 := Bl.trans hb01 hb2
        have hS2 := blk_below hS1 hb2
        have rp2 := rp1.below hb2
        clear z1 z2 hb2 hS1 hb1 hb01
        go_wp2_with fail
        refine (SpanFault_any z 1 8 _).mono ?_
        rintro e w' ⟨rfl, rfl⟩
        rw [HSP.out]
        have hb03 := Bl.alloc hb02 (.cells #[.int .i64 0, .int .i64 1] 35)
        have hS3 := blk_old hS2 (.cells #[.int .i64 0, .int .i64 1] 35)
        have rp3 := rp2.alloc (.cells #[.int .i64 0, .int .i64 1] 35)
        go_wp2_with fail
        refine (OrErrno_any [0, 1] _ _ (by simp) (Ints.of_blk (blk_new w2 (.cells #[.int .i64 0, .int .i64 1] 35)) rfl rfl (Nat.le_refl _) (by simp) (Nat.zero_le _))).mono ?_
        rintro e w3 ⟨rfl, hw3⟩
        rw [hw3, HOR.out]
        generalize hw4 : w2.alloc (.cells #[.int .i64 0, .int .i64 1] 35) = w4 at *
        clear hw4 hw3 hb02 hS2 rp2
        go_wp2_with fail
        refine (toured_any _).mono ?_
        rintro e w5 ⟨rfl, hb5⟩
        go_wp2
        go_ret
        exact ⟨rfl, Bl.trans hb03 hb5⟩
    · have hOR : orF [tourF (sx, sy) P 8, spanF (z : Int) 1 8] = tourF (sx, sy) P 8 := by
        simp only [orF]; rw [if_neg hT]
      go_wp2_with fail
      refine (Cycles_bad1 (sx, sy) P _ z _ (by omega) hT rp).mono ?_
      rintro e w1 ⟨rfl, hb1⟩
      generalize hT8 : tourF (sx, sy) P 8 = T8 at *
      generalize hsp : spanF (z : Int) 1 8 = sp at *
      have HT := Lib.hid hT8
      have HSP := Lib.hid hsp
      have HOR := Lib.hid hOR
      have h8 : (T8 != 0) = true := by simpa using hT
      clear hT8 hsp hOR
      have hS1 := blk_below hS hb1
      have rp1 := rp.below hb1
      have hb01 := Bl.trans hb hb1
      clear z1 z2
      obtain ⟨z1, z2⟩ := blk2 hS1
      go_wp2_with fail
      refine (TourFault_any (sx, sy) P 8 _ _ (by omega) rp1).mono ?_
      rintro e w2 ⟨rfl, hb2⟩
      rw [HT.out]
      have hb02 := Bl.trans hb01 hb2
      have hS2 := blk_below hS1 hb2
      have rp2 := rp1.below hb2
      clear z1 z2 hb2 hS1 hb1 hb01
      go_wp2_with fail
      refine (SpanFault_any z 1 8 _).mono ?_
      rintro e w' ⟨rfl, rfl⟩
      rw [HSP.out]
      have hb03 := Bl.alloc hb02 (.cells #[.int .i64 T8, .int .i64 sp] 35)
      have hS3 := blk_old hS2 (.cells #[.int .i64 T8, .int .i64 sp] 35)
      have rp3 := rp2.alloc (.cells #[.int .i64 T8, .int .i64 sp] 35)
      go_wp2_with fail
      refine (OrErrno_any [T8, sp] _ _ (by simp) (Ints.of_blk (blk_new w2 (.cells #[.int .i64 T8, .int .i64 sp] 35)) rfl rfl (Nat.le_refl _) (by simp) (Nat.zero_le _))).mono ?_
      rintro e w3 ⟨rfl, hw3⟩
      rw [hw3, HOR.out]
      generalize hw4 : w2.alloc (.cells #[.int .i64 T8, .int .i64 sp] 35) = w4 at *
      clear hw4 hw3 hb02 hS2 rp2
      go_wp2_with fail
      refine (toured_any _).mono ?_
      rintro e w5 ⟨rfl, hb5⟩
      go_wp2
      go_ret
      exact ⟨rfl, Bl.trans hb03 hb5⟩
end Go.Proofs.Ytgcmlhpocbgkaaa
