/- The walk of the law BoardsTraced: whatever the input: true. Conditions: what lies in the library (TxW). -/
import Derived.Test.YtcfeoapbbkfbnaaGreatDoorRi4
import Derived.Test.YtcfeoapbbkfbnaaGreatDoorRj2
import Derived.Test.YtcfeoapbbkfbnaaGreatDoorRf9
import Derived.Test.YtcfeoapbbkfbnaaGreatDoorRg2
import Derived.Test.YtcfeoapbbkfbnaaGreatDoorRe9
import Derived.Test.YtcfeoapbbkfbnaaGreatDoorStart
namespace Go.Proofs.YtcfeoapbbkfbnaaGreatDoor
open Go.RowKit Go.Sort Go.Maps

theorem small5b {l : List ByteArray} {n : Nat} (h : (l.all fun x => decide (x.size ≤ n)) = true) {r : ByteArray} (hr : r ∈ l) : r.size ≤ n := by
  have := List.all_eq_true.1 h r hr
  simpa using this
theorem brdO_few (T : List Tkn) (key : ByteArray) : (brdO T key).length ≤ T.length := by
  obtain ⟨h1, h2⟩ := brdO_law T key
  have hn : (brdO T key).Nodup := h2.imp fun h => Sm.bb_ne h
  have h3 : (brdO T key).length ≤ (T.map fun t => bsOf t.2.2.1).length := List.Nodup.length_le_of_subset hn fun x hx => by
    obtain ⟨t, ht, _, rfl⟩ := (h1 x).1 hx
    exact List.mem_map.2 ⟨t, ht, rfl⟩
  rwa [List.length_map] at h3
theorem or_two {F : Int} {kb : Bool} {e : Int} (he : e ≠ 0) : orF [F, if kb = true then 0 else e] = askF F kb true e := by
  by_cases h : F = 0 <;> cases kb <;> simp [orF, askF, h, he]
theorem or_win {F lo hi : Int} : orF [F, winF lo hi] = usF F lo hi := by
  unfold usF
  by_cases h : F = 0
  · rw [if_pos h, h]; by_cases h2 : winF lo hi = 0 <;> simp [orF, h2]
  · rw [if_neg h]; simp [orF, h]
theorem usF_ok {F lo hi : Int} (h : usF F lo hi = 0) : F = 0 ∧ isWB lo hi = true := by
  unfold usF at h
  by_cases h0 : F = 0
  · rw [if_pos h0] at h
    refine ⟨h0, ?_⟩
    cases hw : isWB lo hi
    · rw [winF_no hw] at h; omega
    · rfl
  · rw [if_neg h0] at h; exact absurd h h0
set_option maxHeartbeats 16000000 in
set_option maxRecDepth 100000 in
theorem BoardsTraced_any (l : List Int) (v : Value) (w : World) (rl : Ints w 0 v l) (hl : ∀ x ∈ l, -9223372036854775808 ≤ x ∧ x ≤ 9223372036854775807) (hT : TxW w) :
    Calls Tryz.prog 7 #[v] w fun e w' => e = .returned (.bool true) ∧ Below w.heap.size w w' := by
  obtain ⟨va, cap, rfl, hc1, hc2⟩ := Ints.form rl
  have hs0 := Str.begin rl hl
  have hb0 := Bl.alloc (Below.refl w.heap.size w) (.cells #[.slice va l.length cap, .int .i64 0] 25)
  have HT := Lib.hid hT
  clear rl hl hT
  go_enter Tryz.func7, Tryz.ntmps7
  go_wp2_with fail
  refine (ReelList_any _ 0 _ hs0 (by omega)).mono ?_
  rintro e w1 ⟨vr, rs, rfl, hO1, ⟨hr4, hr1⟩, hrk, hs1, hG1⟩
  have hb1 := Below.trans hb0 (Gr.below hG1 (Nat.le_refl _) hb0.size)
  have hz1 := hb1.size
  obtain ⟨ra, rc, rfl, _, _⟩ := hO1.form
  have HRZ := Lib.hid (RelOk.z hrk)
  have hz0 : w.heap.size < (w.alloc (.cells #[.slice va l.length cap, .int .i64 0] 25)).heap.size := by simp
  clear hs0 hb0 hG1
  go_wp2_with fail
  refine (FeedList_any _ _ _ _ _ rs hs1 (by omega) hO1 hz0 (by omega) hrk).mono ?_
  rintro e w2 ⟨vl, fs, rfl, hP2, hf15, hfk, hs2, hG2⟩
  have hO2 := hO1.grown hG2 hz0
  have hb2 := Below.trans hb1 (Gr.below hG2 (Nat.le_refl _) hz1)
  have hz2 := hb2.size
  have hl1 := hs1.lt
  obtain ⟨fa, fc, rfl, _, _⟩ := hP2.form
  have HFZ := Lib.hid (FedOk.z hfk)
  have HR2 := Lib.hid (hO2.rec.mono (lo' := w.heap.size + 1) (by simp))
  have HP2 := Lib.hid (hP2.rec.mono (lo' := w.heap.size + 1) (by omega))
  have HRL := Lib.hid hr4
  clear hb1 hG2 hs1 hfk hrk hO1 hO2 hP2 hr4 hr1 hz0
  go_wp2_with fail
  refine (Some_any _ _ [⟨#[117, 49]⟩, ⟨#[117, 49]⟩, ⟨#[117, 50]⟩, ⟨#[117, 51]⟩, ⟨#[]⟩] (.slice (some ⟨w2.heap.size, 0, none⟩) 5 5) _ (hs2.alloc _) (by omega) (RecR.of_blk (T := TS) (blk_new _ _) rfl rfl (by simp) (by omega) hs2.lt) (by simp) (by simp)).mono ?_
  rintro e w3 ⟨fd, rfl, hfd, hs3, hG3⟩
  have HFD := Lib.hid (small5b (n := 5) (by decide) hfd)
  have hG3' := Gr.trans (Gr.alloc (Gr.refl w2 (some w.heap.size)) _) hG3
  have hb3 := Below.trans hb2 (Gr.below hG3' (Nat.le_refl _) hz2)
  have HR3 := Lib.hid (HR2.out.grown hG3' (by omega))
  have HP3 := Lib.hid (HP2.out.grown hG3' (by omega))
  have hz3 := hb3.size
  clear hb2 hG3 hG3' hs2 hfd HR2 HP2
  go_wp2_with fail
  refine (Some_any _ _ [⟨#[114, 49]⟩, ⟨#[114, 50]⟩, ⟨#[114, 52]⟩, ⟨#[122, 122]⟩] (.slice (some ⟨w3.heap.size, 0, none⟩) 4 4) _ (hs3.alloc _) (by omega) (RecR.of_blk (T := TS) (blk_new _ _) rfl rfl (by simp) (by omega) hs3.lt) (by simp) (by simp)).mono ?_
  rintro e w4 ⟨ky, rfl, hky, hs4, hG4⟩
  have hG4' := Gr.trans (Gr.alloc (Gr.refl w3 (some w.heap.size)) _) hG4
  have hb4 := Below.trans hb3 (Gr.below hG4' (Nat.le_refl _) hz3)
  have HR4 := Lib.hid (HR3.out.grown hG4' (by omega))
  have HP4 := Lib.hid (HP3.out.grown hG4' (by omega))
  have hz4 := hb4.size
  clear hb3 hG4 hG4' hs3 hky HR3 HP3
  go_wp2_with fail
  refine (Pick_any _ _ [0, 2, -1, 10] _ _ (hs4.alloc _) (by omega) (Ints.of_blk (blk_new _ _) rfl rfl (by simp) (by omega) hs4.lt) (by simp) (by simp)).mono ?_
  rintro e w5 ⟨wlo, rfl, hwlo, hs5, hG5⟩
  have hG5' := Gr.trans (Gr.alloc (Gr.refl w4 (some w.heap.size)) _) hG5
  have hb5 := Below.trans hb4 (Gr.below hG5' (Nat.le_refl _) hz4)
  have HR5 := Lib.hid (HR4.out.grown hG5' (by omega))
  have HP5 := Lib.hid (HP4.out.grown hG5' (by omega))
  have hz5 := hb5.size
  clear hb4 hG5 hG5' hs4 hwlo HR4 HP4
  go_wp2_with fail
  refine (Pick_any _ _ [5, 40, 1, 345686400000, 345686400001] _ _ (hs5.alloc _) (by omega) (Ints.of_blk (blk_new _ _) rfl rfl (by simp) (by omega) hs5.lt) (by simp) (by simp)).mono ?_
  rintro e w6 ⟨whi, rfl, hwhi, hs6, hG6⟩
  have hG6' := Gr.trans (Gr.alloc (Gr.refl w5 (some w.heap.size)) _) hG6
  have hb6 := Below.trans hb5 (Gr.below hG6' (Nat.le_refl _) hz5)
  have HR6 := Lib.hid (HR5.out.grown hG6' (by omega))
  have HP6 := Lib.hid (HP5.out.grown hG6' (by omega))
  have hz6 := hb6.size
  clear hb5 hG6 hG6' hs5 hwhi HR5 HP5
  obtain ⟨w7, hw7⟩ : ∃ w7, w7 = w6.alloc (.cells #[.int .i64 wlo, .int .i64 whi] 95) := ⟨_, rfl⟩
  have hb67 : Below w6.heap.size w6 w7 := by rw [hw7]; exact Bl.alloc (Below.refl _ _) _
  have hX7 : w7.heap[w6.heap.size]? = some (.cells #[.int .i64 wlo, .int .i64 whi] 95 (0, 0)) := by rw [hw7]; exact blk_new w6 _
  obtain ⟨X, hX⟩ : ∃ X, X = w6.heap.size := ⟨_, rfl⟩
  rw [← hX] at hX7
  have HXE := Lib.hid hX
  have hb7 := Bl.trans hb6 hb67
  have HB7 := Lib.hid hb7
  have HX7 := Lib.hid hX7
  have HFL := Lib.hid hf15
  obtain ⟨F, hF⟩ : ∃ f, f = feedsF rs fs := ⟨_, rfl⟩
  have HF := Lib.hid hF
  have HIR : Hid (∀ W, Below w7.heap.size w7 W → RecR TRe W 0 (.slice ra rs.length rc) rs ∧ RecR TFe W 0 (.slice fa fs.length fc) fs ∧ TxW W) := Lib.hid fun W hW => ⟨((HR6.out.below hb67).below hW).mono (Nat.zero_le _), ((HP6.out.below hb67).below hW).mono (Nat.zero_le _), HT.out.below (Bl.trans HB7.out hW)⟩
  have HXW : Hid (∀ W, Below w7.heap.size w7 W → W.cell? ⟨X, 0, none⟩ = some (.int .i64 wlo) ∧ W.cell? ⟨X, 1, none⟩ = some (.int .i64 whi) ∧ X < W.heap.size) := Lib.hid fun W hW => by
    have h := blk_below HX7.out hW
    exact ⟨blk_cell h 0, blk_cell h 1, blk_lt h⟩
  have HFF := Lib.hid (FeedsFault_any rs fs _ _ w7 (by have := HRL.out; omega) (by have := HFL.out; omega) (HIR.out w7 (Below.refl _ _)).1 (HIR.out w7 (Below.refl _ _)).2.1 HRZ.out HFZ.out)
  rw [← hF] at HFF
  clear hb6 hb7 hb67 hX7 hX hs6 hz1 hz2 hz3 hz4 hz5 hz6 hl1 HR6 HP6 hf15 hF
  go_wp2_with fail
  rw [← HXE.out, ← hw7]
  clear hw7
  refine HFF.out.mono ?_
  rintro e w8 ⟨rfl, hb8⟩
  have hN1 : rs.length ≤ 1000000 := by have := HRL.out; omega
  have hN2 : fs.length ≤ 900 := by have := HFL.out; omega
  have HN := Lib.hid (And.intro hN1 hN2)
  obtain ⟨kb, hkb⟩ : ∃ q, q = keyB fd := ⟨_, rfl⟩
  obtain ⟨hb, hhb⟩ : ∃ q, q = hasB rs ky := ⟨_, rfl⟩
  obtain ⟨one, hone⟩ : ∃ q, q = askF F kb true 5 := ⟨_, rfl⟩
  obtain ⟨two, htwo⟩ : ∃ q, q = askF F hb true 8 := ⟨_, rfl⟩
  obtain ⟨three, hthree⟩ : ∃ q, q = usF F wlo whi := ⟨_, rfl⟩
  obtain ⟨M1, hM1⟩ : ∃ q, q = (if one = 0 then traceM rs fs fd else []) := ⟨_, rfl⟩
  obtain ⟨M2, hM2⟩ : ∃ q, q = (if two = 0 then (brdO (runM 345686400000 (newM rs) 0 fs).log ky).map baOf else []) := ⟨_, rfl⟩
  obtain ⟨sp, hsp⟩ : ∃ q, q = (if one = 0 then splM rs fs fd else 0) := ⟨_, rfl⟩
  obtain ⟨M4, hM4⟩ : ∃ q, q = usedE rs fs wlo whi := ⟨_, rfl⟩
  have hfd : fd.size ≤ 140737488355328 := by have := HFD.out; omega
  have HTR : Hid (∀ W, Below w7.heap.size w7 W → Calls Tryz.prog 40 #[.slice ra rs.length rc, .slice fa fs.length fc, .string fd] W fun e w' => (∃ v, e = .returned (.tuple #[v, .int .i64 one]) ∧ OwnR TOr w' W.heap.size v M1) ∧ Below W.heap.size W w') := Lib.hid fun W hW => by
    have h := Trace_any rs fs fd _ _ W hN1 hN2 (HIR.out W hW).1 (HIR.out W hW).2.1 HRZ.out HFZ.out hfd
    rw [← HF.out, ← hkb, ← hone, ← hM1] at h
    exact h
  have HBO : Hid (∀ W, Below w7.heap.size w7 W → Calls Tryz.prog 50 #[.slice ra rs.length rc, .slice fa fs.length fc, .string ky] W fun e w' => (∃ v, e = .returned (.tuple #[v, .int .i64 two]) ∧ OwnR TS w' W.heap.size v M2) ∧ Below W.heap.size W w') := Lib.hid fun W hW => by
    have h := BrdsR_any rs fs ky _ _ W hN1 hN2 (HIR.out W hW).1 (HIR.out W hW).2.1 HRZ.out HFZ.out
    rw [← HF.out, ← hhb, ← htwo] at h
    refine h.mono fun e w' h2 => ⟨?_, h2.2⟩
    obtain ⟨v, M, h3, h4, h5, h6⟩ := h2.1
    refine ⟨v, h3, ?_⟩
    have e2 : M2 = M := by
      rw [hM2]
      by_cases h0 : two = 0
      · rw [if_pos h0]; exact (brdL_eq (h5 h0)).symm
      · rw [if_neg h0]; exact (h6 h0).symm
    rw [e2]; exact h4
  have HSP : Hid (∀ W, Below w7.heap.size w7 W → Calls Tryz.prog 52 #[.slice ra rs.length rc, .slice fa fs.length fc, .string fd] W fun e w' => e = .returned (.tuple #[.int .i64 sp, .int .i64 one]) ∧ Below W.heap.size W w') := Lib.hid fun W hW => by
    have h := Splices_any rs fs fd _ _ W hN1 hN2 (HIR.out W hW).1 (HIR.out W hW).2.1 HRZ.out HFZ.out hfd
    rw [← HF.out, ← hkb, ← hone, ← hsp] at h
    exact h
  have HUS : Hid (∀ W, Below w7.heap.size w7 W → Calls Tryz.prog 53 #[.slice ra rs.length rc, .slice fa fs.length fc, .agg #[.int .i64 wlo, .int .i64 whi]] W fun e w' => (∃ v, e = .returned (.tuple #[v, .int .i64 three]) ∧ OwnR TPrQ w' W.heap.size v M4) ∧ Below W.heap.size W w') := Lib.hid fun W hW => by
    have h := Used_any rs fs wlo whi _ _ W (HIR.out W hW).2.2 hN1 hN2 (HIR.out W hW).1 (HIR.out W hW).2.1 HRZ.out HFZ.out
    rw [← HF.out, ← hthree, ← hM4] at h
    exact h
  have HB8 := Lib.hid hb8
  have HE1 := Lib.hid (And.intro hone (And.intro htwo hthree))
  have HE2 := Lib.hid (And.intro hM1 (And.intro hM2 (And.intro hsp hM4)))
  have HE3 := Lib.hid (And.intro hkb hhb)
  clear hN1 hN2 hkb hhb hone htwo hthree hM1 hM2 hsp hM4 hb8 hfd HFF
  go_wp2_with fail
  refine (HTR.out w8 HB8.out).mono ?_
  rintro e w9 ⟨⟨v1, rfl, hO1⟩, hb9⟩
  have HB9 := Lib.hid (Bl.trans HB8.out hb9)
  obtain ⟨a1, c1, hv1, _, _⟩ := hO1.form
  subst hv1
  have HV1 := Lib.hid hO1.rec0
  clear hO1 hb9 HB8 HTR
  go_wp2_with fail
  refine (HBO.out w9 HB9.out).mono ?_
  rintro e wA ⟨⟨v2, rfl, hO2⟩, hbA⟩
  have HBA := Lib.hid (Bl.trans HB9.out hbA)
  obtain ⟨a2, c2, hv2, _, _⟩ := hO2.form
  subst hv2
  have HVA := Lib.hid (And.intro (HV1.out.below hbA) hO2.rec0)
  clear hO2 hbA HB9 HBO HV1
  go_wp2_with fail
  refine (HSP.out wA HBA.out).mono ?_
  rintro e wB ⟨rfl, hbB⟩
  have HBB := Lib.hid (Bl.trans HBA.out hbB)
  have HVB := Lib.hid (And.intro (HVA.out.1.below hbB) (HVA.out.2.below hbB))
  obtain ⟨x0, x1, lX⟩ := HXW.out wB HBB.out
  clear hbB HBA HSP HVA
  go_wp2_with fail
  refine (HUS.out wB HBB.out).mono ?_
  rintro e wC ⟨⟨v4, rfl, hO4⟩, hbC⟩
  have HBC := Lib.hid (Bl.trans HBB.out hbC)
  obtain ⟨a4, c4, hv4, _, _⟩ := hO4.form
  subst hv4
  have HVC := Lib.hid (And.intro (HVB.out.1.below hbC) (And.intro (HVB.out.2.below hbC) hO4.rec0))
  clear hO4 hbC HBB HUS HVB x0 x1 lX
  obtain ⟨kf, hkf⟩ : ∃ q, q = (if kb = true then (0 : Int) else 5) := ⟨_, rfl⟩
  obtain ⟨nf, hnf⟩ : ∃ q, q = (if hb = true then (0 : Int) else 8) := ⟨_, rfl⟩
  obtain ⟨wf, hwf⟩ : ∃ q, q = winF wlo whi := ⟨_, rfl⟩
  have HKF : Hid (∀ W, Calls Tryz.prog 22 #[.string fd] W fun e w' => e = .returned (.int .i64 kf) ∧ Below W.heap.size W w') := Lib.hid fun W => by
    have h := KeyFaultR_any fd W (by have := HFD.out; omega)
    rw [← HE3.out.1, ← hkf] at h; exact h
  have HHR : Hid (∀ W, Below w7.heap.size w7 W → Calls Tryz.prog 25 #[.slice ra rs.length rc, .string ky] W fun e w' => e = .returned (.bool hb) ∧ Below W.heap.size W w') := Lib.hid fun W hW => by
    have h := HasReel_any rs ky _ W HN.out.1 (HIR.out W hW).1
    rw [← HE3.out.2] at h; exact h
  have HNF : Hid (∀ W, Calls Tryz.prog 24 #[.bool (!hb)] W fun e w' => e = .returned (.int .i64 nf) ∧ W = w') := Lib.hid fun W => by
    have h := NoneFaultR_any (!hb) W
    rw [show (if (!hb) = true then (8 : Int) else 0) = nf by rw [hnf]; cases hb <;> rfl] at h; exact h
  have HWF : Hid (∀ W, Calls Tryz.prog 54 #[.agg #[.int .i64 wlo, .int .i64 whi]] W fun e w' => e = .returned (.int .i64 wf) ∧ Below W.heap.size W w') := Lib.hid fun W => by
    have h := WindowFault_any wlo whi W
    rw [← hwf] at h; exact h
  have HO2 : Hid (∀ (a b r : Int), orF [a, b] = r → ∀ (U : World) (g : Nat), U.heap[g]? = some (.cells #[.int .i64 a, .int .i64 b] 35 (0, 0)) → Calls Tryz.prog 21 #[.slice (some ⟨g, 0, none⟩) 2 2] U fun e w' => e = .returned (.int .i64 r) ∧ w' = U) := Lib.hid fun a b r hr U g hg => by
    have h := OrErrno_any [a, b] (.slice (some ⟨g, 0, none⟩) 2 2) U (by simp) (Ints.of_blk hg rfl rfl (Nat.le_refl _) (by omega) (Nat.zero_le _))
    rw [hr] at h; exact h
  have H1 : Hid (orF [F, kf] = one) := Lib.hid (by rw [hkf, or_two (by decide), HE1.out.1])
  have H2 : Hid (orF [F, nf] = two) := Lib.hid (by rw [hnf, or_two (by decide), HE1.out.2.1])
  have H3 : Hid (orF [F, wf] = three) := Lib.hid (by rw [hwf, or_win, HE1.out.2.2])
  clear hkf hnf hwf
  go_wp2_with fail
  go_cut [18, 19, 20] from 77 to 94 (fun v18 v19 v20 wx => v18 = .int .i64 one ∧ v19 = .int .i64 two ∧ v20 = .int .i64 three ∧ Hid (Below wC.heap.size wC wx))
  case first =>
    obtain ⟨x0, x1, lX⟩ := HXW.out wC HBC.out
    go_region_with (first
      | (go_at_call 22; refine (HKF.out _).mono ?_; rintro e w' ⟨rfl, hbk⟩; obtain ⟨x0, x1, lX⟩ := HXW.out w' (Bl.trans HBC.out (by repeat (first | exact Below.refl _ _ | apply Bl.alloc | apply Below.drew | (refine Bl.trans ?_ (by assumption))))))
      | (go_at_call 25; refine (HHR.out _ (Bl.trans HBC.out (by repeat (first | exact Below.refl _ _ | apply Bl.alloc | apply Below.drew | (refine Bl.trans ?_ (by assumption)))))).mono ?_; rintro e w' ⟨rfl, hbk⟩; obtain ⟨x0, x1, lX⟩ := HXW.out w' (Bl.trans HBC.out (by repeat (first | exact Below.refl _ _ | apply Bl.alloc | apply Below.drew | (refine Bl.trans ?_ (by assumption))))))
      | (go_at_call 24; refine (HNF.out _).mono ?_; rintro e w' ⟨rfl, rfl⟩)
      | (go_at_call 54; refine (HWF.out _).mono ?_; rintro e w' ⟨rfl, hbk⟩)
      | (go_at_call 21; first | (refine (HO2.out _ _ _ H1.out _ _ (by first | exact blk_new _ _ | exact blk_new _ _)).mono ?_; rintro e w' ⟨rfl, rfl⟩) | (refine (HO2.out _ _ _ H2.out _ _ (by first | exact blk_new _ _ | exact blk_new _ _)).mono ?_; rintro e w' ⟨rfl, rfl⟩) | (refine (HO2.out _ _ _ H3.out _ _ (by first | exact blk_new _ _ | exact blk_new _ _)).mono ?_; rintro e w' ⟨rfl, rfl⟩)))
    all_goals (
      go_wp2
      go_meet
      case rel => exact ⟨rfl, rfl, rfl, Lib.hid (by repeat (first | exact Below.refl _ _ | apply Bl.alloc | apply Below.drew | (refine Bl.trans ?_ (by assumption))))⟩)
  case rest =>
  obtain ⟨rfl, rfl, rfl, HQ0⟩ := hcut
  generalize wc = wK at *
  have HBK := Lib.hid (Bl.trans HBC.out HQ0.out)
  have HVK := Lib.hid (And.intro (HVC.out.1.below HQ0.out) (And.intro (HVC.out.2.1.below HQ0.out) (HVC.out.2.2.below HQ0.out)))
  clear HBC HVC HQ0 HKF HHR HNF HWF HO2 H1 H2 H3
  have HOK : Hid (F = 0 → OkF rs fs) := Lib.hid fun h => feedsF_right (HF.out ▸ h)
  have HT1 : Hid (one = 0 → ∀ W, Below w7.heap.size w7 W → Calls Tryz.prog 55 #[.slice ra rs.length rc, .slice fa fs.length fc, .string fd] W fun e w' => (∃ v, e = .returned v ∧ OwnR TOr w' W.heap.size v M1) ∧ Below W.heap.size W w') := Lib.hid fun h W hW => by
    have h0 := askF_zero (HE1.out.1 ▸ h) (by decide)
    have q := TraceOf_any rs fs fd _ _ W (HIR.out W hW).1 (HIR.out W hW).2.1 (HOK.out h0.1) HN.out.2
    rw [show M1 = traceM rs fs fd by rw [HE2.out.1, if_pos h]]; exact q
  have HS1 : Hid (one = 0 → ∀ W, Below w7.heap.size w7 W → Calls Tryz.prog 56 #[.slice ra rs.length rc, .slice fa fs.length fc, .string fd] W fun e w' => e = .returned (.int .i64 sp) ∧ Below W.heap.size W w') := Lib.hid fun h W hW => by
    have h0 := askF_zero (HE1.out.1 ▸ h) (by decide)
    have q := SplicesOf_any rs fs fd _ _ W (HIR.out W hW).1 (HIR.out W hW).2.1 (HOK.out h0.1) HN.out.2
    rw [show sp = splM rs fs fd by rw [HE2.out.2.2.1, if_pos h]]; exact q
  have HB2 : Hid (two = 0 → ∀ W, Below w7.heap.size w7 W → Calls Tryz.prog 57 #[.slice ra rs.length rc, .slice fa fs.length fc, .string ky] W fun e w' => (∃ v, e = .returned v ∧ OwnR TS w' W.heap.size v M2) ∧ Below W.heap.size W w') := Lib.hid fun h W hW => by
    have h0 := askF_zero (HE1.out.2.1 ▸ h) (by decide)
    have q := BoardsOfR_any rs fs ky _ _ W (HIR.out W hW).1 (HIR.out W hW).2.1 (HOK.out h0.1) HN.out.2
    rw [show M2 = (brdO (runM 345686400000 (newM rs) 0 fs).log ky).map baOf by rw [HE2.out.2.1, if_pos h]]; exact q
  have HU3 : Hid (three = 0 → ∀ W, Below w7.heap.size w7 W → Calls Tryz.prog 58 #[.slice ra rs.length rc, .slice fa fs.length fc, .agg #[.int .i64 wlo, .int .i64 whi]] W fun e w' => (∃ v, e = .returned v ∧ OwnR TPrQ w' W.heap.size v M4) ∧ Below W.heap.size W w') := Lib.hid fun h W hW => by
    have h3 : usF F wlo whi = 0 := HE1.out.2.2 ▸ h
    have h0 := usF_ok h3
    have q := UsedOf_any rs fs wlo whi _ _ W (HIR.out W hW).2.2 (HIR.out W hW).1 (HIR.out W hW).2.1 (HOK.out h0.1) (by have := HFL.out; omega) h0.2
    rw [show M4 = (usedM rs fs wlo whi).map prOfQ by rw [HE2.out.2.2.2]; exact usedE_ok (by rw [← HF.out]; exact h3)]; exact q
  have HZ1 : Hid (¬ one = 0 → M1 = [] ∧ sp = 0) := Lib.hid fun h => ⟨by rw [HE2.out.1, if_neg h], by rw [HE2.out.2.2.1, if_neg h]⟩
  have HZ2 : Hid (¬ two = 0 → M2 = []) := Lib.hid fun h => by rw [HE2.out.2.1, if_neg h]
  have HZ3 : Hid (¬ three = 0 → M4 = []) := Lib.hid fun h => by rw [HE2.out.2.2.2]; exact usedE_no (by rw [← HF.out, ← HE1.out.2.2]; exact h)
  go_upto_if 96 with fail
  go_cut [21, 24] from 96 to 104 (fun v21 v24 wx => ∃ (a : Option Addr) (n c : Nat), v21 = .slice a n c ∧ v24 = .int .i64 sp ∧ Hid (Below wK.heap.size wK wx ∧ RecR TOr wx 0 (.slice a n c) M1))
  case first =>
    by_cases h0 : one = 0
    · have HX := Lib.hid (HT1.out h0 wK HBK.out)
      have HY := Lib.hid fun W (hW : Below wK.heap.size wK W) => HS1.out h0 W (Bl.trans HBK.out hW)
      subst h0
      go_wp2_with fail
      refine HX.out.mono ?_
      rintro e wM ⟨⟨u, rfl, hu⟩, hbM⟩
      obtain ⟨ua, un, uc, rfl⟩ : ∃ a n c, u = .slice a n c := by obtain ⟨a, c, hv, _, _⟩ := hu.form; exact ⟨a, _, c, hv⟩
      have HBM := Lib.hid (And.intro hbM hu.rec0)
      clear hu hbM HX
      go_wp2_with fail
      refine (HY.out wM HBM.out.1).mono ?_
      rintro e wN ⟨rfl, hbN⟩
      have HREL := Lib.hid (And.intro (Bl.trans HBM.out.1 hbN) (HBM.out.2.below hbN))
      clear hbN HY
      go_wp2
      go_meet
      case rel => exact ⟨_, _, _, rfl, rfl, HREL⟩
    · have HREL : Hid (Below wK.heap.size wK wK ∧ RecR TOr wK 0 (.slice none 0 0) M1) := Lib.hid ⟨Below.refl _ _, by rw [(HZ1.out h0).1]; exact RecR.nil _ _⟩
      have HS0 : Hid ((0 : Int) = sp) := Lib.hid (HZ1.out h0).2.symm
      go_wp2
      go_meet
      case rel => exact ⟨none, 0, 0, rfl, by rw [← HS0.out], HREL⟩
  case rest =>
  obtain ⟨b1, n1, e1, rfl, rfl, HQ1⟩ := hcut
  generalize wc = wL at *
  have HBL := Lib.hid (Bl.trans HBK.out HQ1.out.1)
  have HVL := Lib.hid (And.intro HQ1.out.2 (And.intro (HVK.out.1.below HQ1.out.1) (And.intro (HVK.out.2.1.below HQ1.out.1) (HVK.out.2.2.below HQ1.out.1))))
  clear HBK HVK HQ1 HT1 HS1 HZ1
  go_upto_if 106 with fail
  go_cut [22] from 106 to 110 (fun v22 wx => ∃ (a : Option Addr) (n c : Nat), v22 = .slice a n c ∧ Hid (Below wL.heap.size wL wx ∧ RecR TS wx 0 (.slice a n c) M2))
  case first =>
    by_cases h0 : two = 0
    · have HX := Lib.hid (HB2.out h0 wL HBL.out)
      subst h0
      go_wp2_with fail
      refine HX.out.mono ?_
      rintro e wM ⟨⟨u, rfl, hu⟩, hbM⟩
      obtain ⟨ua, un, uc, rfl⟩ : ∃ a n c, u = .slice a n c := by obtain ⟨a, c, hv, _, _⟩ := hu.form; exact ⟨a, _, c, hv⟩
      have HREL := Lib.hid (And.intro hbM hu.rec0)
      clear hu hbM HX
      go_wp2
      go_meet
      case rel => exact ⟨_, _, _, rfl, HREL⟩
    · have HREL : Hid (Below wL.heap.size wL wL ∧ RecR TS wL 0 (.slice none 0 0) M2) := Lib.hid ⟨Below.refl _ _, by rw [HZ2.out h0]; exact RecR.nil _ _⟩
      go_wp2
      go_meet
      case rel => exact ⟨none, 0, 0, rfl, HREL⟩
  case rest =>
  obtain ⟨b2, n2, e2, rfl, HQ2⟩ := hcut
  generalize wc = wM at *
  have HBM := Lib.hid (Bl.trans HBL.out HQ2.out.1)
  have HVM := Lib.hid (And.intro HQ2.out.2 (And.intro (HVL.out.1.below HQ2.out.1) (And.intro (HVL.out.2.1.below HQ2.out.1) (And.intro (HVL.out.2.2.1.below HQ2.out.1) (HVL.out.2.2.2.below HQ2.out.1)))))
  obtain ⟨x0, x1, lX⟩ := HXW.out wM HBM.out
  clear HBL HVL HQ2 HB2 HZ2
  go_upto_if 112 with fail
  go_cut [23] from 112 to 116 (fun v23 wx => ∃ (a : Option Addr) (n c : Nat), v23 = .slice a n c ∧ Hid (Below wM.heap.size wM wx ∧ RecR TPrQ wx 0 (.slice a n c) M4))
  case first =>
    by_cases h0 : three = 0
    · have HX := Lib.hid (HU3.out h0 wM HBM.out)
      subst h0
      go_wp2_with fail
      refine HX.out.mono ?_
      rintro e wN ⟨⟨u, rfl, hu⟩, hbN⟩
      obtain ⟨ua, un, uc, rfl⟩ : ∃ a n c, u = .slice a n c := by obtain ⟨a, c, hv, _, _⟩ := hu.form; exact ⟨a, _, c, hv⟩
      have HREL := Lib.hid (And.intro hbN hu.rec0)
      clear hu hbN HX
      go_wp2
      go_meet
      case rel => exact ⟨_, _, _, rfl, HREL⟩
    · have HREL : Hid (Below wM.heap.size wM wM ∧ RecR TPrQ wM 0 (.slice none 0 0) M4) := Lib.hid ⟨Below.refl _ _, by rw [HZ3.out h0]; exact RecR.nil _ _⟩
      go_wp2
      go_meet
      case rel => exact ⟨none, 0, 0, rfl, HREL⟩
  case rest =>
  obtain ⟨b4, n4, e4, rfl, HQ3⟩ := hcut
  generalize wc = wP at *
  have HBP := Lib.hid (Bl.trans HBM.out HQ3.out.1)
  have HVP := Lib.hid (And.intro HQ3.out.2 (And.intro (HVM.out.1.below HQ3.out.1) (And.intro (HVM.out.2.1.below HQ3.out.1) (And.intro (HVM.out.2.2.1.below HQ3.out.1) (And.intro (HVM.out.2.2.2.1.below HQ3.out.1) (HVM.out.2.2.2.2.below HQ3.out.1))))))
  clear HBM HVM HQ3 HU3 HZ3 x0 x1 lX
  have HM1 : Hid (M1.length ≤ 1000000) := Lib.hid (by
    rw [HE2.out.1]
    by_cases h : one = 0
    · rw [if_pos h]
      have h0 := HOK.out (askF_zero (HE1.out.1 ▸ h) (by decide)).1
      have h1 := runM_inv (at' := 345686400000) fs (newM rs) 0 0 (newM_inv fun r hr => (h0.rz r hr).2) h0.lz
      rw [Nat.zero_add] at h1
      exact traceM_few h1 HN.out.2
    · rw [if_neg h]; simp)
  have HM2 : Hid (M2.length ≤ 100000) := Lib.hid (by
    rw [HE2.out.2.1]
    by_cases h : two = 0
    · have h0 := HOK.out (askF_zero (HE1.out.2.1 ▸ h) (by decide)).1
      have h1 := runM_inv (at' := 345686400000) fs (newM rs) 0 0 (newM_inv fun r hr => (h0.rz r hr).2) h0.lz
      rw [Nat.zero_add] at h1
      have h2 := h1.ll
      have h3 : fs.length * fs.length ≤ 15 * 15 := Nat.mul_le_mul HFL.out HFL.out
      have h4 := brdO_few (runM 345686400000 (newM rs) 0 fs).log ky
      rw [if_pos h, List.length_map]
      omega
    · rw [if_neg h]; simp)
  have HM4 : Hid (M4.length ≤ 1000) := Lib.hid (by
    rw [HE2.out.2.2.2]
    by_cases h : three = 0
    · have h3 : usF F wlo whi = 0 := HE1.out.2.2 ▸ h
      have h0 := usF_ok h3
      rw [usedE_ok (by rw [← HF.out]; exact h3), List.length_map]
      have := (used_small (HOK.out h0.1) wlo whi).2.1
      have := HFL.out
      omega
    · rw [usedE_no (by rw [← HF.out, ← HE1.out.2.2]; exact h)]; simp)
  have HQ := Lib.hid (EqualOr_any M1 M1 (.slice a1 M1.length c1) (.slice b1 n1 e1) wP HM1.out HM1.out HVP.out.2.2.2.1 HVP.out.2.2.1)
  rw [decide_eq_true rfl] at HQ
  go_wp2_with fail
  refine HQ.out.mono ?_
  rintro e y1 ⟨rfl, hy1⟩
  have HY1 := Lib.hid hy1
  have HQ2 := Lib.hid (SEqualF_any M2 (.slice a2 M2.length c2) (.slice b2 n2 e2) y1 HM2.out (HVP.out.2.2.2.2.1.below hy1) (HVP.out.2.1.below hy1))
  clear hy1 HQ
  go_wp2_with fail
  refine HQ2.out.mono ?_
  rintro e y2 ⟨rfl, hy2⟩
  have HY2 := Lib.hid (Bl.trans HY1.out hy2)
  have HQ4 := Lib.hid (EqualPr_anyQ M4 M4 (.slice a4 M4.length c4) (.slice b4 n4 e4) y2 (by have := HM4.out; omega) (by have := HM4.out; omega) (HVP.out.2.2.2.2.2.below HY2.out) (HVP.out.1.below HY2.out))
  rw [decide_eq_true rfl] at HQ4
  clear hy2 HQ2
  go_wp2_with fail
  refine HQ4.out.mono ?_
  rintro e y3 ⟨rfl, hy3⟩
  have HY3 := Lib.hid (Bl.trans HY2.out hy3)
  clear hy3 HQ4
  go_wp2_with fail
  refine (reeled_any y3).mono ?_
  rintro e y4 ⟨rfl, hy4⟩
  have HY4 := Lib.hid (Bl.trans HB7.out (Bl.trans HBP.out (Bl.trans HY3.out hy4)))
  clear hy4
  go_wp2
  go_ret
  exact ⟨rfl, HY4.out⟩
end Go.Proofs.YtcfeoapbbkfbnaaGreatDoor
