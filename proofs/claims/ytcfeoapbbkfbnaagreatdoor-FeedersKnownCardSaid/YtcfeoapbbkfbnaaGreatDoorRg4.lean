/- The walk of the law FeedersKnown: whatever the input: true. No conditions. -/
import Derived.Test.YtcfeoapbbkfbnaaGreatDoorRf5
import Derived.Test.YtcfeoapbbkfbnaaGreatDoorRf6
import Derived.Test.YtcfeoapbbkfbnaaGreatDoorRf8
import Derived.Test.YtcfeoapbbkfbnaaGreatDoorRf9
import Derived.Test.YtcfeoapbbkfbnaaGreatDoorRg2
import Derived.Test.YtcfeoapbbkfbnaaGreatDoorRe9
import Derived.Test.YtcfeoapbbkfbnaaGreatDoorStart
namespace Go.Proofs.YtcfeoapbbkfbnaaGreatDoor
open Go.RowKit Go.Sort Go.Maps

theorem RelOk.z {l : List Rel} (h : ∀ x ∈ l, RelOk x) : RelZ l := fun x hx => ⟨Nat.le_trans (h x hx).1 (by omega), Nat.le_trans (h x hx).2.1 (by omega)⟩
theorem FedOk.z {l : List Fed} (h : ∀ x ∈ l, FedOk x) : FedZ l := fun x hx => ⟨Nat.le_trans (h x hx).2.2.1 (by omega), Nat.le_trans (h x hx).2.2.2.1 (by omega), Nat.le_trans (h x hx).2.2.2.2.2 (by omega)⟩
theorem WntOk.z {l : List Wnt} (h : ∀ x ∈ l, WntOk x) : WntZ l := fun x hx => ⟨Nat.le_trans (h x hx).1 (by omega), Nat.le_trans (h x hx).2 (by omega)⟩
theorem small5 {l : List ByteArray} {n : Nat} (h : (l.all fun x => decide (x.size ≤ n)) = true) {r : ByteArray} (hr : r ∈ l) : r.size ≤ n := by
  have := List.all_eq_true.1 h r hr
  simpa using this
theorem or_ask {F : Int} {kb mb : Bool} {e : Int} (he : e ≠ 0) : orF [F, if kb = true then 0 else e, if mb = true then 0 else 1] = askF F kb mb e := by
  by_cases h : F = 0 <;> cases kb <;> cases mb <;> simp [orF, askF, h, he]
theorem or_ask0 {F : Int} {mb : Bool} : orF [F, if mb = true then 0 else 1] = askF F true mb 0 := by
  by_cases h : F = 0 <;> cases mb <;> simp [orF, askF, h]
theorem or_ask3 {F : Int} {mb : Bool} {x : Int} : orF [F, if mb = true then 0 else 1, x] = if askF F true mb 0 = 0 then x else askF F true mb 0 := by
  by_cases h : F = 0 <;> cases mb <;> by_cases h2 : x = 0 <;> simp [orF, askF, h, h2]
theorem or_three {F : Int} {eb : Bool} : orF [F, if eb = true then 0 else 1] = if F = 0 then (if eb = true then (0 : Int) else 1) else F := by
  by_cases h : F = 0 <;> cases eb <;> simp [orF, h]
set_option maxHeartbeats 16000000 in
set_option maxRecDepth 100000 in
theorem FeedersKnown_any (l : List Int) (v : Value) (w : World) (rl : Ints w 0 v l) (hl : ∀ x ∈ l, -9223372036854775808 ≤ x ∧ x ≤ 9223372036854775807) :
    Calls Tryz.prog 3 #[v] w fun e w' => e = .returned (.bool true) ∧ Below w.heap.size w w' := by
  obtain ⟨va, cap, rfl, hc1, hc2⟩ := Ints.form rl
  have hs0 := Str.begin rl hl
  have hb0 := Bl.alloc (Below.refl w.heap.size w) (.cells #[.slice va l.length cap, .int .i64 0] 25)
  clear rl hl
  go_enter Tryz.func3, Tryz.ntmps3
  go_wp2_with fail
  refine (ReelList_any _ 0 _ hs0 (by omega)).mono ?_
  rintro e w1 ⟨vr, rs, rfl, hO1, ⟨hr4, hr1⟩, hrk, hs1, hG1⟩
  have hb1 := Below.trans hb0 (Gr.below hG1 (Nat.le_refl _) hb0.size)
  have hz1 := hb1.size
  obtain ⟨ra, rc, rfl, _, _⟩ := hO1.form
  have HRZ := Lib.hid (RelOk.z hrk)
  have hz0 : w.heap.size < (w.alloc (.cells #[.slice va l.length cap, .int .i64 0] 25)).heap.size := by simp
  clear hs0 hb0 hG1
  go_wp2_with fail
  refine (FeedList_any _ _ _ _ _ rs hs1 (by omega) hO1 hz0 hr1 (by omega) hrk).mono ?_
  rintro e w2 ⟨vl, fs, rfl, hP2, hf15, hfk, hs2, hG2⟩
  have hO2 := hO1.grown hG2 hz0
  have hb2 := Below.trans hb1 (Gr.below hG2 (Nat.le_refl _) hz1)
  have hz2 := hb2.size
  have hl1 := hs1.lt
  obtain ⟨fa, fc, rfl, _, _⟩ := hP2.form
  have HFZ := Lib.hid (FedOk.z hfk)
  have HR2 := Lib.hid (hO2.rec.mono (lo' := w.heap.size + 1) (by simp))
  have HP2 := Lib.hid (hP2.rec.mono (lo' := w.heap.size + 1) (by omega))
  have HRL := Lib.hid hr4
  clear hb1 hG2 hs1 hfk hrk hO1 hO2 hP2 hr4 hr1 hz0
  go_wp2_with fail
  refine (Some_any _ _ [⟨#[102, 49]⟩, ⟨#[102, 50]⟩, ⟨#[102, 51]⟩, ⟨#[]⟩] (.slice (some ⟨w2.heap.size, 0, none⟩) 4 4) _ (hs2.alloc _) (by omega) (RecR.of_blk (T := TS) (blk_new _ _) rfl rfl (by simp) (by omega) hs2.lt) (by simp) (by simp)).mono ?_
  rintro e w3 ⟨fd, rfl, hfd, hs3, hG3⟩
  have HFD := Lib.hid (small5 (n := 5) (by decide) hfd)
  have hG3' := Gr.trans (Gr.alloc (Gr.refl w2 (some w.heap.size)) _) hG3
  have hb3 := Below.trans hb2 (Gr.below hG3' (Nat.le_refl _) hz2)
  have HR3 := Lib.hid (HR2.out.grown hG3' (by omega))
  have HP3 := Lib.hid (HP2.out.grown hG3' (by omega))
  have hz3 := hb3.size
  clear hb2 hG3 hG3' hs2 hfd HR2 HP2
  go_wp2_with fail
  refine (Some_any _ _ [⟨#[114, 49]⟩, ⟨#[114, 50]⟩, ⟨#[114, 52]⟩, ⟨#[122, 122]⟩] (.slice (some ⟨w3.heap.size, 0, none⟩) 4 4) _ (hs3.alloc _) (by omega) (RecR.of_blk (T := TS) (blk_new _ _) rfl rfl (by simp) (by omega) hs3.lt) (by simp) (by simp)).mono ?_
  rintro e w4 ⟨ky, rfl, hky, hs4, hG4⟩
  have HKY := Lib.hid (small5 (n := 5) (by decide) hky)
  have hG4' := Gr.trans (Gr.alloc (Gr.refl w3 (some w.heap.size)) _) hG4
  have hb4 := Below.trans hb3 (Gr.below hG4' (Nat.le_refl _) hz3)
  have HR4 := Lib.hid (HR3.out.grown hG4' (by omega))
  have HP4 := Lib.hid (HP3.out.grown hG4' (by omega))
  have hz4 := hb4.size
  clear hb3 hG4 hG4' hs3 hky HR3 HP3
  go_wp2_with fail
  refine (AClockF_any _ _ _ hs4 (by omega)).mono ?_
  rintro e w5 ⟨t, rfl, ht, hs5, hG5⟩
  have hb5 := Below.trans hb4 (Gr.below hG5 (Nat.le_refl _) hz4)
  have HR5 := Lib.hid (HR4.out.grown hG5 (by omega))
  have HP5 := Lib.hid (HP4.out.grown hG5 (by omega))
  have hz5 := hb5.size
  clear hb4 hG5 hs4 HR4 HP4
  go_wp2_with fail
  refine (Pick_any _ _ [1, 2, 3, 0, 100001] _ _ (hs5.alloc _) (by omega) (Ints.of_blk (blk_new _ _) rfl rfl (by simp) (by omega) hs5.lt) (by simp) (by simp)).mono ?_
  rintro e w6 ⟨ea, rfl, hea, hs6, hG6⟩
  have hea1 : 0 ≤ ea ∧ ea ≤ 100001 := by simp only [List.mem_cons, List.not_mem_nil, or_false] at hea; omega
  have hG6' := Gr.trans (Gr.alloc (Gr.refl w5 (some w.heap.size)) _) hG6
  have hb6 := Below.trans hb5 (Gr.below hG6' (Nat.le_refl _) hz5)
  have HR6 := Lib.hid (HR5.out.grown hG6' (by omega))
  have HP6 := Lib.hid (HP5.out.grown hG6' (by omega))
  have hz6 := hb6.size
  clear hb5 hG6 hG6' hs5 hea HR5 HP5
  go_wp2_with fail
  refine (WantList_any _ _ _ hs6 (by omega)).mono ?_
  rintro e w7 ⟨vw, ws, rfl, hW7, ⟨hw3, _⟩, hwk, hs7, hG7⟩
  have hb7 := Below.trans hb6 (Gr.below hG7 (Nat.le_refl _) hz6)
  obtain ⟨wa, wc', rfl, _, _⟩ := hW7.form
  have HWZ := Lib.hid (WntOk.z hwk)
  have HIN := Lib.hid (And.intro (HR6.out.grown hG7 (by omega)) (And.intro (HP6.out.grown hG7 (by omega)) hW7.rec0))
  have HB7 := Lib.hid hb7
  have HFL := Lib.hid hf15
  have HWL := Lib.hid hw3
  have HEA := Lib.hid hea1
  obtain ⟨F, hF⟩ : ∃ f, f = feedsF rs fs := ⟨_, rfl⟩
  have HF := Lib.hid hF
  have HIR : Hid (∀ W, Below w7.heap.size w7 W → RecR TRe W 0 (.slice ra rs.length rc) rs ∧ RecR TFe W 0 (.slice fa fs.length fc) fs ∧ RecR TWn W 0 (.slice wa ws.length wc') ws) := Lib.hid fun W hW => ⟨(HIN.out.1.below hW).mono (Nat.zero_le _), (HIN.out.2.1.below hW).mono (Nat.zero_le _), HIN.out.2.2.below hW⟩
  have HFF := Lib.hid (FeedsFault_any rs fs _ _ w7 (by have := HRL.out; omega) (by have := HFL.out; omega) (HIR.out w7 (Below.refl _ _)).1 (HIR.out w7 (Below.refl _ _)).2.1 HRZ.out HFZ.out)
  rw [← hF] at HFF
  clear hb6 hb7 hG7 hs6 hs7 hW7 hwk hz1 hz2 hz3 hz4 hz5 hz6 hl1 HR6 HP6 HIN hw3 hf15 hea1 hF ht
  go_wp2_with fail
  refine HFF.out.mono ?_
  rintro e w8 ⟨rfl, hb8⟩
  have hN1 : rs.length ≤ 1000000 := by have := HRL.out; omega
  have hN2 : fs.length ≤ 900 := by have := HFL.out; omega
  have HN := Lib.hid (And.intro hN1 hN2)
  obtain ⟨mb, hmb⟩ : ∃ q, q = inB 0 t 345686399999 := ⟨_, rfl⟩
  obtain ⟨kb, hkb⟩ : ∃ q, q = keyB fd := ⟨_, rfl⟩
  obtain ⟨hb, hhb⟩ : ∃ q, q = hasB rs ky := ⟨_, rfl⟩
  obtain ⟨eb, heb⟩ : ∃ q, q = inB 1 ea 100000 := ⟨_, rfl⟩
  obtain ⟨one, hone⟩ : ∃ q, q = askF F kb mb 5 := ⟨_, rfl⟩
  obtain ⟨two, htwo⟩ : ∃ q, q = askF F hb mb 8 := ⟨_, rfl⟩
  obtain ⟨five, hfive⟩ : ∃ q, q = askF F true mb 0 := ⟨_, rfl⟩
  obtain ⟨three, hthree⟩ : ∃ q, q = (if one = 0 then (if eb = true then (0 : Int) else 1) else one) := ⟨_, rfl⟩
  obtain ⟨four, hfour⟩ : ∃ q, q = wrongE rs fs t ws := ⟨_, rfl⟩
  obtain ⟨M1, hM1⟩ : ∃ q, q = (if one = 0 then feederM rs fs t fd else []) := ⟨_, rfl⟩
  obtain ⟨lf, hlf⟩ : ∃ q, q = (if two = 0 then (runM t (newM rs) 0 fs).left ky else 0) := ⟨_, rfl⟩
  obtain ⟨ls', hls⟩ : ∃ q, q = (if one = 0 ∧ eb = true then lastsM rs fs t fd ea else 0) := ⟨_, rfl⟩
  obtain ⟨M4, hM4⟩ : ∃ q, q = (if four = 0 then wrongM (runM t (newM rs) 0 fs) ws else []) := ⟨_, rfl⟩
  obtain ⟨M5, hM5⟩ : ∃ q, q = (if five = 0 then idleM (runM t (newM rs) 0 fs) rs else []) := ⟨_, rfl⟩
  have hfd : fd.size ≤ 140737488355328 := by have := HFD.out; omega
  have HFE : Hid (∀ W, Below w7.heap.size w7 W → Calls Tryz.prog 15 #[.slice ra rs.length rc, .slice fa fs.length fc, .string fd, .int .i64 t] W fun e w' => (∃ v, e = .returned (.tuple #[v, .int .i64 one]) ∧ OwnR TLo w' W.heap.size v M1) ∧ Below W.heap.size W w') := Lib.hid fun W hW => by
    have h := Feeder_any rs fs fd t _ _ W hN1 hN2 (HIR.out W hW).1 (HIR.out W hW).2.1 HRZ.out HFZ.out hfd
    rw [← HF.out, ← hmb, ← hkb, ← hone, ← hM1] at h
    exact h
  have HLE : Hid (∀ W, Below w7.heap.size w7 W → Calls Tryz.prog 16 #[.slice ra rs.length rc, .slice fa fs.length fc, .string ky, .int .i64 t] W fun e w' => e = .returned (.tuple #[.int .i64 lf, .int .i64 two]) ∧ Below W.heap.size W w') := Lib.hid fun W hW => by
    have h := LeftR_any rs fs ky t _ _ W hN1 hN2 (HIR.out W hW).1 (HIR.out W hW).2.1 HRZ.out HFZ.out
    rw [← HF.out, ← hmb, ← hhb, ← htwo, ← hlf] at h
    exact h
  obtain ⟨pq, hpq⟩ : ∃ q, q = (if two = 0 then (runM t (newM rs) 0 fs).pos ky else ByteArray.empty) := ⟨_, rfl⟩
  obtain ⟨pb, hpb⟩ : ∃ q, q = (if two = 0 then decide ((runM t (newM rs) 0 fs).pos ky ≠ ByteArray.empty) else false) := ⟨_, rfl⟩
  have HWH : Hid (∀ W, Below w7.heap.size w7 W → Calls Tryz.prog 17 #[.slice ra rs.length rc, .slice fa fs.length fc, .string ky, .int .i64 t] W fun e w' => e = .returned (.tuple #[.string pq, .bool pb, .int .i64 two]) ∧ Below W.heap.size W w') := Lib.hid fun W hW => by
    have h := Where_any rs fs ky t _ _ W hN1 hN2 (HIR.out W hW).1 (HIR.out W hW).2.1 HRZ.out HFZ.out
    rw [← HF.out, ← hmb, ← hhb, ← htwo] at h
    refine h.mono fun e w' h2 => ⟨?_, h2.2⟩
    obtain ⟨q, b, h3, h4, h5⟩ := h2.1
    by_cases h0 : two = 0
    · obtain ⟨e1, e2⟩ := h4 h0
      rw [h3, e1, e2, hpq, hpb, if_pos h0, if_pos h0]
    · obtain ⟨e1, e2⟩ := h5 h0
      rw [h3, e1, e2, hpq, hpb, if_neg h0, if_neg h0]
  have HLA : Hid (∀ W, Below w7.heap.size w7 W → Calls Tryz.prog 18 #[.slice ra rs.length rc, .slice fa fs.length fc, .string fd, .int .i64 t, .int .i64 ea] W fun e w' => e = .returned (.tuple #[.int .i64 ls', .int .i64 three]) ∧ Below W.heap.size W w') := Lib.hid fun W hW => by
    have h := Lasts_any rs fs fd t ea _ _ W hN1 hN2 (HIR.out W hW).1 (HIR.out W hW).2.1 HRZ.out HFZ.out hfd
    rw [← HF.out, ← hmb, ← hkb, ← heb, ← hone, ← hls, ← hthree] at h
    exact h
  have HWR : Hid (∀ W, Below w7.heap.size w7 W → Calls Tryz.prog 19 #[.slice ra rs.length rc, .slice fa fs.length fc, .int .i64 t, .slice wa ws.length wc'] W fun e w' => (∃ v, e = .returned (.tuple #[v, .int .i64 four]) ∧ OwnR TS w' W.heap.size v M4) ∧ Below W.heap.size W w') := Lib.hid fun W hW => by
    have h := Wrong_any rs fs t ws _ _ _ W hN1 hN2 (by have := HWL.out; omega) (HIR.out W hW).1 (HIR.out W hW).2.1 (HIR.out W hW).2.2 HRZ.out HFZ.out HWZ.out
    rw [← hfour, ← hM4] at h
    exact h
  have HID : Hid (∀ W, Below w7.heap.size w7 W → Calls Tryz.prog 20 #[.slice ra rs.length rc, .slice fa fs.length fc, .int .i64 t] W fun e w' => (∃ v, e = .returned (.tuple #[v, .int .i64 five]) ∧ OwnR TS w' W.heap.size v M5) ∧ Below W.heap.size W w') := Lib.hid fun W hW => by
    have h := Idle_any rs fs t _ _ W hN1 hN2 (HIR.out W hW).1 (HIR.out W hW).2.1 HRZ.out HFZ.out
    rw [← HF.out, ← hmb, ← hfive, ← hM5] at h
    exact h
  have HB8 := Lib.hid hb8
  have HE1 := Lib.hid (And.intro hone (And.intro htwo (And.intro hfive (And.intro hthree hfour))))
  have HE2 := Lib.hid (And.intro hM1 (And.intro hlf (And.intro hls (And.intro hM4 hM5))))
  have HE3 := Lib.hid (And.intro hmb (And.intro hkb (And.intro hhb heb)))
  have HE4 := Lib.hid (And.intro hpq hpb)
  clear hN1 hN2 hmb hkb hhb heb hone htwo hfive hthree hfour hM1 hlf hls hM4 hM5 hpq hpb hb8 hfd HFF
  go_wp2_with fail
  refine (HFE.out w8 HB8.out).mono ?_
  rintro e w9 ⟨⟨v1, rfl, hO1⟩, hb9⟩
  have HB9 := Lib.hid (Bl.trans HB8.out hb9)
  obtain ⟨a1, c1, hv1, _, _⟩ := hO1.form
  subst hv1
  have HV1 := Lib.hid hO1.rec0
  clear hO1 hb9 HB8 HFE
  go_wp2_with fail
  refine (HLE.out w9 HB9.out).mono ?_
  rintro e wA ⟨rfl, hbA⟩
  have HBA := Lib.hid (Bl.trans HB9.out hbA)
  have HV1A := Lib.hid (HV1.out.below hbA)
  clear hbA HB9 HLE HV1
  go_wp2_with fail
  refine (HWH.out wA HBA.out).mono ?_
  rintro e wB ⟨rfl, hbB⟩
  have HBB := Lib.hid (Bl.trans HBA.out hbB)
  have HV1B := Lib.hid (HV1A.out.below hbB)
  clear hbB HBA HWH HV1A
  go_wp2_with fail
  refine (HLA.out wB HBB.out).mono ?_
  rintro e wC ⟨rfl, hbC⟩
  have HBC := Lib.hid (Bl.trans HBB.out hbC)
  have HV1C := Lib.hid (HV1B.out.below hbC)
  clear hbC HBB HLA HV1B
  go_wp2_with fail
  refine (HWR.out wC HBC.out).mono ?_
  rintro e wD ⟨⟨v4, rfl, hO4⟩, hbD⟩
  have HBD := Lib.hid (Bl.trans HBC.out hbD)
  obtain ⟨a4, c4, hv4, _, _⟩ := hO4.form
  subst hv4
  have HVD := Lib.hid (And.intro (HV1C.out.below hbD) hO4.rec0)
  clear hO4 hbD HBC HWR HV1C
  go_wp2_with fail
  refine (HID.out wD HBD.out).mono ?_
  rintro e wE ⟨⟨v5, rfl, hO5⟩, hbE⟩
  have HBE := Lib.hid (Bl.trans HBD.out hbE)
  obtain ⟨a5, c5, hv5, _, _⟩ := hO5.form
  subst hv5
  have HVE := Lib.hid (And.intro (HVD.out.1.below hbE) (And.intro (HVD.out.2.below hbE) hO5.rec0))
  clear hO5 hbE HBD HID HVD
  go_wp2_with fail
  obtain ⟨kf, hkf⟩ : ∃ q, q = (if kb = true then (0 : Int) else 5) := ⟨_, rfl⟩
  obtain ⟨mf, hmf⟩ : ∃ q, q = (if mb = true then (0 : Int) else 1) := ⟨_, rfl⟩
  obtain ⟨nf, hnf⟩ : ∃ q, q = (if hb = true then (0 : Int) else 8) := ⟨_, rfl⟩
  obtain ⟨sf, hsf⟩ : ∃ q, q = (if eb = true then (0 : Int) else 1) := ⟨_, rfl⟩
  obtain ⟨wf, hwf⟩ : ∃ q, q = wantsF ws := ⟨_, rfl⟩
  have HKF : Hid (∀ W, Calls Tryz.prog 22 #[.string fd] W fun e w' => e = .returned (.int .i64 kf) ∧ Below W.heap.size W w') := Lib.hid fun W => by
    have h := KeyFaultR_any fd W (by have := HFD.out; omega)
    rw [← HE3.out.2.1, ← hkf] at h; exact h
  have HMF : Hid (∀ W, Calls Tryz.prog 23 #[.int .i64 t] W fun e w' => e = .returned (.int .i64 mf) ∧ W = w') := Lib.hid fun W => by
    have h := MomentFaultR_any t W
    rw [span_in, ← HE3.out.1, ← hmf] at h; exact h
  have HHR : Hid (∀ W, Below w7.heap.size w7 W → Calls Tryz.prog 25 #[.slice ra rs.length rc, .string ky] W fun e w' => e = .returned (.bool hb) ∧ Below W.heap.size W w') := Lib.hid fun W hW => by
    have h := HasReel_any rs ky _ W HN.out.1 (HIR.out W hW).1
    rw [← HE3.out.2.2.1] at h; exact h
  have HNF : Hid (∀ W, Calls Tryz.prog 24 #[.bool (!hb)] W fun e w' => e = .returned (.int .i64 nf) ∧ W = w') := Lib.hid fun W => by
    have h := NoneFaultR_any (!hb) W
    rw [show (if (!hb) = true then (8 : Int) else 0) = nf by rw [hnf]; cases hb <;> rfl] at h; exact h
  have HSF : Hid (∀ W, Calls Tryz.prog 26 #[.int .i64 ea, .int .i64 1, .int .i64 100000] W fun e w' => e = .returned (.int .i64 sf) ∧ W = w') := Lib.hid fun W => by
    have h := SpanFault_any ea 1 100000 W
    rw [span_in, ← HE3.out.2.2.2, ← hsf] at h; exact h
  have HWF : Hid (∀ W, Below w7.heap.size w7 W → Calls Tryz.prog 27 #[.slice wa ws.length wc'] W fun e w' => e = .returned (.int .i64 wf) ∧ Below W.heap.size W w') := Lib.hid fun W hW => by
    have h := WantFault_any ws _ W (by have := HWL.out; omega) (HIR.out W hW).2.2 HWZ.out
    rw [← hwf] at h; exact h
  have HO3 : Hid (∀ (a b c r : Int), orF [a, b, c] = r → ∀ (U : World) (g : Nat), U.heap[g]? = some (.cells #[.int .i64 a, .int .i64 b, .int .i64 c] 35 (0, 0)) → Calls Tryz.prog 21 #[.slice (some ⟨g, 0, none⟩) 3 3] U fun e w' => e = .returned (.int .i64 r) ∧ w' = U) := Lib.hid fun a b c r hr U g hg => by
    have h := OrErrno_any [a, b, c] (.slice (some ⟨g, 0, none⟩) 3 3) U (by simp) (Ints.of_blk hg rfl rfl (Nat.le_refl _) (by omega) (Nat.zero_le _))
    rw [hr] at h; exact h
  have HO2 : Hid (∀ (a b r : Int), orF [a, b] = r → ∀ (U : World) (g : Nat), U.heap[g]? = some (.cells #[.int .i64 a, .int .i64 b] 35 (0, 0)) → Calls Tryz.prog 21 #[.slice (some ⟨g, 0, none⟩) 2 2] U fun e w' => e = .returned (.int .i64 r) ∧ w' = U) := Lib.hid fun a b r hr U g hg => by
    have h := OrErrno_any [a, b] (.slice (some ⟨g, 0, none⟩) 2 2) U (by simp) (Ints.of_blk hg rfl rfl (Nat.le_refl _) (by omega) (Nat.zero_le _))
    rw [hr] at h; exact h
  have H1 : Hid (orF [F, kf, mf] = one) := Lib.hid (by rw [hkf, hmf, or_ask (by decide), HE1.out.1])
  have H2 : Hid (orF [F, nf, mf] = two) := Lib.hid (by rw [hnf, hmf, or_ask (by decide), HE1.out.2.1])
  have H3 : Hid (orF [one, sf] = three) := Lib.hid (by rw [hsf, or_three, HE1.out.2.2.2.1])
  have H4 : Hid (orF [F, mf, wf] = four) := Lib.hid (by rw [hmf, or_ask3, HE1.out.2.2.2.2, hwf, HF.out, HE3.out.1]; rfl)
  have H5 : Hid (orF [F, mf] = five) := Lib.hid (by rw [hmf, or_ask0, HE1.out.2.2.1])
  clear hkf hmf hnf hsf hwf
  refine (HKF.out wE).mono ?_
  rintro e wF ⟨rfl, hbF⟩
  have HBF := Lib.hid (Bl.trans HBE.out hbF)
  have HVF := Lib.hid (And.intro (HVE.out.1.below hbF) (And.intro (HVE.out.2.1.below hbF) (HVE.out.2.2.below hbF)))
  clear hbF HVE HBE HKF
  go_wp2_with fail
  refine (HMF.out _).mono ?_
  rintro e w' ⟨rfl, rfl⟩
  go_wp2_with fail
  refine (HO3.out _ _ _ _ H1.out _ _ (blk_new wF _)).mono ?_
  rintro e w' ⟨rfl, rfl⟩
  obtain ⟨wG, hwG⟩ : ∃ wG, wG = wF.alloc (.cells #[.int .i64 F, .int .i64 kf, .int .i64 mf] 35) := ⟨_, rfl⟩
  rw [← hwG]
  have hbG : Below wF.heap.size wF wG := by rw [hwG]; exact Bl.alloc (Below.refl _ _) _
  have HBG := Lib.hid (Bl.trans HBF.out hbG)
  have HVG := Lib.hid (And.intro (HVF.out.1.below hbG) (And.intro (HVF.out.2.1.below hbG) (HVF.out.2.2.below hbG)))
  clear hwG hbG HVF HBF
  go_wp2_with fail
  refine (HHR.out wG HBG.out).mono ?_
  rintro e wH ⟨rfl, hbH⟩
  have HBH := Lib.hid (Bl.trans HBG.out hbH)
  have HVH := Lib.hid (And.intro (HVG.out.1.below hbH) (And.intro (HVG.out.2.1.below hbH) (HVG.out.2.2.below hbH)))
  clear hbH HVG HBG HHR
  go_wp2_with fail
  refine (HNF.out _).mono ?_
  rintro e w' ⟨rfl, rfl⟩
  go_wp2_with fail
  refine (HMF.out _).mono ?_
  rintro e w' ⟨rfl, rfl⟩
  go_wp2_with fail
  refine (HO3.out _ _ _ _ H2.out _ _ (blk_new wH _)).mono ?_
  rintro e w' ⟨rfl, rfl⟩
  go_wp2_with fail
  refine (HSF.out _).mono ?_
  rintro e w' ⟨rfl, rfl⟩
  go_wp2_with fail
  refine (HO2.out _ _ _ H3.out _ _ (blk_new' (g := wH.heap.size + 1) _ _ (by simp))).mono ?_
  rintro e w' ⟨rfl, rfl⟩
  go_wp2_with fail
  refine (HMF.out _).mono ?_
  rintro e w' ⟨rfl, rfl⟩
  obtain ⟨wI, hwI⟩ : ∃ wI, wI = (wH.alloc (.cells #[.int .i64 F, .int .i64 nf, .int .i64 mf] 35)).alloc (.cells #[.int .i64 one, .int .i64 sf] 35) := ⟨_, rfl⟩
  rw [← hwI]
  have hbI : Below wH.heap.size wH wI := by rw [hwI]; exact Bl.alloc (Bl.alloc (Below.refl _ _) _) _
  have HBI := Lib.hid (Bl.trans HBH.out hbI)
  have HVI := Lib.hid (And.intro (HVH.out.1.below hbI) (And.intro (HVH.out.2.1.below hbI) (HVH.out.2.2.below hbI)))
  clear hwI hbI HVH HBH
  go_wp2_with fail
  refine (HWF.out wI HBI.out).mono ?_
  rintro e wJ ⟨rfl, hbJ⟩
  have HBJ := Lib.hid (Bl.trans HBI.out hbJ)
  have HVJ := Lib.hid (And.intro (HVI.out.1.below hbJ) (And.intro (HVI.out.2.1.below hbJ) (HVI.out.2.2.below hbJ)))
  clear hbJ HVI HBI HWF
  go_wp2_with fail
  refine (HO3.out _ _ _ _ H4.out _ _ (blk_new wJ _)).mono ?_
  rintro e w' ⟨rfl, rfl⟩
  go_wp2_with fail
  refine (HMF.out _).mono ?_
  rintro e w' ⟨rfl, rfl⟩
  go_wp2_with fail
  refine (HO2.out _ _ _ H5.out _ _ (blk_new' (g := wJ.heap.size + 1) _ _ (by simp))).mono ?_
  rintro e w' ⟨rfl, rfl⟩
  obtain ⟨wK, hwK⟩ : ∃ wK, wK = (wJ.alloc (.cells #[.int .i64 F, .int .i64 mf, .int .i64 wf] 35)).alloc (.cells #[.int .i64 F, .int .i64 mf] 35) := ⟨_, rfl⟩
  rw [← hwK]
  have hbK : Below wJ.heap.size wJ wK := by rw [hwK]; exact Bl.alloc (Bl.alloc (Below.refl _ _) _) _
  have HBK := Lib.hid (Bl.trans HBJ.out hbK)
  have HVK := Lib.hid (And.intro (HVJ.out.1.below hbK) (And.intro (HVJ.out.2.1.below hbK) (HVJ.out.2.2.below hbK)))
  clear hwK hbK HVJ HBJ HMF HNF HSF HO3 HO2 H1 H2 H3 H4 H5
  have HOK : Hid (F = 0 → OkF rs fs) := Lib.hid fun h => feedsF_right (HF.out ▸ h)
  have HF1 : Hid (one = 0 → ∀ W, Below w7.heap.size w7 W → Calls Tryz.prog 28 #[.slice ra rs.length rc, .slice fa fs.length fc, .string fd, .int .i64 t] W fun e w' => (∃ v, e = .returned v ∧ OwnR TLo w' W.heap.size v M1) ∧ Below W.heap.size W w') := Lib.hid fun h W hW => by
    have h0 := askF_zero (HE1.out.1 ▸ h) (by decide)
    have q := FeederOf_any rs fs fd t _ _ W (HIR.out W hW).1 (HIR.out W hW).2.1 (HOK.out h0.1) HN.out.2 (Nat.le_trans HFD.out (by unfold maxLen; omega))
    rw [show M1 = feederM rs fs t fd by rw [HE2.out.1, if_pos h]]; exact q
  have HL2 : Hid (two = 0 → ∀ W, Below w7.heap.size w7 W → Calls Tryz.prog 29 #[.slice ra rs.length rc, .slice fa fs.length fc, .string ky, .int .i64 t] W fun e w' => e = .returned (.int .i64 lf) ∧ Below W.heap.size W w') := Lib.hid fun h W hW => by
    have h0 := askF_zero (HE1.out.2.1 ▸ h) (by decide)
    have q := LeftOn_any rs fs ky t _ _ W (HIR.out W hW).1 (HIR.out W hW).2.1 (HOK.out h0.1) HN.out.2 (Nat.le_trans HKY.out (by unfold maxLen; omega))
    rw [show lf = (runM t (newM rs) 0 fs).left ky by rw [HE2.out.2.1, if_pos h]]; exact q
  have HW2 : Hid (two = 0 → ∀ W, Below w7.heap.size w7 W → Calls Tryz.prog 30 #[.slice ra rs.length rc, .slice fa fs.length fc, .string ky, .int .i64 t] W fun e w' => e = .returned (.tuple #[.string pq, .bool pb]) ∧ Below W.heap.size W w') := Lib.hid fun h W hW => by
    have h0 := askF_zero (HE1.out.2.1 ▸ h) (by decide)
    have q := WhereIs_any rs fs ky t _ _ W (HIR.out W hW).1 (HIR.out W hW).2.1 (HOK.out h0.1) HN.out.2
    rw [show pq = (runM t (newM rs) 0 fs).pos ky by rw [HE4.out.1, if_pos h], show pb = decide ((runM t (newM rs) 0 fs).pos ky ≠ ByteArray.empty) by rw [HE4.out.2, if_pos h]]; exact q
  have HL3 : Hid (three = 0 → ∀ W, Below w7.heap.size w7 W → Calls Tryz.prog 31 #[.slice ra rs.length rc, .slice fa fs.length fc, .string fd, .int .i64 t, .int .i64 ea] W fun e w' => e = .returned (.int .i64 ls') ∧ Below W.heap.size W w') := Lib.hid fun h W hW => by
    have h3 : one = 0 ∧ eb = true := by
      have q := HE1.out.2.2.2.1
      rw [h] at q
      by_cases h1 : one = 0
      · rw [if_pos h1] at q
        cases eb
        · cases q
        · exact ⟨h1, rfl⟩
      · rw [if_neg h1] at q; exact absurd q.symm h1
    have h0 := askF_zero (HE1.out.1 ▸ h3.1) (by decide)
    have he : 1 ≤ ea := by
      have q := HE3.out.2.2.2
      rw [h3.2] at q
      unfold inB at q
      simp at q
      exact q.1
    have q := LastsFor_any rs fs fd t ea _ _ W (HIR.out W hW).1 (HIR.out W hW).2.1 (HOK.out h0.1) HN.out.2 (Nat.le_trans HFD.out (by unfold maxLen; omega)) he
    rw [show ls' = lastsM rs fs t fd ea by rw [HE2.out.2.2.1, if_pos h3]]; exact q
  have HW4 : Hid (four = 0 → ∀ W, Below w7.heap.size w7 W → Calls Tryz.prog 32 #[.slice ra rs.length rc, .slice fa fs.length fc, .int .i64 t, .slice wa ws.length wc'] W fun e w' => (∃ v, e = .returned v ∧ OwnR TS w' W.heap.size v M4) ∧ Below W.heap.size W w') := Lib.hid fun h W hW => by
    have h0 : askF F true mb 0 = 0 := by
      have q := HE1.out.2.2.2.2
      rw [h] at q
      unfold wrongE at q
      rw [← HF.out, ← HE3.out.1] at q
      by_cases h1 : askF F true mb 0 = 0
      · exact h1
      · rw [if_neg h1] at q; exact q.symm
    have q := WrongOf_any rs fs t ws _ _ _ W (HIR.out W hW).1 (HIR.out W hW).2.1 (HIR.out W hW).2.2 (HOK.out (askF_mom h0).1) HN.out.2 (by have := HWL.out; omega) HWZ.out
    rw [show M4 = wrongM (runM t (newM rs) 0 fs) ws by rw [HE2.out.2.2.2.1, if_pos h]]; exact q
  have HI5 : Hid (five = 0 → ∀ W, Below w7.heap.size w7 W → Calls Tryz.prog 33 #[.slice ra rs.length rc, .slice fa fs.length fc, .int .i64 t] W fun e w' => (∃ v, e = .returned v ∧ OwnR TS w' W.heap.size v M5) ∧ Below W.heap.size W w') := Lib.hid fun h W hW => by
    have q := IdleOf_any rs fs t _ _ W (HIR.out W hW).1 (HIR.out W hW).2.1 (HOK.out (askF_mom (HE1.out.2.2.1 ▸ h)).1) HN.out.2
    rw [show M5 = idleM (runM t (newM rs) 0 fs) rs by rw [HE2.out.2.2.2.2, if_pos h]]; exact q
  have HZ1 : Hid (¬ one = 0 → M1 = []) := Lib.hid fun h => by rw [HE2.out.1, if_neg h]
  have HZ2 : Hid (¬ two = 0 → lf = 0 ∧ pq = ByteArray.empty ∧ pb = false) := Lib.hid fun h => ⟨by rw [HE2.out.2.1, if_neg h], by rw [HE4.out.1, if_neg h], by rw [HE4.out.2, if_neg h]⟩
  have HZ3 : Hid (¬ three = 0 → ls' = 0) := Lib.hid fun h => by
    rw [HE2.out.2.2.1]
    refine if_neg fun h3 => h ?_
    rw [HE1.out.2.2.2.1, if_pos h3.1, if_pos h3.2]
  have HZ4 : Hid (¬ four = 0 → M4 = []) := Lib.hid fun h => by rw [HE2.out.2.2.2.1, if_neg h]
  have HZ5 : Hid (¬ five = 0 → M5 = []) := Lib.hid fun h => by rw [HE2.out.2.2.2.2, if_neg h]
  go_upto_if 145 with fail
  go_cut [30] from 145 to 150 (fun v30 wx => ∃ (a : Option Addr) (n c : Nat), v30 = .slice a n c ∧ Hid (Below wK.heap.size wK wx ∧ RecR TLo wx 0 (.slice a n c) M1))
  case first =>
    by_cases h0 : one = 0
    · have HX := Lib.hid (HF1.out h0 wK HBK.out)
      subst h0
      go_wp2_with fail
      refine HX.out.mono ?_
      rintro e wM ⟨⟨u, rfl, hu⟩, hbM⟩
      obtain ⟨ua, un, uc, rfl⟩ : ∃ a n c, u = .slice a n c := by obtain ⟨a, c, hv, _, _⟩ := hu.form; exact ⟨a, _, c, hv⟩
      have HREL := Lib.hid (And.intro hbM hu.rec0)
      clear hu hbM HX
      go_wp2
      go_meet
      case rel => exact ⟨_, _, _, rfl, HREL⟩
    · have HREL : Hid (Below wK.heap.size wK wK ∧ RecR TLo wK 0 (.slice none 0 0) M1) := Lib.hid ⟨Below.refl _ _, by rw [HZ1.out h0]; exact RecR.nil _ _⟩
      go_wp2
      go_meet
      case rel => exact ⟨none, 0, 0, rfl, HREL⟩
  case rest =>
  obtain ⟨b1, n1, e1, rfl, HQ1⟩ := hcut
  generalize wc = wL at *
  have HBL := Lib.hid (Bl.trans HBK.out HQ1.out.1)
  have HVL := Lib.hid (And.intro HQ1.out.2 (And.intro (HVK.out.1.below HQ1.out.1) (And.intro (HVK.out.2.1.below HQ1.out.1) (HVK.out.2.2.below HQ1.out.1))))
  clear HBK HVK HQ1 HF1 HZ1
  go_upto_if 152 with fail
  go_cut [33, 35, 36] from 152 to 165 (fun v33 v35 v36 wx => v33 = .int .i64 lf ∧ v35 = .string pq ∧ v36 = .bool pb ∧ Hid (Below wL.heap.size wL wx))
  case first =>
    by_cases h0 : two = 0
    · have HX := Lib.hid (HL2.out h0 wL HBL.out)
      have HY := Lib.hid fun W (hW : Below wL.heap.size wL W) => HW2.out h0 W (Bl.trans HBL.out hW)
      subst h0
      go_wp2_with fail
      refine HX.out.mono ?_
      rintro e wM ⟨rfl, hbM⟩
      have HBM := Lib.hid hbM
      clear hbM HX
      go_wp2_with fail
      refine (HY.out wM HBM.out).mono ?_
      rintro e wN ⟨rfl, hbN⟩
      have HREL := Lib.hid (Bl.trans HBM.out hbN)
      clear hbN HY
      go_wp2
      go_meet
      case rel => exact ⟨rfl, rfl, rfl, HREL⟩
    · obtain ⟨r1, r2, r3⟩ := HZ2.out h0
      have HREL : Hid ((0 : Int) = lf ∧ ByteArray.empty = pq ∧ false = pb) := Lib.hid ⟨r1.symm, r2.symm, r3.symm⟩
      clear r1 r2 r3
      go_wp2
      go_meet
      case rel => exact ⟨by rw [← HREL.out.1], by rw [← HREL.out.2.1]; rfl, by rw [← HREL.out.2.2], Lib.hid (Below.refl _ _)⟩
  case rest =>
  obtain ⟨rfl, rfl, rfl, HQ2⟩ := hcut
  generalize wc = wM at *
  have HBM := Lib.hid (Bl.trans HBL.out HQ2.out)
  have HVM := Lib.hid (And.intro (HVL.out.1.below HQ2.out) (And.intro (HVL.out.2.1.below HQ2.out) (And.intro (HVL.out.2.2.1.below HQ2.out) (HVL.out.2.2.2.below HQ2.out))))
  clear HBL HVL HQ2 HL2 HW2 HZ2
  go_upto_if 167 with fail
  go_cut [34] from 167 to 173 (fun v34 wx => v34 = .int .i64 ls' ∧ Hid (Below wM.heap.size wM wx))
  case first =>
    by_cases h0 : three = 0
    · have HX := Lib.hid (HL3.out h0 wM HBM.out)
      subst h0
      go_wp2_with fail
      refine HX.out.mono ?_
      rintro e wN ⟨rfl, hbN⟩
      have HREL := Lib.hid hbN
      clear hbN HX
      go_wp2
      go_meet
      case rel => exact ⟨rfl, HREL⟩
    · have HREL : Hid ((0 : Int) = ls') := Lib.hid (HZ3.out h0).symm
      go_wp2
      go_meet
      case rel => exact ⟨by rw [← HREL.out], Lib.hid (Below.refl _ _)⟩
  case rest =>
  obtain ⟨rfl, HQ3⟩ := hcut
  generalize wc = wN at *
  have HBN := Lib.hid (Bl.trans HBM.out HQ3.out)
  have HVN := Lib.hid (And.intro (HVM.out.1.below HQ3.out) (And.intro (HVM.out.2.1.below HQ3.out) (And.intro (HVM.out.2.2.1.below HQ3.out) (HVM.out.2.2.2.below HQ3.out))))
  clear HBM HVM HQ3 HL3 HZ3
  go_upto_if 175 with fail
  go_cut [31] from 175 to 180 (fun v31 wx => ∃ (a : Option Addr) (n c : Nat), v31 = .slice a n c ∧ Hid (Below wN.heap.size wN wx ∧ RecR TS wx 0 (.slice a n c) M4))
  case first =>
    by_cases h0 : four = 0
    · have HX := Lib.hid (HW4.out h0 wN HBN.out)
      subst h0
      go_wp2_with fail
      refine HX.out.mono ?_
      rintro e wO ⟨⟨u, rfl, hu⟩, hbO⟩
      obtain ⟨ua, un, uc, rfl⟩ : ∃ a n c, u = .slice a n c := by obtain ⟨a, c, hv, _, _⟩ := hu.form; exact ⟨a, _, c, hv⟩
      have HREL := Lib.hid (And.intro hbO hu.rec0)
      clear hu hbO HX
      go_wp2
      go_meet
      case rel => exact ⟨_, _, _, rfl, HREL⟩
    · have HREL : Hid (Below wN.heap.size wN wN ∧ RecR TS wN 0 (.slice none 0 0) M4) := Lib.hid ⟨Below.refl _ _, by rw [HZ4.out h0]; exact RecR.nil _ _⟩
      go_wp2
      go_meet
      case rel => exact ⟨none, 0, 0, rfl, HREL⟩
  case rest =>
  obtain ⟨b4, n4, e4, rfl, HQ4⟩ := hcut
  generalize wc = wO at *
  have HBO := Lib.hid (Bl.trans HBN.out HQ4.out.1)
  have HVO := Lib.hid (And.intro HQ4.out.2 (And.intro (HVN.out.1.below HQ4.out.1) (And.intro (HVN.out.2.1.below HQ4.out.1) (And.intro (HVN.out.2.2.1.below HQ4.out.1) (HVN.out.2.2.2.below HQ4.out.1)))))
  clear HBN HVN HQ4 HW4 HZ4
  go_upto_if 182 with fail
  go_cut [32] from 182 to 186 (fun v32 wx => ∃ (a : Option Addr) (n c : Nat), v32 = .slice a n c ∧ Hid (Below wO.heap.size wO wx ∧ RecR TS wx 0 (.slice a n c) M5))
  case first =>
    by_cases h0 : five = 0
    · have HX := Lib.hid (HI5.out h0 wO HBO.out)
      subst h0
      go_wp2_with fail
      refine HX.out.mono ?_
      rintro e wP ⟨⟨u, rfl, hu⟩, hbP⟩
      obtain ⟨ua, un, uc, rfl⟩ : ∃ a n c, u = .slice a n c := by obtain ⟨a, c, hv, _, _⟩ := hu.form; exact ⟨a, _, c, hv⟩
      have HREL := Lib.hid (And.intro hbP hu.rec0)
      clear hu hbP HX
      go_wp2
      go_meet
      case rel => exact ⟨_, _, _, rfl, HREL⟩
    · have HREL : Hid (Below wO.heap.size wO wO ∧ RecR TS wO 0 (.slice none 0 0) M5) := Lib.hid ⟨Below.refl _ _, by rw [HZ5.out h0]; exact RecR.nil _ _⟩
      go_wp2
      go_meet
      case rel => exact ⟨none, 0, 0, rfl, HREL⟩
  case rest =>
  obtain ⟨b5, n5, e5, rfl, HQ5⟩ := hcut
  generalize wc = wP at *
  have HBP := Lib.hid (Bl.trans HBO.out HQ5.out.1)
  have HVP := Lib.hid (And.intro HQ5.out.2 (And.intro (HVO.out.1.below HQ5.out.1) (And.intro (HVO.out.2.1.below HQ5.out.1) (And.intro (HVO.out.2.2.1.below HQ5.out.1) (And.intro (HVO.out.2.2.2.1.below HQ5.out.1) (HVO.out.2.2.2.2.below HQ5.out.1))))))
  clear HBO HVO HQ5 HI5 HZ5
  have HM1 : Hid (M1.length ≤ 1000) := Lib.hid (by
    rw [HE2.out.1]
    by_cases h : one = 0
    · rw [if_pos h]
      have h0 := HOK.out (askF_zero (HE1.out.1 ▸ h) (by decide)).1
      have h1 := (runM_inv (at' := t) fs (newM rs) 0 0 (newM_inv fun r hr => (h0.rz r hr).2) h0.lz).ln fd
      have h2 := HFL.out
      unfold feederM loadL
      rw [List.length_map]
      omega
    · rw [if_neg h]; simp)
  have HM4 : Hid (M4.length ≤ 1000) := Lib.hid (by
    rw [HE2.out.2.2.2.1]
    by_cases h : four = 0
    · rw [if_pos h]; exact Nat.le_trans (wrongM_few _ _) (Nat.le_trans HWL.out (by omega))
    · rw [if_neg h]; simp)
  have HM5 : Hid (M5.length ≤ 1000) := Lib.hid (by
    rw [HE2.out.2.2.2.2]
    by_cases h : five = 0
    · rw [if_pos h]; exact Nat.le_trans (idleM_few _ _) (Nat.le_trans HRL.out (by omega))
    · rw [if_neg h]; simp)
  have HQ := Lib.hid (EqualLo_any M1 M1 (.slice a1 M1.length c1) (.slice b1 n1 e1) wP (by have := HM1.out; omega) (by have := HM1.out; omega) HVP.out.2.2.2.1 HVP.out.2.2.1)
  rw [decide_eq_true rfl] at HQ
  go_wp2_with fail
  refine HQ.out.mono ?_
  rintro e y1 ⟨rfl, hy1⟩
  have HY1 := Lib.hid hy1
  have HQ4 := Lib.hid (SEqualF_any M4 (.slice a4 M4.length c4) (.slice b4 n4 e4) y1 (by have := HM4.out; omega) (HVP.out.2.2.2.2.1.below hy1) (HVP.out.2.1.below hy1))
  clear hy1 HQ
  go_wp2_with fail
  refine HQ4.out.mono ?_
  rintro e y2 ⟨rfl, hy2⟩
  have HY2 := Lib.hid (Bl.trans HY1.out hy2)
  have HQ5 := Lib.hid (SEqualF_any M5 (.slice a5 M5.length c5) (.slice b5 n5 e5) y2 (by have := HM5.out; omega) (HVP.out.2.2.2.2.2.below HY2.out) (HVP.out.1.below HY2.out))
  clear hy2 HQ4
  go_wp2_with fail
  refine HQ5.out.mono ?_
  rintro e y3 ⟨rfl, hy3⟩
  have HY3 := Lib.hid (Bl.trans HY2.out hy3)
  clear hy3 HQ5
  go_wp2_with fail
  refine (reeled_any y3).mono ?_
  rintro e y4 ⟨rfl, hy4⟩
  have HY4 := Lib.hid (Bl.trans HB7.out (Bl.trans HBP.out (Bl.trans HY3.out hy4)))
  clear hy4
  go_wp2
  go_ret
  exact ⟨rfl, HY4.out⟩
end Go.Proofs.YtcfeoapbbkfbnaaGreatDoor
