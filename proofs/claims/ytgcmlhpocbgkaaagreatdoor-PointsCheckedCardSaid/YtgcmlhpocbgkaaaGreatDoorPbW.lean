/- The walk of the law PointsComeBack: whatever the input: true. Condition: what lies in the library's variables. -/
import Derived.Test.YtgcmlhpocbgkaaaGreatDoorPst
import Derived.Test.YtgcmlhpocbgkaaaGreatDoorKrd
import Derived.Test.YtgcmlhpocbgkaaaGreatDoorEqP
import Derived.Test.YtgcmlhpocbgkaaaGreatDoorIsOrd
import Derived.Test.YtgcmlhpocbgkaaaGreatDoorReady2
namespace Go.Proofs.YtgcmlhpocbgkaaaGreatDoor
open Go.RowKit Go.Sort

theorem ptsF_zero {P : List Pt} (h : ptsF P 500 = 0) : P.length ≤ 500 ∧ ∀ p ∈ P, farB p = false := by
  unfold ptsF at h
  split at h
  · rename_i hl
    refine ⟨by omega, fun p hp => ?_⟩
    unfold ptF at h
    cases hf : farB p with
    | false => rfl
    | true =>
      have : P.any farB = true := List.any_eq_true.2 ⟨p, hp, hf⟩
      rw [this] at h; cases h
  · cases h
theorem far_Bd {p : Pt} (h : farB p = false) : Bd p := by
  unfold farB inB at h
  unfold Bd
  simp at h
  omega
theorem digs_Bd {n : Int} (h1 : -2199023255552 ≤ n) (h2 : n ≤ 2199023255552) : (Lib.decDigits n.natAbs).length ≤ 15 := by
  have hd : (Lib.decDigits n.natAbs).length ≤ 12 + 1 := digits_le (by show n.natAbs < 10000000000000; omega)
  omega
/-- what is written is read as it was. -/
theorem ptsRead_text {P : List Pt} (hf : ptsF P 500 = 0) : ptsRead (textL wrP P) = (P, 0, 0) := by
  obtain ⟨hl, hp⟩ := ptsF_zero hf
  have hB : ∀ p ∈ P, Bd p := fun p h => far_Bd (hp p h)
  have h1 := textL_len P fun p h => wrP_small (hB p h)
  unfold ptsRead
  rw [if_neg (by omega), read_text rdP wrP P (fun p _ => wrP_free p) (fun p h => rdP_wrP (digs_Bd (hB p h).1 (hB p h).2.1) (digs_Bd (hB p h).2.2.1 (hB p h).2.2.2))]
  show (if ptsF P 500 = 0 then _ else _) = _
  rw [if_pos hf]
/-- what is read is written so. -/
theorem text_ptsRead {t : List UInt8} (h : (ptsRead t).2.2 = 0) : ptsF (ptsRead t).1 500 = 0 ∧ textL wrP (ptsRead t).1 = t := by
  unfold ptsRead at h ⊢
  split at h
  · cases h
  · rename_i hl
    rw [if_neg hl]
    cases hr : readS rdP 0 (splitL 10 t) with
    | error i => rw [hr] at h; cases h
    | ok l =>
      rw [hr] at h
      show ptsF (if ptsF l 500 = 0 then (l, 0, 0) else ([], 0, ptsF l 500) : List Pt × Int × Int).1 500 = 0 ∧ textL wrP (if ptsF l 500 = 0 then (l, 0, 0) else ([], 0, ptsF l 500) : List Pt × Int × Int).1 = t
      by_cases hf : ptsF l 500 = 0
      · rw [if_pos hf]
        exact ⟨hf, text_read rdP wrP (fun x a hx => (wrP_rdP hx).1) hr⟩
      · exfalso
        have : (if ptsF l 500 = 0 then (l, 0, 0) else ([], 0, ptsF l 500) : List Pt × Int × Int).2.2 = 0 := h
        rw [if_neg hf] at this
        exact hf this
theorem tourF_zero {st : Pt} {P : List Pt} (h : tourF st P 500 = 0) : ptsF P 500 = 0 := by
  unfold tourF at h
  split at h
  · cases h
  · exact h
theorem OwnP.recR {w : World} {B : Nat} {v : Value} {l : List Pt} (h : OwnP w B v l) : RecR TPo w 0 v l := by
  have h2 : OwnR TPo w B v l := by unfold OwnR; rw [flat_pcs]; exact h
  exact h2.rec0
theorem ba_data {a b : ByteArray} (h : a.data.toList = b.data.toList) : a = b := ByteArray.ext (Array.toList_inj.1 h)
set_option maxHeartbeats 4000000 in
set_option maxRecDepth 100000 in
theorem PointsComeBack_any (l : List Int) (v : Value) (w : World) (rl : Ints w 0 v l) (hl : ∀ x ∈ l, -9223372036854775808 ≤ x ∧ x ≤ 9223372036854775807) (hT : TxW w) :
    Calls Tryz.prog 10 #[v] w fun e w' => e = .returned (.bool true) ∧ Below w.heap.size w w' := by
  obtain ⟨va, cap, rfl, hc1, hc2⟩ := Ints.form rl
  have hs0 := Str.start rl hl
  have hb0 := Bl.alloc (Below.refl w.heap.size w) (.cells #[.slice va l.length cap, .int .i64 0] 25)
  obtain ⟨hg1, hg2⟩ := hT.size
  have HT := Lib.hid hT
  clear rl hl hT
  go_enter Tryz.func10, Tryz.ntmps10
  go_wp2_with fail
  refine (rightPoints_any _ 8 0 _ hs0 (by omega) (by omega)).mono ?_
  rintro e w1 ⟨st, vp, P, rfl, _, hBd, hP8, hO1, htf, hs1, hG1⟩
  have hz0 := hb0.size
  have hb1 := Below.trans hb0 (Gr.below hG1 (Nat.le_refl _) hz0)
  obtain ⟨pa, pcap, rfl, _, _⟩ := Pts.form hO1.pts
  have hpf := tourF_zero htf
  obtain ⟨sx, sy⟩ := st
  have hb2 := Bl.alloc hb1 (.cells #[.int .i64 sx, .int .i64 sy] 57)
  have hs2 := hs1.alloc (.cells #[.int .i64 sx, .int .i64 sy] 57)
  have hO2 := hO1.alloc (.cells #[.int .i64 sx, .int .i64 sy] 57)
  have hz2 := hb2.size
  obtain ⟨w2, hw2⟩ : ∃ w2, w2 = w1.alloc (.cells #[.int .i64 sx, .int .i64 sy] 57) := ⟨_, rfl⟩
  rw [← hw2] at hb2 hs2 hO2 hz2
  have HTX := Lib.hid (Text_any P (.slice pa P.length pcap) w2 (HT.out.below hb2) (by omega) (hO2.pts.mono (Nat.zero_le _)) hBd)
  rw [hpf] at HTX
  have HRT := Lib.hid (ptsRead_text hpf)
  have HPT : Hid (ptsTxt P = textL wrP P) := Lib.hid (by unfold ptsTxt; rw [if_pos hpf])
  have HO2 := Lib.hid hO2
  have HS2 := Lib.hid hs2
  have HB2 := Lib.hid hb2
  have HTL := Lib.hid (textL_len P fun p h => wrP_small (hBd p h))
  clear hb0 hG1 hO1 htf hs1 hb1 hBd hpf hO2 hs2 hb2 hs0
  unfold ptv
  go_wp2_with fail
  rw [← hw2]
  clear hw2
  refine HTX.out.mono ?_
  rintro e w3 ⟨t, rfl, ht, hb3⟩
  have htl : t.data.toList = textL wrP P := ht.trans HPT.out
  have hts : t.size ≤ 10000 := by
    have h1 : t.data.toList.length = t.size := Array.length_toList
    have h2 := HTL.out
    rw [htl] at h1
    omega
  have hB3 := HB2.out.trans (hb3.mono (by have := HB2.out.size; omega))
  have hz3 := hB3.size
  have HRD0 := Read_any t w3 (HT.out.below hB3) (by omega)
  rw [htl, HRT.out] at HRD0
  have HRD := Lib.hid HRD0
  have HS3 := Lib.hid (HS2.out.below hb3)
  have HO3 := Lib.hid (HO2.out.below hb3)
  clear ht hb3 htl HTX HRD0
  go_wp2_with fail
  refine HRD.out.mono ?_
  rintro e w4 ⟨vx, rfl, hOx, hb4⟩
  obtain ⟨xa, xcap, rfl, _, _⟩ := Pts.form hOx.pts
  have hB4 := Bl.trans hB3 hb4
  have hz4 := hB4.size
  have HEQ0 := EqualP_any P P (.slice xa P.length xcap) (.slice pa P.length pcap) w4 (by omega) (by omega) hOx.recR (HO3.out.below hb4).recR
  rw [decide_eq_true (show P = P from rfl)] at HEQ0
  have HEQ := Lib.hid HEQ0
  have HS4 := Lib.hid (HS3.out.below hb4)
  clear hOx hb4 HEQ0 HRD HRT HPT HTL
  go_wp2_with fail
  refine HEQ.out.mono ?_
  rintro e w5 ⟨rfl, hb5⟩
  have hB5 := Bl.trans hB4 hb5
  have hz5 := hB5.size
  have HPS := Lib.hid (PointString_any w.heap.size _ w5 (HS4.out.below hb5) (HT.out.below hB5) hg1 hg2 (by omega))
  clear hb5 HEQ
  go_wp2_with fail
  refine HPS.out.mono ?_
  rintro e w6 ⟨t2, rfl, ht2, hs6, hG6⟩
  have hB6 := Below.trans hB5 (Gr.below hG6 (Nat.le_refl _) hz5)
  have hz6 := hB6.size
  have HRD := Lib.hid (Read_any t2 w6 (HT.out.below hB6) (by omega))
  obtain ⟨f, hf⟩ : ∃ f, f = (ptsRead t2.data.toList).2.2 := ⟨_, rfl⟩
  obtain ⟨i2, hi2⟩ : ∃ f, f = (ptsRead t2.data.toList).2.1 := ⟨_, rfl⟩
  obtain ⟨Q, hQ⟩ : ∃ f, f = (ptsRead t2.data.toList).1 := ⟨_, rfl⟩
  rw [← hf, ← hi2, ← hQ] at HRD
  have HF := Lib.hid (And.intro hf hQ)
  clear hf hi2 hQ hs6 hG6 HPS
  by_cases h0 : f = 0
  · subst h0
    obtain ⟨q1, q2⟩ := text_ptsRead HF.out.1.symm
    rw [← HF.out.2] at q1 q2
    obtain ⟨q3, q4⟩ := ptsF_zero q1
    have HQB := Lib.hid fun p hp => far_Bd (q4 p hp)
    have HPT : Hid (ptsTxt Q = t2.data.toList) := Lib.hid (by unfold ptsTxt; rw [if_pos q1, q2])
    have HQ1 := Lib.hid q1
    clear q1 q2 q4
    go_wp2_with fail
    refine HRD.out.mono ?_
    rintro e w7 ⟨vx, rfl, hOx, hb7⟩
    obtain ⟨xa, xcap, rfl, _, _⟩ := Pts.form hOx.pts
    have hB7 := Bl.trans hB6 hb7
    have hz7 := hB7.size
    have HTX0 := Text_any Q (.slice xa Q.length xcap) w7 (HT.out.below hB7) (by omega) (hOx.pts.mono (Nat.zero_le _)) HQB.out
    rw [HQ1.out] at HTX0
    have HTX := Lib.hid HTX0
    clear hOx hb7 HTX0
    go_wp2_with fail
    refine HTX.out.mono ?_
    rintro e w8 ⟨t3, rfl, ht3, hb8⟩
    obtain rfl := ba_data (ht3.trans HPT.out)
    have hB8 := Bl.trans hB7 hb8
    clear ht3 hb8
    go_wp2_with fail
    refine (ready_any _).mono ?_
    rintro e w9 ⟨rfl, hb9⟩
    go_wp2
    go_ret
    exact ⟨rfl, Bl.trans hB8 hb9⟩
  · go_wp2_with fail
    refine HRD.out.mono ?_
    rintro e w7 ⟨vx, rfl, hOx, hb7⟩
    have hB7 := Bl.trans hB6 hb7
    clear hOx hb7
    go_wp2_with fail
    refine (ready_any _).mono ?_
    rintro e w9 ⟨rfl, hb9⟩
    go_wp2
    go_ret
    exact ⟨rfl, Bl.trans hB7 hb9⟩
end Go.Proofs.YtgcmlhpocbgkaaaGreatDoor
