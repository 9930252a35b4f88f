/- The walk of the law ChosenAreInTime: whatever the input: true. -/
import Derived.Test.YtnmimagninhkkaaGreatDoorCh2
import Derived.Test.YtnmimagninhkkaaGreatDoorCh3
import Derived.Test.YtnmimagninhkkaaGreatDoorSorted
import Derived.Test.YtnmimagninhkkaaGreatDoorReady2
import Derived.Test.YtnmimagninhkkaaGreatDoorStart
import Derived.Shelf.SlSorted.IsSorted
namespace Go.Proofs.YtnmimagninhkkaaGreatDoor
open Go.RowKit Go.Sort

theorem IsSortedI_any (l : List Int) (v : Value) (w : World) (hlen : l.length ≤ 100000) (hl : l.Pairwise fun a b => a ≤ b) (rl : Ints w 0 v l) :
    Calls Tryz.prog 57 #[v] w fun e w' => e = .returned (.bool true) ∧ Below w.heap.size w w' := by
  obtain ⟨a, cap, rfl, _, _⟩ := Ints.form rl
  by_cases h0 : l = []
  · subst h0
    have := Go.Proofs.AnyO.slices_IsSorted_int_none Tryz.isSortedI a cap w
    change Calls Tryz.prog 57 _ _ _ at this
    exact this.mono fun e w' ⟨h1, h2⟩ => ⟨h1, h2 ▸ Below.refl _ _⟩
  · obtain ⟨y, hy⟩ : ∃ y, l[0]? = some y := ⟨_, List.getElem?_eq_getElem (List.length_pos_iff.2 h0)⟩
    obtain ⟨b, o, rfl, _, _, _⟩ := Ints.at rl hy
    have := Go.Proofs.AnyO.slices_IsSorted_int Tryz.isSortedI b o cap l.toArray w (fun i hi => by
      have hi' : i < l.length := by simpa using hi
      obtain ⟨b', o', e, _, _, hc⟩ := Ints.at rl (k := i) (x := l[i]) (List.getElem?_eq_getElem hi')
      injection e with e; injection e with e1 e2 _; subst e1 e2
      rw [hc]
      simp [hi']) (by simp; omega)
    change Calls Tryz.prog 57 _ _ _ at this
    have hd : Lib.downOK (fun x y : Int => decide (x < y)) l.toArray (l.toArray.size - 1) = true := by
      rw [Lib.downOK_iff]
      intro i hi
      have hi' : i + 1 < l.length := by simp at hi; omega
      have h1 := (List.pairwise_iff_getElem.1 hl) i (i + 1) (by omega) hi' (by omega)
      have h2 : l.toArray[i + 1]! = l[i + 1] := by simp [hi']
      have h3 : l.toArray[i]! = l[i] := by simp [show i < l.length by omega]
      rw [h2, h3]
      simpa using h1
    rw [hd] at this
    simp only [List.size_toArray] at this
    exact this.mono fun e w' ⟨h1, q, h2⟩ => ⟨h1, h2 ▸ Bl.drewN (Below.refl _ _) q⟩
theorem asc_nats {l : List Nat} (h : l.Pairwise (· < ·)) : (nats l).Pairwise fun a b => a ≤ b := by
  unfold nats
  rw [List.pairwise_map]
  exact h.imp fun h => by omega
theorem sumO_take (f : Nat → Int) {l : List Nat} {k i : Nat} (h : l[k]? = some i) : sumO f (l.take (k + 1)) = sumO f (l.take k) + f i := by rw [take_snoc h, sumO_snoc]
set_option maxHeartbeats 20000000 in
set_option maxRecDepth 100000 in
theorem ChosenAreInTime_any (l : List Int) (v : Value) (w : World) (rl : Ints w 0 v l) (hl : ∀ x ∈ l, -9223372036854775808 ≤ x ∧ x ≤ 9223372036854775807) :
    Calls Tryz.prog 8 #[v] w fun e w' => e = .returned (.bool true) ∧ Below w.heap.size w w' := by
  obtain ⟨va, cap, rfl, hc1, hc2⟩ := Ints.form rl
  have hs0 := Str.begin rl hl
  have hb0 := Bl.alloc (Below.refl w.heap.size w) (.cells #[.slice va l.length cap, .int .i64 0] 25)
  clear rl hl
  go_enter Tryz.func8, Tryz.ntmps8
  go_wp2_with fail
  refine (WorkList_any _ 0 _ hs0 (by omega)).mono ?_
  rintro e w1 ⟨vw, ws, rfl, hO1, hW6, hWs, hs1, hg1⟩
  have hb1 := Below.trans hb0 (Gr.below hg1 (Nat.le_refl _) hb0.size)
  obtain ⟨wa, wcap, rfl, hwc1, hwc2⟩ := hO1.form
  have HWS := Lib.hid hWs
  have HO1 := Lib.hid hO1
  clear hs0 hb0 hg1 hWs hO1
  go_wp2_with fail
  refine (Range_any _ _ 0 90 _ hs1 (by omega) (by omega) (by omega) (by omega) (by omega)).mono ?_
  rintro e w2 ⟨m, rfl, ⟨hm0, hm1, _⟩, hs2, hg2⟩
  have hm2 := hm1 (by omega)
  clear hm1
  have hb2 := Below.trans hb1 (Gr.below hg2 (Nat.le_refl _) hb1.size)
  have hOw := HO1.out.grown hg2 (by simp)
  have rW := hOw.rec.mono (show w.heap.size + 1 ≤ _ by simp)
  clear hs1 hg2 hb1 HO1 hOw
  go_wp2_with fail
  refine (ChooseFault_any ws m _ w2 (by omega) HWS.out (rW.mono (Nat.zero_le _))).mono ?_
  rintro e w3 ⟨⟨f, rfl, hf⟩, hb3⟩
  have hb03 := Bl.trans hb2 hb3
  have rW3 := rW.below hb3
  have hs3 := hs2.belowB hb3 hs2.lt
  clear hb2 hb3 rW hs2
  by_cases hF : f = 0
  · obtain ⟨hG, _, _⟩ := hf hF
    subst hF
    have HG := Lib.hid hG
    clear hf
    have HCH := Lib.hid (fun (W : World) (mm : Int) (h0 : 0 ≤ mm) (h1 : mm ≤ 10000) (r : RecR TW W 0 (.slice wa ws.length wcap) ws) => Choose_any ws mm _ W hG h0 h1 HWS.out r)
    clear hG
    have hl3 := hs3.lt
    go_wp2_with fail
    refine (HCH.out w3 m (by omega) (by omega) (rW3.mono (Nat.zero_le _))).mono ?_
    rintro e w4 ⟨⟨s, vr, rfl, hK, hB⟩, hb4⟩
    have HB := Lib.hid hB
    have hb04 := Bl.trans hb03 hb4
    have rW4 := rW3.below hb4
    have rK4 := hK.ints.mono (show w.heap.size + 1 ≤ _ by omega)
    have hs4 := hs3.belowB hb4 hl3
    obtain ⟨ka, kc, hvr⟩ := own_formI hK
    subst hvr
    have hK6 : (setL s ws.length).length ≤ 6 := Nat.le_trans (setL_len s ws.length) hW6
    have HASC := Lib.hid (setL_asc s ws.length)
    have HLT := Lib.hid (setL_lt s ws.length)
    have HSU := Lib.hid (HG.out.sums s ws.length (Nat.le_refl _))
    obtain ⟨K, hKK⟩ : ∃ K, K = setL s ws.length := ⟨_, rfl⟩
    obtain ⟨v1, hv1⟩ : ∃ v1, v1 = sumO (wkV ws) K := ⟨_, rfl⟩
    rw [← hKK] at hK6 HASC HLT HSU rK4
    rw [← hKK, ← hv1]
    have HKK := Lib.hid hKK
    have HV1 := Lib.hid hv1
    have hv1b : 0 ≤ v1 ∧ v1 ≤ 14000000000 := by rw [hv1]; exact HSU.out.2
    clear hB hb03 hb4 rW3 hs3 hK hKK hv1
    go_wp2_with fail
    refine (Range_any _ _ 0 30 _ hs4 (by omega) (by omega) (by omega) (by omega) (by omega)).mono ?_
    rintro e w5 ⟨d, rfl, ⟨hd0, hd1, _⟩, hs5, hg5⟩
    have hd2 := hd1 (by omega)
    have hst := hs4.lt
    have hb05 := Below.trans hb04 (Gr.below hg5 (Nat.le_refl _) hb04.size)
    have hwm : IntKind.i64.wrap (m + d) = m + d := IntWalk.i64_in _ (by omega)
    have rW5 := (rW4.grown hg5 (Nat.lt_succ_self _)).mono (Nat.zero_le _)
    have rK5 := (rK4.grown hg5 (Nat.lt_succ_self _)).mono (Nat.zero_le _)
    clear hd1 hs4 hs5 hg5 rW4 rK4 hb04
    go_wp2_with fail
    refine (HCH.out w5 (m + d) (by omega) (by omega) rW5).mono ?_
    rintro e w6 ⟨⟨s2, vr2, rfl, hK2, hB2⟩, hb6⟩
    have hmore := BestS.more HB.out hB2 (by omega)
    rw [← HKK.out, ← HV1.out] at hmore
    obtain ⟨v2, hv2⟩ : ∃ v2, v2 = sumO (wkV ws) (setL s2 ws.length) := ⟨_, rfl⟩
    rw [← hv2] at hmore
    rw [← hv2]
    have hlt12 : ¬ v2 < v1 := by omega
    obtain ⟨ka2, kc2, hvr2⟩ := own_formI hK2
    subst hvr2
    have hb06 := Bl.trans hb05 hb6
    have rW6 := rW5.below hb6
    have rK6 := rK5.below hb6
    have HFIT : Hid (sumO (wkM ws) K ≤ m) := Lib.hid (by rw [HKK.out]; exact HB.out.fits)
    clear hv2 hB2 hK2 hb6 hb05 rW5 rK5 hmore HCH
    have HIS := Lib.hid (IsSortedI_any (nats K) _ w6 (by rw [nats_len]; omega) (asc_nats HASC.out) rK6)
    go_wp2_with fail
    refine HIS.out.mono ?_
    rintro e w7 ⟨rfl, hb7⟩
    have hb07 := Bl.trans hb06 hb7
    have rW7 := rW6.below hb7
    have rK7 := rK6.below hb7
    clear hb06 hb7 rW6 rK6 HIS
    go_wp2_with fail
    go_loopw [5, 7, 61] (fun mv nv i wr => ∃ (k : Nat) (mi ni : Int), k ≤ K.length ∧ i = .int .i64 k ∧ mv = .int .i64 mi ∧ nv = .int .i64 ni ∧ Hid (ni = v1 - sumO (wkV ws) (K.take k) ∧ mi = m - sumO (wkM ws) (K.take k)) ∧ w7 = wr) (fun _ _ i _ => K.length - (intOf i).toNat)
    case atStart => exact ⟨0, m, v1, Nat.zero_le _, rfl, rfl, rfl, Lib.hid (by simp [sumO]), rfl⟩
    case round =>
      obtain ⟨k, mi, ni, hk, rfl, rfl, rfl, hnm, rfl⟩ := hrel
      by_cases hkl : k < K.length
      · obtain ⟨x, hx⟩ : ∃ x, K[k]? = some x := ⟨_, List.getElem?_eq_getElem hkl⟩
        have hxn := HLT.out x (List.mem_of_getElem? hx)
        obtain ⟨y, hy⟩ : ∃ y, ws[x]? = some y := ⟨_, List.getElem?_eq_getElem hxn⟩
        obtain ⟨b2, o2, hae, _, _, hx2⟩ := Ints.at rK7 (nats_at hx)
        subst hae
        obtain ⟨b3, o3, hae, _, _, y1, y2, y3⟩ := works_at rW7 hy
        subst hae
        have hyb := HG.out.all y (List.mem_of_getElem? hy)
        have hwm2 : wkM ws x = y.2.1 := by unfold wkM; rw [hy]; rfl
        have hwv2 : wkV ws x = y.2.2 := by unfold wkV; rw [hy]; rfl
        have HSV : Hid (sumO (wkV ws) (K.take (k + 1)) = sumO (wkV ws) (K.take k) + y.2.2) := Lib.hid (by rw [sumO_take _ hx, hwv2])
        have HSM : Hid (sumO (wkM ws) (K.take (k + 1)) = sumO (wkM ws) (K.take k) + y.2.1) := Lib.hid (by rw [sumO_take _ hx, hwm2])
        have sb1 := sumO_bound (wkV ws) 1000000000 (by omega) HG.out.boundV (K.take k)
        have sb2 := sumO_bound (wkM ws) 10000 (by omega) HG.out.boundM (K.take k)
        have sb3 : (K.take k).length ≤ 6 := by rw [List.length_take]; omega
        have hni : -100000000000 ≤ ni ∧ ni ≤ 100000000000 ∧ -1000000 ≤ mi ∧ mi ≤ 1000000 := by have := hnm.out; omega
        obtain ⟨yb, ym, yv⟩ := y
        simp only at y1 y2 y3 hyb HSV HSM
        have hw1 : IntKind.i64.wrap ((k : Int) + 1) = ((k + 1 : Nat) : Int) := by rw [IntWalk.i64_in _ (by omega)]; omega
        have hw2 : IntKind.i64.wrap (ni - yv) = ni - yv := IntWalk.i64_in _ (by omega)
        have hw3 : IntKind.i64.wrap (mi - ym) = mi - ym := IntWalk.i64_in _ (by omega)
        have e1 : ¬ (x : Int) < 0 := by omega
        have e2 : ¬ ((ws.length : Nat) : Int) ≤ (x : Int) := by omega
        have HASK : Hid (∀ z, 0 < k → K[k - 1]? = some z → z < x) := Lib.hid (fun z hk0 hz => by
          obtain ⟨h1, h2⟩ := List.getElem?_eq_some_iff.1 hz
          obtain ⟨h3, h4⟩ := List.getElem?_eq_some_iff.1 hx
          have := (List.pairwise_iff_getElem.1 HASC.out) (k - 1) k h1 h3 (by omega)
          rw [h2, h4] at this; exact this)
        clear hwm2 hwv2 hx hy sb1 sb2
        by_cases hk0 : k = 0
        · have e3 : ¬ (0 : Int) < (k : Int) := by omega
          clear hk0
          go_wp2
          go_roundw
          case rel => exact ⟨k + 1, mi - ym, ni - yv, by omega, by go_num, rfl, rfl, Lib.hid (by rw [HSV.out, HSM.out]; have := hnm.out; omega), trivial⟩
          case measure => simp [intOf]; omega
        · obtain ⟨z, hz⟩ : ∃ z, K[k - 1]? = some z := ⟨_, List.getElem?_eq_getElem (by omega)⟩
          have hzx := HASK.out z (by omega) hz
          obtain ⟨b4, o4, hae, _, _, hz2⟩ := Ints.at rK7 (nats_at hz)
          injection hae with hae; injection hae with e4 e5 _; subst e4 e5
          have hw4 : IntKind.i64.wrap ((k : Int) - 1) = ((k - 1 : Nat) : Int) := by rw [IntWalk.i64_in _ (by omega)]; omega
          have e3 : (0 : Int) < (k : Int) := by omega
          have e6 : ((x : Int) == (z : Int)) = false := by rw [beq_eq_false_iff_ne]; omega
          have e7 : k - 1 < K.length := by omega
          clear hz
          go_wp2
          go_roundw
          case rel => exact ⟨k + 1, mi - ym, ni - yv, by omega, by go_num, rfl, rfl, Lib.hid (by rw [HSV.out, HSM.out]; have := hnm.out; omega), trivial⟩
          case measure => simp [intOf]; omega
      · obtain rfl : k = K.length := by omega
        have hnm2 := hnm.out
        rw [List.take_length, ← HV1.out] at hnm2
        obtain rfl : ni = 0 := by omega
        have hmi : 0 ≤ mi := by have := HFIT.out; omega
        clear hnm2 hnm
        go_wp2_with fail
        refine (ready_any _).mono ?_
        rintro e wD ⟨rfl, hbD⟩
        go_wp2
        go_ret
        exact ⟨rfl, Bl.trans hb07 hbD⟩
  · have heq : (f != 0) = true := by simpa using hF
    clear hf
    go_wp2_with fail
    refine (ready_any _).mono ?_
    rintro e wD ⟨rfl, hbD⟩
    go_wp2
    go_ret
    exact ⟨rfl, Bl.trans hb03 hbD⟩
end Go.Proofs.YtnmimagninhkkaaGreatDoor
