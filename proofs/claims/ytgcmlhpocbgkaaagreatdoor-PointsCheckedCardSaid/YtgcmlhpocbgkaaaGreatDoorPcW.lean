/- The walk of the law PointsChecked: whatever the input: true. Condition: what lies in the library's variables. -/
import Derived.Test.YtgcmlhpocbgkaaaGreatDoorPbW
import Derived.Test.YtgcmlhpocbgkaaaGreatDoorShort
namespace Go.Proofs.YtgcmlhpocbgkaaaGreatDoor
open Go.RowKit Go.Sort

/-- whether one of two points is too far off. -/
def far2 (a b : Pt) : Bool := farB a || farB b
/-- what Distance answers: how far; the fault. -/
def dstN (a b : Pt) : Int := if far2 a b = true then 0 else dist a b
def dstF (a b : Pt) : Int := if far2 a b = true then 1 else 0
set_option maxHeartbeats 1000000 in
theorem TDist_any (a b : Pt) (w : World) (b1 : Bd a) (b2 : Bd b) : Calls Tryz.prog 33 #[.agg #[.int .i64 a.1, .int .i64 a.2], .agg #[.int .i64 b.1, .int .i64 b.2]] w fun e w' => e = .returned (.tuple #[.int .i64 (dstN a b), .int .i64 (dstF a b)]) ∧ Below w.heap.size w w' := by
  obtain ⟨ax, ay⟩ := a
  obtain ⟨bx, bY⟩ := b
  have c1 := Lib.hid (isFar_any (ax, ay))
  have c2 := Lib.hid (isFar_any (bx, bY))
  have c3 := Lib.hid fun w => distance_any (ax, ay) (bx, bY) w b1 b2
  have hA := blk_old (blk_new w (.cells #[.int .i64 ax, .int .i64 ay] 57)) (.cells #[.int .i64 bx, .int .i64 bY] 57)
  have hB := blk_new' (w.alloc (.cells #[.int .i64 ax, .int .i64 ay] 57)) (.cells #[.int .i64 bx, .int .i64 bY] 57) (g := w.heap.size + 1) (by simp)
  have hb := Bl.alloc (Bl.alloc (Below.refl w.heap.size w) (.cells #[.int .i64 ax, .int .i64 ay] 57)) (.cells #[.int .i64 bx, .int .i64 bY] 57)
  cases h1 : farB (ax, ay)
  · cases h2 : farB (bx, bY)
    · have HF : Hid (dstN (ax, ay) (bx, bY) = dist (ax, ay) (bx, bY) ∧ dstF (ax, ay) (bx, bY) = 0) := Lib.hid (by unfold dstN dstF far2; rw [h1, h2]; exact ⟨rfl, rfl⟩)
      rw [h1] at c1
      rw [h2] at c2
      clear h1 h2
      go_enter Tryz.func33, Tryz.ntmps33
      go_wp2_with fail
      refine (c1.out _).mono ?_
      rintro e w1 ⟨rfl, hb1⟩
      have hA1 := blk_below hA hb1
      have hB1 := blk_below hB hb1
      have hw1 := Bl.trans hb hb1
      obtain ⟨x1, x2⟩ := rblk2 hB1
      go_wp2_with fail
      refine (c2.out _).mono ?_
      rintro e w2 ⟨rfl, hb2⟩
      have hA2 := blk_below hA1 hb2
      have hB2 := blk_below hB1 hb2
      have hw2 := Bl.trans hw1 hb2
      obtain ⟨x3, x4⟩ := rblk2 hA2
      obtain ⟨x5, x6⟩ := rblk2 hB2
      go_wp2_with fail
      refine (c3.out _).mono ?_
      rintro e w3 ⟨rfl, hb3⟩
      go_wp2
      go_ret2
      exact ⟨by rw [HF.out.1, HF.out.2] <;> rfl, Bl.trans hw2 hb3⟩
    · have HF : Hid (dstN (ax, ay) (bx, bY) = 0 ∧ dstF (ax, ay) (bx, bY) = 1) := Lib.hid (by unfold dstN dstF far2; rw [h1, h2]; exact ⟨rfl, rfl⟩)
      rw [h1] at c1
      rw [h2] at c2
      clear h1 h2
      go_enter Tryz.func33, Tryz.ntmps33
      go_wp2_with fail
      refine (c1.out _).mono ?_
      rintro e w1 ⟨rfl, hb1⟩
      have hB1 := blk_below hB hb1
      have hw1 := Bl.trans hb hb1
      obtain ⟨x1, x2⟩ := rblk2 hB1
      go_wp2_with fail
      refine (c2.out _).mono ?_
      rintro e w2 ⟨rfl, hb2⟩
      have hw2 := Bl.trans hw1 hb2
      go_wp2
      go_ret2
      exact ⟨by rw [HF.out.1, HF.out.2] <;> rfl, hw2⟩
  · have HF : Hid (dstN (ax, ay) (bx, bY) = 0 ∧ dstF (ax, ay) (bx, bY) = 1) := Lib.hid (by unfold dstN dstF far2; rw [h1]; exact ⟨rfl, rfl⟩)
    rw [h1] at c1
    clear h1
    go_enter Tryz.func33, Tryz.ntmps33
    go_wp2_with fail
    refine (c1.out _).mono ?_
    rintro e w1 ⟨rfl, hb1⟩
    have hw1 := Bl.trans hb hb1
    go_wp2
    go_ret2
    exact ⟨by rw [HF.out.1, HF.out.2] <;> rfl, hw1⟩
theorem readS_len {α : Type} (rd : List UInt8 → Option α) : ∀ (i : Nat) (xs : List (List UInt8)) (l : List α), readS rd i xs = .ok l → l.length ≤ xs.length
  | _, [], l, h => by rw [readS] at h; injection h with h; subst h; simp
  | i, [x], l, h => by
    rw [readS] at h
    split at h
    · injection h with h; subst h; simp
    · cases h
  | i, x :: y :: r, l, h => by
    rw [readS] at h
    cases hx : rd x with
    | none => rw [hx] at h; cases h
    | some a =>
      rw [hx] at h
      cases hr : readS rd (i + 1) (y :: r) with
      | error e => rw [hr] at h; cases h
      | ok m =>
        rw [hr] at h
        injection h with h
        subst h
        have := readS_len rd (i + 1) (y :: r) m hr
        simp only [List.length_cons] at this ⊢
        omega
theorem ptsRead_len (t : List UInt8) : (ptsRead t).1.length ≤ 1000000 := by
  unfold ptsRead
  split
  · simp
  · rename_i hl
    cases hr : readS rdP 0 (splitL 10 t) with
    | error i => exact Nat.zero_le _
    | ok l =>
      have h1 := readS_len rdP 0 _ l hr
      rw [splitL_len] at h1
      have h2 := List.count_le_length (a := (10 : UInt8)) (l := t)
      show (if ptsF l 500 = 0 then (l, 0, 0) else ([], 0, ptsF l 500) : List Pt × Int × Int).1.length ≤ 1000000
      split
      · show l.length ≤ _; omega
      · exact Nat.zero_le _
theorem ptF_two (a b : Pt) : ptF [a, b] = dstF a b := by
  unfold ptF dstF far2
  simp
set_option maxHeartbeats 4000000 in
set_option maxRecDepth 100000 in
theorem PointsChecked_any (l : List Int) (v : Value) (w : World) (rl : Ints w 0 v l) (hl : ∀ x ∈ l, -9223372036854775808 ≤ x ∧ x ≤ 9223372036854775807) (hT : TxW w) :
    Calls Tryz.prog 4 #[v] w fun e w' => e = .returned (.bool true) ∧ Below w.heap.size w w' := by
  obtain ⟨va, cap, rfl, hc1, hc2⟩ := Ints.form rl
  have hs0 := Str.start rl hl
  have hb0 := Bl.alloc (Below.refl w.heap.size w) (.cells #[.slice va l.length cap, .int .i64 0] 25)
  obtain ⟨hg1, hg2⟩ := hT.size
  have HT := Lib.hid hT
  clear rl hl hT
  go_enter Tryz.func4, Tryz.ntmps4
  go_wp2_with fail
  refine (PointsOf_any _ 6 0 _ hs0 (by omega) (by omega)).mono ?_
  rintro e w1 ⟨vp, P, rfl, hO1, hP8, hBd, hs1, hG1⟩
  have hz0 := hb0.size
  have hb1 := Below.trans hb0 (Gr.below hG1 (Nat.le_refl _) hz0)
  obtain ⟨pa, pcap, rfl, _, _⟩ := Pts.form hO1.pts
  have hz1 := hG1.size
  have hlt : w.heap.size < (w.alloc (.cells #[.slice va l.length cap, .int .i64 0] 25)).heap.size := hs0.lt
  go_wp2_with fail
  refine (APlace_any _ _ w1 hs1 (by omega)).mono ?_
  rintro e w2 ⟨a, rfl, hba, hs2, hG2⟩
  have hO2 := hO1.grown hG2 hlt
  have hb2 := Below.trans hb1 (Gr.below hG2 (Nat.le_refl _) (by omega))
  have hz2 := hG2.size
  go_wp2_with fail
  refine (APlace_any _ _ w2 hs2 (by omega)).mono ?_
  rintro e w3 ⟨b, rfl, hbb, hs3, hG3⟩
  have hO3 := hO2.grown hG3 hlt
  have hb3 := Below.trans hb2 (Gr.below hG3 (Nat.le_refl _) (by omega))
  have hz3 := hG3.size
  clear hO1 hO2 hs1 hs2 hG1 hG2 hG3 hb1 hb2 hb0 hs0
  obtain ⟨ax, ay⟩ := a
  obtain ⟨bx, bY⟩ := b
  unfold ptv
  have hs3' := hs3.alloc (.cells #[.int .i64 0, .int .i64 3, .int .i64 6, .int .i64 500] 3)
  have hO3' := hO3.alloc (.cells #[.int .i64 0, .int .i64 3, .int .i64 6, .int .i64 500] 3)
  have hb3' := Bl.alloc hb3 (.cells #[.int .i64 0, .int .i64 3, .int .i64 6, .int .i64 500] 3)
  go_wp2_with fail
  refine (Pick_any _ _ [0, 3, 6, 500] _ _ hs3' (by omega) (Ints.of_blk (blk_new _ _) rfl rfl (by simp) (by omega) (by omega)) (by simp) (by simp)).mono ?_
  rintro e w4 ⟨most, rfl, _, hs4, hG4⟩
  have hz3' := hb3'.size
  have hO4 := hO3'.grown hG4 hlt
  have hb4 := Below.trans hb3' (Gr.below hG4 (Nat.le_refl _) (by omega))
  have hz4 := hG4.size
  clear hO3 hO3' hs3 hs3' hG4 hb3 hb3'
  have hA5 := blk_old (blk_new w4 (.cells #[.int .i64 ax, .int .i64 ay] 57)) (.cells #[.int .i64 bx, .int .i64 bY] 57)
  have hB5 := blk_new' (w4.alloc (.cells #[.int .i64 ax, .int .i64 ay] 57)) (.cells #[.int .i64 bx, .int .i64 bY] 57) (g := w4.heap.size + 1) (by simp)
  obtain ⟨w5, hw5⟩ : ∃ w5, w5 = (w4.alloc (.cells #[.int .i64 ax, .int .i64 ay] 57)).alloc (.cells #[.int .i64 bx, .int .i64 bY] 57) := ⟨_, rfl⟩
  have hb5 := Bl.alloc (Bl.alloc hb4 (.cells #[.int .i64 ax, .int .i64 ay] 57)) (.cells #[.int .i64 bx, .int .i64 bY] 57)
  have hO5 := (hO4.alloc (.cells #[.int .i64 ax, .int .i64 ay] 57)).alloc (.cells #[.int .i64 bx, .int .i64 bY] 57)
  have hs5 := (hs4.alloc (.cells #[.int .i64 ax, .int .i64 ay] 57)).alloc (.cells #[.int .i64 bx, .int .i64 bY] 57)
  rw [← hw5] at hA5 hB5 hb5 hO5 hs5
  have HAB := Lib.hid (show ∀ W, Below w5.heap.size w5 W → (W.cell? ⟨w4.heap.size, 0, none⟩ = some (.int .i64 ax) ∧ W.cell? ⟨w4.heap.size, 1, none⟩ = some (.int .i64 ay)) ∧ (W.cell? ⟨w4.heap.size + 1, 0, none⟩ = some (.int .i64 bx) ∧ W.cell? ⟨w4.heap.size + 1, 1, none⟩ = some (.int .i64 bY)) from fun W hW => ⟨rblk2 (blk_below hA5 hW), rblk2 (blk_below hB5 hW)⟩)
  have HP0 : ∀ W, Below w5.heap.size w5 W → Pts W 0 (.slice pa P.length pcap) P := fun W hW => (hO5.below hW).pts.mono (Nat.zero_le _)
  have HCP := Lib.hid fun W hW => CheckPoints_any P most (.slice pa P.length pcap) W (by omega) (HP0 W hW)
  have HRP := Lib.hid fun W hW => PointsFault_any P most (.slice pa P.length pcap) W (by omega) (HP0 W hW)
  have HRP5 := Lib.hid fun W hW => PointsFault_any P 500 (.slice pa P.length pcap) W (by omega) (HP0 W hW)
  have HTX := Lib.hid fun W hW (hT : TxW W) => Text_any P (.slice pa P.length pcap) W hT (by omega) (HP0 W hW) hBd
  have HRL := Lib.hid fun W hW (hT : TxW W) => RLinesOf_any P (.slice pa P.length pcap) W hT (by omega) (HP0 W hW) (fun p hp => ⟨hBd p hp, wrP_small (hBd p hp)⟩)
  have HDI := Lib.hid fun W => TDist_any (ax, ay) (bx, bY) W hba hbb
  have HAP := Lib.hid fun W => Apart_any (ax, ay) (bx, bY) W hba hbb
  have HPF := Lib.hid fun (W : World) => PointFault_any [(ax, ay), (bx, bY)] (.slice (some ⟨W.heap.size, 0, none⟩) 2 2) (W.alloc (.cells #[.int .i64 ax, .int .i64 ay, .int .i64 bx, .int .i64 bY] 57)) (by simp) (Pts.of_blk (blk_new W _) rfl rfl (by simp) (by omega) (Nat.zero_le _))
  simp only [ptF_two] at HPF
  have HB5 := Lib.hid hb5
  have HS5 := Lib.hid hs5
  have HSH : Hid ((dstF (ax, ay) (bx, bY) = 0 ∧ dstN (ax, ay) (bx, bY) = dist (ax, ay) (bx, bY)) ∨ (dstF (ax, ay) (bx, bY) = 1 ∧ dstN (ax, ay) (bx, bY) = 0)) := Lib.hid (by
    unfold dstF dstN
    cases far2 (ax, ay) (bx, bY)
    · exact .inl ⟨rfl, rfl⟩
    · exact .inr ⟨rfl, rfl⟩)
  clear hA5 hB5 hb5 hO5 hs5 hO4 hs4 hb4 HP0 hBd hba hbb
  generalize dstF (ax, ay) (bx, bY) = F at *
  generalize dstN (ax, ay) (bx, bY) = n at *
  go_wp2_with fail
  rw [← hw5]
  clear hw5
  refine (HCP.out w5 (Below.refl _ _)).mono ?_
  rintro e w6 ⟨rfl, hb6⟩
  go_wp2_with fail
  refine (HRP.out w6 hb6).mono ?_
  rintro e w7 ⟨rfl, hb7'⟩
  have hb7 := Bl.trans hb6 hb7'
  obtain ⟨⟨x1, x2⟩, x3, x4⟩ := HAB.out w7 hb7
  clear hb6 hb7' HCP HRP
  go_wp2_with fail
  refine (HDI.out w7).mono ?_
  rintro e w8 ⟨rfl, hb8'⟩
  have hb8 := Bl.trans hb7 hb8'
  clear x1 x2 x3 x4 hb7 hb8' HDI
  obtain ⟨⟨x1, x2⟩, x3, x4⟩ := HAB.out w8 hb8
  go_wp2_with fail
  refine (HPF.out w8).mono ?_
  rintro e wa ⟨rfl, hb9'⟩
  have hb9 := Bl.trans (Bl.alloc hb8 _) hb9'
  clear x1 x2 x3 x4 hb8 hb9' HPF
  obtain ⟨⟨x1, x2⟩, x3, x4⟩ := HAB.out wa hb9
  rcases HSH.out with ⟨rfl, rfl⟩ | ⟨rfl, rfl⟩
  case' inl =>
    go_wp2_with fail
    refine (HAP.out wa).mono ?_
    rintro e wa ⟨rfl, hba'⟩
    have hba := Bl.trans hb9 hba'
    clear hba' hb9 x1 x2 x3 x4
  case' inr =>
    have hba := hb9
    clear hb9
  all_goals (
    have hBa := HB5.out.trans (hba.mono HB5.out.size)
    have HTXa := Lib.hid (HTX.out wa hba (HT.out.below hBa))
    have HSa := Lib.hid (HS5.out.below hba)
    obtain ⟨f, hf⟩ : ∃ f, f = ptsF P 500 := ⟨_, rfl⟩
    have HPT : Hid (ptsTxt P = if f = 0 then textL wrP P else []) := Lib.hid (by rw [hf]; rfl)
    rw [← hf] at HTXa HRP5
    clear hf
    go_wp2_with fail
    refine HTXa.out.mono ?_
    rintro e wb ⟨t, rfl, ht, hbb'⟩
    have hbb := Bl.trans hba hbb'
    have hBb := HB5.out.trans (hbb.mono HB5.out.size)
    have HTT := Lib.hid (ht.trans HPT.out)
    clear ht hbb' hba hBa HTXa HPT
    go_wp2_with fail
    refine (HRP5.out wb hbb).mono ?_
    rintro e wd ⟨rfl, hbc'⟩
    have hbc := Bl.trans hbb hbc'
    clear hbc' hbb hBb
    by_cases h0 : f = 0
    case' pos =>
      subst h0
      have HT1 : Hid (t.data.toList = textL wrP P) := Lib.hid HTT.out
      clear HTT
      go_wp2_with fail
      refine (HRL.out wd hbc (HT.out.below (HB5.out.trans (hbc.mono HB5.out.size)))).mono ?_
      rintro e wd ⟨t', rfl, ht', hbd'⟩
      obtain rfl := ba_data (ht'.trans HT1.out.symm)
      have hbd := Bl.trans hbc hbd'
      clear hbd' hbc HT1 ht'
    case' neg =>
      obtain rfl : t = ⟨#[]⟩ := ba_data (by rw [HTT.out, if_neg h0])
      have hbd := hbc
      clear hbc HTT
    all_goals (
      have hBd := HB5.out.trans (hbd.mono HB5.out.size)
      have hzd := hBd.size
      have HPS := Lib.hid (PointString_any w.heap.size _ _ (HS5.out.below hbd) (HT.out.below hBd) hg1 hg2 (by omega))
      clear hbd
      go_wp2_with fail
      refine HPS.out.mono ?_
      rintro e w6 ⟨t2, rfl, ht2, hs6, hG6⟩
      have hB6 := Below.trans hBd (Gr.below hG6 (Nat.le_refl _) hzd)
      have HRD := Lib.hid (Read_any t2 w6 (HT.out.below hB6) (by omega))
      have HRR := Lib.hid fun (W : World) (hW : TxW W) => RRead_any t2 W hW (by omega)
      obtain ⟨g, hg⟩ : ∃ f, f = (ptsRead t2.data.toList).2.2 := ⟨_, rfl⟩
      obtain ⟨i2, hi2⟩ : ∃ f, f = (ptsRead t2.data.toList).2.1 := ⟨_, rfl⟩
      obtain ⟨Q, hQ⟩ : ∃ f, f = (ptsRead t2.data.toList).1 := ⟨_, rfl⟩
      have HQL := Lib.hid (show Q.length ≤ 1000000 from by rw [hQ]; exact ptsRead_len _)
      rw [← hg, ← hi2, ← hQ] at HRD HRR
      clear hg hi2 hQ hs6 hG6 HPS hBd hzd
      go_wp2_with fail
      refine HRD.out.mono ?_
      rintro e w7 ⟨vx, rfl, hOx, hb7⟩
      obtain ⟨xa, xcap, rfl, _, _⟩ := Pts.form hOx.pts
      have hB7 := Bl.trans hB6 hb7
      have hz7 := hB7.size
      have HOx := Lib.hid hOx.recR
      clear hOx hb7 hB6
      go_wp2_with fail
      refine (HRR.out w7 (HT.out.below hB7)).mono ?_
      rintro e w8 ⟨vy, rfl, hOy, hb8⟩
      obtain ⟨ya, ycap, rfl, _, _⟩ := Pts.form hOy.pts
      have hB8 := Bl.trans hB7 hb8
      have HEQ0 := EqualP_any Q Q (.slice xa Q.length xcap) (.slice ya Q.length ycap) w8 HQL.out HQL.out (HOx.out.below hb8) hOy.recR
      rw [decide_eq_true (show Q = Q from rfl)] at HEQ0
      have HEQ := Lib.hid HEQ0
      clear hOy hb8 hB7 HEQ0
      go_wp2_with fail
      refine HEQ.out.mono ?_
      rintro e w9 ⟨rfl, hb9⟩
      have hB9 := Bl.trans hB8 hb9
      clear hb9 hB8
      go_wp2_with fail
      refine (toured_any _).mono ?_
      rintro e wz ⟨rfl, hbz⟩
      go_wp2
      go_ret
      exact ⟨rfl, Bl.trans hB9 hbz⟩))
end Go.Proofs.YtgcmlhpocbgkaaaGreatDoor
