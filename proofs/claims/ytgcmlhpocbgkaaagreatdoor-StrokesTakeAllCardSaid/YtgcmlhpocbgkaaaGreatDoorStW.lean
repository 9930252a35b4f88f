/- The walk of the law StrokesTakeAll: whatever the input: true. -/
import Derived.Test.YtgcmlhpocbgkaaaGreatDoorSt6
import Derived.Test.YtgcmlhpocbgkaaaGreatDoorReady2
import Derived.Test.YtgcmlhpocbgkaaaGreatDoorShelf
namespace Go.Proofs.YtgcmlhpocbgkaaaGreatDoor
open Go.RowKit Go.Sort Go.Maps

theorem foldl_max_ge : ∀ (l : List Int) (m : Int), m ≤ l.foldl max m ∧ ∀ x ∈ l, x ≤ l.foldl max m
  | [], m => ⟨Int.le_refl _, by simp⟩
  | y :: l, m => by
    obtain ⟨h1, h2⟩ := foldl_max_ge l (max m y)
    rw [List.foldl_cons]
    refine ⟨by omega, fun x hx => ?_⟩
    rcases List.mem_cons.1 hx with rfl | hx
    · omega
    · exact h2 x hx
theorem maxOf_ge (l : List Int) : ∀ x ∈ l, x ≤ Lib.maxOf l := (foldl_max_ge l _).2
set_option maxHeartbeats 20000000 in
set_option maxRecDepth 100000 in
theorem StrokesTakeAll_any (l : List Int) (v : Value) (w : World) (rl : Ints w 0 v l) (hl : ∀ x ∈ l, -9223372036854775808 ≤ x ∧ x ≤ 9223372036854775807) :
    Calls Tryz.prog 5 #[v] w fun e w' => e = .returned (.bool true) ∧ Below w.heap.size w w' := by
  obtain ⟨va, cap, rfl, hc1, hc2⟩ := Ints.form rl
  have hs0 := Str.start rl hl
  have hb0 := Bl.alloc (Below.refl w.heap.size w) (.cells #[.slice va l.length cap, .int .i64 0] 25)
  have hmm := @run_makeMap Tryz.prog
  clear rl hl
  go_enter Tryz.func5, Tryz.ntmps5
  go_wp2_with fail
  refine (SlotList_any _ 6 0 _ hs0 (by omega) (by omega) (by omega)).mono ?_
  rintro e w1 ⟨vs, S, rfl, hO1, hS6, hs1, hg1⟩
  have hb1 := Below.trans hb0 (Gr.below hg1 (Nat.le_refl _) hb0.size)
  obtain ⟨sa, scap, rfl, hsc1, hsc2⟩ := Ints.form hO1.ints
  have rS := hO1.ints0
  clear hs0 hb0 hs1 hg1 hO1
  go_wp2_with fail
  refine (SlotsFault_any S _ w1 (by omega) rS).mono ?_
  rintro e w' ⟨rfl, rfl⟩
  by_cases hF : slotF S = 0
  · obtain ⟨h0, h8, hb⟩ := slotF_zero hF
    have hl1 := List.length_pos_iff.2 h0
    obtain ⟨p1, p2, p3, p4⟩ := bestP_ok hl1
    have HF := Lib.hid hF
    have HB := Lib.hid hb
    rw [HF.out]
    obtain ⟨q, hq⟩ : ∃ q, q = (bestP S).1.reverse := ⟨_, rfl⟩
    have hql : q.length = S.length := by rw [hq, p1.length_eq, List.length_range]
    have HQP : Hid (q.Perm (List.range S.length)) := Lib.hid (by rw [hq]; exact p1)
    have HQE : Hid (few S q.reverse = (bestP S).2) := Lib.hid (by rw [hq, List.reverse_reverse]; exact p2.symm)
    obtain ⟨n, hn⟩ : ∃ n, n = (bestP S).2 := ⟨_, rfl⟩
    have HST := Lib.hid (Strokes_any S _ w1 (by omega) hF rS)
    obtain ⟨ni, hni⟩ : ∃ ni : Int, ni = ((n : Nat) : Int) := ⟨_, rfl⟩
    rw [← hq, ← hn, ← hni] at HST
    rw [← hn] at HQE p3 p4
    have HBP : Hid ((bestP S).1.reverse = q ∧ (((bestP S).2 : Nat) : Int) = ni) := Lib.hid ⟨hq.symm, by rw [hni, hn]⟩
    have HNI : Hid (((few S q.reverse : Nat) : Int) = ni) := Lib.hid (by rw [HQE.out, hni])
    have e1 : ¬ ni < 1 := by omega
    have e2 : ¬ ((S.length : Nat) : Int) < ni := by omega
    clear hq hn p1 p2 hF hb h0 HQE hni p3 p4
    go_wp2_with fail
    refine HST.out.mono ?_
    rintro e w2 ⟨⟨vr, rfl, hR2⟩, hb2⟩
    obtain ⟨ra, rcap, hvr, _, _⟩ := Ints.form hR2.ints
    rw [nats_len, hql] at hvr
    subst hvr
    have hb02 := Bl.trans hb1 hb2
    have rS2 := rS.below hb2
    have rR2 := hR2.ints0
    clear HST hb1 hb2 rS hR2
    go_wp2_with fail
    refine (isOrder_any (nats q) S.length _ w2 (by omega) (nats_perm HQP.out) rR2).mono ?_
    rintro e w3 ⟨rfl, hb3⟩
    have hb03 := Bl.trans hb02 hb3
    have rS3 := rS2.below hb3
    have rR3 := rR2.below hb3
    have hm3 := MapB.made w3
    have hb4 := Bl.alloc hb03 (.map #[] 0)
    have hgm : w3.heap.size < (w3.alloc (.map #[] 0)).heap.size := hm3.lt
    have hsz4 : (w3.alloc (.map #[] 0)).heap.size = w3.heap.size + 1 := by simp
    clear hb02 hb3 rS2 rR2
    go_wp2_with fail
    go_loopw [9, 51] (fun u i wr => ∃ k : Nat, k ≤ S.length ∧ i = .int .i64 k ∧ Own wr (w3.heap.size + 1) u ((movS S).take k) ∧ MapB wr w3.heap.size (strk S (q.take k).reverse) ∧ Below w3.heap.size w3 wr ∧ w3.heap.size + 1 ≤ wr.heap.size) (fun _ i _ => S.length - (intOf i).toNat)
    case atStart => exact ⟨0, Nat.zero_le _, rfl, Own.nil _ _, hm3, Bl.alloc (Below.refl _ _) _, by omega⟩
    case round =>
      obtain ⟨k, hk, rfl, hO, hM, hbr, hzr⟩ := hrel
      by_cases hkn : k < S.length
      · obtain ⟨x, hx⟩ : ∃ x, S[k]? = some x := ⟨_, List.getElem?_eq_getElem hkn⟩
        obtain ⟨j, hj⟩ : ∃ j, q[k]? = some j := ⟨_, List.getElem?_eq_getElem (by omega)⟩
        have hjn : j < S.length := by have := HQP.out.mem_iff.1 (List.mem_of_getElem? hj); rwa [List.mem_range] at this
        have hxb := HB.out x (List.mem_of_getElem? hx)
        obtain ⟨b1, o1, hae, _, hl1', hx1⟩ := (rS3.below hbr).at hx
        subst hae
        obtain ⟨b2, o2, hae, _, hl2', hx2⟩ := (rR3.below hbr).at (nats_at hj)
        subst hae
        have HSK : Hid (strk S (q.take (k + 1)).reverse = (x - j) :: strk S (q.take k).reverse) := Lib.hid (by rw [strk_take hj, List.getD_eq_getElem?_getD, hx]; rfl)
        have HMV : Hid ((movS S).take (k + 1) = (movS S).take k ++ [min x 900 + 50]) := Lib.hid (take_snoc (by unfold movS; rw [List.getElem?_map, hx]; rfl))
        have hw1 : IntKind.i64.wrap ((k : Int) + 1) = ((k + 1 : Nat) : Int) := by rw [IntWalk.i64_in _ (by omega)]; omega
        have hw2 : IntKind.i64.wrap (x - j) = x - j := IntWalk.i64_in _ (by omega)
        have hw3 : IntKind.i64.wrap (min x 900 + 50) = min x 900 + 50 := IntWalk.i64_in _ (by omega)
        have hdc : dcount (strk S (q.take k).reverse) < 1000000 := by have := dcount_le (strk S (q.take k).reverse); rw [strk_len, List.length_reverse, List.length_take] at this; omega
        obtain ⟨w5, hup, hM5, hg5⟩ := hM.put (k := x - j) true (by unfold Rg; omega) hdc
        have hO5 := hO.off hg5 fun g hg => by have := (hO.above g hg).1; intro e; injection e; omega
        have hb5 := Below.trans hbr (Gr.below hg5 (Nat.le_refl _) (by omega))
        have hz5 := hg5.size
        have y1 : w5.cell? ⟨b1, o1 + k, none⟩ = some (.int .i64 x) := by
          obtain ⟨b1', o1', hae, _, _, hc⟩ := (rS3.below hb5).at hx
          injection hae with hae; injection hae with h1 h2 _; subst h1 h2; exact hc
        have hlen9 : ((movS S).take k).length ≤ 1000000 := by rw [List.length_take, movS_len]; omega
        rw [← HSK.out] at hM5
        clear hx hj hO hM hbr hg5
        go_wp2_with (at_builtin; refine wp_app_int rfl _ _ rfl (w3.heap.size + 1) _ ((movS S).take k) rfl (hO5.alloc _) w5.heap.size 1 (min x 900 + 50) rfl (by rw [blk_cell (blk_new w5 _) 0]; rfl) hlen9 (by simp; omega) ?_)
        intro v6 w6 hO6 hg6 hb6
        have hM6 := (hM5.kept (World.grownBy_alloc w5 (.cells #[.int .i64 (min x 900 + 50)] 3) none) (by simp)).kept hg6 (fun e => by have := (hO5.above w3.heap.size e.symm).1; omega)
        have hb6' := Below.trans hb5 (Below.trans ((Bl.alloc (Below.refl w5.heap.size w5) (.cells #[.int .i64 (min x 900 + 50)] 3)).mono (by omega)) (hb6.mono (by omega)))
        have hz6 := hg6.size
        have hz6' : w3.heap.size + 1 ≤ w6.heap.size := by simp at hz6; omega
        rw [← HMV.out] at hO6
        clear hg6 hb6 hM5 hO5 hup
        go_wp2
        go_roundw
        case rel => exact ⟨k + 1, by omega, by go_num, hO6, hM6, hb6', hz6'⟩
        case measure => simp [intOf]; omega
      · obtain rfl : k = S.length := by omega
        have hE1 : (movS S).take S.length = movS S := List.take_of_length_le (by rw [movS_len]; omega)
        have hE2 : q.take S.length = q := List.take_of_length_le (by omega)
        rw [hE1] at hO
        rw [hE2] at hM
        have hlen : ∀ ty, (Builtin.len_ #[71] ty #[.map (some w3.heap.size)]).run Tryz.prog wr = .ok (.int .i64 ni) wr := fun ty => by rw [← HNI.out]; exact hM.len ty
        have hlenB : ∀ W, Below wr.heap.size wr W → ∀ ty, (Builtin.len_ #[71] ty #[.map (some w3.heap.size)]).run Tryz.prog W = .ok (.int .i64 ni) W := fun W hW ty => by rw [← HNI.out]; exact (hM.kept (Gr.of_below hW none) (by simp)).len ty
        have hbW := Bl.trans hb03 hbr
        have rS4 := rS3.below hbr
        have rR4 := rR3.below hbr
        obtain ⟨x0, hx0⟩ : ∃ x, S[0]? = some x := ⟨_, List.getElem?_eq_getElem (by omega)⟩
        obtain ⟨b1, o1, hae, _, _, _⟩ := rS4.at hx0
        subst hae
        clear hE1 hE2 hx0 hm3 hb4 hgm hsz4 hM
        go_wp2_with fail
        refine (Tryz.slices_Max_int b1 o1 S.length scap S wr (by omega) (Nat.le_refl _) (by omega) (Ints.cells rS4)).mono ?_
        rintro e w' ⟨rfl, hww⟩
        rw [hww, List.take_length]
        clear hww
        have HMX := Lib.hid (maxOf_ge S)
        generalize Lib.maxOf S = mx at *
        by_cases hgt : 900 < mx
        · go_wp2_with fail
          refine (ready_any _).mono ?_
          rintro e wD ⟨rfl, hbD⟩
          go_wp2
          go_ret
          exact ⟨rfl, Bl.trans hbW hbD⟩
        · have HBM := Lib.hid (movS_best (S := S) fun x hx => by have := HMX.out x hx; omega)
          obtain ⟨ua, ucap, hu, _, _⟩ := Ints.form hO.ints
          rw [movS_len] at hu
          subst hu
          have HS2 := Lib.hid (Strokes_any (movS S) _ wr (by rw [movS_len]; omega) (movS_slot HF.out) hO.ints0)
          rw [HBM.out, HBP.out.1, HBP.out.2] at HS2
          clear hO
          go_wp2_with fail
          refine HS2.out.mono ?_
          rintro e w7 ⟨⟨vy, rfl, hY⟩, hb7⟩
          obtain ⟨ya, ycap, hvy, _, _⟩ := Ints.form hY.ints
          rw [nats_len, hql] at hvy
          subst hvy
          have hl7 := hlenB w7 hb7
          have hbW7 := Bl.trans hbW hb7
          have HEQ := Lib.hid (EqualI_any (nats q) (nats q) _ _ w7 (by rw [nats_len]; omega) (by rw [nats_len]; omega) (rR4.below hb7) hY.ints0)
          rw [show eqL (nats q) (nats q) = true by simp [eqL]] at HEQ
          clear hlen hlenB HS2 hY rR4 rS4
          go_wp2_with fail
          refine HEQ.out.mono ?_
          rintro e w' ⟨rfl, qq, rfl⟩
          have hbQ := Bl.drewN hbW7 qq
          generalize w7.drewN qq = w7q at *
          go_wp2_with fail
          refine (ready_any _).mono ?_
          rintro e wD ⟨rfl, hbD⟩
          go_wp2
          go_ret
          exact ⟨rfl, Bl.trans hbQ hbD⟩
  · have heq : (slotF S != 0) = true := by simpa using hF
    go_wp2_with fail
    refine (ready_any _).mono ?_
    rintro e wD ⟨rfl, hbD⟩
    go_wp2
    go_ret
    exact ⟨rfl, Bl.trans hb1 hbD⟩
end Go.Proofs.YtgcmlhpocbgkaaaGreatDoor
