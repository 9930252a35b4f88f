/- The walk of the law NoTourIsShorter: whatever the input: true. -/
import Derived.Test.YtgcmlhpocbgkaaaGreatDoorIsOrd
import Derived.Test.YtgcmlhpocbgkaaaGreatDoorReady2
import Derived.Test.YtgcmlhpocbgkaaaGreatDoorShort
namespace Go.Proofs.YtgcmlhpocbgkaaaGreatDoor
open Go.RowKit Go.Sort

theorem tour9 {st : Pt} {P : List Pt} (h : tourF st P 500 = 0) (hn : P.length ≤ 9) : tourF st P 9 = 0 := by
  unfold tourF ptsF at *
  by_cases hf : farB st = true
  · rw [hf] at h; simp at h
  · simp only [Bool.not_eq_true] at hf
    rw [hf] at h ⊢
    simp only [Bool.false_eq_true, if_false] at h ⊢
    rw [if_pos (by omega)] at h ⊢
    exact h
theorem imp_ok {st : Pt} {P : List Pt} {o : List Nat} (h : tourF st P 500 = 0) (hp : o.Perm (List.range P.length)) : impF st P (nats o) = 0 := by
  unfold impF
  rw [if_pos h, orderF_ok hp]
set_option maxHeartbeats 8000000 in
set_option maxRecDepth 100000 in
theorem NoTourIsShorter_any (l : List Int) (v : Value) (w : World) (rl : Ints w 0 v l) (hl : ∀ x ∈ l, -9223372036854775808 ≤ x ∧ x ≤ 9223372036854775807) :
    Calls Tryz.prog 6 #[v] w fun e w' => e = .returned (.bool true) ∧ Below w.heap.size w w' := by
  obtain ⟨va, cap, rfl, hc1, hc2⟩ := Ints.form rl
  have hs0 := Str.start rl hl
  have hb0 := Bl.alloc (Below.refl w.heap.size w) (.cells #[.slice va l.length cap, .int .i64 0] 25)
  go_enter Tryz.func6, Tryz.ntmps6
  go_wp2_with fail
  refine (rightPoints_any _ 7 0 _ hs0 (by omega) (by omega)).mono ?_
  rintro e w1 ⟨⟨sx, sy⟩, vp, P, he, hst, hPb, hPl, hP1, hT, hs1, hg1⟩
  simp only [ptv] at he
  subst he
  have hb1 := Below.trans hb0 (Gr.below hg1 (Nat.le_refl _) hb0.size)
  obtain ⟨pa, pcap, rfl, hp1, hp2⟩ := Pts.form hP1.pts
  have l1 := hs1.lt
  have z1 := hg1.size
  have hP1 := own_base' hP1 (show w.heap.size + 1 ≤ _ by simp)
  have hb2 := Bl.alloc hb1 (.cells #[.int .i64 sx, .int .i64 sy] 57)
  have hP2 := hP1.alloc (.cells #[.int .i64 sx, .int .i64 sy] 57)
  have hs2 := hs1.alloc (.cells #[.int .i64 sx, .int .i64 sy] 57)
  have hS2 := blk_new w1 (.cells #[.int .i64 sx, .int .i64 sy] 57)
  have HT := Lib.hid hT
  have HP := Lib.hid hPb
  have HD := Lib.hid hst
  clear hg1 hs0 hb0 hs1 hP1 hb1 rl hl hT hPb hst
  go_wp2_with fail
  refine (Order_any _ P.length _ _ hs2 (by omega) (by omega)).mono ?_
  rintro e w3 ⟨vo, ol, rfl, hO3, hol, hs3, hg3⟩
  have hb3 := Below.trans hb2 (Gr.below hg3 (Nat.le_refl _) hb2.size)
  obtain ⟨oa, ocap, rfl, ho1, ho2⟩ := Ints.form hO3.ints
  have hP3 := (hP2.grown hg3 (by omega)).pts.mono (Nat.zero_le _)
  have hS3 := Gr.blk hg3 hS2 (by omega)
  have hO3 := hO3.ints0
  obtain ⟨o, rfl, hop⟩ := of_upto hol.out
  have HOP := Lib.hid hop
  have HIO := Lib.hid (imp_ok HT.out hop)
  have hlo : (nats o).length ≤ 7 := by rw [nats_len, (range_facts hop).2.2]; omega
  obtain ⟨c0, c1⟩ := blk2 hS3
  clear hg3 hs3 hs2 hP2 hS2 hb2 hop hol
  -- Shortest
  go_wp2_with fail
  refine (Shortest_any (sx, sy) P _ w3 HD.out HP.out (by omega) hP3).mono ?_
  rintro e w4 ⟨⟨x, vx, nx, he, hX4, _, hx⟩, hb4⟩
  rw [tour9 HT.out (by omega)] at he
  subst he
  obtain ⟨hx1, hx2⟩ := hx (tour9 HT.out (by omega))
  obtain ⟨xa, xcap, rfl, hxc1, hxc2⟩ := Ints.form hX4.ints
  have hX4 := hX4.ints0
  have hb34 := Bl.trans hb3 hb4
  have hP4 := hP3.below hb4
  have hO4 := hO3.below hb4
  have hS4 := blk_below hS3 hb4
  have hxp := tlist_perm (st := (sx, sy)) (P := P) (by omega)
  rw [← hx1] at hxp
  have HX := Lib.hid hx1
  have HX2 := Lib.hid hx2
  have HXP := Lib.hid hxp
  have hlx : x.length ≤ 7 := by rw [hxp.1.length_eq, upto_length]; omega
  obtain ⟨c0, c1⟩ := blk2 hS4
  clear hb4 hb3 hP3 hO3 hS3 hx1 hx2 hx hxp
  -- Nearest
  go_wp2_with fail
  refine (Nearest_any (sx, sy) P _ w4 HD.out HP.out (by omega) hP4).mono ?_
  rintro e w5 ⟨⟨y, vy, ny, he, hY5, _, hy⟩, hb5⟩
  rw [HT.out] at he
  subst he
  obtain ⟨hy1, hy2⟩ := hy HT.out
  obtain ⟨ya, ycap, rfl, hyc1, hyc2⟩ := Ints.form hY5.ints
  have hY5 := hY5.ints0
  have hb35 := Bl.trans hb34 hb5
  have hP5 := hP4.below hb5
  have hO5 := hO4.below hb5
  have hX5 := hX4.below hb5
  have hS5 := blk_below hS4 hb5
  have hyp := near_perm P (sx, sy)
  rw [← hy1] at hyp
  have hleY : nx ≤ ny := by rw [HX2.out, hy2]; exact least_perm (by omega) hyp.2
  have HY := Lib.hid hyp.1
  obtain ⟨c0, c1⟩ := blk2 hS5
  clear hb5 hb34 hP4 hO4 hX4 hS4 hy1 hy2 hy hyp
  -- Improved
  go_wp2_with fail
  refine (Improved_any (sx, sy) P (nats o) _ _ w5 HD.out HP.out (by omega) (by omega) hP5 hO5).mono ?_
  rintro e w6 ⟨⟨zl, vz, nz, he, hZ6, _, hz⟩, hb6⟩
  rw [HIO.out] at he
  subst he
  obtain ⟨t, z, ht, hng, rfl, hz2⟩ := hz o rfl HIO.out
  obtain ⟨za, zcap, rfl, hzc1, hzc2⟩ := Ints.form hZ6.ints
  have hZ6 := hZ6.ints0
  have hb36 := Bl.trans hb35 hb6
  have hP6 := hP5.below hb6
  have hO6 := hO5.below hb6
  have hX6 := hX5.below hb6
  have hY6 := hY5.below hb6
  have hS6 := blk_below hS5 hb6
  have hzp := ht.perm.trans HOP.out
  have hleZ : nx ≤ nz := by rw [HX2.out, hz2]; exact least_perm (by omega) hzp
  have hsz : nz ≤ lenOf (sx, sy) P o := by rw [hz2]; exact ht.shorter
  have HZP := Lib.hid hzp
  have HNG := Lib.hid hng
  have HZ2 := Lib.hid hz2
  have hlz : (nats z).length ≤ 7 := by rw [nats_len, (range_facts hzp).2.2]; omega
  obtain ⟨c0, c1⟩ := blk2 hS6
  clear hb6 hb35 hP5 hO5 hX5 hY5 hS5 hz2 hz ht hng hzp
  -- Length of the given order
  go_wp2_with fail
  refine (Length_any (sx, sy) P (nats o) _ _ w6 HD.out HP.out (by omega) (by omega) hP6 hO6).mono ?_
  rintro e w7 ⟨⟨ng, he, _, hgiv⟩, hb7⟩
  rw [HIO.out] at he
  subst he
  have hgiv := hgiv o rfl HIO.out
  rw [← hgiv] at hsz
  have hb37 := Bl.trans hb36 hb7
  have hP7 := hP6.below hb7
  have hX7 := hX6.below hb7
  have hY7 := hY6.below hb7
  have hZ7 := hZ6.below hb7
  have hS7 := blk_below hS6 hb7
  obtain ⟨c0, c1⟩ := blk2 hS7
  clear hb7 hb36 hP6 hO6 hX6 hY6 hZ6 hS6 hgiv
  -- Length of the shortest one
  have hxi : impF (sx, sy) P x = 0 := by rw [HX.out]; exact imp_ok HT.out (tlist_perm (by omega)).2
  go_wp2_with fail
  refine (Length_any (sx, sy) P x _ _ w7 HD.out HP.out (by omega) (by omega) hP7 hX7).mono ?_
  rintro e w8 ⟨⟨nl, he, _, hlong⟩, hb8⟩
  rw [hxi] at he
  subst he
  obtain rfl : nl = nx := by rw [hlong _ HX.out hxi, HX2.out]; exact shortest_len (by omega)
  have hb38 := Bl.trans hb37 hb8
  have hP8 := hP7.below hb8
  have hX8 := hX7.below hb8
  have hY8 := hY7.below hb8
  have hZ8 := hZ7.below hb8
  have hS8 := blk_below hS7 hb8
  obtain ⟨c0, c1⟩ := blk2 hS8
  have HIX := Lib.hid (show ∀ W, Below w8.heap.size w8 W → Calls Tryz.prog 43 #[.slice xa x.length xcap, .int .i64 P.length] W fun e w' => e = .returned (.bool true) ∧ Below W.heap.size W w' from fun W hW => isOrder_any x P.length _ W (by omega) HXP.out.1 (hX8.below hW))
  have HIY := Lib.hid (show ∀ W, Below w8.heap.size w8 W → Calls Tryz.prog 43 #[.slice ya y.length ycap, .int .i64 P.length] W fun e w' => e = .returned (.bool true) ∧ Below W.heap.size W w' from fun W hW => isOrder_any y P.length _ W (by omega) HY.out (hY8.below hW))
  have HIZ := Lib.hid (show ∀ W, Below w8.heap.size w8 W → Calls Tryz.prog 43 #[.slice za (nats z).length zcap, .int .i64 P.length] W fun e w' => e = .returned (.bool true) ∧ Below W.heap.size W w' from fun W hW => isOrder_any (nats z) P.length _ W (by omega) (nats_perm HZP.out) (hZ8.below hW))
  clear hb8 hb37 hP7 hX7 hY7 hZ7 hS7 hlong hX8 hY8
  go_wp2_with fail
  refine (HIX.out _ (Below.refl _ _)).mono ?_
  rintro e w9 ⟨rfl, hb9⟩
  go_wp2_with fail
  refine (HIY.out _ hb9).mono ?_
  rintro e w10 ⟨rfl, hb10⟩
  have hb10 := Bl.trans hb9 hb10
  go_wp2_with fail
  refine (HIZ.out _ hb10).mono ?_
  rintro e w11 ⟨rfl, hb11⟩
  have hb11 := Bl.trans hb10 hb11
  have hbW := Bl.trans hb38 hb11
  have hP11 := hP8.below hb11
  have hZ11 := hZ8.below hb11
  have hS11 := blk_below hS8 hb11
  obtain ⟨c0, c1⟩ := blk2 hS11
  have HIZZ := Lib.hid (imp_ok HT.out HZP.out)
  clear HIX HIY HIZ hb9 hb10 hb11 hb38 hP8 hZ8 hS8
  go_wp2_with fail
  refine (Improved_any (sx, sy) P (nats z) _ _ w11 HD.out HP.out (by omega) (by omega) hP11 hZ11).mono ?_
  rintro e w12 ⟨⟨ag, vg, nj, he, hG12, _, hg⟩, hb12⟩
  rw [HIZZ.out] at he
  subst he
  obtain ⟨t2, z2, ht2, _, rfl, hj⟩ := hg z rfl HIZZ.out
  obtain rfl : z2 = z := ht2.stay HNG.out
  obtain rfl : nj = nz := by rw [hj, HZ2.out]
  obtain ⟨ga, gcap, rfl, _, _⟩ := Ints.form hG12.ints
  have hG12 := hG12.ints0
  have hZ12 := hZ11.below hb12
  have hbW12 := Bl.trans hbW hb12
  have HEQ := Lib.hid (EqualI_any (nats z2) (nats z2) _ _ w12 (by omega) (by omega) hG12 hZ12)
  rw [show eqL (nats z2) (nats z2) = true by simp [eqL]] at HEQ
  clear hg hj ht2 hG12 hZ12 hZ11 hP11 hS11 hbW hb12
  go_wp2_with fail
  refine HEQ.out.mono ?_
  rintro e w' ⟨rfl, q, rfl⟩
  have hbQ := Bl.drewN hbW12 q
  generalize w12.drewN q = w12q at *
  go_wp2_with fail
  refine (ready_any _).mono ?_
  rintro e w13 ⟨rfl, hb13⟩
  go_wp2
  go_ret
  exact ⟨rfl, Bl.trans hbQ hb13⟩
end Go.Proofs.YtgcmlhpocbgkaaaGreatDoor
