/- The walk of the law ToursMeasured: whatever the input: true. -/
import Derived.Test.YtgcmlhpocbgkaaaShortOf
import Derived.Test.YtgcmlhpocbgkaaaMake2
import Derived.Test.YtgcmlhpocbgkaaaRep
import Derived.Test.YtgcmlhpocbgkaaaRefImp
import Derived.Deep.Cut
import Derived.Deep.CutRange
namespace Go.Proofs.Ytgcmlhpocbgkaaa
open Go.RowKit Go.Sort

theorem Str.start {w : World} {a : Option Addr} {cap : Nat} {l : List Int} (rl : Ints w 0 (.slice a l.length cap) l) (hl : ∀ x ∈ l, -9223372036854775808 ≤ x ∧ x ≤ 9223372036854775807) :
    Str (w.alloc (.cells #[.slice a l.length cap, .int .i64 0] 25)) w.heap.size 0 := by
  obtain ⟨a', cap', hv, h1, h2⟩ := Ints.form rl
  injection hv with _ _ hcap
  refine ⟨a, l.length, cap, 0, blk_new w _, Int.le_refl _, Int.le_refl _, by omega, fun k hk => ?_⟩
  obtain ⟨b, o, ha, _, hb, hc⟩ := rl.at (k := k) (x := l[k]) (List.getElem?_eq_getElem hk)
  have hx := hl l[k] (List.getElem_mem hk)
  exact ⟨b, o, l[k], ha, hb, by simp; omega, ((bcell (Bl.alloc (Below.refl _ _) _)).1 _ _ hb).trans hc, hx.1, hx.2⟩

/-- what stands from the first part of the law on. -/
structure Cx (W : World) (g : Nat) (sx sy : Int) (vp vo : Value) (P : List Pt) (ol : List Int) (w : World) : Prop where
  hS : w.heap[g]? = some (.cells #[.int .i64 sx, .int .i64 sy] 27 (0, 0))
  rp : Pts w 0 vp P
  ro : Ints w 0 vo ol
  hb : Below W.heap.size W w
theorem Cx.below {W : World} {g : Nat} {sx sy : Int} {vp vo : Value} {P : List Pt} {ol : List Int} {w w' : World} (h : Cx W g sx sy vp vo P ol w) (hb : Below w.heap.size w w') : Cx W g sx sy vp vo P ol w' :=
  ⟨blk_below h.hS hb, h.rp.below hb, h.ro.below hb, Bl.trans h.hb hb⟩
theorem or_two (st : Pt) (P : List Pt) (l : List Int) : orF [tourF st P 500, orderF P.length l] = impF st P l := by
  unfold impF orF orF orF
  by_cases h : tourF st P 500 = 0
  · rw [if_pos h, if_pos h]; split <;> omega
  · rw [if_neg h, if_neg h]
theorem Turns.len {st : Pt} {P : List Pt} : ∀ {t : Nat} {o a : List Nat}, Turns st P t o a → a.length = o.length
  | 0, _, _, h => by simp only [Turns] at h; subst h; rfl
  | t + 1, o, a, ⟨i, k, hf, h⟩ => by rw [h.len, revSeg_length (by have := hf.1; have := hf.2.1; omega)]
theorem imp_zero {st : Pt} {P : List Pt} {l : List Int} (h : impF st P l = 0) : orderF P.length l = 0 := by
  unfold impF at h
  by_cases ht : tourF st P 500 = 0
  · rw [if_pos ht] at h; exact h
  · rw [if_neg ht] at h; exact absurd h ht
theorem tlist_len (st : Pt) (P : List Pt) (hst : Bd st) (hP : ∀ p ∈ P, Bd p) (hn : P.length ≤ 16) : ∀ (f : Nat) (o : List Nat) (set : Nat) (a : Pt), o.length + f = P.length → o.Nodup → (∀ k ∈ o, k < P.length) → Rest P.length o set → Bd a → (tlist st P f a set).length = f
  | 0, _, _, _, _, _, _, _, _ => rfl
  | f + 1, o, set, a, hl, hnd, hlt, hr, ha => by
    have hne : set ≠ 0 := by
      intro h0
      have hall : ∀ k, k < P.length → k ∈ o := by
        intro k hk
        apply Classical.byContradiction
        intro hko
        have := (hr k).2 ⟨hk, hko⟩
        rw [h0] at this; simp at this
      have := pigeon P.length o hall
      omega
    obtain ⟨v1, v2, v3⟩ := V_bd st P hst hP hn hr.sub ha
    obtain ⟨k, hk1, hk2, hk3⟩ := v3 hne
    obtain ⟨hkn, hko⟩ := (hr k).1 hk2
    simp only [tlist]
    rw [if_neg hne, hk1, Int.toNat_natCast, List.length_cons, tlist_len st P hst hP hn f (o ++ [k]) (clr set k) (pt P k) (by simp; omega) (by rw [List.nodup_append]; exact ⟨hnd, by simp, fun x hx y hy => by rw [List.mem_singleton.1 hy]; rintro rfl; exact hko hx⟩)
      (by intro j hj; rcases List.mem_append.1 hj with h | h; exact hlt j h; rw [List.mem_singleton.1 h]; exact hkn) (hr.snoc hn hkn) (hP _ (getD_mem hkn))]
theorem tlist_full (st : Pt) (P : List Pt) (hst : Bd st) (hP : ∀ p ∈ P, Bd p) (hn : P.length ≤ 9) : (tlist st P P.length st (pw P.length - 1)).length = P.length :=
  tlist_len st P hst hP (by omega) P.length [] (pw P.length - 1) st (by simp) List.nodup_nil (by simp) (fun i => by rw [full_bit]; simp) hst
theorem own_base' {w : World} {B B' : Nat} {v : Value} {l : List Pt} (h : OwnP w B v l) (hb : B' ≤ B) : OwnP w B' v l := by
  refine ⟨h.1, ?_⟩
  rcases h.2 with hn | ⟨g, cap, cur, hv, hb2, hg, rest⟩
  · exact .inl hn
  · exact .inr ⟨g, cap, cur, hv, by omega, hg, rest⟩

set_option maxHeartbeats 4000000 in
set_option maxRecDepth 100000 in
theorem ToursMeasured_any (l : List Int) (v : Value) (w : World) (rl : Ints w 0 v l) (hl : ∀ x ∈ l, -9223372036854775808 ≤ x ∧ x ≤ 9223372036854775807) :
    Calls Try.prog 3 #[v] w fun e w' => e = .returned (.bool true) ∧ Below w.heap.size w w' := by
  obtain ⟨va, cap, rfl, hc1, hc2⟩ := Ints.form rl
  have hs0 := Str.start rl hl
  have hb0 := Bl.alloc (Below.refl w.heap.size w) (.cells #[.slice va l.length cap, .int .i64 0] 25)
  go_enter Try.func3, Try.ntmps3
  go_wp2_with fail
  refine (APlace_any _ _ _ hs0 (by omega)).mono ?_
  rintro e w1 ⟨⟨sx, sy⟩, he, hst, hs1, hg1⟩
  simp only [ptv] at he
  subst he
  have hb1 := Below.trans hb0 (Gr.below hg1 (Nat.le_refl _) hb0.size)
  have l1 := hs1.lt
  clear hg1
  go_wp2_with fail
  refine (PointsOf_any _ 6 _ _ hs1 (by omega) (by omega)).mono ?_
  rintro e w2 ⟨vp, P, rfl, hP2, hPl, hPb, hs2, hg2⟩
  have hb2 := Below.trans hb1 (Gr.below hg2 (Nat.le_refl _) hb1.size)
  obtain ⟨pa, pcap, rfl, hp1, hp2⟩ := Pts.form hP2.pts
  have l2 := hs2.lt
  have z12 := hg2.size
  have hP2 := own_base' hP2 (show w.heap.size + 1 ≤ _ by omega)
  clear hg2
  have hb2' := Bl.alloc hb2 (.cells #[.int .i64 sx, .int .i64 sy] 27)
  have hP2' := hP2.alloc (.cells #[.int .i64 sx, .int .i64 sy] 27)
  have hs2' := hs2.alloc (.cells #[.int .i64 sx, .int .i64 sy] 27)
  have hS2 := blk_new w2 (.cells #[.int .i64 sx, .int .i64 sy] 27)
  go_wp2_with fail
  refine (AnOrder_any _ P.length _ _ hs2' (by omega) (by omega)).mono ?_
  rintro e w3 ⟨vo, ol, rfl, hO3, hol, hs3, hg3⟩
  have hb3 := Below.trans hb2' (Gr.below hg3 (Nat.le_refl _) hb2'.size)
  obtain ⟨oa, ocap, rfl, ho1, ho2⟩ := Ints.form hO3.ints
  have hP3 := hP2'.grown hg3 (by omega)
  have hS3 := Gr.blk hg3 hS2 (by omega)
  have hO3 := own_base hO3 (show w.heap.size + 1 ≤ _ by simp; omega)
  have l3 := hs3.lt
  clear hg3
  go_wp2_with fail
  refine (Flip_any _ _ 20 _ hs3 (by omega) (by omega)).mono ?_
  rintro e w4 ⟨fl, rfl, hs4, hg4⟩
  have hb4 := Below.trans hb3 (Gr.below hg4 (Nat.le_refl _) hb3.size)
  have hP4 := hP3.grown hg4 (by omega)
  have hO4 := hO3.grown hg4 (by omega)
  have hS4 := Gr.blk hg4 hS3 (by omega)
  have l4 := hs4.lt
  clear hg4
  go_upto_if 40 with fail
  go_cut [5] from 41 to 46 (fun v5 wx => ∃ (pa : Option Addr) (pcap : Nat) (P : List Pt), v5 = .slice pa P.length pcap ∧ Pts wx 0 (.slice pa P.length pcap) P ∧ P.length ≤ 10 ∧ (∀ p ∈ P, Bd p) ∧ Ints wx 0 (.slice oa ol.length ocap) ol ∧ wx.heap[w2.heap.size]? = some (.cells #[.int .i64 sx, .int .i64 sy] 27 (0, 0)) ∧ Below w.heap.size w wx)
  case first =>
    cases fl
    · go_wp2_with fail
      go_meet
      case rel => exact ⟨pa, pcap, P, rfl, hP4.pts.mono (Nat.zero_le _), by omega, hPb, hO4.ints0, hS4, hb4⟩
    · have hs5 := (hs4.alloc (.cells #[.int .i64 1, .int .i64 0] 27)).alloc (.cells #[.int .i64 9, .int .i64 10] 3)
      have hA := blk_old (blk_new w4 (.cells #[.int .i64 1, .int .i64 0] 27)) (.cells #[.int .i64 9, .int .i64 10] 3)
      have hB := blk_new' (w4.alloc (.cells #[.int .i64 1, .int .i64 0] 27)) (.cells #[.int .i64 9, .int .i64 10] 3) (g := w4.heap.size + 1) (by simp)
      have hO5 := (hO4.alloc (.cells #[.int .i64 1, .int .i64 0] 27)).alloc (.cells #[.int .i64 9, .int .i64 10] 3)
      have hS5 := blk_old (blk_old hS4 (.cells #[.int .i64 1, .int .i64 0] 27)) (.cells #[.int .i64 9, .int .i64 10] 3)
      have hb5 := Bl.alloc (Bl.alloc hb4 (.cells #[.int .i64 1, .int .i64 0] 27)) (.cells #[.int .i64 9, .int .i64 10] 3)
      go_wp2_with fail
      refine (Pick_any _ _ [9, 10] _ _ hs5 (by omega) (Ints.of_blk hB rfl rfl (Nat.le_refl _) (by simp) (by omega)) (by simp) (by simp)).mono ?_
      rintro e w6 ⟨r, rfl, hr, hs6, hg6⟩
      obtain ⟨N, rfl, hN1, hN2⟩ : ∃ N : Nat, r = N ∧ 9 ≤ N ∧ N ≤ 10 := by
        simp only [List.mem_cons, List.not_mem_nil, or_false] at hr
        rcases hr with rfl | rfl
        · exact ⟨9, rfl, by omega, by omega⟩
        · exact ⟨10, rfl, by omega, by omega⟩
      have hb6 := Below.trans hb5 (Gr.below hg6 (Nat.le_refl _) hb5.size)
      have hA6 := Gr.blk hg6 hA (by omega)
      have hO6 := hO5.grown hg6 (by omega)
      have hS6 := Gr.blk hg6 hS5 (by omega)
      clear hg6
      go_wp2_with fail
      refine (Repeat_any (1, 0) N _ _ (by omega) (by omega) (Pts.of_blk hA6 rfl rfl (Nat.le_refl _) (by simp) (Nat.zero_le _))).mono ?_
      rintro e w7 ⟨v7, rfl, hP7, hb7⟩
      obtain ⟨qa, qcap, rfl, _, _⟩ := Pts.form hP7.pts
      go_wp2_with fail
      go_meet
      case rel =>
        refine ⟨qa, qcap, List.replicate N (1, 0), by simp, hP7.pts.mono (Nat.zero_le _), by simpa using hN2, fun p hp => ?_, (hO6.below hb7).ints0, blk_below hS6 hb7, Bl.trans hb6 hb7⟩
        rw [(List.mem_replicate.1 hp).2]
        unfold Bd; omega
  case rest =>
    obtain ⟨pa, pcap, P, rfl, rp, hP10, hPb, ro, hS, hb⟩ := hcut
    have hcx : Cx w w2.heap.size sx sy (.slice pa P.length pcap) (.slice oa ol.length ocap) P ol wc := ⟨hS, rp, ro, hb⟩
    have hol7 : ol.length ≤ 1000 := by have := hol.out.1; omega
    clear rp ro hS hb rl hl hs0 hb0 hs1 hb1 hs2 hb2 hs3 hb3 hs4 hb4 hb2' hP2' hs2' hS2 hP3 hS3 hO3 hP4 hO4 hS4 hP2 hol hPl
    obtain ⟨z1, z2⟩ := blk2 hcx.hS
    go_wp2_with fail
    refine (TourFault_any (sx, sy) P 500 _ _ (by omega) hcx.rp).mono ?_
    rintro e w5 ⟨rfl, hb5⟩
    have hcx5 := hcx.below hb5
    go_wp2_with fail
    refine (OrderFault_any P.length ol _ _ (by omega) hol7 hcx5.ro).mono ?_
    rintro e w5' ⟨rfl, hw5⟩
    rw [hw5]
    have hcx6 := hcx5.below (Bl.alloc (Below.refl _ _) (.cells #[.int .i64 (tourF (sx, sy) P 500), .int .i64 (orderF P.length ol)] 35))
    go_wp2_with fail
    refine (OrErrno_any [tourF (sx, sy) P 500, orderF P.length ol] _ _ (by simp) (Ints.of_blk (blk_new w5 (.cells #[.int .i64 (tourF (sx, sy) P 500), .int .i64 (orderF P.length ol)] 35)) rfl rfl (Nat.le_refl _) (by simp) (Nat.zero_le _))).mono ?_
    rintro e w6' ⟨rfl, hw6⟩
    rw [hw6, or_two]
    generalize w5.alloc (.cells #[.int .i64 (tourF (sx, sy) P 500), .int .i64 (orderF P.length ol)] 35) = w6 at *
    clear hw6 hw5 hcx hcx5 hb5 z1 z2
    obtain ⟨z1, z2⟩ := blk2 hcx6.hS
    go_wp2_with fail
    refine (Length_any (sx, sy) P ol _ _ _ hst hPb (by omega) hol7 hcx6.rp hcx6.ro).mono ?_
    rintro e w7 ⟨⟨n, rfl, hn1, hn2⟩, hb7⟩
    have hcx7 := hcx6.below hb7
    clear z1 z2
    obtain ⟨z1, z2⟩ := blk2 hcx7.hS
    go_wp2_with fail
    refine (Improved_any (sx, sy) P ol _ _ _ hst hPb (by omega) hol7 hcx7.rp hcx7.ro).mono ?_
    rintro e w8 ⟨⟨r, vr, k, rfl, hr, hr1, hr2⟩, hb8⟩
    have hcx8 := hcx7.below hb8
    obtain ⟨ra, rcap, rfl, _, _⟩ := Ints.form hr.ints
    clear z1 z2
    have hrlen : r.length ≤ 1000 := by
      by_cases h : impF (sx, sy) P ol = 0
      · obtain ⟨o, ho, ho1, ho2, ho3⟩ := orderF_zero (imp_zero h)
        obtain ⟨t, o', hT, _, rfl, _⟩ := hr2 o ho h
        rw [nats_len, hT.len]; omega
      · rw [(hr1 h).1]; simp
    have HI : Hid (impF (sx, sy) P ol = 0 → orderF P.length ol = 0) := Lib.hid imp_zero
    generalize hI : impF (sx, sy) P ol = I at *
    go_upto_if 73 with fail
    go_cut [14, 15, 16] from 73 to 84 (fun v14 v15 v16 wx => v14 = .int .i64 n ∧ v16 = .int .i64 k ∧ ∃ (a' : Option Addr) (c' : Nat), v15 = .slice a' r.length c' ∧ Ints wx 0 (.slice a' r.length c') r ∧ Ints wx 0 (.slice ra r.length rcap) r ∧ Cx w w2.heap.size sx sy (.slice pa P.length pcap) (.slice oa ol.length ocap) P ol wx)
    case first =>
      obtain ⟨z1, z2⟩ := blk2 hcx8.hS
      by_cases hI0 : I = 0
      · have hIb : (I == 0) = true := by simpa using hI0
        obtain ⟨o, ho, ho1, ho2, ho3⟩ := orderF_zero (HI.out hI0)
        have hn3 := hn2 o ho hI0
        obtain ⟨t, o', hT, hN, hro, hk⟩ := hr2 o ho hI0
        have hro8 : Ints w8 0 (.slice oa ol.length ocap) (nats o) := ho ▸ hcx8.ro
        clear hn1 hn2 hr1 hr2 hI
        have Ho := Lib.hid ho
        have Hn3 := Lib.hid hn3
        have Hro := Lib.hid hro
        have Hk := Lib.hid hk
        clear ho hn3 hro hk hI0
        go_wp2_with fail
        refine (LengthOf_any (sx, sy) P o _ _ _ hst hPb ho1 (by omega) hcx8.rp hro8).mono ?_
        rintro e w9 ⟨rfl, hb9⟩
        have hcx9 := hcx8.below hb9
        have hro9 := hro8.below hb9
        have hr9 := (hr.below hb9)
        clear z1 z2
        obtain ⟨z1, z2⟩ := blk2 hcx9.hS
        go_wp2_with fail
        refine (ImprovedOf_any (sx, sy) P o _ _ _ hst hPb ho1 (by omega) hro9 hcx9.rp).mono ?_
        rintro e w10 ⟨⟨t2, o2, v2, n2, hT2, hN2, rfl, hO2, hn2⟩, hb10⟩
        have ho2e : o2 = o' := hT2.uniq hN2 hT hN
        have Ho2 := Lib.hid (show nats o2 = r by rw [Hro.out, ho2e])
        have Hn2 := Lib.hid (show n2 = k by rw [hn2, Hk.out, ho2e])
        clear hn2 ho2e
        obtain ⟨a2, c2, rfl, _, _⟩ := Ints.form hO2.ints
        go_wp2_with fail
        go_meet
        case rel =>
          refine ⟨by rw [Hn3.out], by rw [Hn2.out], a2, c2, by rw [Ho2.out], ?_, (hr9.below hb10).ints0, hcx9.below hb10⟩
          have := hO2.ints0
          rw [Ho2.out] at this
          exact this
      · have hIb : (I == 0) = false := by simpa using hI0
        have e1 := hn1 hI0
        obtain ⟨e2, e3⟩ := hr1 hI0
        have E1 := Lib.hid e1
        have E2 := Lib.hid e2
        have E3 := Lib.hid e3
        clear e1 e2 e3 hn1 hn2 hr1 hr2 hI
        go_wp2_with fail
        go_meet
        case rel =>
          refine ⟨by rw [E1.out], by rw [E3.out], none, 0, by rw [E2.out]; rfl, ?_, hr.ints0, hcx8⟩
          rw [E2.out]; exact Rd.nil _ _
    case rest =>
      obtain ⟨rfl, rfl, a', c', rfl, hr', hrx, hcx⟩ := hcut
      clear hn1 hn2 hr1 hr2 hI hcx6 hcx7 hcx8 hb7 hb8 hr
      go_wp2_with fail
      refine (EqualI_any r r _ _ _ (by omega) (by omega) hrx hr').mono ?_
      rintro e w9 ⟨rfl, q9, hw9⟩
      have hb9 : Below wc.heap.size wc w9 := hw9 ▸ Bl.drewN (Below.refl _ _) q9
      have heq : eqL r r = true := by unfold eqL; simp
      rw [heq]
      have hcx9 := hcx.below hb9
      clear hcx hr' hrx hw9 hb9
      obtain ⟨z1, z2⟩ := blk2 hcx9.hS
      go_wp2_with fail
      refine (Nearest_any (sx, sy) P _ _ hst hPb (by omega) hcx9.rp).mono ?_
      rintro e w10 ⟨⟨m, vm, d, rfl, hm, hm1, hm2⟩, hb10⟩
      have hcx10 := hcx9.below hb10
      obtain ⟨ma, mcap, rfl, _, _⟩ := Ints.form hm.ints
      clear z1 z2 hcx9 hb10
      have hmlen : m.length ≤ 1000 := by
        by_cases h : tourF (sx, sy) P 500 = 0
        · rw [(hm2 h).1, nats_len, (nearTo_ok P (sx, sy) P.length (Nat.le_refl _)).1]; omega
        · rw [(hm1 h).1]; simp
      generalize hT : tourF (sx, sy) P 500 = T5 at *
      go_upto_if 117 with fail
      go_cut [20, 21] from 117 to 123 (fun v20 v21 wx => v21 = .int .i64 d ∧ ∃ (a' : Option Addr) (c' : Nat), v20 = .slice a' m.length c' ∧ Ints wx 0 (.slice a' m.length c') m ∧ Ints wx 0 (.slice ma m.length mcap) m ∧ Cx w w2.heap.size sx sy (.slice pa P.length pcap) (.slice oa ol.length ocap) P ol wx)
      case first =>
        obtain ⟨z1, z2⟩ := blk2 hcx10.hS
        by_cases hT0 : T5 = 0
        · have hTb : (T5 == 0) = true := by simpa using hT0
          obtain ⟨e1, e2⟩ := hm2 hT0
          have E1 := Lib.hid e1
          have E2 := Lib.hid e2
          clear e1 e2 hm1 hm2 hT hT0
          go_wp2_with fail
          refine (NearestOf_any (sx, sy) P _ _ hst hPb (by omega) hcx10.rp).mono ?_
          rintro e w11 ⟨⟨v11, n11, rfl, hO11, hn11⟩, hb11⟩
          have Hn := Lib.hid (show n11 = d by rw [hn11, E2.out])
          clear hn11
          rw [← E1.out] at hO11
          obtain ⟨a2, c2, rfl, _, _⟩ := Ints.form hO11.ints
          go_wp2_with fail
          go_meet
          case rel => exact ⟨by rw [Hn.out], a2, c2, rfl, hO11.ints0, (hm.below hb11).ints0, hcx10.below hb11⟩
        · have hTb : (T5 == 0) = false := by simpa using hT0
          obtain ⟨e1, e2⟩ := hm1 hT0
          have E1 := Lib.hid e1
          have E2 := Lib.hid e2
          clear e1 e2 hm1 hm2 hT hT0
          go_wp2_with fail
          go_meet
          case rel =>
            refine ⟨by rw [E2.out], none, 0, by rw [E1.out]; rfl, ?_, hm.ints0, hcx10⟩
            rw [E1.out]; exact Rd.nil _ _
      case rest =>
        obtain ⟨rfl, a', c', rfl, hr', hrx, hcx⟩ := hcut
        clear hm1 hm2 hT hcx10 hm
        go_wp2_with fail
        refine (EqualI_any m m _ _ _ (by omega) (by omega) hrx hr').mono ?_
        rintro e w9 ⟨rfl, q9, hw9⟩
        have hb9 : Below wc.heap.size wc w9 := hw9 ▸ Bl.drewN (Below.refl _ _) q9
        have heq : eqL m m = true := by unfold eqL; simp
        rw [heq]
        have hcx9 := hcx.below hb9
        clear hcx hr' hrx hw9 hb9
        obtain ⟨z1, z2⟩ := blk2 hcx9.hS
        go_wp2_with fail
        refine (Shortest_any (sx, sy) P _ _ hst hPb (by omega) hcx9.rp).mono ?_
        rintro e w10 ⟨⟨x, vx, le, rfl, hx, hx1, hx2⟩, hb10⟩
        have hcx10 := hcx9.below hb10
        obtain ⟨xa, xcap, rfl, _, _⟩ := Ints.form hx.ints
        clear z1 z2 hcx9 hb10
        obtain ⟨z1, z2⟩ := blk2 hcx10.hS
        have hlen9 := tourF_len (st := (sx, sy)) (P := P) (m := 9)
        have htl := tlist_full (sx, sy) P hst hPb
        generalize hT9 : tourF (sx, sy) P 9 = T9 at *
        by_cases h9 : T9 = 0
        · have h9b : (T9 == 0) = true := by simpa using h9
          have h9c : (T9 != 0) = false := by simpa using h9
          obtain ⟨e1, e2⟩ := hx2 h9
          have hP9 := hlen9 h9
          have htl := htl (by omega)
          have hxl : x.length = P.length := by rw [e1, nats_len, htl]
          have E1 := Lib.hid e1
          have E2 := Lib.hid e2
          have HT9 := Lib.hid hT9
          clear hx1 hx2 e1 e2 htl hlen9 hT9
          have hxl6 : x.length ≤ 1000000 := by omega
          by_cases h6 : 6 < P.length
          · go_wp2_with fail
            refine (TourFault_any (sx, sy) P 9 _ _ (by omega) hcx10.rp).mono ?_
            rintro e w11 ⟨rfl, hb11⟩
            rw [HT9.out]
            have hcx11 := hcx10.below hb11
            go_wp2_with fail
            refine (toured_any _).mono ?_
            rintro e w12 ⟨rfl, hb12⟩
            go_wp2
            go_ret
            exact ⟨rfl, (hcx11.below hb12).hb⟩
          · clear hxl
            go_wp2_with fail
            refine (TourFault_any (sx, sy) P 9 _ _ (by omega) hcx10.rp).mono ?_
            rintro e w11 ⟨rfl, hb11⟩
            rw [HT9.out]
            have hcx11 := hcx10.below hb11
            clear z1 z2
            obtain ⟨z1, z2⟩ := blk2 hcx11.hS
            go_wp2_with fail
            refine (ShortestOf_any (sx, sy) P _ _ hst hPb (by omega) hcx11.rp).mono ?_
            rintro e w12 ⟨⟨v12, rfl, hO12⟩, hb12⟩
            have hx12 := (hx.below hb11).below hb12
            have hcx12 := hcx11.below hb12
            rw [← E1.out] at hO12
            obtain ⟨ba, bcap, rfl, _, _⟩ := Ints.form hO12.ints
            rw [← E2.out]
            go_wp2_with fail
            refine (EqualI_any x x _ _ _ hxl6 hxl6 hx12.ints0 hO12.ints0).mono ?_
            rintro e w13 ⟨rfl, q13, hw13⟩
            have heq : eqL x x = true := by unfold eqL; simp
            rw [heq]
            have hcx13 := hcx12.below (hw13 ▸ Bl.drewN (Below.refl _ _) q13)
            clear hw13
            go_wp2_with fail
            refine (toured_any _).mono ?_
            rintro e w14 ⟨rfl, hb14⟩
            go_wp2
            go_ret
            exact ⟨rfl, (hcx13.below hb14).hb⟩
        · have h9b : (T9 == 0) = false := by simpa using h9
          have h9c : (T9 != 0) = true := by simpa using h9
          obtain ⟨rfl, rfl⟩ := hx1 h9
          have HT9 := Lib.hid hT9
          clear hx1 hx2 htl hlen9 hT9
          go_wp2_with fail
          refine (TourFault_any (sx, sy) P 9 _ _ (by omega) hcx10.rp).mono ?_
          rintro e w11 ⟨rfl, hb11⟩
          rw [HT9.out]
          have hcx11 := hcx10.below hb11
          go_wp2_with fail
          refine (toured_any _).mono ?_
          rintro e w12 ⟨rfl, hb12⟩
          go_wp2
          go_ret
          exact ⟨rfl, (hcx11.below hb12).hb⟩
end Go.Proofs.Ytgcmlhpocbgkaaa
