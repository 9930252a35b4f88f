/- Texts of the proof of a law, put together, part 33 of 46. Conditions: none beyond those that each theorem names. -/
import Derived.Test.YtilhonppgedoiaaGreatDoorFz18
import Derived.Test.YtilhonppgedoiaaGreatDoorFz32
namespace Go.Proofs.YtilhonppgedoiaaGreatDoor
open Go.RowKit Go.Sort Go.Maps
set_option maxHeartbeats 4000000 in
set_option maxRecDepth 100000 in
theorem RFeedW_any (x : Fed) (w : World) (hT : TxW w) (hx : FdT x) (hm : -9223372036854775808 ≤ x.mn ∧ x.mn ≤ 9223372036854775807) :
    Calls Tryz.prog 60 #[fedV x] w fun e w' => ∃ r : ByteArray, e = .returned (.string r) ∧ bsOf r = joinL 32 (wordsF x) ∧ Below w.heap.size w w' := by
  obtain ⟨at', kd, fd, rk, mn, bd⟩ := x
  have hkd : 1 ≤ kd ∧ kd ≤ 5 := hx.kd
  have hm' : -9223372036854775808 ≤ mn ∧ mn ≤ 9223372036854775807 := hm
  have zf : uF kd = true → fd.size ≤ 40 := fun h => keyB_size (hx.fd h)
  have zr : uR kd = true → rk.size ≤ 40 := fun h => keyB_size (hx.rl h)
  have zb : uB kd = true → bd.size ≤ 40 := fun h => keyB_size (hx.bd h)
  have HZ := Lib.hid (And.intro zf (And.intro zr zb))
  change Calls _ _ #[.agg #[.int .i64 at', .int .i64 kd, .string fd, .string rk, .int .i64 mn, .string bd]] _ _
  obtain ⟨w0, hw0⟩ : ∃ w0, w0 = w.alloc (.cells #[.int .i64 at', .int .i64 kd, .string fd, .string rk, .int .i64 mn, .string bd] 37) := ⟨_, rfl⟩
  have HA0 : Hid (Below w.heap.size w w0) := Lib.hid (by rw [hw0]; exact Bl.alloc (Below.refl _ _) _)
  have HXC := Lib.hid (show ∀ W, Below w0.heap.size w0 W → W.cell? ⟨w.heap.size, 0, none⟩ = some (.int .i64 at') ∧ W.cell? ⟨w.heap.size, 1, none⟩ = some (.int .i64 kd) ∧ W.cell? ⟨w.heap.size, 2, none⟩ = some (.string fd) ∧ W.cell? ⟨w.heap.size, 3, none⟩ = some (.string rk) ∧ W.cell? ⟨w.heap.size, 4, none⟩ = some (.int .i64 mn) ∧ W.cell? ⟨w.heap.size, 5, none⟩ = some (.string bd) from fun W hW => by
    have h : W.heap[w.heap.size]? = some (.cells #[.int .i64 at', .int .i64 kd, .string fd, .string rk, .int .i64 mn, .string bd] 37 (0, 0)) := blk_below (by rw [hw0]; exact blk_new w _) hW
    exact ⟨blk_cell h 0, blk_cell h 1, blk_cell h 2, blk_cell h 3, blk_cell h 4, blk_cell h 5⟩)
  obtain ⟨ix, hix⟩ : ∃ ix : ByteArray, ix = ⟨(Lib.itoa mn).toArray⟩ := ⟨_, rfl⟩
  have hixl : bsOf ix = Lib.itoa mn := by rw [hix]; exact bsOf_baOf _
  have zi : ix.size ≤ 20 := by rw [← bsOf_len, hixl]; exact itoa20 hm'
  have HIXL := Lib.hid hixl
  have HT0 := Lib.hid (hT.below HA0.out)
  have HIX : Hid (∀ W, Below w0.heap.size w0 W → Calls Tryz.prog 29 #[.int .i64 mn] W fun e w' => e = .returned (.string ix) ∧ Below w0.heap.size w0 w') := Lib.hid fun W hW => by
    rw [hix]
    refine (Itoa_any mn W (HT0.out.below hW) hm'.1 hm'.2).mono ?_
    rintro e w' ⟨rfl, hh⟩
    exact ⟨rfl, Bl.trans hW hh⟩
  have HW := Lib.hid hw0
  have lX0 : w.heap.size < w0.heap.size := by rw [hw0]; simp
  clear hT hx hm hm' zf zr zb hw0 hix hixl
  rcases five hkd with rfl | rfl | rfl | rfl | rfl
  · have z1 := HZ.out.1 rfl
    have z2 := HZ.out.2.1 rfl
    have q1 : ¬ 9223372036854775807 < 5 + fd.size := by omega
    have q2 : ¬ 9223372036854775807 < 5 + fd.size + 1 := by omega
    have q3 : ¬ 9223372036854775807 < 5 + fd.size + 1 + rk.size := by omega
    have HB := HA0
    go_enter Tryz.func60, Tryz.ntmps60
    go_upto_region 1 with fail
    rw [← HW.out]
    obtain ⟨x0, x1, x2, x3, x4, x5⟩ := HXC.out w0 (Below.refl _ _)
    go_wp2
    go_ret
    exact ⟨_, rfl, by show _ = joinL 32 [kwFof 1, bsOf fd, bsOf rk]; simp [bsOf, joinL, kwFof, kwF], HB.out⟩
  · have z1 := HZ.out.1 rfl
    have z2 := HZ.out.2.1 rfl
    have q1 : ¬ 9223372036854775807 < 7 + fd.size := by omega
    have q2 : ¬ 9223372036854775807 < 7 + fd.size + 1 := by omega
    have q3 : ¬ 9223372036854775807 < 7 + fd.size + 1 + rk.size := by omega
    have HB := HA0
    go_enter Tryz.func60, Tryz.ntmps60
    go_upto_region 1 with fail
    rw [← HW.out]
    obtain ⟨x0, x1, x2, x3, x4, x5⟩ := HXC.out w0 (Below.refl _ _)
    go_wp2
    go_ret
    exact ⟨_, rfl, by show _ = joinL 32 [kwFof 2, bsOf fd, bsOf rk]; simp [bsOf, joinL, kwFof, kwF], HB.out⟩
  · have z1 := HZ.out.1 rfl
    have q1 : ¬ 9223372036854775807 < 7 + fd.size := by omega
    have HB := HA0
    go_enter Tryz.func60, Tryz.ntmps60
    go_upto_region 1 with fail
    rw [← HW.out]
    obtain ⟨x0, x1, x2, x3, x4, x5⟩ := HXC.out w0 (Below.refl _ _)
    go_wp2
    go_ret
    exact ⟨_, rfl, by show _ = joinL 32 [kwFof 3, bsOf fd]; simp [bsOf, joinL, kwFof, kwF], HB.out⟩
  · have z1 := HZ.out.1 rfl
    have z2 := HZ.out.2.2 rfl
    have q1 : ¬ 9223372036854775807 < 4 + fd.size := by omega
    have q2 : ¬ 9223372036854775807 < 4 + fd.size + 1 := by omega
    have q3 : ¬ 9223372036854775807 < 4 + fd.size + 1 + ix.size := by omega
    have q4 : ¬ 9223372036854775807 < 4 + fd.size + 1 + ix.size + 1 := by omega
    have q5 : ¬ 9223372036854775807 < 4 + fd.size + 1 + ix.size + 1 + bd.size := by omega
    go_enter Tryz.func60, Tryz.ntmps60
    go_upto_region 1 with fail
    rw [← HW.out]
    obtain ⟨x0, x1, x2, x3, x4, x5⟩ := HXC.out w0 (Below.refl _ _)
    go_upto_region 9 with fail
    go_region_law (refine step_goN rfl 29 #[.tmp 35] _ rfl (enters_of Tryz.func29 (by kernel_rfl) rfl) #[.int .i64 mn] (by simp [Act.eval, Act.put]) (fun e w' => e = .returned (.string ix) ∧ Below w0.heap.size w0 w') (by have hh := HIX.out _ (Below.drew (Below.refl _ _)); exact hh) ?_; rintro e w1 ⟨rfl, hb1⟩; refine ⟨_, rfl, ?_⟩; obtain ⟨d0, d1, d2, d3, d4, d5⟩ := HXC.out w1 hb1; have lz1 : w.heap.size < w1.heap.size := Nat.lt_of_lt_of_le lX0 hb1.size; have HB : Hid (Below w.heap.size w w1) := Lib.hid (Bl.trans HA0.out hb1); clear hb1)
    all_goals (
      go_wp2
      go_ret
      exact ⟨_, rfl, by show _ = joinL 32 [kwFof 4, bsOf fd, Lib.itoa mn, bsOf bd]; rw [← HIXL.out]; simp [bsOf, joinL, kwFof, kwF], HB.out⟩)
  · have z1 := HZ.out.2.1 rfl
    have q1 : ¬ 9223372036854775807 < 6 + rk.size := by omega
    have q2 : ¬ 9223372036854775807 < 6 + rk.size + 1 := by omega
    have q3 : ¬ 9223372036854775807 < 6 + rk.size + 1 + ix.size := by omega
    go_enter Tryz.func60, Tryz.ntmps60
    go_upto_region 1 with fail
    rw [← HW.out]
    obtain ⟨x0, x1, x2, x3, x4, x5⟩ := HXC.out w0 (Below.refl _ _)
    go_upto_region 10 with fail
    go_region_law (refine step_goN rfl 29 #[.tmp 47] _ rfl (enters_of Tryz.func29 (by kernel_rfl) rfl) #[.int .i64 mn] (by simp [Act.eval, Act.put]) (fun e w' => e = .returned (.string ix) ∧ Below w0.heap.size w0 w') (by have hh := HIX.out _ (Below.drew (Below.refl _ _)); exact hh) ?_; rintro e w1 ⟨rfl, hb1⟩; refine ⟨_, rfl, ?_⟩; obtain ⟨d0, d1, d2, d3, d4, d5⟩ := HXC.out w1 hb1; have lz1 : w.heap.size < w1.heap.size := Nat.lt_of_lt_of_le lX0 hb1.size; have HB : Hid (Below w.heap.size w w1) := Lib.hid (Bl.trans HA0.out hb1); clear hb1)
    all_goals (
      go_wp2
      go_ret
      exact ⟨_, rfl, by show _ = joinL 32 [kwFof 5, bsOf rk, Lib.itoa mn]; rw [← HIXL.out]; simp [bsOf, joinL, kwFof, kwF], HB.out⟩)
theorem wrF_is {e : Fed} : wrF e = Lib.itoa e.at ++ 32 :: joinL 32 (wordsF e) := by
  unfold wrF wordsF
  rfl
/-! right events can be written -/
theorem reelsF1_keys : ∀ (l : List Rel) (p : Option ByteArray), reelsF1 p l = 0 → ∀ x ∈ l, keyB x.1 = true
  | [], _, _, _, hx => by cases hx
  | y :: l, p, h, x, hx => by
    rw [reelsF1] at h
    by_cases h0 : reelF p y = 0
    · rw [if_pos h0] at h
      rcases List.mem_cons.1 hx with rfl | hx
      · unfold reelF at h0
        split at h0
        · exact absurd h0 (by decide)
        · rename_i q; simpa using q
      · exact reelsF1_keys l _ h x hx
    · rw [if_neg h0] at h; exact absurd h h0
theorem feedF_text {rs : List Rel} {p : Option Int} {x : Fed} (hr : ∀ y ∈ rs, keyB y.1 = true) (h : feedF rs p x = 0) : FdS x ∧ FdI x := by
  unfold feedF at h
  split at h
  · exact absurd h (by decide)
  rename_i h1
  split at h
  · exact absurd h (by decide)
  rename_i h2
  split at h
  · exact absurd h (by decide)
  rename_i h3
  split at h
  · exact absurd h (by decide)
  rename_i h4
  split at h
  · exact absurd h (by decide)
  rename_i h5
  split at h
  · exact absurd h (by decide)
  rename_i h6
  have t1 : 0 ≤ x.at ∧ x.at ≤ 345686399999 := by unfold inB at h1; simpa using h1
  have hb : keysBad x = false := by
    have h4' : kbB x = false := by simpa using h4
    unfold kbB at h4'
    simp only [Bool.or_eq_false_iff] at h4'
    unfold keysBad
    rw [h4'.1, h4'.2, Bool.false_or, Bool.or_false]
    cases hu : uR x.2.1 with
    | false => rfl
    | true =>
      rw [hu] at h5
      have h7 : hasB rs x.2.2.2.1 = true := by simpa using h5
      unfold hasB at h7
      obtain ⟨y, hy, he⟩ := List.any_eq_true.1 h7
      have e := ba_inj (by simpa using he)
      rw [← e, hr y hy]; rfl
  have h0 : textF x = 0 := by
    unfold textF
    rw [if_neg h2, if_neg h3, if_neg (by rw [hb]; decide)]
  have hT := textF_ok h0
  have hm : 0 ≤ x.mn ∧ x.mn ≤ 100000 := by
    cases hu : uM x.kd with
    | false => rw [hT.mn hu]; decide
    | true =>
      unfold manyP at h6
      rw [show uM x.2.1 = true from hu] at h6
      have h8 : inB (lowM x.2.1) x.2.2.2.2.1 100000 = true := by
        cases hq : inB (lowM x.2.1) x.2.2.2.2.1 100000 with
        | true => rfl
        | false => rw [hq] at h6; exact absurd rfl h6
      unfold inB at h8
      simp only [Bool.and_eq_true, decide_eq_true_eq] at h8
      have : 0 ≤ lowM x.2.1 := by unfold lowM; split <;> decide
      have e1 : lowM x.2.1 ≤ x.mn := h8.1
      have e2 : x.mn ≤ 100000 := h8.2
      omega
  exact ⟨⟨hT, dig_few t1, dig_few ⟨hm.1, by omega⟩⟩, ⟨by omega, by omega⟩, by omega, by omega⟩
theorem feedsF1_text {rs : List Rel} (hr : ∀ y ∈ rs, keyB y.1 = true) : ∀ (l : List Fed) (p : Option Int), feedsF1 rs p l = 0 → ∀ e ∈ l, FdS e ∧ FdI e
  | [], _, _, _, he => by cases he
  | y :: l, p, h, e, he => by
    rw [feedsF1] at h
    by_cases h0 : feedF rs p y = 0
    · rw [if_pos h0] at h
      rcases List.mem_cons.1 he with rfl | he
      · exact feedF_text hr h0
      · exact feedsF1_text hr l _ h e he
    · rw [if_neg h0] at h; exact absurd h h0
theorem feedsF_text {rs : List Rel} {l : List Fed} (h : feedsF rs l = 0) : ∀ e ∈ l, FdS e ∧ FdI e := by
  unfold feedsF at h
  split at h
  · rename_i h0
    split at h
    · cases h
    · unfold reelsF at h0
      split at h0
      · cases h0
      · exact feedsF1_text (reelsF1_keys rs none h0) l none h
  · rename_i h0; exact absurd h h0
set_option maxHeartbeats 4000000 in
set_option maxRecDepth 100000 in
theorem RFLines_any (l : List Fed) (v : Value) (w : World) (hT : TxW w) (hlen : l.length ≤ 5000) (rp : RecR TFe w 0 v l) (hW : ∀ s ∈ l, FdT s) (hi : ∀ s ∈ l, FdI s) :
    Calls Tryz.prog 22 #[v] w fun e w' => ∃ r : ByteArray, e = .returned (.string r) ∧ bsOf r = textL wrF l ∧ Below w.heap.size w w' := by
  obtain ⟨a, cap, rfl, hc1, hc2⟩ := rp.form
  have HT := Lib.hid hT
  have RP := Lib.hid rp
  have HWW := Lib.hid hW
  have HI := Lib.hid hi
  clear hT rp hW hi
  go_enter Tryz.func22, Tryz.ntmps22
  go_wp2_with fail
  go_loopw [8] (fun i wr => ∃ (k : Nat), k ≤ l.length ∧ i = .int .i64 k ∧ Hid (Bd8 w.heap.size w.heap.size (textL wrF (l.take k)) wr) ∧ Below w.heap.size w wr) (fun i _ => l.length - (intOf i).toNat)
  case atStart =>
    refine ⟨0, Nat.zero_le _, rfl, Lib.hid ?_, by first | exact Bl.alloc (Below.refl _ _) _ | exact Below.refl _ _⟩
    refine .inl ⟨Nat.le_refl _, .slice none 0 0, blk_new w _, World.ownsRow_nil _ _ _ 1, by simp [Value.ownBlock]⟩
  case round =>
    obtain ⟨k, hk, rfl, hBd, hB⟩ := hrel
    have hz := hB.size
    by_cases hlt : k < l.length
    · obtain ⟨s, hs⟩ : ∃ x, l[k]? = some x := ⟨_, List.getElem?_eq_getElem hlt⟩
      have HTK : Hid (textL wrF (l.take (k + 1)) = textL wrF (l.take k) ++ (wrF s ++ [10])) := Lib.hid (by
        rw [List.take_add_one, hs]
        simp [textL])
      have hW := HWW.out s (List.mem_of_getElem? hs)
      have hI := HI.out s (List.mem_of_getElem? hs)
      have hwl := wrF_len hW hI.1 hI.2
      have htl : (textL wrF (l.take k)).length ≤ 705000 := by
        have h1 := textFd_len (l.take k) fun q hq => ⟨HWW.out q (List.mem_of_mem_take hq), HI.out q (List.mem_of_mem_take hq)⟩
        have h2 : (l.take k).length ≤ 5000 := by rw [List.length_take]; omega
        omega
      obtain ⟨b1, o1, rfl, _, hbb1, hc1⟩ := (RP.out.below hB).at TFe.ok.len hs TFe.ok.pos
      obtain ⟨at1, kd, fd, rk, mn, bd⟩ := s
      have c0 : wr.cell? ⟨b1, o1 + k * 6, none⟩ = some (.int .i64 at1) := hc1 0 _ rfl
      have c1 : wr.cell? ⟨b1, o1 + k * 6 + 1, none⟩ = some (.int .i64 kd) := hc1 1 _ rfl
      have c2 : wr.cell? ⟨b1, o1 + k * 6 + 2, none⟩ = some (.string fd) := hc1 2 _ rfl
      have c3 : wr.cell? ⟨b1, o1 + k * 6 + 3, none⟩ = some (.string rk) := hc1 3 _ rfl
      have c4 : wr.cell? ⟨b1, o1 + k * 6 + 4, none⟩ = some (.int .i64 mn) := hc1 4 _ rfl
      have c5 : wr.cell? ⟨b1, o1 + k * 6 + 5, none⟩ = some (.string bd) := hc1 5 _ rfl
      have hw1 : IntKind.i64.wrap ((k : Int) + 1) = ((k + 1 : Nat) : Int) := by rw [IntWalk.i64_in _ (by omega)]; omega
      have hat : -9223372036854775808 ≤ at1 ∧ at1 ≤ 9223372036854775807 := hI.1
      have hmn : -9223372036854775808 ≤ mn ∧ mn ≤ 9223372036854775807 := hI.2
      have HWst := Lib.hid hW
      clear hs hc1
      obtain ⟨ix, hix⟩ : ∃ ix : ByteArray, ix = ⟨(Lib.itoa at1).toArray⟩ := ⟨_, rfl⟩
      obtain ⟨W5, hW5⟩ : ∃ W5, W5 = wr.alloc (.cells #[.int .i64 at1, .int .i64 kd, .string fd, .string rk, .int .i64 mn, .string bd] 37) := ⟨_, rfl⟩
      have hA : Below wr.heap.size wr W5 := by rw [hW5]; exact Bl.alloc (Below.refl _ _) _
      have hB5 := Bl.trans hB hA
      have HT5 := Lib.hid (HT.out.below hB5)
      have hixl : bsOf ix = Lib.itoa at1 := by rw [hix]; exact bsOf_baOf _
      have hixs : ix.size ≤ 100 := by rw [← bsOf_len, hixl]; have := itoa20 hat; omega
      have HIX : Hid (∀ U, Below W5.heap.size W5 U → Calls Tryz.prog 29 #[.int .i64 at1] U fun e w' => e = .returned (.string ix) ∧ Below W5.heap.size W5 w') := Lib.hid fun U hU => by
        rw [hix]
        refine (Itoa_any at1 U (HT5.out.below hU) hat.1 hat.2).mono ?_
        rintro e w' ⟨rfl, hh⟩
        exact ⟨rfl, Bl.trans hU hh⟩
      have HWO : Hid (∀ U : World, Below W5.heap.size W5 U → Calls Tryz.prog 60 #[.agg #[.int .i64 at1, .int .i64 kd, .string fd, .string rk, .int .i64 mn, .string bd]] U fun e w' => ∃ r : ByteArray, e = .returned (.string r) ∧ r.size ≤ 140 ∧ Hid (bsOf (ix ++ ⟨#[32]⟩ ++ r ++ ⟨#[10]⟩) = wrF (at1, kd, fd, rk, mn, bd) ++ [10]) ∧ Below W5.heap.size W5 w') := Lib.hid fun U hU => by
        refine (RFeedW_any (at1, kd, fd, rk, mn, bd) U (HT5.out.below hU) HWst.out hmn).mono ?_
        rintro e w' ⟨r, rfl, hr, hb⟩
        have h1 : wrF (at1, kd, fd, rk, mn, bd) = Lib.itoa at1 ++ 32 :: joinL 32 (wordsF (at1, kd, fd, rk, mn, bd)) := wrF_is
        refine ⟨r, rfl, ?_, Lib.hid ?_, Bl.trans hU hb⟩
        · rw [h1] at hwl
          rw [← bsOf_len, hr]
          simp only [List.length_append, List.length_cons] at hwl
          omega
        · rw [h1, ← hixl, ← hr]
          simp [bsOf]
      have hb8 := hBd.out.below hA
      have HWS : Hid (∀ (st : ByteArray), bsOf st = wrF (at1, kd, fd, rk, mn, bd) ++ [10] → ∀ U, Below W5.heap.size W5 U → Calls Tryz.prog 27 #[.pointer (some ⟨w.heap.size, 0, none⟩), .string st] U fun e w' => (∃ rv, e = .returned rv) ∧ Bd8 w.heap.size w.heap.size (textL wrF (l.take (k + 1))) w' ∧ Below w.heap.size W5 w') := Lib.hid fun st e1 U hU => by
        have hz5 := hB5.size
        have hzU := hU.size
        have e2 : st.size ≤ 141 := by
          rw [← bsOf_len, e1, List.length_append, List.length_singleton]
          omega
        refine (WriteString_any w.heap.size w.heap.size _ st U (hb8.below hU) (by omega) (by omega)).mono ?_
        rintro e w' ⟨h0, h1, h2⟩
        have e3 : st.data.toList = wrF (at1, kd, fd, rk, mn, bd) ++ [10] := e1
        rw [e3, ← HTK.out] at h1
        exact ⟨⟨_, h0⟩, h1, (hU.mono hz5).trans h2⟩
      have HB5 := Lib.hid hB5
      have hsz5 : wr.heap.size < W5.heap.size := by rw [hW5]; simp
      have c50 : W5.cell? ⟨wr.heap.size, 0, none⟩ = some (.int .i64 at1) := by rw [hW5, blk_cell (blk_new wr _) 0]; rfl
      have c51 : W5.cell? ⟨wr.heap.size, 1, none⟩ = some (.int .i64 kd) := by rw [hW5, blk_cell (blk_new wr _) 1]; rfl
      have c52 : W5.cell? ⟨wr.heap.size, 2, none⟩ = some (.string fd) := by rw [hW5, blk_cell (blk_new wr _) 2]; rfl
      have c53 : W5.cell? ⟨wr.heap.size, 3, none⟩ = some (.string rk) := by rw [hW5, blk_cell (blk_new wr _) 3]; rfl
      have c54 : W5.cell? ⟨wr.heap.size, 4, none⟩ = some (.int .i64 mn) := by rw [hW5, blk_cell (blk_new wr _) 4]; rfl
      have c55 : W5.cell? ⟨wr.heap.size, 5, none⟩ = some (.string bd) := by rw [hW5, blk_cell (blk_new wr _) 5]; rfl
      have z1 : ¬ 9223372036854775807 < ix.size + 1 := by omega
      go_wp2
      rw [← hW5]
      clear hW5 hA hB5 hb8 hix htl c0 c1 c2 c3 c4 c5 hB hBd hat hmn hI hW hwl hixl
      go_region_law (first
        | (refine step_goN rfl 29 #[.tmp 13] _ rfl (enters_of Tryz.func29 (by kernel_rfl) rfl) #[.int .i64 at1] (by simp [Act.eval, Act.put]) (fun e w' => e = .returned (.string ix) ∧ Below W5.heap.size W5 w') (by have hh := HIX.out _ (Below.drew (Below.refl _ _)); exact hh) ?_; rintro e w1 ⟨rfl, hb1⟩; refine ⟨_, rfl, ?_⟩; have d0 := (hb1.cell (p := ⟨wr.heap.size, 0, none⟩) hsz5).trans c50; have d1 := (hb1.cell (p := ⟨wr.heap.size, 1, none⟩) hsz5).trans c51; have d2 := (hb1.cell (p := ⟨wr.heap.size, 2, none⟩) hsz5).trans c52; have d3 := (hb1.cell (p := ⟨wr.heap.size, 3, none⟩) hsz5).trans c53; have d4 := (hb1.cell (p := ⟨wr.heap.size, 4, none⟩) hsz5).trans c54; have d5 := (hb1.cell (p := ⟨wr.heap.size, 5, none⟩) hsz5).trans c55; have lz1 : wr.heap.size < w1.heap.size := Nat.lt_of_lt_of_le hsz5 hb1.size; have HB1 := Lib.hid hb1; clear hb1)
        | (refine step_goN rfl 60 #[.tmp 16] _ rfl (enters_of Tryz.func60 (by kernel_rfl) rfl) #[.agg #[.int .i64 at1, .int .i64 kd, .string fd, .string rk, .int .i64 mn, .string bd]] (by simp [Act.eval, Act.put]) _ (by have hh := HWO.out _ HB1.out; exact hh) ?_; rintro e w2 ⟨r, rfl, hr9, HRS, hb2⟩; refine ⟨_, rfl, ?_⟩; have HB2 := Lib.hid hb2; have z2 : ¬ 9223372036854775807 < ix.size + 1 + r.size := (by omega); have z3 : ¬ 9223372036854775807 < ix.size + 1 + r.size + 1 := (by omega); clear hb2)
        | (refine step_goN rfl 27 #[.tmp 3, .tmp 19] _ rfl (enters_of Tryz.func27 (by kernel_rfl) rfl) #[.pointer (some ⟨w.heap.size, 0, none⟩), .string (ix ++ ⟨#[32]⟩ ++ r ++ ⟨#[10]⟩)] (by simp [Act.eval, Act.put]) (fun e w' => (∃ rv, e = .returned rv) ∧ Bd8 w.heap.size w.heap.size (textL wrF (l.take (k + 1))) w' ∧ Below w.heap.size W5 w') (by have hh := HWS.out _ HRS.out _ HB2.out; exact hh) ?_; rintro e w5 ⟨⟨rv, rfl⟩, hb8, hb5⟩; refine ⟨_, rfl, ?_⟩))
      all_goals (
        have H8 := Lib.hid hb8
        have HF3 := Lib.hid ((HB5.out).trans hb5)
        clear hb8 hb5
        go_wp2
        go_roundw
        case rel => exact ⟨k + 1, by omega, by go_num, H8, HF3.out⟩
        case measure => simp [intOf]; omega)
    · obtain rfl : k = l.length := by omega
      have HS := Lib.hid fun (U : World) (hU : Bd8 w.heap.size w.heap.size (textL wrF l) U) (hz : w.heap.size ≤ U.heap.size) => BString_any w.heap.size w.heap.size (textL wrF l) U hU hz
      have hb0 := hBd.out
      rw [List.take_length] at hb0
      go_wp2_with fail
      refine (HS.out _ hb0 (by omega)).mono ?_
      rintro e w2 ⟨rfl, hb⟩
      have hBF := hB.trans hb
      go_wp2
      go_ret
      exact ⟨_, rfl, bsOf_baOf _, hBF⟩
set_option maxHeartbeats 4000000 in
set_option maxRecDepth 100000 in
theorem FeedString_any (s : Nat) (c : Int) (w : World) (h : Str w s c) (hT : TxW w) (hg1 : 0 < s) (hg2 : 1 < s) (hc : c ≤ 700000) :
    Calls Tryz.prog 9 #[.pointer (some ⟨s, 0, none⟩)] w fun e w' => ∃ r : ByteArray, e = .returned (.string r) ∧ r.size ≤ 2000 ∧ Str w' s (c + 80100) ∧ w.grownBy w' (some s) := by
  have ls := h.lt
  have HT := Lib.hid hT
  clear hT
  go_enter Tryz.func9, Tryz.ntmps9
  go_wp2_with fail
  refine (RightFeeds_any s c w h hc).mono ?_
  rintro e w1 ⟨vr, rs, vx, x, rfl, hR1, hO1, hr4, hx24, hrok, hxok, hx0, hS1, hG1⟩
  obtain ⟨ra, rn, rcap, rfl⟩ : ∃ a n c, vr = .slice a n c := by obtain ⟨a, c, h, _, _⟩ := hR1.form; exact ⟨a, _, c, h⟩
  obtain ⟨xa, xcap, rfl, hx1, hx2⟩ := hO1.form
  have hz1 := hG1.size
  have HT1 := Lib.hid (HT.out.low (Gr.below hG1 (Nat.le_refl _) (Nat.le_of_lt ls)) hg1 hg2)
  obtain ⟨n, hn⟩ : ∃ n, n = min x.length 6 := ⟨_, rfl⟩
  have hn1 : n ≤ x.length ∧ n ≤ 6 := by omega
  have hmin : min (x.length : Int) 6 = (n : Int) := by omega
  have HS := Lib.hid (fun q (hq : q ∈ x.take n) => feedsF_text hx0 q (List.mem_of_mem_take hq))
  have HR := Lib.hid (hO1.rec0.take n hn1.1)
  have HSL := Lib.hid (RFLines_any (x.take n) (.slice xa n xcap) w1 HT1.out (by rw [List.length_take]; omega) HR.out (fun q hq => (HS.out q hq).1.t) (fun q hq => (HS.out q hq).2))
  have HLEN : Hid (∀ r : ByteArray, bsOf r = textL wrF (x.take n) → r.size ≤ 900) := Lib.hid fun r hr => by
    have h1 := textFd_len (x.take n) (fun q hq => ⟨(HS.out q hq).1.t, (HS.out q hq).2⟩)
    have h2 : (x.take n).length ≤ 6 := by rw [List.length_take]; omega
    rw [← bsOf_len, hr]
    omega
  have hn2 : (n : Int) ≤ (xcap : Int) := by omega
  have hn3 : n ≤ xcap := by omega
  clear hO1 hR1 hr4 hrok hxok hx0 hn
  go_wp2_with fail
  refine HSL.out.mono ?_
  rintro e w2 ⟨r, rfl, hr, hb2⟩
  have hrs := HLEN.out r hr
  have hz2 := hb2.size
  have hG2 := Gr.trans hG1 (Gr.of_below hb2 (some s))
  have hS3 := (hS1.below hb2).alloc (.cells #[.int .i64 0, .int .i64 0, .int .i64 1, .int .i64 2] 3)
  have hG3' := Gr.alloc hG2 (.cells #[.int .i64 0, .int .i64 0, .int .i64 1, .int .i64 2] 3)
  clear hr hb2 hG1 hS1 hG2 HSL
  go_wp2_with fail
  refine (Pick_any s _ [0, 0, 1, 2] _ _ hS3 (by omega) (Ints.of_blk (blk_new _ _) rfl rfl (by simp) (by omega) (by omega)) (by simp) (by simp)).mono ?_
  rintro e w4 ⟨m, rfl, hm, hS4, hG4⟩
  obtain ⟨m, rfl, hm2⟩ : ∃ m' : Nat, m = (m' : Int) ∧ m' ≤ 2 := by
    simp only [List.mem_cons, List.not_mem_nil, or_false] at hm
    exact ⟨m.toNat, by omega, by omega⟩
  have hG4' := Gr.trans hG3' hG4
  clear hm hG3' hG4 hS3
  go_wp2_with fail
  go_loopw [5, 20] (fun v i wr => ∃ (k : Nat) (t : ByteArray), k ≤ m ∧ i = .int .i64 k ∧ v = .string t ∧ t.size ≤ 900 + 11 * k ∧ Str wr s (c + 80001 + 3 * k) ∧ w.grownBy wr (some s)) (fun _ i _ => m - (intOf i).toNat)
  case atStart => exact ⟨0, r, Nat.zero_le _, rfl, rfl, by omega, hS4.mono (by omega), hG4'⟩
  case round =>
    obtain ⟨k, t, hk, rfl, rfl, ht, hS, hG⟩ := hrel
    by_cases hlt : k < m
    · have hw1 : IntKind.i64.wrap ((k : Int) + 1) = ((k + 1 : Nat) : Int) := by rw [IntWalk.i64_in _ (by omega)]; omega
      have HC := Lib.hid (Changed_any s _ t ⟨#[32, 10, 48, 49, 108, 117, 45]⟩ wr hS (by omega) (by omega) (by show 0 < 7; omega) (by show 7 ≤ 1000; omega))
      go_wp2_with fail
      refine HC.out.mono ?_
      rintro e w5 ⟨r5, rfl, hr5, hS5, hG5⟩
      have hr6 : r5.size ≤ 900 + 11 * (k + 1) := by
        have : (⟨#[32, 10, 48, 49, 108, 117, 45]⟩ : ByteArray).size = 7 := rfl
        rw [this] at hr5
        omega
      have hG6 := Gr.trans hG hG5
      clear hr5 hG5
      go_wp2
      go_roundw
      case rel => exact ⟨k + 1, r5, by omega, by go_num, rfl, hr6, hS5.mono (by omega), hG6⟩
      case measure => simp [intOf]; omega
    · go_wp2
      go_ret
      exact ⟨_, rfl, by omega, hS.mono (by omega), hG⟩
end Go.Proofs.YtilhonppgedoiaaGreatDoor
