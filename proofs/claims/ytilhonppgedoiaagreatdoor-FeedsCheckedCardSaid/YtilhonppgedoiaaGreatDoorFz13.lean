/- Texts of the proof of a law, put together, part 13 of 46. Conditions: none beyond those that each theorem names. -/
import Derived.Test.YtilhonppgedoiaaGreatDoorFz12
namespace Go.Proofs.YtilhonppgedoiaaGreatDoor
open Go.RowKit Go.Sort
def feedsF1 (rs : List Rel) : Option Int → List Fed → Int
  | _, [] => 0
  | p, x :: l => if feedF rs p x = 0 then feedsF1 rs (some x.1) l else feedF rs p x
def feedsF (rs : List Rel) (l : List Fed) : Int := if reelsF rs = 0 then (if 5000 < l.length then 2 else feedsF1 rs none l) else reelsF rs
theorem feedsF1_go {rs : List Rel} {l : List Fed} {k : Nat} {x : Fed} (hx : l[k]? = some x) (h : feedF rs (prevT l k) x = 0) : feedsF1 rs (prevT l k) (l.drop k) = feedsF1 rs (prevT l (k + 1)) (l.drop (k + 1)) := by
  obtain ⟨hk, e⟩ := List.getElem?_eq_some_iff.1 hx
  rw [List.drop_eq_getElem_cons hk, e, feedsF1, if_pos h]
  show _ = feedsF1 rs ((l[k]?).map (·.1)) _
  rw [hx]; rfl
theorem feedsF1_stop {rs : List Rel} {l : List Fed} {k : Nat} {x : Fed} (hx : l[k]? = some x) (h : feedF rs (prevT l k) x ≠ 0) : feedsF1 rs (prevT l k) (l.drop k) = feedF rs (prevT l k) x := by
  obtain ⟨hk, e⟩ := List.getElem?_eq_some_iff.1 hx
  rw [List.drop_eq_getElem_cons hk, e, feedsF1, if_neg h]
set_option maxHeartbeats 8000000 in
set_option maxRecDepth 100000 in
theorem CheckFeeds_any (rs : List Rel) (l : List Fed) (vr vl : Value) (w : World) (hlr : rs.length ≤ 1000000) (hl : l.length ≤ 1000000) (rr : RecR TRe w 0 vr rs) (rl : RecR TFe w 0 vl l) (hzr : RelZ rs) (hz : FedZ l) :
    Calls Tryz.prog 16 #[vr, vl] w fun e w' => e = .returned (.int .i64 (feedsF rs l)) ∧ Below w.heap.size w w' := by
  have HCR := Lib.hid (CheckReels_any rs vr w hlr rr hzr)
  have RR := Lib.hid rr
  have RL := Lib.hid rl
  obtain ⟨ra, rcap, rfl, _, _⟩ := rr.form
  obtain ⟨fa, fcap, rfl, _, _⟩ := rl.form
  obtain ⟨F, hF⟩ : ∃ F, F = feedsF rs l := ⟨_, rfl⟩
  rw [← hF]
  have HF := Lib.hid hF
  clear rr rl hF
  by_cases h0 : reelsF rs = 0
  · have HSR := Lib.hid (reelsF_sorted h0).1
    rw [h0] at HCR
    by_cases hbig : 5000 < l.length
    · have HFF : Hid (F = 2) := Lib.hid (by rw [HF.out]; unfold feedsF; rw [if_pos h0, if_pos hbig])
      have e1 : (5000 : Int) < (l.length : Int) := by omega
      clear h0 hbig
      go_enter Tryz.func16, Tryz.ntmps16
      go_wp2_with fail
      refine HCR.out.mono ?_
      rintro e w2 ⟨rfl, hb2⟩
      have HB2 := Lib.hid hb2
      clear hb2
      go_wp2
      go_ret
      exact ⟨ret_int HFF.out.symm, HB2.out⟩
    · have HF1 : Hid (F = feedsF1 rs none l) := Lib.hid (by rw [HF.out]; unfold feedsF; rw [if_pos h0, if_neg hbig])
      have e1 : ¬ (5000 : Int) < (l.length : Int) := by omega
      clear h0 hbig
      go_enter Tryz.func16, Tryz.ntmps16
      go_wp2_with fail
      refine HCR.out.mono ?_
      rintro e w2 ⟨rfl, hb2⟩
      have HB2 := Lib.hid hb2
      clear hb2
      go_wp2_with fail
      clear e1
      go_loopw [18] (fun i wr => ∃ k : Nat, k ≤ l.length ∧ i = .int .i64 k ∧ Hid (F = feedsF1 rs (prevT l k) (l.drop k)) ∧ Hid (Below w.heap.size w wr)) (fun i _ => l.length - (intOf i).toNat)
      case atStart => exact ⟨0, Nat.zero_le _, rfl, Lib.hid (by rw [HF1.out]; rfl), HB2⟩
      case round =>
        obtain ⟨k, hk, rfl, hP, HB⟩ := hrel
        by_cases hlt : k < l.length
        · obtain ⟨s, hs⟩ : ∃ x, l[k]? = some x := ⟨_, List.getElem?_eq_getElem hlt⟩
          have hw9 : IntKind.i64.wrap ((k : Int) + 1) = ((k + 1 : Nat) : Int) := by rw [IntWalk.i64_in _ (by omega)]; omega
          have HC := Lib.hid (feedFault_any rs l k _ _ wr hlr HSR.out hl hlt (RR.out.below HB.out) (RL.out.below HB.out) hz s hs)
          obtain ⟨q, hq⟩ : ∃ q, q = feedF rs (prevT l k) s := ⟨_, rfl⟩
          rw [← hq] at HC
          have HGO : Hid ((q = 0 → F = feedsF1 rs (prevT l (k + 1)) (l.drop (k + 1))) ∧ (q ≠ 0 → F = q)) := Lib.hid (by rw [hq]; exact ⟨fun h => by rw [hP.out]; exact feedsF1_go hs h, fun h => by rw [hP.out]; exact feedsF1_stop hs h⟩)
          clear hs hq
          by_cases hq0 : q = 0
          · have HG := Lib.hid (HGO.out.1 hq0)
            subst hq0
            clear HGO
            go_wp2_with fail
            refine HC.out.mono ?_
            rintro e w3 ⟨rfl, hb3⟩
            have HB3 := Lib.hid (Bl.trans HB.out hb3)
            clear hb3
            go_wp2
            go_roundw
            case rel => exact ⟨k + 1, by omega, by go_num, HG, HB3⟩
            case measure => simp [intOf]; omega
          · have HG := Lib.hid (HGO.out.2 hq0)
            clear HGO
            go_wp2_with fail
            refine HC.out.mono ?_
            rintro e w3 ⟨rfl, hb3⟩
            have HB3 := Lib.hid (Bl.trans HB.out hb3)
            clear hb3
            go_wp2
            go_ret
            exact ⟨ret_int HG.out.symm, HB3.out⟩
        · obtain rfl : k = l.length := by omega
          have HG : Hid (F = 0) := Lib.hid (by rw [hP.out, List.drop_length]; rfl)
          go_wp2
          go_ret
          exact ⟨ret_int HG.out.symm, HB.out⟩
  · have HFF : Hid (F = reelsF rs) := Lib.hid (by rw [HF.out]; unfold feedsF; rw [if_neg h0])
    obtain ⟨q, hq⟩ : ∃ q, q = reelsF rs := ⟨_, rfl⟩
    rw [← hq] at HFF h0 HCR
    clear hq
    go_enter Tryz.func16, Tryz.ntmps16
    go_wp2_with fail
    refine HCR.out.mono ?_
    rintro e w2 ⟨rfl, hb2⟩
    have HB2 := Lib.hid hb2
    clear hb2
    go_wp2
    go_ret
    exact ⟨ret_int HFF.out.symm, HB2.out⟩
/-- how many an event takes, as the reference counts it: the same where the event has its form. -/
theorem many_form {x : Fed} (hk : 1 ≤ x.2.1 ∧ x.2.1 ≤ 5) (hf : formB x = true) : (if inB (lowM x.2.1) x.2.2.2.2.1 100000 = true then (0 : Int) else 1) = manyP x.2.1 x.2.2.2.2.1 := by
  obtain ⟨t, k, fd, rk, mn, bd⟩ := x
  show (if inB (lowM k) mn 100000 = true then (0 : Int) else 1) = manyP k mn
  unfold manyP
  cases hu : uM k
  · unfold formB at hf
    simp only [hu, Bool.false_or, Bool.and_eq_true, decide_eq_true_eq] at hf
    have hm : mn = 0 := hf.1.2
    have h4 : ¬ k = 4 := fun h => by subst h; cases hu
    subst hm
    unfold lowM
    rw [if_neg h4]
    rfl
  · cases inB (lowM k) mn 100000 <;> rfl
end Go.Proofs.YtilhonppgedoiaaGreatDoor
namespace Go.Proofs.YtilhonppgedoiaaGreatDoor
open Go.RowKit Go.Sort
theorem usesR_any (k : Int) : ∃ a b c d : Bool, (∀ w, Calls Tryz.prog 46 #[.int .i64 k] w fun e w' => e = .returned (.tuple #[.bool a, .bool b, .bool c, .bool d]) ∧ w = w') ∧ (inB 1 k 5 = true → a = uF k ∧ b = uR k ∧ d = uB k) := by
  by_cases h : 1 ≤ k ∧ k ≤ 5
  · exact ⟨uF k, uR k, uM k, uB k, fun w => uses_any k w h.1 h.2, fun _ => ⟨rfl, rfl, rfl⟩⟩
  · exact ⟨true, false, false, false, fun w => uses_out k w h, fun hi => by unfold inB at hi; simp at hi; exact absurd hi h⟩
theorem keyR_any (s : ByteArray) (hs : s.size ≤ 140737488355328) (W : World) : Calls Tryz.prog 50 #[.string s] W fun e w' => e = .returned (.bool (keyB s)) ∧ Below W.heap.size W w' := Key_any s W hs
set_option maxHeartbeats 16000000 in
set_option maxRecDepth 100000 in
theorem FeedsFault_any (rs : List Rel) (l : List Fed) (vr vl : Value) (w : World) (hlr : rs.length ≤ 1000000) (hl : l.length ≤ 1000000) (rr : RecR TRe w 0 vr rs) (rl : RecR TFe w 0 vl l) (hzr : RelZ rs) (hz : FedZ l) :
    Calls Tryz.prog 13 #[vr, vl] w fun e w' => e = .returned (.int .i64 (feedsF rs l)) ∧ Below w.heap.size w w' := by
  have HCR := Lib.hid (ReelsFault_any rs vr w hlr rr hzr)
  have RR := Lib.hid rr
  have RL := Lib.hid rl
  obtain ⟨ra, rcap, rfl, _, _⟩ := rr.form
  obtain ⟨fa, fcap, rfl, _, _⟩ := rl.form
  obtain ⟨F, hF⟩ : ∃ F, F = feedsF rs l := ⟨_, rfl⟩
  rw [← hF]
  have HF := Lib.hid hF
  clear rr rl hF
  by_cases h0 : reelsF rs = 0
  case neg =>
    have HFF : Hid (F = reelsF rs) := Lib.hid (by rw [HF.out]; unfold feedsF; rw [if_neg h0])
    obtain ⟨q, hq⟩ : ∃ q, q = reelsF rs := ⟨_, rfl⟩
    rw [← hq] at HFF h0 HCR
    clear hq
    go_enter Tryz.func13, Tryz.ntmps13
    go_wp2_with fail
    refine HCR.out.mono ?_
    rintro e w2 ⟨rfl, hb2⟩
    have HB2 := Lib.hid hb2
    clear hb2
    go_wp2
    go_ret
    exact ⟨ret_int HFF.out.symm, HB2.out⟩
  rw [h0] at HCR
  by_cases hbig : 5000 < l.length
  case pos =>
    have HFF : Hid (F = 2) := Lib.hid (by rw [HF.out]; unfold feedsF; rw [if_pos h0, if_pos hbig])
    have e1 : (5000 : Int) < (l.length : Int) := by omega
    clear h0 hbig
    go_enter Tryz.func13, Tryz.ntmps13
    go_wp2_with fail
    refine HCR.out.mono ?_
    rintro e w2 ⟨rfl, hb2⟩
    have HB2 := Lib.hid hb2
    clear hb2
    go_wp2
    go_ret
    exact ⟨ret_int HFF.out.symm, HB2.out⟩
  have HF1 : Hid (F = feedsF1 rs none l) := Lib.hid (by rw [HF.out]; unfold feedsF; rw [if_pos h0, if_neg hbig])
  have e1 : ¬ (5000 : Int) < (l.length : Int) := by omega
  clear h0 hbig HF
  go_enter Tryz.func13, Tryz.ntmps13
  go_wp2_with fail
  refine HCR.out.mono ?_
  rintro e w2 ⟨rfl, hb2⟩
  have HB2 := Lib.hid hb2
  clear hb2
  go_wp2_with fail
  clear e1
  go_loopw [22] (fun i wr => ∃ k : Nat, k ≤ l.length ∧ i = .int .i64 k ∧ Hid (F = feedsF1 rs (prevT l k) (l.drop k)) ∧ Hid (Below w.heap.size w wr)) (fun i _ => l.length - (intOf i).toNat)
  case atStart => exact ⟨0, Nat.zero_le _, rfl, Lib.hid (by rw [HF1.out]; rfl), HB2⟩
  case round =>
    obtain ⟨k, hk, rfl, hP, HB⟩ := hrel
    by_cases hlt : k < l.length
    case neg =>
      obtain rfl : k = l.length := by omega
      have HG : Hid (F = 0) := Lib.hid (by rw [hP.out, List.drop_length]; rfl)
      go_wp2
      go_ret
      exact ⟨ret_int HG.out.symm, HB.out⟩
    obtain ⟨x, hx⟩ : ∃ x, l[k]? = some x := ⟨_, List.getElem?_eq_getElem hlt⟩
    have HW9 : Hid (IntKind.i64.wrap ((k : Int) + 1) = ((k + 1 : Nat) : Int)) := Lib.hid (by rw [IntWalk.i64_in _ (by omega)]; omega)
    obtain ⟨z1, z2, z3⟩ := hz x (List.mem_of_getElem? hx)
    have rw' := RL.out.below HB.out
    obtain ⟨b1, o1, rfl, _, hb1, hc1⟩ := rw'.at TFe.ok.len hx TFe.ok.pos
    have HP : Hid (k = 0 ∧ prevT l k = none ∨ ∃ k' p, k = k' + 1 ∧ prevT l k = some p ∧ ∀ W, Below wr.heap.size wr W → W.cell? ⟨b1, o1 + k' * 6, none⟩ = some (.int .i64 p)) := Lib.hid (by
      match k with
      | 0 => exact .inl ⟨rfl, rfl⟩
      | k' + 1 =>
        obtain ⟨p, hp⟩ : ∃ x, l[k']? = some x := ⟨_, List.getElem?_eq_getElem (by omega)⟩
        refine .inr ⟨k', p.1, rfl, by show (l[k']?).map (·.1) = _; rw [hp]; rfl, fun W hW => ?_⟩
        obtain ⟨b4, o4, hae, _, hb4, hc4⟩ := rw'.at TFe.ok.len hp TFe.ok.pos
        injection hae with hae
        injection hae with e1 e2 _
        subst e1 e2
        exact ((bcell hW).1 _ _ hb4).trans (hc4 0 _ rfl))
    clear rw'
    obtain ⟨G, hG⟩ : ∃ G, G = feedF rs (prevT l k) x := ⟨_, rfl⟩
    have HGO : Hid ((G = 0 → F = feedsF1 rs (prevT l (k + 1)) (l.drop (k + 1))) ∧ (G ≠ 0 → F = G)) := Lib.hid (by rw [hG]; exact ⟨fun h => by rw [hP.out]; exact feedsF1_go hx h, fun h => by rw [hP.out]; exact feedsF1_stop hx h⟩)
    clear hx hP HF1
    obtain ⟨at', kd, fd, rk, mn, bd⟩ := x
    have c0 : wr.cell? ⟨b1, o1 + k * 6, none⟩ = some (.int .i64 at') := hc1 0 _ rfl
    have c1 : wr.cell? ⟨b1, o1 + k * 6 + 1, none⟩ = some (.int .i64 kd) := hc1 1 _ rfl
    have c2 : wr.cell? ⟨b1, o1 + k * 6 + 2, none⟩ = some (.string fd) := hc1 2 _ rfl
    have c3 : wr.cell? ⟨b1, o1 + k * 6 + 3, none⟩ = some (.string rk) := hc1 3 _ rfl
    have c4 : wr.cell? ⟨b1, o1 + k * 6 + 4, none⟩ = some (.int .i64 mn) := hc1 4 _ rfl
    have c5 : wr.cell? ⟨b1, o1 + k * 6 + 5, none⟩ = some (.string bd) := hc1 5 _ rfl
    clear hc1
    obtain ⟨w1, hw1⟩ : ∃ w1, w1 = wr.alloc (.cells #[.int .i64 at', .int .i64 kd, .string fd, .string rk, .int .i64 mn, .string bd] 37) := ⟨_, rfl⟩
    have HA1 : Hid (Below wr.heap.size wr w1) := Lib.hid (by rw [hw1]; exact Bl.alloc (Below.refl _ _) _)
    have HBA : Hid (Below w.heap.size w w1) := Lib.hid (Bl.trans HB.out HA1.out)
    have HXC := Lib.hid (show ∀ W, Below w1.heap.size w1 W → W.cell? ⟨wr.heap.size, 0, none⟩ = some (.int .i64 at') ∧ W.cell? ⟨wr.heap.size, 1, none⟩ = some (.int .i64 kd) ∧ W.cell? ⟨wr.heap.size, 2, none⟩ = some (.string fd) ∧ W.cell? ⟨wr.heap.size, 3, none⟩ = some (.string rk) ∧ W.cell? ⟨wr.heap.size, 4, none⟩ = some (.int .i64 mn) ∧ W.cell? ⟨wr.heap.size, 5, none⟩ = some (.string bd) from fun W hW => by
      have h : W.heap[wr.heap.size]? = some (.cells #[.int .i64 at', .int .i64 kd, .string fd, .string rk, .int .i64 mn, .string bd] 37 (0, 0)) := blk_below (by rw [hw1]; exact blk_new wr _) hW
      exact ⟨blk_cell h 0, blk_cell h 1, blk_cell h 2, blk_cell h 3, blk_cell h 4, blk_cell h 5⟩)
    obtain ⟨bm, hbm⟩ : ∃ q, q = inB 0 at' 345686399999 := ⟨_, rfl⟩
    obtain ⟨bk, hbk⟩ : ∃ q, q = inB 1 kd 5 := ⟨_, rfl⟩
    obtain ⟨bf, hbf⟩ : ∃ q, q = formB (at', kd, fd, rk, mn, bd) := ⟨_, rfl⟩
    obtain ⟨uf, ur, um, ub, hus, huu⟩ := usesR_any kd
    obtain ⟨kf, hkf⟩ : ∃ q, q = keyB fd := ⟨_, rfl⟩
    obtain ⟨kb, hkb⟩ : ∃ q, q = keyB bd := ⟨_, rfl⟩
    obtain ⟨hh, hhh⟩ : ∃ q, q = hasB rs rk := ⟨_, rfl⟩
    obtain ⟨M, hM⟩ : ∃ q : Int, q = if inB (lowM kd) mn 100000 = true then 0 else 1 := ⟨_, rfl⟩
    obtain ⟨O, hO⟩ : ∃ q, q = ordT (prevT l k) at' := ⟨_, rfl⟩
    have HK : bk = true → 1 ≤ kd ∧ kd ≤ 5 := fun h => by rw [hbk] at h; unfold inB at h; simp at h; exact h
    have HV : Hid (G = if bm = false then 1 else if bk = false then 4 else if bf = false then 3 else if ((uf && !kf) || (ub && !kb)) = true then 5 else if (ur && !hh) = true then 8 else if M = 1 then 1 else O) := Lib.hid (by
      cases bm
      · rw [hG]; unfold feedF; rw [if_pos hbm.symm, if_pos rfl]
      cases hkk : bk
      · rw [hG]; unfold feedF; rw [if_neg (by rw [← hbm]; simp), if_pos (by rw [← hbk]; exact hkk), if_neg (by simp), if_pos rfl]
      cases hff : bf
      · rw [hG]; unfold feedF; rw [if_neg (by rw [← hbm]; simp), if_neg (by rw [← hbk, hkk]; simp), if_pos (by rw [← hbf]; exact hff), if_neg (by simp), if_neg (by simp), if_pos rfl]
      obtain ⟨e1, e2, e3⟩ := huu (by rw [← hbk]; exact hkk)
      have e4 := many_form (x := (at', kd, fd, rk, mn, bd)) (HK hkk) (by rw [← hbf]; exact hff)
      have e5 : M = manyP kd mn := by rw [hM]; exact e4
      rw [hG, e1, e2, e3, hkf, hkb, hhh, e5, hO]
      unfold feedF
      rw [if_neg (by rw [← hbm]; simp), if_neg (by rw [← hbk, hkk]; simp), if_neg (by rw [← hbf, hff]; simp)]
      rfl)
    have HMO := Lib.hid (fun W => Moment_any at' W)
    have HKD := Lib.hid (fun W => in_any kd 1 5 W)
    have HUS := Lib.hid hus
    have HFM : Hid (bk = true → ∀ W, Calls Tryz.prog 49 #[.agg #[.int .i64 at', .int .i64 kd, .string fd, .string rk, .int .i64 mn, .string bd]] W fun e w' => e = .returned (.int .i64 (if bf = true then 0 else 3)) ∧ Below W.heap.size W w') := Lib.hid (fun h W => by rw [hbf]; exact feedForm_any at' kd fd rk mn bd W (HK h).1 (HK h).2)
    have HMN : Hid (∀ W, Calls Tryz.prog 52 #[.agg #[.int .i64 at', .int .i64 kd, .string fd, .string rk, .int .i64 mn, .string bd]] W fun e w' => e = .returned (.int .i64 M) ∧ Below W.heap.size W w') := Lib.hid (fun W => by rw [hM]; exact rmany_any at' kd fd rk mn bd W)
    have HKF : Hid (∀ W, Calls Tryz.prog 50 #[.string fd] W fun e w' => e = .returned (.bool kf) ∧ Below W.heap.size W w') := Lib.hid (fun W => by rw [hkf]; exact keyR_any fd z1 W)
    have HKB : Hid (∀ W, Calls Tryz.prog 50 #[.string bd] W fun e w' => e = .returned (.bool kb) ∧ Below W.heap.size W w') := Lib.hid (fun W => by rw [hkb]; exact keyR_any bd z3 W)
    have HRA : Hid (∀ W, Below w.heap.size w W → Calls Tryz.prog 51 #[.slice ra rs.length rcap, .string rk] W fun e w' => e = .returned (.bool hh) ∧ Below W.heap.size W w') := Lib.hid (fun W hW => by rw [hhh]; exact HasReel_any rs rk _ W hlr (RR.out.below hW))
    have HM2 : Hid (M = 0 ∨ M = 1) := Lib.hid (by rw [hM]; split <;> simp)
    rw [← hbm] at HMO
    rw [← hbk] at HKD
    have HOO := Lib.hid hO
    have HW := Lib.hid hw1
    have j1 : (0 : Int) ≤ (k : Int) := by omega
    have j2 : (k : Int) < (l.length : Int) := by omega
    clear hbm hbk hbf hus huu hkf hkb hhh hM hO hw1 z1 z2 z3 HK hG
    cases bm
    · have HG1 : G = 1 := HV.out
      have HFF : Hid (F = 1) := Lib.hid (by rw [HGO.out.2 (by rw [HG1]; decide), HG1])
      clear HG1
      obtain ⟨x0, x1, x2, x3, x4, x5⟩ := HXC.out w1 (Below.refl _ _)
      go_wp2_with fail
      rw [← HW.out]
      go_wp2_with fail
      refine (HUS.out w1).mono ?_
      rintro e w' ⟨rfl, rfl⟩
      go_wp2_with fail
      refine (HMO.out w1).mono ?_
      rintro e w' ⟨rfl, rfl⟩
      go_wp2
      go_ret
      exact ⟨ret_int HFF.out.symm, HBA.out⟩
    cases bk
    · have HG1 : G = 4 := HV.out
      have HFF : Hid (F = 4) := Lib.hid (by rw [HGO.out.2 (by rw [HG1]; decide), HG1])
      clear HG1
      obtain ⟨x0, x1, x2, x3, x4, x5⟩ := HXC.out w1 (Below.refl _ _)
      go_wp2_with fail
      rw [← HW.out]
      go_wp2_with fail
      refine (HUS.out w1).mono ?_
      rintro e w' ⟨rfl, rfl⟩
      go_wp2_with fail
      refine (HMO.out w1).mono ?_
      rintro e w' ⟨rfl, rfl⟩
      go_wp2_with fail
      refine (HKD.out w1).mono ?_
      rintro e w' ⟨rfl, rfl⟩
      go_wp2
      go_ret
      exact ⟨ret_int HFF.out.symm, HBA.out⟩
    have HFM2 := Lib.hid (HFM.out rfl)
    clear HFM
    cases bf
    · have HFM : Hid (∀ W, Calls Tryz.prog 49 #[.agg #[.int .i64 at', .int .i64 kd, .string fd, .string rk, .int .i64 mn, .string bd]] W fun e w' => e = .returned (.int .i64 3) ∧ Below W.heap.size W w') := Lib.hid fun W => HFM2.out W
      clear HFM2
      have HG1 : G = 3 := HV.out
      have HFF : Hid (F = 3) := Lib.hid (by rw [HGO.out.2 (by rw [HG1]; decide), HG1])
      clear HG1
      obtain ⟨x0, x1, x2, x3, x4, x5⟩ := HXC.out w1 (Below.refl _ _)
      go_wp2_with fail
      rw [← HW.out]
      go_wp2_with fail
      refine (HUS.out w1).mono ?_
      rintro e w' ⟨rfl, rfl⟩
      go_wp2_with fail
      refine (HMO.out w1).mono ?_
      rintro e w' ⟨rfl, rfl⟩
      go_wp2_with fail
      refine (HKD.out w1).mono ?_
      rintro e w' ⟨rfl, rfl⟩
      go_wp2_with fail
      refine (HFM.out w1).mono ?_
      rintro e w3 ⟨rfl, hb3⟩
      have HB3 := Lib.hid (Bl.trans HBA.out hb3)
      clear hb3
      go_wp2
      go_ret
      exact ⟨ret_int HFF.out.symm, HB3.out⟩
    have HFM : Hid (∀ W, Calls Tryz.prog 49 #[.agg #[.int .i64 at', .int .i64 kd, .string fd, .string rk, .int .i64 mn, .string bd]] W fun e w' => e = .returned (.int .i64 0) ∧ Below W.heap.size W w') := Lib.hid fun W => HFM2.out W
    clear HFM2
    obtain ⟨x0, x1, x2, x3, x4, x5⟩ := HXC.out w1 (Below.refl _ _)
    go_wp2_with fail
    rw [← HW.out]
    go_wp2_with fail
    refine (HUS.out w1).mono ?_
    rintro e w' ⟨rfl, rfl⟩
    go_wp2_with fail
    refine (HMO.out w1).mono ?_
    rintro e w' ⟨rfl, rfl⟩
    go_wp2_with fail
    refine (HKD.out w1).mono ?_
    rintro e w' ⟨rfl, rfl⟩
    go_wp2_with fail
    refine (HFM.out w1).mono ?_
    rintro e w4 ⟨rfl, hb4⟩
    have HB4 := Lib.hid hb4
    clear hb4 x0 x1 x2 x3 x4 x5
    go_upto_region 16 with fail
    go_cut [49] from 49 to 65 (fun v49 wx => v49 = .bool ((uf && !kf) || (ub && !kb)) ∧ Hid (Below w4.heap.size w4 wx))
    case first =>
      obtain ⟨y0, y1, y2, y3, y4, y5⟩ := HXC.out w4 HB4.out
      cases uf
      · cases ub
        · go_wp2_with fail
          go_meet
          case rel => exact ⟨rfl, Lib.hid (Below.refl _ _)⟩
        · go_wp2_with fail
          refine (HKB.out w4).mono ?_
          rintro e w5 ⟨rfl, hb5⟩
          have HB5 := Lib.hid hb5
          clear hb5
          cases kb
          all_goals (
            go_wp2_with fail
            go_meet
            case rel => exact ⟨rfl, HB5⟩)
      · go_wp2_with fail
        refine (HKF.out w4).mono ?_
        rintro e w5 ⟨rfl, hb5⟩
        obtain ⟨z0, z1, z2, z3, z4, z5⟩ := HXC.out w5 (Bl.trans HB4.out hb5)
        have HB5 := Lib.hid hb5
        clear hb5
        cases kf
        · go_wp2_with fail
          go_meet
          case rel => exact ⟨rfl, HB5⟩
        · cases ub
          · go_wp2_with fail
            go_meet
            case rel => exact ⟨rfl, HB5⟩
          · go_wp2_with fail
            refine (HKB.out w5).mono ?_
            rintro e w6 ⟨rfl, hb6⟩
            have HB6 := Lib.hid (Bl.trans HB5.out hb6)
            clear hb6
            cases kb
            all_goals (
              go_wp2_with fail
              go_meet
              case rel => exact ⟨rfl, HB6⟩)
    case rest =>
      obtain ⟨rfl, HBC⟩ := hcut
      have HBW := Lib.hid (Bl.trans HBA.out (Bl.trans HB4.out HBC.out))
      obtain ⟨q, hq⟩ : ∃ q, q = ((uf && !kf) || (ub && !kb)) := ⟨_, rfl⟩
      rw [← hq] at HV ⊢
      clear hq HKF HKB HFM HUS HKD HMO c0 c1 c2 c3 c4 c5
      cases q
      case true =>
        have HG1 : G = 5 := HV.out
        have HFF : Hid (F = 5) := Lib.hid (by rw [HGO.out.2 (by rw [HG1]; decide), HG1])
        clear HG1
        go_wp2
        go_ret
        exact ⟨ret_int HFF.out.symm, HBW.out⟩
      obtain ⟨y0, y1, y2, y3, y4, y5⟩ := HXC.out wc (Bl.trans HB4.out HBC.out)
      go_upto_region 18 with fail
      go_cut [66] from 66 to 74 (fun v66 wx => v66 = .bool (ur && !hh) ∧ Hid (Below wc.heap.size wc wx))
      case first =>
        cases ur
        · go_wp2_with fail
          go_meet
          case rel => exact ⟨rfl, Lib.hid (Below.refl _ _)⟩
        · go_wp2_with fail
          refine (HRA.out wc HBW.out).mono ?_
          rintro e w5 ⟨rfl, hb5⟩
          have HB5 := Lib.hid hb5
          clear hb5
          cases hh
          all_goals (
            go_wp2_with fail
            go_meet
            case rel => exact ⟨rfl, HB5⟩)
      case rest =>
        rename_i wb _ _
        obtain ⟨rfl, HBC2⟩ := hcut
        have HBW2 := Lib.hid (Bl.trans HBW.out HBC2.out)
        obtain ⟨q, hq⟩ : ∃ q, q = (ur && !hh) := ⟨_, rfl⟩
        rw [← hq] at HV ⊢
        clear hq HRA y0 y1 y2 y3 y4 y5
        cases q
        case true =>
          have HG1 : G = 8 := HV.out
          have HFF : Hid (F = 8) := Lib.hid (by rw [HGO.out.2 (by rw [HG1]; decide), HG1])
          clear HG1
          go_wp2
          go_ret
          exact ⟨ret_int HFF.out.symm, HBW2.out⟩
        obtain ⟨y0, y1, y2, y3, y4, y5⟩ := HXC.out wc (Bl.trans HB4.out (Bl.trans HBC.out HBC2.out))
        go_wp2_with fail
        refine (HMN.out wc).mono ?_
        rintro e w6 ⟨rfl, hb6⟩
        have HW6 := Lib.hid (Bl.trans HBW2.out hb6)
        have HR6 := Lib.hid (Bl.trans HA1.out (Bl.trans HB4.out (Bl.trans HBC.out (Bl.trans HBC2.out hb6))))
        obtain ⟨z0, z1, z2, z3, z4, z5⟩ := HXC.out w6 (Bl.trans HB4.out (Bl.trans HBC.out (Bl.trans HBC2.out hb6)))
        clear hb6 y0 y1 y2 y3 y4 y5
        rcases HM2.out with hM | hM
        case inr =>
          subst hM
          have HG1 : G = 1 := HV.out
          have HFF : Hid (F = 1) := Lib.hid (by rw [HGO.out.2 (by rw [HG1]; decide), HG1])
          clear HG1
          go_wp2
          go_ret
          exact ⟨ret_int HFF.out.symm, HW6.out⟩
        subst hM
        have HFO : Hid (G = O) := Lib.hid HV.out
        clear HV HMN HM2
        rcases HP.out with ⟨h0, hn⟩ | ⟨k', p, hkk, hp, hcell⟩
        · have HG : Hid (F = feedsF1 rs (prevT l (k + 1)) (l.drop (k + 1))) := Lib.hid (HGO.out.1 (by rw [HFO.out, HOO.out, hn]; rfl))
          have e1 : ¬ 0 < k := by omega
          have e2 : ¬ (0 : Int) < (k : Int) := by omega
          clear h0 hn
          go_wp2_with fail
          go_quiet (fail)
          have HB9 := Lib.hid (fun n => Bl.drewN HW6.out n)
          clear e1 e2
          have hw9 := HW9.out
          go_wp2
          go_roundw
          case rel => exact ⟨k + 1, by omega, by go_num, HG, Lib.hid (HB9.out _)⟩
          case measure => simp [intOf]; omega
        · have hm1 : IntKind.i64.wrap ((k : Int) - 1) = (k' : Int) := by rw [IntWalk.i64_in _ (by omega)]; omega
          have e1 : 0 < k := by omega
          have e2 : (0 : Int) < (k : Int) := by omega
          have d0 := hcell w6 HR6.out
          have i1 : (0 : Int) ≤ (k' : Int) := by omega
          have i2 : (k' : Int) < (l.length : Int) := by omega
          have HFO2 : Hid (G = if at' < p then 7 else 0) := Lib.hid (by rw [HFO.out, HOO.out, hp]; rfl)
          clear hcell hkk hp
          by_cases hlt' : at' < p
          · have HG1 : G = 7 := by rw [HFO2.out, if_pos hlt']
            have HFF : Hid (F = 7) := Lib.hid (by rw [HGO.out.2 (by rw [HG1]; decide), HG1])
            clear HG1
            go_wp2_with fail
            go_quiet (fail)
            have HB9 := Lib.hid (fun n => Bl.drewN HW6.out n)
            clear hm1 e1 e2
            go_wp2
            go_ret
            exact ⟨ret_int HFF.out.symm, HB9.out _⟩
          · have HG : Hid (F = feedsF1 rs (prevT l (k + 1)) (l.drop (k + 1))) := Lib.hid (HGO.out.1 (by rw [HFO2.out, if_neg hlt']))
            go_wp2_with fail
            go_quiet (fail)
            have HB9 := Lib.hid (fun n => Bl.drewN HW6.out n)
            clear hm1 e1 e2
            have hw9 := HW9.out
            go_wp2
            go_roundw
            case rel => exact ⟨k + 1, by omega, by go_num, HG, Lib.hid (HB9.out _)⟩
            case measure => simp [intOf]; omega
end Go.Proofs.YtilhonppgedoiaaGreatDoor
