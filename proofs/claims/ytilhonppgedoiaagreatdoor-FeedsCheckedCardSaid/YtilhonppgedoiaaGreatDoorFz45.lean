/- Texts of the proof of a law, put together, part 45 of 46. Conditions: none beyond those that each theorem names. -/
import Derived.Test.YtilhonppgedoiaaGreatDoorFz4
import Derived.Test.YtilhonppgedoiaaGreatDoorFz5
import Derived.Test.YtilhonppgedoiaaGreatDoorFz19
import Derived.Test.YtilhonppgedoiaaGreatDoorFz22
import Derived.Test.YtilhonppgedoiaaGreatDoorFz27
import Derived.Test.YtilhonppgedoiaaGreatDoorFz31
import Derived.Test.YtilhonppgedoiaaGreatDoorFz33
import Derived.Test.YtilhonppgedoiaaGreatDoorFz36
import Derived.Test.YtilhonppgedoiaaGreatDoorFz37
import Derived.Test.YtilhonppgedoiaaGreatDoorFz38
import Derived.Test.YtilhonppgedoiaaGreatDoorFz41
import Derived.Test.YtilhonppgedoiaaGreatDoorFz42
import Derived.Test.YtilhonppgedoiaaGreatDoorFz44
namespace Go.Proofs.YtilhonppgedoiaaGreatDoor
open Go.RowKit Go.Sort Go.Maps
end Go.Proofs.YtilhonppgedoiaaGreatDoor
namespace Go.Proofs.YtilhonppgedoiaaGreatDoor
open Go.RowKit Go.Sort
end Go.Proofs.YtilhonppgedoiaaGreatDoor
namespace Go.Proofs.YtilhonppgedoiaaGreatDoor
open Go.RowKit Go.Sort Go.Maps
def oneR : List Rel := [(⟨#[114]⟩, ⟨#[97]⟩, 5)]
def oneF : List Fed := [(0, 1, ⟨#[102]⟩, ⟨#[114]⟩, 0, ByteArray.empty)]
theorem one_ask : askF (feedsF oneR oneF) (keyB ⟨#[102]⟩) (inB 0 0 345686399999) 5 = 0 := by kernel_rfl
theorem one_has : feederM oneR oneF 0 ⟨#[102]⟩ = [(⟨#[114]⟩, 5)] := by kernel_rfl
set_option maxHeartbeats 4000000 in
set_option maxRecDepth 100000 in
theorem reeled_any (w : World) : Calls Tryz.prog 24 #[] w fun e w' => e = .returned (.bool true) ∧ Below w.heap.size w w' := by
  obtain ⟨w1, hw1⟩ : ∃ w1, w1 = (w.alloc (.cells #[.string ⟨#[114]⟩, .string ⟨#[97]⟩, .int .i64 5] 90)).alloc (.cells #[.int .i64 0, .int .i64 1, .string ⟨#[102]⟩, .string ⟨#[114]⟩, .int .i64 0, .string ⟨#[]⟩] 37) := ⟨_, rfl⟩
  have hb1 : Below w.heap.size w w1 := by rw [hw1]; exact Bl.alloc (Bl.alloc (Below.refl _ _) _) _
  have hR : w1.heap[w.heap.size]? = some (.cells #[.string ⟨#[114]⟩, .string ⟨#[97]⟩, .int .i64 5] 90 (0, 0)) := by rw [hw1]; exact blk_old (blk_new w _) _
  have hF : w1.heap[w.heap.size + 1]? = some (.cells #[.int .i64 0, .int .i64 1, .string ⟨#[102]⟩, .string ⟨#[114]⟩, .int .i64 0, .string ⟨#[]⟩] 37 (0, 0)) := by rw [hw1]; exact blk_new' _ _ (by simp)
  have HFE := Lib.hid (Feeder_any oneR oneF ⟨#[102]⟩ 0 (.slice (some ⟨w.heap.size, 0, none⟩) 1 1) (.slice (some ⟨w.heap.size + 1, 0, none⟩) 1 1) w1 (by decide) (by decide)
    (RecR.of_blk (T := TRe) hR rfl rfl (by simp) (by omega) (Nat.zero_le _)) (RecR.of_blk (T := TFe) hF rfl rfl (by simp) (by omega) (Nat.zero_le _))
    (by intro x hx; simp only [oneR, List.mem_singleton] at hx; subst hx; exact ⟨by show 1 ≤ 140737488355328; omega, by show 1 ≤ 140737488355328; omega⟩)
    (by intro x hx; simp only [oneF, List.mem_singleton] at hx; subst hx; exact ⟨by show 1 ≤ 140737488355328; omega, by show 1 ≤ 140737488355328; omega, by show 0 ≤ 140737488355328; omega⟩) (by show 1 ≤ 140737488355328; omega))
  rw [one_ask, if_pos rfl, one_has] at HFE
  have HB1 := Lib.hid hb1
  clear hb1 hR hF
  go_enter Tryz.func24, Tryz.ntmps24
  go_wp2_with fail
  rw [← hw1]
  clear hw1
  refine HFE.out.mono ?_
  rintro e w2 ⟨⟨v, rfl, hO⟩, hb2⟩
  have HB2 := Lib.hid (Bl.trans HB1.out hb2)
  have HEQ := Lib.hid (EqualLo_any [(⟨#[114]⟩, 5)] [(⟨#[114]⟩, 5)] v (.slice (some ⟨w2.heap.size, 0, none⟩) 1 1) (w2.alloc (.cells #[.string ⟨#[114]⟩, .int .i64 5] 119)) (by simp) (by simp) (hO.alloc _).rec0 (RecR.of_blk (T := TLo) (blk_new w2 _) rfl rfl (by simp) (by omega) (Nat.zero_le _)))
  rw [decide_eq_true rfl] at HEQ
  clear hb2 hO HFE
  go_wp2_with fail
  refine HEQ.out.mono ?_
  rintro e w3 ⟨rfl, hb3⟩
  have HB3 := Lib.hid (Bl.trans (Bl.alloc HB2.out _) hb3)
  clear hb3 HEQ
  go_wp2
  go_ret
  exact ⟨rfl, HB3.out⟩
end Go.Proofs.YtilhonppgedoiaaGreatDoor
namespace Go.Proofs.YtilhonppgedoiaaGreatDoor
open Go.RowKit Go.Sort Go.Maps Go.Lib
theorem numQ_at {T : Rty Int} (hf : T.f = fun n => [.int .i64 n]) (hk : T.k = 1) {w : World} {lo : Nat} {a : Option Addr} {n cap : Nat} {l : List Int} (hT : T.Ok) (h : RecR T w lo (.slice a n cap) l) {k : Nat} {x : Int} (hx : l[k]? = some x) :
    ∃ b o, a = some ⟨b, o, none⟩ ∧ b < w.heap.size ∧ w.cell? ⟨b, o + k, none⟩ = some (.int .i64 x) := by
  obtain ⟨b, o, rfl, _, h2, h3⟩ := h.at hT.len hx hT.pos
  refine ⟨b, o, rfl, h2, ?_⟩
  have := h3 0 (.int .i64 x) (by rw [hf]; rfl)
  rw [hk, Nat.mul_one, Nat.add_zero] at this
  exact this
theorem EqNq_any (l m : List Int) (v u : Value) (w : World) (hl : l.length ≤ 1000000) (hm : m.length ≤ 1000000) (rl : RecR TNq w 0 v l) (rm : RecR TNq w 0 u m) :
    Calls Tryz.prog 19 #[v, u] w fun e w' => e = .returned (.bool (decide (l = m))) ∧ Below w.heap.size w w' := by
  obtain ⟨a1, c1, rfl, _, _⟩ := rl.form
  obtain ⟨a2, c2, rfl, _, _⟩ := rm.form
  by_cases hlen : l.length = m.length
  · by_cases h0 : l = []
    · subst h0
      have hm0 : m = [] := List.eq_nil_of_length_eq_zero (by rw [← hlen]; rfl)
      subst hm0
      refine (Tryz.slices_Equal_int_empty a1 a2 c1 0 c2 w (by omega)).mono ?_
      rintro e w' ⟨rfl, rfl⟩
      exact ⟨rfl, Below.refl _ _⟩
    · have hp := List.length_pos_iff.2 h0
      obtain ⟨b1, o1, rfl, _, _⟩ := numQ_at (T := TNq) rfl rfl TNq.ok rl (k := 0) (x := l[0]) (List.getElem?_eq_getElem hp)
      obtain ⟨b2, o2, rfl, _, _⟩ := numQ_at (T := TNq) rfl rfl TNq.ok rm (k := 0) (x := m[0]) (List.getElem?_eq_getElem (by omega))
      refine (Tryz.slices_Equal_int b1 o1 l.length c1 b2 o2 m.length c2 l m w (Nat.le_refl _) (Nat.le_refl _) (by omega) (by omega) (fun j hj => ?_) (fun j hj => ?_)).mono ?_
      · obtain ⟨b, o, e, _, hc⟩ := numQ_at (T := TNq) rfl rfl TNq.ok rl (k := j) (x := l[j]) (List.getElem?_eq_getElem hj)
        injection e with e; injection e with e1 e2 _; subst e1 e2
        rw [hc]; simp [List.getD_eq_getElem?_getD, List.getElem?_eq_getElem hj]
      · obtain ⟨b, o, e, _, hc⟩ := numQ_at (T := TNq) rfl rfl TNq.ok rm (k := j) (x := m[j]) (List.getElem?_eq_getElem hj)
        injection e with e; injection e with e1 e2 _; subst e1 e2
        rw [hc]; simp [List.getD_eq_getElem?_getD, List.getElem?_eq_getElem hj]
      · rintro e w' ⟨rfl, q, rfl⟩
        refine ⟨?_, ⟨rfl, rfl, rfl, Nat.le_refl _, fun _ _ => rfl⟩⟩
        rw [List.take_length, List.take_length]
        congr 2
        by_cases h : l = m
        · rw [decide_eq_true h, beq_iff_eq]; exact h
        · rw [decide_eq_false h, beq_eq_false_iff_ne]; exact h
  · refine (Tryz.slices_Equal_int_lens a1 a2 l.length c1 m.length c2 w hlen).mono ?_
    rintro e w' ⟨rfl, rfl⟩
    exact ⟨by rw [decide_eq_false (fun h => hlen (by rw [h]))], Below.refl _ _⟩
set_option maxHeartbeats 1000000 in
theorem EqEq_any (l m : List Int) (v u : Value) (w : World) (hl : l.length ≤ 1000000) (_hm : m.length ≤ 1000000) (rl : RecR TEq w 0 v l) (rm : RecR TEq w 0 u m) :
    Calls Tryz.prog 20 #[v, u] w fun e w' => e = .returned (.bool (decide (l = m))) ∧ Below w.heap.size w w' := by
  obtain ⟨a1, c1, rfl, _, _⟩ := rl.form
  obtain ⟨a2, c2, rfl, _, _⟩ := rm.form
  have RL := Lib.hid rl
  have RM := Lib.hid rm
  clear rl rm
  by_cases hlen : l.length = m.length
  · obtain ⟨n, hn⟩ : ∃ n, n = l.length := ⟨_, rfl⟩
    have hn2 : n = m.length := by omega
    rw [← hn] at RL
    rw [← hn2] at RM
    rw [← hn, ← hn2]
    have HN := Lib.hid (And.intro hn hn2)
    have hn6 : n ≤ 1000000 := by omega
    clear hn hn2 hlen hl _hm
    go_enter Tryz.func20, Tryz.ntmps20
    go_wp2_with fail
    go_loopw [13] (fun i wr => ∃ k : Nat, k ≤ n ∧ i = .int .i64 k ∧ Hid (l.take k = m.take k) ∧ Below w.heap.size w wr) (fun i _ => n - (intOf i).toNat)
    case atStart => exact ⟨0, Nat.zero_le _, rfl, Lib.hid (by simp), Below.refl _ _⟩
    case round =>
      obtain ⟨k, hk, rfl, HT, hb⟩ := hrel
      by_cases hlt : k < n
      · have hkl : k < l.length := by have := HN.out.1; omega
        have hkm : k < m.length := by have := HN.out.2; omega
        obtain ⟨x, hx⟩ : ∃ x, l[k]? = some x := ⟨_, List.getElem?_eq_getElem hkl⟩
        obtain ⟨y, hy⟩ : ∃ y, m[k]? = some y := ⟨_, List.getElem?_eq_getElem hkm⟩
        obtain ⟨b1, o1, rfl, hb1, d1⟩ := numQ_at (T := TEq) rfl rfl TEq.ok (RL.out.below hb) hx
        obtain ⟨b2, o2, rfl, hb2, d2⟩ := numQ_at (T := TEq) rfl rfl TEq.ok (RM.out.below hb) hy
        have hw1 : IntKind.i64.wrap ((k : Int) + 1) = ((k + 1 : Nat) : Int) := by rw [IntWalk.i64_in _ (by omega)]; omega
        have HS : Hid (l.take (k + 1) = l.take k ++ [x] ∧ m.take (k + 1) = m.take k ++ [y]) := Lib.hid ⟨by rw [List.take_add_one, hx]; rfl, by rw [List.take_add_one, hy]; rfl⟩
        have HXY : Hid (x ≠ y → decide (l = m) = false) := Lib.hid fun h => decide_eq_false fun e => by
          rw [e, hy] at hx
          injection hx with hx
          exact h hx.symm
        clear hx hy hkl hkm
        by_cases hxy : x = y
        · subst hxy
          have HT2 : Hid (l.take (k + 1) = m.take (k + 1)) := Lib.hid (by rw [HS.out.1, HS.out.2, HT.out])
          go_wp2_with fail
          go_region
          go_wp2
          go_roundw
          case rel => exact ⟨k + 1, by omega, by go_num, HT2, Below.drew hb⟩
          case measure => simp [intOf]; omega
        · have HV := Lib.hid (HXY.out hxy)
          have hq : (x == y) = false := by simp [hxy]
          go_wp2_with fail
          go_region
          go_wp2
          go_ret
          exact ⟨by rw [HV.out] <;> rfl, Below.drew hb⟩
      · obtain rfl : k = n := by omega
        have HV : Hid (decide (l = m) = true) := Lib.hid (decide_eq_true (by
          have := HT.out
          rw [HN.out.1, List.take_length, ← HN.out.1, HN.out.2, List.take_length] at this
          exact this))
        go_wp2
        go_ret
        exact ⟨by rw [HV.out] <;> rfl, hb⟩
  · have hne : ¬ (l.length : Int) = (m.length : Int) := by omega
    have HV : Hid (decide (l = m) = false) := Lib.hid (decide_eq_false (fun h => hlen (by rw [h])))
    clear hlen
    go_enter Tryz.func20, Tryz.ntmps20
    go_wp2
    go_ret
    exact ⟨by rw [HV.out] <;> rfl, Below.refl _ _⟩
theorem feedsRead_len (t : Bs) : (feedsRead t).1.length ≤ 5000 := by
  unfold feedsRead
  split
  · exact Nat.zero_le _
  · cases readS rdF 0 (splitL 10 t) with
    | error i => exact Nat.zero_le _
    | ok l =>
      show (if 5000 < l.length then ([], 0, 2) else (l, 0, 0) : List Fed × Int × Int).1.length ≤ 5000
      split
      · exact Nat.zero_le _
      · rename_i h; show l.length ≤ 5000; omega
theorem EqualFe_self (l : List Fed) (v u : Value) (w : World) (hl : l.length ≤ 1000000) (rl : RecR TFe w 0 v l) (rm : RecR TFe w 0 u l) :
    Calls Tryz.prog 8 #[v, u] w fun e w' => e = .returned (.bool true) ∧ Below w.heap.size w w' := by
  have h := EqualFe_any l l v u w hl hl rl rm
  rw [decide_eq_true rfl] at h
  exact h
theorem EqNq_self (l : List Int) (v u : Value) (w : World) (hl : l.length ≤ 1000000) (rl : RecR TNq w 0 v l) (rm : RecR TNq w 0 u l) :
    Calls Tryz.prog 19 #[v, u] w fun e w' => e = .returned (.bool true) ∧ Below w.heap.size w w' := by
  have h := EqNq_any l l v u w hl hl rl rm
  rw [decide_eq_true rfl] at h
  exact h
theorem EqEq_self (l : List Int) (v u : Value) (w : World) (hl : l.length ≤ 1000000) (rl : RecR TEq w 0 v l) (rm : RecR TEq w 0 u l) :
    Calls Tryz.prog 20 #[v, u] w fun e w' => e = .returned (.bool true) ∧ Below w.heap.size w w' := by
  have h := EqEq_any l l v u w hl hl rl rm
  rw [decide_eq_true rfl] at h
  exact h
theorem FedOk.int {e : Fed} (h : FedOk e) : FdI e := ⟨⟨by have := h.1; show -9223372036854775808 ≤ e.1; omega, by have := h.1; show e.1 ≤ 9223372036854775807; omega⟩, by have := h.2.2.2.2.1; show -9223372036854775808 ≤ e.2.2.2.2.1; omega, by have := h.2.2.2.2.1; show e.2.2.2.2.1 ≤ 9223372036854775807; omega⟩
theorem refsM_len (at' : Int) : ∀ (l : List Fed) (A : Mdl) (k : Nat), (refsM at' A k l).length ≤ l.length
  | [], _, _ => Nat.le_refl _
  | e :: l, A, k => by
    unfold refsM
    split
    · exact Nat.le_succ_of_le (refsM_len at' l _ _)
    · split
      · exact Nat.le_succ_of_le (refsM_len at' l _ _)
      · exact Nat.succ_le_succ (refsM_len at' l _ _)
theorem bsE {t : ByteArray} (h : bsOf t = []) : t = ⟨#[]⟩ := bsG_inj h
set_option maxHeartbeats 8000000 in
set_option maxRecDepth 100000 in
theorem FeedsChecked_any (l : List Int) (v : Value) (w : World) (rl : Ints w 0 v l) (hl : ∀ x ∈ l, -9223372036854775808 ≤ x ∧ x ≤ 9223372036854775807) (hT : TxW w) :
    Calls Tryz.prog 4 #[v] w fun e w' => e = .returned (.bool true) ∧ Below w.heap.size w w' := by
  obtain ⟨va, cap, rfl, hc1, hc2⟩ := Ints.form rl
  have hs0 := Str.begin rl hl
  have hb0 := Bl.alloc (Below.refl w.heap.size w) (.cells #[.slice va l.length cap, .int .i64 0] 25)
  obtain ⟨hg1, hg2⟩ := hT.size
  have HT := Lib.hid hT
  clear rl hl hT
  go_enter Tryz.func4, Tryz.ntmps4
  go_wp2_with fail
  refine (ReelList_any _ 0 _ hs0 (by omega)).mono ?_
  rintro e w1 ⟨vr, rs, rfl, hO1, ⟨hr4, hr1⟩, hrk, hs1, hG1⟩
  have hb1 := Below.trans hb0 (Gr.below hG1 (Nat.le_refl _) hb0.size)
  have hz1 := hb1.size
  obtain ⟨ra, rc, rfl, _, _⟩ := hO1.form
  have HRZ := Lib.hid (RelOk.z hrk)
  have hz0 : w.heap.size < (w.alloc (.cells #[.slice va l.length cap, .int .i64 0] 25)).heap.size := by simp
  clear hs0 hb0 hG1
  go_wp2_with fail
  refine (FeedList_any _ _ _ _ _ rs hs1 (by omega) hO1 hz0 (by omega) hrk).mono ?_
  rintro e w2 ⟨vl, x, rfl, hP2, hf15, hfk, hs2, hG2⟩
  have hO2 := hO1.grown hG2 hz0
  have hb2 := Below.trans hb1 (Gr.below hG2 (Nat.le_refl _) hz1)
  have hz2 := hb2.size
  obtain ⟨xa, xcap, rfl, _, _⟩ := hP2.form
  have HZ := Lib.hid (FedOk.z hfk)
  have HR2 := Lib.hid hO2.rec0
  have HP2 := Lib.hid hP2.rec0
  have HI := Lib.hid fun e he => (hfk e he).int
  have HS2 := Lib.hid hs2
  have HB2 := Lib.hid hb2
  obtain ⟨f1, hf1⟩ : ∃ f, f = reelsF rs := ⟨_, rfl⟩
  obtain ⟨f2, hf2⟩ : ∃ f, f = textsF x := ⟨_, rfl⟩
  obtain ⟨F, hF⟩ : ∃ f, f = feedsF rs x := ⟨_, rfl⟩
  have HF := Lib.hid (And.intro hf1 (And.intro hf2 hF))
  have H0 := FeedsFault_any rs x (.slice ra rs.length rc) (.slice xa x.length xcap) w2 (by omega) (by omega) HR2.out HP2.out HRZ.out HZ.out
  rw [← hF] at H0
  have H1 := Lib.hid H0
  clear hb1 hG2 hs1 hfk hrk hO1 hO2 hP2 hr1 hz0 hf1 hf2 hF H0 hs2 hb2
  go_wp2_with fail
  refine H1.out.mono ?_
  rintro e w3 ⟨rfl, hb3⟩
  have HB3 := Lib.hid hb3
  have H0 := CheckReels_any rs (.slice ra rs.length rc) w3 (by omega) (HR2.out.below hb3) HRZ.out
  rw [← HF.out.1] at H0
  have H2 := Lib.hid H0
  clear hb3 H1 H0
  go_wp2_with fail
  refine H2.out.mono ?_
  rintro e w4 ⟨rfl, hb4⟩
  have HB4 := Lib.hid (Bl.trans HB3.out hb4)
  have H0 := ReelsFault_any rs (.slice ra rs.length rc) w4 (by omega) (HR2.out.below HB4.out) HRZ.out
  rw [← HF.out.1] at H0
  have H1 := Lib.hid H0
  clear hb4 H2 H0
  go_wp2_with fail
  refine H1.out.mono ?_
  rintro e w5 ⟨rfl, hb5⟩
  have HB5 := Lib.hid (Bl.trans HB4.out hb5)
  have H0 := CheckFeeds_any rs x (.slice ra rs.length rc) (.slice xa x.length xcap) w5 (by omega) (by omega) (HR2.out.below HB5.out) (HP2.out.below HB5.out) HRZ.out HZ.out
  rw [← HF.out.2.2] at H0
  have H2 := Lib.hid H0
  clear hb5 H1 H0
  go_wp2_with fail
  refine H2.out.mono ?_
  rintro e w6 ⟨rfl, hb6⟩
  have HB6 := Lib.hid (Bl.trans HB5.out hb6)
  have H0 := RefusedR_any rs x (.slice ra rs.length rc) (.slice xa x.length xcap) w6 (by omega) (by omega) (HR2.out.below HB6.out) (HP2.out.below HB6.out) HRZ.out HZ.out
  rw [← HF.out.2.2] at H0
  have H1 := Lib.hid H0
  clear hb6 H2 H0
  go_wp2_with fail
  refine H1.out.mono ?_
  rintro e w9 ⟨ov, wv, rfl, ho8, hv8, hb8⟩
  obtain ⟨oa, on, oc, rfl⟩ : ∃ a n c, ov = .slice a n c := (by obtain ⟨a, c, h, _, _⟩ := ho8.form; exact ⟨a, _, c, h⟩)
  obtain ⟨ya, yn, yc, rfl⟩ : ∃ a n c, wv = .slice a n c := (by obtain ⟨a, c, h, _, _⟩ := hv8.form; exact ⟨a, _, c, h⟩)
  have HB9 := Lib.hid (Bl.trans HB6.out hb8)
  have HOW9 := Lib.hid (And.intro ho8.rec0 hv8.rec0)
  clear ho8 hv8 hb8 H1 HB3 HB4 HB5 HB6
  obtain ⟨LR, hLR⟩ : ∃ L, L = refsF rs x := ⟨_, rfl⟩
  rw [← hLR] at HOW9
  have HLR := Lib.hid hLR
  have hlr : LR.length ≤ 15 := by
    rw [hLR]; unfold refsF
    split
    · have := refsM_len 345686400000 x (newM rs) 0; omega
    · simp
  clear hLR
  have HTL : Hid (textsF x = 0 → (textL wrF x).length ≤ 200000) := Lib.hid fun h => by
    have h2 := textFd_len x fun e he => ⟨(textsF_ok h).2 e he, HI.out e he⟩
    omega
  by_cases h0 : F = 0
  case' pos =>
    subst h0
    have HRS0 := RefusedFeeds_any rs x (.slice ra rs.length rc) (.slice xa x.length xcap) w9 (HR2.out.below HB9.out) (HP2.out.below HB9.out) (by omega) HF.out.2.2.symm
    rw [show refsM 345686400000 (newM rs) 0 x = LR by rw [HLR.out]; unfold refsF; rw [if_pos HF.out.2.2.symm]] at HRS0
    have HRS := Lib.hid HRS0
    clear HRS0
    go_wp2_with fail
    refine HRS.out.mono ?_
    rintro e wA ⟨rv, re, rfl, hrv, hre, hbA⟩
    obtain ⟨qa, qn, qc, rfl⟩ : ∃ a n c, rv = .slice a n c := (by obtain ⟨a, c, h, _, _⟩ := hrv.form; exact ⟨a, _, c, h⟩)
    obtain ⟨ea, en, ec, rfl⟩ : ∃ a n c, re = .slice a n c := (by obtain ⟨a, c, h, _, _⟩ := hre.form; exact ⟨a, _, c, h⟩)
    have HBA := Lib.hid (Bl.trans HB9.out hbA)
    have HEN := Lib.hid (EqNq_self (LR.map (·.1)) (.slice oa on oc) (.slice qa qn qc) wA (by rw [List.length_map]; omega) (HOW9.out.1.below hbA) hrv.rec0)
    have HEE := Lib.hid fun W (hW : Below wA.heap.size wA W) => EqEq_self (LR.map (·.2)) (.slice ya yn yc) (.slice ea en ec) W (by rw [List.length_map]; omega) ((HOW9.out.2.below hbA).below hW) (hre.rec0.below hW)
    clear hrv hre hbA HRS
  case' neg =>
    have hnil : LR = [] := by rw [HLR.out]; unfold refsF; rw [if_neg (by rw [← HF.out.2.2]; exact h0)]
    subst hnil
    obtain ⟨wA, hwA⟩ : ∃ wA, wA = w9 := ⟨_, rfl⟩
    have HBA : Hid (Below w2.heap.size w2 wA) := Lib.hid (by rw [hwA]; exact HB9.out)
    have HEN := Lib.hid (EqNq_self [] (.slice oa on oc) (.slice none 0 0) wA (by simp) (by rw [hwA]; exact HOW9.out.1) (RecR.nil _ _))
    have HEE := Lib.hid fun W (hW : Below wA.heap.size wA W) => EqEq_self [] (.slice ya yn yc) (.slice none 0 0) W (by simp) (by have h := HOW9.out.2; rw [← hwA] at h; exact h.below hW) (RecR.nil _ _)
    subst hwA
  all_goals (
    go_wp2_with fail
    refine HEN.out.mono ?_
    rintro e wB ⟨rfl, hbB⟩
    have HC := Lib.hid (HEE.out wB hbB)
    have HBB := Lib.hid (Bl.trans HBA.out hbB)
    clear hbB HEE HEN
    go_wp2_with fail
    refine HC.out.mono ?_
    rintro e wC ⟨rfl, hbC⟩
    have HBC := Lib.hid (Bl.trans HBB.out hbC)
    have HTX0 := FdText_any x (.slice xa x.length xcap) wC (HT.out.below (Bl.trans HB2.out HBC.out)) (by omega) (HP2.out.below HBC.out) HZ.out HI.out HTL.out
    rw [← HF.out.2.1] at HTX0
    have HTX := Lib.hid HTX0
    clear HTX0 hbC HC
    go_wp2_with fail
    refine HTX.out.mono ?_
    rintro e wD ⟨tx, rfl, htx, hbD⟩
    have HBD := Lib.hid (Bl.trans HBC.out hbD)
    have HFL0 := RLinesFault_any x (.slice xa x.length xcap) wD (by omega) (HP2.out.below HBD.out) HZ.out
    rw [← HF.out.2.1] at HFL0
    have HFL := Lib.hid HFL0
    have HTT := Lib.hid htx
    clear HFL0 htx hbD HTX
    go_wp2_with fail
    refine HFL.out.mono ?_
    rintro e wD2 ⟨rfl, hbD2⟩
    have HBD2 := Lib.hid (Bl.trans HBD.out hbD2)
    clear hbD2 HFL)
  all_goals (
    by_cases h2 : f2 = 0
    case' pos =>
      subst h2
      have htl : bsOf tx = textL wrF x := by rw [HTT.out]; unfold fdTxt; rw [if_pos HF.out.2.1.symm]
      have HSL := Lib.hid (RFLines_any x (.slice xa x.length xcap) wD2 (HT.out.below (Bl.trans HB2.out HBD2.out)) (by omega) (HP2.out.below HBD2.out) (textsF_ok HF.out.2.1.symm).2 HI.out)
      have HTLL := Lib.hid htl
      clear htl
      go_wp2_with fail
      refine HSL.out.mono ?_
      rintro e wE ⟨ty, rfl, hty, hbE⟩
      obtain rfl : ty = tx := bsG_inj (hty.trans HTLL.out.symm)
      have HBE := Lib.hid (Bl.trans HBD2.out hbE)
      clear hty hbE HSL
    case' neg =>
      have htl : tx = ⟨#[]⟩ := bsE (by rw [HTT.out]; unfold fdTxt; rw [if_neg (by rw [← HF.out.2.1]; exact h2)])
      subst htl
      obtain ⟨wE, hwE⟩ : ∃ wE, wE = wD2 := ⟨_, rfl⟩
      have HBE : Hid (Below w2.heap.size w2 wE) := Lib.hid (by rw [hwE]; exact HBD2.out)
      subst hwE)
  all_goals (
    have hBE := Bl.trans HB2.out HBE.out
    have hsE := HS2.out.below HBE.out
    have hzE := hBE.size
    have HST := Lib.hid (FeedString_any w.heap.size _ wE hsE (HT.out.below hBE) hg1 hg2 (by omega))
    clear hsE
    go_wp2_with fail
    refine HST.out.mono ?_
    rintro e wF ⟨tt, rfl, hts, hsF, hGF⟩
    have hBF := Below.trans hBE (Gr.below hGF (Nat.le_refl _) hzE)
    have HR10 := FdRead_any tt wF (HT.out.below hBF) (by omega)
    have HR20 := fun W (hW : Below wF.heap.size wF W) => RFdRead_any tt W (HT.out.below (Bl.trans hBF hW)) (by omega)
    obtain ⟨Q, hQ⟩ : ∃ Q, Q = (feedsRead (bsOf tt)).1 := ⟨_, rfl⟩
    obtain ⟨i2, hi2⟩ : ∃ Q, Q = (feedsRead (bsOf tt)).2.1 := ⟨_, rfl⟩
    obtain ⟨g2, hg2⟩ : ∃ Q, Q = (feedsRead (bsOf tt)).2.2 := ⟨_, rfl⟩
    rw [← hQ, ← hi2, ← hg2] at HR10 HR20
    have hQl : Q.length ≤ 5000 := by rw [hQ]; exact feedsRead_len _
    have HR1 := Lib.hid HR10
    have HRR := Lib.hid HR20
    have HBF := Lib.hid hBF
    clear hsF hGF hBF HR10 HR20 hQ hi2 hg2 HST hBE
    go_wp2_with fail
    refine HR1.out.mono ?_
    rintro e wG ⟨v1, rfl, hO1, hbG⟩
    obtain ⟨a1, n1, e1, rfl⟩ : ∃ a n c, v1 = .slice a n c := (by obtain ⟨a, c, h, _, _⟩ := hO1.form; exact ⟨a, _, c, h⟩)
    have HCG := Lib.hid (HRR.out wG hbG)
    have HO1 := Lib.hid hO1.rec0
    have HBG := Lib.hid (Bl.trans HBF.out hbG)
    clear hO1 hbG HR1 HRR
    go_wp2_with fail
    refine HCG.out.mono ?_
    rintro e wH ⟨v2, rfl, hO2, hbH⟩
    obtain ⟨a2, n2, e2, rfl⟩ : ∃ a n c, v2 = .slice a n c := (by obtain ⟨a, c, h, _, _⟩ := hO2.form; exact ⟨a, _, c, h⟩)
    have HEQ := Lib.hid (EqualFe_self Q (.slice a1 n1 e1) (.slice a2 n2 e2) wH (by omega) (HO1.out.below hbH) hO2.rec0)
    have HBH := Lib.hid (Bl.trans HBG.out hbH)
    clear hO2 hbH HCG
    go_wp2_with fail
    refine HEQ.out.mono ?_
    rintro e wI ⟨rfl, hbI⟩
    have HBI := Lib.hid (Bl.trans HBH.out hbI)
    clear hbI HEQ
    go_wp2_with fail
    refine (reeled_any wI).mono ?_
    rintro e wJ ⟨rfl, hbJ⟩
    have HBJ := Lib.hid (Bl.trans HBI.out hbJ)
    clear hbJ
    go_wp2
    go_ret
    exact ⟨rfl, HBJ.out⟩)
end Go.Proofs.YtilhonppgedoiaaGreatDoor
