/- The walk of TimesAddUp. No conditions beyond a stream of ints. -/
import Derived.Test.YtnmimagninhkkaaGreatDoorTim
import Derived.Test.YtnmimagninhkkaaGreatDoorTix
import Derived.Test.YtnmimagninhkkaaGreatDoorReady2
import Derived.Test.YtnmimagninhkkaaGreatDoorStart
import Derived.Deep.RegionWith
namespace Go.Proofs.YtnmimagninhkkaaGreatDoor
open Go.RowKit Go.Sort

def u1 : ByteArray := ⟨#[117, 49]⟩
theorem u1_fault {rh rr at' : Int} {l : List Stp} (h1 : 1 ≤ rh ∧ rh ≤ 10) (h2 : 1 ≤ rr ∧ rr ≤ 3) (hl : stepsF l = 0) (ha : 0 ≤ at' ∧ at' ≤ 200) : bfltF rh rr l u1 at' = 0 := by
  have hr : rulesF rh rr = 0 := by
    unfold rulesF
    rw [if_pos ⟨inB_true (by omega) (by omega), inB_true (by omega) (by omega)⟩]
  have hf : fltF rh rr l = 0 := by unfold fltF; rw [if_pos hr, hl]
  have hm : momB at' = true := inB_true (by omega) (by omega)
  unfold bfltF
  rw [if_pos hf, hm, show keyB u1 = true from by decide]
  rfl
/-- the plain law. -/
theorem timesAddUp {rh rr a1 a2 : Int} {l : List Stp} (hl : stepsF l = 0) (h0 : 0 ≤ a1) (h12 : a1 ≤ a2) {s : Stp} (hs : l.find? (fstS u1 a1) = some s) :
    0 ≤ (tmG rh rr u1 a1 tm0 l).last ∧ 0 ≤ (tmG rh rr u1 a2 tm0 l).last ∧ (tmF u1 a1 (tmG rh rr u1 a1 tm0 l)).length = 6 ∧ (tmF u1 a2 (tmG rh rr u1 a2 tm0 l)).length = 6 ∧ (∀ x ∈ tmF u1 a1 (tmG rh rr u1 a1 tm0 l), 0 ≤ x) ∧ (tmF u1 a1 (tmG rh rr u1 a1 tm0 l)).sum = a1 - s.at ∧
    ∀ k, (tmF u1 a1 (tmG rh rr u1 a1 tm0 l)).getD k 0 ≤ (tmF u1 a2 (tmG rh rr u1 a2 tm0 l)).getD k 0 := by
  obtain ⟨_, hR, hp⟩ := stepsF_right hl
  have hall : ∀ s ∈ l, StR s ∧ tm0.last ≤ s.at := fun s hs => ⟨hR s hs, by have := (hR s hs).a0; show (-1 : Int) ≤ _; omega⟩
  have hF := tmG_first (rh := rh) (rr := rr) (bd := u1) h0 l tm0 0 TmOk.zero rfl hR hp
  rw [hs] at hF
  obtain ⟨hok, hlast⟩ := hF
  obtain ⟨_, _, hle, _⟩ := tmG_ok (rh := rh) (rr := rr) (bd := u1) (at' := a1) l tm0 0 TmOk.zero hall hp (by show (-1 : Int) ≤ _; omega)
  obtain ⟨l', hl1, hl2, hl3⟩ := tmG_two (rh := rh) (rr := rr) (bd := u1) h12 l tm0 hp
  generalize tmG rh rr u1 a1 tm0 l = T at *
  rw [hl3]
  obtain ⟨⟨f', hok2, hf2⟩, h2, h3, h4⟩ := tmG_ok (rh := rh) (rr := rr) (bd := u1) (at' := a2) l' T _ hok (fun x hx => ⟨hR x (hl1 x hx).1, by have := (hl1 x hx).2; omega⟩) hl2 (by omega)
  have hst := hok.stO u1
  have hst2 := hok2.stO u1
  refine ⟨hlast, by omega, by unfold tmF; rw [bump_len, hok.len], by unfold tmF; rw [bump_len, hok2.len], ?_, ?_, ?_⟩
  · unfold tmF; exact bump_nonneg _ _ _ hok.pos (by omega)
  · unfold tmF; rw [bump_sum _ _ _ (by rw [hok.len]; exact hst)]
    rcases hok.sum with hh | hh <;> omega
  · exact tmF_mono h12 l' T _ hok hlast hle (fun x hx => ⟨hR x (hl1 x hx).1, (hl1 x hx).2⟩) hl2
theorem tim_none {rh rr a : Int} {l : List Stp} (h1 : 1 ≤ rh ∧ rh ≤ 10) (h2 : 1 ≤ rr ∧ rr ≤ 3) (hl : stepsF l = 0) (ha : 0 ≤ a ∧ a ≤ 200) (hs : l.find? (fstS u1 a) = none) : timF rh rr l u1 a = 8 := by
  obtain ⟨_, hR, hp⟩ := stepsF_right hl
  have hF := tmG_first (rh := rh) (rr := rr) (bd := u1) ha.1 l tm0 0 TmOk.zero rfl hR hp
  rw [hs] at hF
  rw [timF_right (u1_fault h1 h2 hl ha), if_pos (by rw [hF]; decide)]
theorem tim_some {rh rr a1 a2 : Int} {l : List Stp} (h1 : 1 ≤ rh ∧ rh ≤ 10) (h2 : 1 ≤ rr ∧ rr ≤ 3) (hl : stepsF l = 0) (h0 : 0 ≤ a1) (h12 : a1 ≤ a2) (h3 : a2 ≤ 200) {s : Stp} (hs : l.find? (fstS u1 a1) = some s) : timF rh rr l u1 a1 = 0 ∧ timF rh rr l u1 a2 = 0 := by
  obtain ⟨k1, k2, _⟩ := timesAddUp (rh := rh) (rr := rr) hl h0 h12 hs
  rw [timF_right (u1_fault h1 h2 hl ⟨h0, by omega⟩), if_neg (by omega), timF_right (u1_fault h1 h2 hl ⟨by omega, h3⟩), if_neg (by omega)]
  exact ⟨rfl, rfl⟩
theorem idx_none {l : List Stp} {a r : Int} (h : IdxS l a r) (hs : l.find? (fstS u1 a) = none) : r = -1 := by
  unfold IdxS at h
  rw [show l.find? (fstS ⟨#[117, 49]⟩ a) = none from hs] at h
  exact h
theorem idx_some {l : List Stp} {a r : Int} {s : Stp} (h : IdxS l a r) (hs : l.find? (fstS u1 a) = some s) : 0 ≤ r ∧ l[r.toNat]? = some s := by
  unfold IdxS at h
  rw [show l.find? (fstS ⟨#[117, 49]⟩ a) = some s from hs] at h
  exact h
theorem take_sum : ∀ (o : List Int) (k : Nat), (∀ x ∈ o, 0 ≤ x) → 0 ≤ (o.take k).sum ∧ (o.take k).sum ≤ o.sum
  | [], k, _ => by simp
  | x :: o, 0, h => by
    have := (getD_le_sum (x :: o) 0 h).2
    simp only [List.take_zero, List.sum_nil]; omega
  | x :: o, k + 1, h => by
    have ih := take_sum o k fun y hy => h y (List.mem_cons_of_mem _ hy)
    have := h x (List.mem_cons_self ..)
    simp only [List.take_succ_cons, List.sum_cons]; omega
theorem take_sum_succ : ∀ (o : List Int) (k : Nat), k < o.length → (o.take (k + 1)).sum = (o.take k).sum + o.getD k 0
  | [], k, h => by simp at h
  | x :: o, 0, h => by simp
  | x :: o, k + 1, h => by
    have ih := take_sum_succ o k (by simpa using h)
    rw [List.take_succ_cons, List.sum_cons, ih, List.take_succ_cons, List.sum_cons, List.getD_cons_succ]; omega
set_option maxHeartbeats 8000000 in
set_option maxRecDepth 100000 in
theorem TimesAddUp_any (l : List Int) (v : Value) (w : World) (rl : Ints w 0 v l) (hl : ∀ x ∈ l, -9223372036854775808 ≤ x ∧ x ≤ 9223372036854775807) :
    Calls Tryz.prog 3 #[v] w fun e w' => e = .returned (.bool true) ∧ Below w.heap.size w w' := by
  obtain ⟨va, cap, rfl, hc1, hc2⟩ := Ints.form rl
  have hs0 := Str.begin rl hl
  have hb0 := Bl.alloc (Below.refl w.heap.size w) (.cells #[.slice va l.length cap, .int .i64 0] 25)
  clear rl hl
  go_enter Tryz.func3, Tryz.ntmps3
  go_wp2_with fail
  refine (RightRules_any _ 0 _ hs0 (by omega)).mono ?_
  rintro e w1 ⟨rh, rr, rfl, hr1, hr2, hr3, hr4, hs1, hg1⟩
  have hb1 := Below.trans hb0 (Gr.below hg1 (Nat.le_refl _) hb0.size)
  clear hs0 hb0 hg1
  go_wp2_with fail
  refine (RightSteps_any _ _ _ hs1 (by omega)).mono ?_
  rintro e w2 ⟨vx, x, rfl, hO2, hx24, hxok, hx0, hs2, hg2⟩
  have hb2 := Below.trans hb1 (Gr.below hg2 (Nat.le_refl _) hb1.size)
  have HX := Lib.hid (And.intro hxok hx0)
  have hz1 := hb1.size
  have hl1 := hs1.lt
  clear hs1 hb1 hg2 hxok hx0
  go_wp2_with fail
  refine (Range_any _ _ 0 80 _ hs2 (by omega) (by omega) (by omega) (by omega) (by omega)).mono ?_
  rintro e w3 ⟨at', rfl, ⟨ha0, ha1, _⟩, hs3, hg3⟩
  have ha2 := ha1 (by omega)
  have hb3 := Below.trans hb2 (Gr.below hg3 (Nat.le_refl _) hb2.size)
  have hO3 := hO2.grown hg3 (by omega)
  obtain ⟨w4, hw4⟩ : ∃ w4, w4 = (w3.alloc (.cells #[.int .i64 rh, .int .i64 rr] 27)).alloc (.cells #[.int .i64 at'] 3) := ⟨_, rfl⟩
  have hl3 : w.heap.size < w3.heap.size := hs3.lt
  have hbA : Below w3.heap.size w3 w4 := by rw [hw4]; exact Bl.alloc (Bl.alloc (Below.refl _ _) _) _
  have hX4 : w4.heap[w3.heap.size]? = some (.cells #[.int .i64 rh, .int .i64 rr] 27 (0, 0)) := by rw [hw4]; exact blk_old (blk_new w3 _) _
  have hY4 : w4.heap[w3.heap.size + 1]? = some (.cells #[.int .i64 at'] 3 (0, 0)) := by rw [hw4]; exact blk_new' (w3.alloc (.cells #[.int .i64 rh, .int .i64 rr] 27)) (.cells #[.int .i64 at'] 3) (g := w3.heap.size + 1) (by simp)
  have hs4 := hs3.below hbA
  have hb4 := Bl.trans hb3 hbA
  have hO4 := hO3.below hbA
  have HX4 := Lib.hid hX4
  have HY4 := Lib.hid hY4
  have HIX := Lib.hid (IndexS_any x at' vx (w3.heap.size + 1) w4 (by omega) hO4.rec0 (blk_cell hY4 0))
  clear hO2 hO3 hs2 hs3 hb2 hb3 hg3 hbA ha1 hX4 hY4
  have HTM := Lib.hid fun (a : Int) (W : World) (h : 0 ≤ a ∧ a ≤ 200) (hO : OwnR TSt W w1.heap.size vx x) => Times_any rh rr x u1 a vx W (by omega) hO.rec0 (StpOk.z HX.out.1) (by decide)
  have lx4 : w3.heap.size + 1 < w4.heap.size := blk_lt HY4.out
  subst hw4
  go_wp2_with fail
  refine HIX.out.mono ?_
  rintro e w5 ⟨⟨r, rfl, hr⟩, hb5⟩
  have HR := Lib.hid hr
  have HX5 := Lib.hid (blk_below HX4.out hb5)
  have HY5 := Lib.hid (blk_below HY4.out hb5)
  have HO5 := Lib.hid (hO4.below hb5)
  have HS5 := Lib.hid (hs4.below hb5)
  have HB5 := Lib.hid (Bl.trans hb4 hb5)
  have lx5 := hb5.size
  have c0 : w5.cell? ⟨w3.heap.size, 0, none⟩ = some (.int .i64 rh) := blk_cell HX5.out 0
  have c1 : w5.cell? ⟨w3.heap.size, 1, none⟩ = some (.int .i64 rr) := blk_cell HX5.out 1
  have c2 : w5.cell? ⟨w3.heap.size + 1, 0, none⟩ = some (.int .i64 at') := blk_cell HY5.out 0
  clear hr hb5 hO4 hs4 hb4 HX4 HY4
  go_wp2_with fail
  have hT1 := HTM.out at' w5 ⟨ha0, by omega⟩ HO5.out
  refine hT1.mono ?_
  rintro e w6 ⟨v1, rfl, hb6, hT6, hU6⟩
  have HX6 := Lib.hid (blk_below HX5.out hb6)
  have HY6 := Lib.hid (blk_below HY5.out hb6)
  have HO6 := Lib.hid (HO5.out.below hb6)
  have HS6 := Lib.hid (HS5.out.below hb6)
  have HB6 := Lib.hid (Bl.trans HB5.out hb6)
  have lx6 := hb6.size
  have d0 : w6.cell? ⟨w3.heap.size, 0, none⟩ = some (.int .i64 rh) := blk_cell HX6.out 0
  have d1 : w6.cell? ⟨w3.heap.size, 1, none⟩ = some (.int .i64 rr) := blk_cell HX6.out 1
  have d2 : w6.cell? ⟨w3.heap.size + 1, 0, none⟩ = some (.int .i64 at') := blk_cell HY6.out 0
  obtain ⟨F1, hF1⟩ : ∃ F1, F1 = timF rh rr x u1 at' := ⟨_, rfl⟩
  rw [← hF1] at hT6 hU6 ⊢
  have HF1 := Lib.hid hF1
  have HT6 := Lib.hid hT6
  have HU6 := Lib.hid hU6
  clear hF1 hT6 hU6 hb6 c0 c1 c2 HX5 HY5 HO5 HS5 HB5 hT1
  go_wp2_with fail
  go_region_with (first
    | (go_at_call 15; refine (Range_any _ _ 0 30 _ HS6.out.drew (by omega) (by omega) (by omega) (by omega) (by omega)).mono ?_; rintro e w7 ⟨d, rfl, ⟨hd0, hd1, _⟩, hs7, hg7⟩; have hg7 := Gr.undrew hg7; have hd2 := hd1 (by omega); have HX7 := Lib.hid (Gr.blk hg7 HX6.out (by omega)); have HY7 := Lib.hid (Gr.blk hg7 HY6.out (by omega)); have q0 : w7.cell? ⟨w3.heap.size, 0, none⟩ = some (.int .i64 rh) := blk_cell HX7.out 0; have q1 : w7.cell? ⟨w3.heap.size, 1, none⟩ = some (.int .i64 rr) := blk_cell HX7.out 1; have q2 : w7.cell? ⟨w3.heap.size + 1, 0, none⟩ = some (.int .i64 at') := blk_cell HY7.out 0; have hwd : IntKind.i64.wrap (at' + d) = at' + d := IntWalk.i64_in _ (by omega); have HO7 := Lib.hid (HO6.out.grown hg7 (by omega)); have HG7 := Lib.hid hg7; clear hg7 hs7 hd1)
    | (go_at_call 18; refine (HTM.out (at' + d) w7 ⟨by omega, by omega⟩ HO7.out).mono ?_; rintro e w8 ⟨v2, rfl, hb8, hT8, hU8⟩; obtain ⟨F2, hF2⟩ : ∃ F2, F2 = timF rh rr x u1 (at' + d) := ⟨_, rfl⟩; rw [← hF2] at hT8 hU8 ⊢; have HF2 := Lib.hid hF2; have HT8 := Lib.hid hT8; have HU8 := Lib.hid hU8; have HB8 := Lib.hid hb8; clear hF2 hT8 hU8 hb8))
  all_goals (
    have HB9 := Lib.hid (Below.trans (Below.trans HB6.out (Gr.below HG7.out (Nat.le_refl _) HB6.out.size)) (HB8.out.mono (Nat.le_trans HB6.out.size HG7.out.size)))
    cases hfd : x.find? (fstS u1 at')
    · have hrm : r = -1 := idx_none HR.out hfd
      have hF8 : F1 = 8 := HF1.out.trans (tim_none ⟨hr1, hr2⟩ ⟨hr3, hr4⟩ HX.out.2 ⟨ha0, by omega⟩ hfd)
      subst hrm
      subst hF8
      clear hfd
      go_wp2_with fail
      refine (ready_any _).mono ?_
      rintro e w9 ⟨rfl, hb9⟩
      have HBB := Lib.hid (Bl.trans HB9.out hb9)
      clear hb9
      go_wp2
      go_ret
      exact ⟨rfl, HBB.out⟩
    · rename_i s
      obtain ⟨hr0, hrs⟩ := idx_some HR.out hfd
      obtain ⟨hF1z, hF2z⟩ := tim_some (rh := rh) (rr := rr) ⟨hr1, hr2⟩ ⟨hr3, hr4⟩ HX.out.2 ha0 (show at' ≤ at' + d by omega) (by omega) hfd
      have hz1 : F1 = 0 := HF1.out.trans hF1z
      have hz2 : F2 = 0 := HF2.out.trans hF2z
      have hlaw := timesAddUp (rh := rh) (rr := rr) HX.out.2 ha0 (show at' ≤ at' + d by omega) hfd
      have HRS := Lib.hid hrs
      have HSA := Lib.hid (stepsF_right HX.out.2).2.1 
      subst hz1
      subst hz2
      clear hF1z hF2z hrs hfd
      obtain ⟨g1, rfl, hs61⟩ := HU6.out rfl
      obtain ⟨g2, rfl, hs62⟩ := HU8.out rfl
      obtain ⟨_, _, hn1, hn2, hpos, hsum, hmono⟩ := hlaw
      obtain ⟨o1, ho1⟩ : ∃ o1, o1 = tmF u1 at' (tmG rh rr u1 at' tm0 x) := ⟨_, rfl⟩
      obtain ⟨o2, ho2⟩ : ∃ o2, o2 = tmF u1 (at' + d) (tmG rh rr u1 (at' + d) tm0 x) := ⟨_, rfl⟩
      rw [← ho1] at hn1 hpos hsum hmono hs61
      rw [← ho2] at hn2 hmono hs62
      have HA8 := Lib.hid (blk_below (Gr.blk HG7.out hs61.2.2 (by have := hs61.1; omega)) HB8.out)
      have HC8 := Lib.hid hs62.2.2
      have HSUM := Lib.hid hsum
      have HPOS := Lib.hid hpos
      have HMONO := Lib.hid hmono
      have HN := Lib.hid (And.intro hn1 hn2)
      have HO8 := Lib.hid (HO7.out.below HB8.out)
      obtain ⟨n, rfl⟩ := Int.eq_ofNat_of_zero_le hr0
      have hxn : x[n]? = some s := by have := HRS.out; simpa using this
      obtain ⟨xa, xcap, rfl, _, _⟩ := HO8.out.form
      obtain ⟨b1, b2, rfl, _, hbb, hcc⟩ := HO8.out.rec0.at TSt.ok.len hxn TSt.ok.pos
      have e0 : w8.cell? ⟨b1, b2 + n * 4, none⟩ = some (.int .i64 s.at) := hcc 0 _ rfl
      have HSB := Lib.hid (HSA.out s (List.mem_of_getElem? hxn))
      have hnl : n < x.length := (List.getElem?_eq_some_iff.1 hxn).1
      have hpos2 : (0 : Int) ≤ ((n : Nat) : Int) := by omega
      clear hcc hxn hn1 hn2 hpos hsum hmono hs61 hs62 ho1 ho2 hr0
      go_wp2_with fail
      go_loopw [12, 69] (fun sm i wr => ∃ k : Nat, k ≤ 6 ∧ i = .int .i64 k ∧ sm = .int .i64 (o1.take k).sum ∧ w8 = wr) (fun _ i _ => 6 - (intOf i).toNat)
      case atStart => exact ⟨0, by omega, rfl, rfl, rfl⟩
      case round =>
        obtain ⟨k, hk, rfl, rfl, rfl⟩ := hrel
        have hts := take_sum o1 k HPOS.out
        have hto := HSUM.out
        have hsa : 0 ≤ s.at := HSB.out.a0
        by_cases hlt : k < 6
        · have hp1 := getD_nonneg o1 k HPOS.out
          have hp2 := HMONO.out k
          have hsx := take_sum_succ o1 k (by rw [HN.out.1]; exact hlt)
          have hts2 := take_sum o1 (k + 1) HPOS.out
          have f1 : w8.cell? ⟨g1, k, none⟩ = some (.int .i64 (o1.getD k 0)) := by rw [blk_cell HA8.out]; exact ics6 (by rw [HN.out.1]; exact hlt)
          have f2 : w8.cell? ⟨g2, k, none⟩ = some (.int .i64 (o2.getD k 0)) := by rw [blk_cell HC8.out]; exact ics6 (by rw [HN.out.2]; exact hlt)
          have hwk : IntKind.i64.wrap ((k : Int) + 1) = ((k + 1 : Nat) : Int) := by rw [IntWalk.i64_in _ (by omega)]; omega
          generalize o1.getD k 0 = y1 at *
          generalize o2.getD k 0 = y2 at *
          obtain ⟨s1, hs1⟩ : ∃ s1, s1 = (o1.take k).sum := ⟨_, rfl⟩
          rw [← hs1] at hsx hts ⊢
          have HS1 := Lib.hid hsx
          have hn1 : ¬ y1 < 0 := by omega
          have hn2 : ¬ y2 < y1 := by omega
          have hws : IntKind.i64.wrap (s1 + y1) = s1 + y1 := IntWalk.i64_in _ (by omega)
          clear hsx hts2 hs1
          go_wp2
          go_roundw
          case rel => exact ⟨k + 1, by omega, by go_num, by rw [HS1.out], by first | rfl | trivial⟩
          case measure => simp [intOf]; omega
        · obtain rfl : k = 6 := by omega
          have hfull : (o1.take 6).sum = at' - s.at := by rw [List.take_of_length_le (by rw [HN.out.1]; exact Nat.le_refl _)]; exact HSUM.out
          have hsa1 : s.at ≤ 345686399999 := HSB.out.a1
          generalize (o1.take 6).sum = s1 at *
          generalize s.at = a1 at *
          subst hfull
          have hwq : IntKind.i64.wrap (at' - a1) = at' - a1 := IntWalk.i64_in _ (by omega)
          have z2 : w8.cell? ⟨w3.heap.size + 1, 0, none⟩ = some (.int .i64 at') := blk_cell (blk_below (Gr.blk HG7.out HY6.out (by omega)) HB8.out) 0
          have HRY := Lib.hid (ready_any w8.drew)
          clear hts hto
          go_wp2_with fail
          go_region_with (go_at_call 19; refine (ready_any _).mono ?_; rintro e w9 ⟨rfl, hb9⟩; have HB10 := Lib.hid hb9; clear hb9)
          all_goals (
            go_wp2
            go_ret
            exact ⟨rfl, Below.trans (Below.drew HB9.out) (HB10.out.mono HB9.out.size)⟩))
end Go.Proofs.YtnmimagninhkkaaGreatDoor
