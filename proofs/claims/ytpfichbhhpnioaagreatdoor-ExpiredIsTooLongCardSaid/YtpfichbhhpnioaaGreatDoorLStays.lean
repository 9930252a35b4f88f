/- What the stream gives for floor lives: Stays, ATime. Conditions: a stream that has been asked fewer than 10^6 times. -/
import Derived.Test.YtpfichbhhpnioaaGreatDoorLGen
namespace Go.Proofs.YtpfichbhhpnioaaGreatDoor
open Go.RowKit Go.Sort

def BdS (p : Int × Int) : Prop := -2199023255552 ≤ p.1 ∧ p.1 ≤ 2199023255552 ∧ -2199023255552 ≤ p.2 ∧ p.2 ≤ 2199023255552
theorem flat2_set : ∀ (l : List (Int × Int)) (r : Nat) (y : Int × Int), (l.set r y).flatMap TY.f = ((l.flatMap TY.f).set (r * 2) (.int .i64 y.1)).set (r * 2 + 1) (.int .i64 y.2)
  | [], r, y => by simp
  | x :: l, 0, y => by simp [TY]
  | x :: l, r + 1, y => by
    have := flat2_set l r y
    rw [List.set_cons_succ, List.flatMap_cons, List.flatMap_cons, this]
    rw [show (r + 1) * 2 = r * 2 + 1 + 1 by omega]
    simp [TY]
theorem OwnY.set {w : World} {B g cap : Nat} {l : List (Int × Int)} (h : OwnR TY w B (.slice (some ⟨g, 0, none⟩) l.length cap) l) (r : Nat) (a b : Int) :
    OwnR TY ((w.setCell ⟨g, r * 2, none⟩ (.int .i64 a)).setCell ⟨g, r * 2 + 1, none⟩ (.int .i64 b)) B (.slice (some ⟨g, 0, none⟩) l.length cap) (l.set r (a, b)) := by
  by_cases h0 : l = []
  · subst h0
    rcases h.2 with ⟨h1, _⟩ | ⟨g', cap', cur, hv, hB, hb, h1, h2, h3, h4⟩
    · cases h1
    · obtain ⟨hv1, _, hv2⟩ := Value.slice.inj hv
      injection hv1 with hv1
      injection hv1 with hv1
      subst hv1 hv2
      exact ⟨rfl, .inr ⟨g, cap, _, rfl, hB, blk_set (blk_set hb _ _) _ _, h1, h2, by simpa using h3, by simp⟩⟩
  · obtain ⟨g', cap', cur, hv, hB, hb, h1, h2, h3, h4⟩ := h.blk h0
    obtain ⟨hv1, _, hv2⟩ := Value.slice.inj hv
    injection hv1 with hv1
    injection hv1 with hv1
    subst hv1 hv2
    have := OwnR.of_blk (T := TY) (l := l.set r (a, b)) hB (blk_set (blk_set hb (r * 2) (.int .i64 a)) (r * 2 + 1) (.int .i64 b)) (by rw [List.length_set]; exact h1) h2 (by simpa using h3) (by
      rw [List.length_set, Array.toList_setIfInBounds, Array.toList_setIfInBounds, List.take_set, List.take_set, h4, flat2_set]) (by rw [flat_len TY.ok.len])
    rw [List.length_set] at this
    exact this
theorem OwnY.cell {w : World} {B g cap n : Nat} {l : List (Int × Int)} (h : OwnR TY w B (.slice (some ⟨g, 0, none⟩) n cap) l) (hn : n = l.length) {r : Nat} {x : Int × Int} (hx : l[r]? = some x) :
    w.cell? ⟨g, r * 2, none⟩ = some (.int .i64 x.1) ∧ w.cell? ⟨g, r * 2 + 1, none⟩ = some (.int .i64 x.2) ∧ w.frozen? ⟨g, r * 2, none⟩ = false ∧ w.frozen? ⟨g, r * 2 + 1, none⟩ = false := by
  subst hn
  obtain ⟨b, o, ha, _, _, hc⟩ := h.rec.at TY.ok.len hx TY.ok.pos
  injection ha with ha
  injection ha with h1 h2 h3
  subst h1 h2
  have e0 := hc 0 _ rfl
  have e1 := hc 1 _ rfl
  rw [Nat.zero_add] at e0 e1
  refine ⟨e0, e1, ?_, ?_⟩
  all_goals
    obtain ⟨g', cap', cur, hv, hB, hb, _⟩ := h.blk (by rintro rfl; simp at hx)
    obtain ⟨hv1, _, hv2⟩ := Value.slice.inj hv
    injection hv1 with hv1
    injection hv1 with hv1
    subst hv1
    exact blk_free hb _
set_option maxHeartbeats 8000000 in
set_option maxRecDepth 100000 in
theorem Stays_any (s : Nat) (c : Int) (w : World) (h : Str w s c) (hc : c ≤ 999900) :
    Calls Tryz.prog 14 #[.pointer (some ⟨s, 0, none⟩)] w fun e w' => ∃ (v : Value) (l : List (Int × Int)), e = .returned v ∧ OwnR TY w' w.heap.size v l ∧ l.length ≤ 7 ∧ (∀ p ∈ l, BdS p) ∧ Str w' s (c + 40) ∧ w.grownBy w' (some s) := by
  have ls := h.lt
  go_enter Tryz.func14, Tryz.ntmps14
  go_wp2_with fail
  refine (Pick_any s c [0, 0, 1000, 3600000] _ _ (h.alloc _) (by omega) (Ints.of_blk (blk_new _ _) rfl rfl (by simp) (by omega) ls) (by simp) (by simp)).mono ?_
  rintro e w1 ⟨r, rfl, hr, hS1, hG1⟩
  have hr1 : 0 ≤ r ∧ r ≤ 3600000 := by
    simp only [List.mem_cons, List.not_mem_nil, or_false] at hr
    omega
  have hg1 := Gr.trans (Gr.alloc (Gr.refl w (some s)) _) hG1
  clear hr hG1 h
  go_wp2_with fail
  refine (Range_any s _ 1 7 _ hS1 (by omega) (by omega) (by omega) (by omega) (by omega)).mono ?_
  rintro e w2 ⟨n, rfl, ⟨hn0, hn1, _⟩, hS2, hG2⟩
  have hn2 := hn1 (by omega)
  clear hn1
  obtain ⟨n, rfl⟩ := Int.eq_ofNat_of_zero_le (show 0 ≤ n by omega)
  have hg2 := Gr.trans hg1 hG2
  clear hG2 hg1 hS1
  go_wp2_with fail
  go_loopw [3, 4, 11] (fun x v i wr => ∃ (k : Nat) (l : List (Int × Int)) (a : Int), k ≤ n ∧ i = .int .i64 k ∧ x = .int .i64 a ∧ (0 ≤ a ∧ a ≤ 3600000 + (k : Int) * 1440000001) ∧ OwnR TY wr w.heap.size v l ∧ Hid (l.length = k) ∧ Hid (∀ p ∈ l, BdS p) ∧ Str wr s (c + 2 + 3 * k) ∧ w.grownBy wr (some s)) (fun _ _ i _ => n - (intOf i).toNat)
  case atStart => exact ⟨0, [], r, Nat.zero_le _, rfl, rfl, by omega, OwnR.nil _ _, Lib.hid rfl, Lib.hid (by simp), hS2.mono (by omega), hg2⟩
  case round =>
    obtain ⟨k, l, a, hk, rfl, rfl, ha, hO, hL, hB, hS, hG⟩ := hrel
    by_cases hlt : k < n
    · go_wp2_with fail
      refine (Pick_any s _ [1, 2, 2, 2, 3, 3, 4] _ _ (hS.alloc _) (by omega) (Ints.of_blk (blk_new _ _) rfl rfl (by simp) (by omega) hS.lt) (by simp) (by simp)).mono ?_
      rintro e w3 ⟨p, rfl, hp, hS3, hG3⟩
      have hp1 : 1 ≤ p ∧ p ≤ 4 := by
        simp only [List.mem_cons, List.not_mem_nil, or_false] at hp
        omega
      have hO3 := (hO.alloc _).grown hG3 ls
      have hg3 := Gr.trans (Gr.alloc hG _) hG3
      have z3 := hg3.size
      clear hp hG3 hO hS hG
      go_wp2_with (at_builtin; refine wp_app_rec TY.ok rfl _ _ rfl w.heap.size _ l rfl (hO3.alloc _) w3.heap.size 1 (p, a) rfl (blk_new w3 _) rfl (by rw [hL.out]; omega) (by simp; omega) ?_)
      intro v' w4 hO4 hA4 hb4
      have hS4 := (hS3.alloc (.cells #[.int .i64 p, .int .i64 a] 39)).belowB hb4 ls
      have hg4 := Gr.appR (Gr.alloc hg3 _) (hO3.alloc _) hA4 (Nat.le_refl _)
      clear hA4 hb4 hO3 hS3 hg3
      go_wp2_with fail
      refine (Hours_any s _ w4 hS4 (by omega)).mono ?_
      rintro e w5 ⟨h5, rfl, hh5, hS5, hG5⟩
      have hO5 := hO4.grown hG5 ls
      have hg5 := Gr.trans hg4 hG5
      clear hG5 hO4 hg4 hS4
      go_wp2
      go_roundw
      case rel =>
        refine ⟨k + 1, l ++ [(p, a)], a + h5, by omega, by go_num, rfl, by constructor <;> omega, hO5, Lib.hid (by rw [List.length_append, hL.out]; rfl), Lib.hid (fun q hq => ?_), hS5.mono (by omega), hg5⟩
        rcases List.mem_append.1 hq with h | h
        · exact hB.out q h
        · rw [List.mem_singleton.1 h]; unfold BdS; simp only; omega
      case measure => simp [intOf]; omega
    · have hk2 : k = n := by omega
      subst hk2
      clear hS2 hg2
      go_wp2_with fail
      refine (Flip_any s _ 15 _ hS (by omega) (by omega)).mono ?_
      rintro e w3 ⟨fl, rfl, hS3, hG3⟩
      have hO3 := hO.grown hG3 ls
      have hg3 := Gr.trans hG hG3
      clear hG3 hO hS hG
      have key : ∃ g cap, u4 = .slice (some ⟨g, 0, none⟩) l.length cap := by
        obtain ⟨g, cap, cur, hv, _⟩ := hO3.blk (by intro e; have := hL.out; rw [e] at this; simp at this; omega)
        exact ⟨g, cap, hv⟩
      obtain ⟨g, cap, rfl⟩ := key
      have lg := (World.ownsRow.lt hO3 g rfl)
      cases fl
      case' false =>
        obtain ⟨w7, l7, hO7, hL7, hB7, hS7, hg7, hw7⟩ : ∃ w7 l7, OwnR TY w7 w.heap.size (.slice (some ⟨g, 0, none⟩) l.length cap) l7 ∧ Hid (l7.length = k) ∧ Hid (∀ p ∈ l7, BdS p) ∧ Str w7 s (c + 37) ∧ w.grownBy w7 (some s) ∧ w7 = w3 := ⟨w3, l, hO3, hL, hB, hS3.mono (by omega), hg3, rfl⟩
        rw [← hw7]
        clear hw7 hO3 hS3 hg3
        go_wp2_with fail
      case' true =>
        go_wp2_with fail
        refine (Next_any s _ l.length _ hS3 (by omega) (by have := hL.out; omega)).mono ?_
        rintro e w4 ⟨i, rfl, ⟨hi0, hi1, _⟩, hS4, hG4⟩
        have hi2 := hi1 (by have := hL.out; omega)
        clear hi1
        obtain ⟨i, rfl⟩ := Int.eq_ofNat_of_zero_le hi0
        have hO4 := hO3.grown hG4 ls
        have hg4 := Gr.trans hg3 hG4
        clear hG4 hO3 hS3 hg3
        obtain ⟨x, hx⟩ : ∃ x, l[i]? = some x := ⟨_, List.getElem?_eq_getElem (by omega)⟩
        have HX := Lib.hid (hB.out x (List.mem_of_getElem? hx))
        have HF := Lib.hid (show ∀ W, w4.grownBy W (some s) → W.cell? ⟨g, i * 2, none⟩ = some (.int .i64 x.1) ∧ W.cell? ⟨g, i * 2 + 1, none⟩ = some (.int .i64 x.2) ∧ W.frozen? ⟨g, i * 2, none⟩ = false ∧ W.frozen? ⟨g, i * 2 + 1, none⟩ = false from fun W hW => OwnY.cell (hO4.grown hW ls) rfl hx)
        obtain ⟨c0, c1, f0, f1⟩ := HF.out w4 (Gr.refl _ _)
        clear hx
        go_wp2
        go_region_with (first
          | (go_at_call 73; refine (Odd_any s _ 1 4 _ hS4.drew (by omega) (by omega) (by omega) (by omega)).mono ?_; rintro e w5 ⟨y, rfl, hy, hS5, hG5⟩; have hG5 := Gr.undrew hG5; obtain ⟨d0, d1, e0, e1⟩ := HF.out w5 hG5)
          | (go_at_call 73; refine (Odd_any s _ 1 4 _ (hS4.alloc (.cells #[.int .i64 x.2, .int .i64 (-1), .int .i64 345686400000, .int .i64 0] 3)).drew (by omega) (by omega) (by omega) (by omega)).mono ?_; rintro e w5 ⟨y, rfl, hy, hS5, hG5⟩; have hG5a := Gr.undrew hG5; have hI5 := Gr.blk hG5a (blk_new w4 (.cells #[.int .i64 x.2, .int .i64 (-1), .int .i64 345686400000, .int .i64 0] 3)) (Nat.ne_of_gt hS4.lt); have hG5 := Gr.trans (Gr.alloc (Gr.refl w4 (some s)) (.cells #[.int .i64 x.2, .int .i64 (-1), .int .i64 345686400000, .int .i64 0] 3)) hG5a; obtain ⟨d0, d1, e0, e1⟩ := HF.out w5 hG5)
          | (go_at_call 24; refine (Pick_any s _ [x.2, -1, 345686400000, 0] _ _ hS5 (by omega) (Ints.of_blk hI5 rfl rfl (by simp) (by omega) hS4.lt) (by simp) (by simp)).mono ?_; rintro e w6 ⟨z, rfl, hz, hS6, hG6⟩; have hG46 := Gr.trans hG5 hG6; obtain ⟨m0, m1, n0, n1⟩ := HF.out w6 hG46)
          | (go_at_call 24; refine (Pick_any s _ [x.2, -1, 345686400000, 0] _ _ (hS5.alloc _) (by omega) (Ints.of_blk (blk_new _ _) rfl rfl (by simp) (by omega) hS5.lt) (by simp) (by simp)).mono ?_; rintro e w6 ⟨z, rfl, hz, hS6, hG6⟩; have hG46 := Gr.trans (Gr.alloc hG5 _) hG6; obtain ⟨m0, m1, n0, n1⟩ := HF.out w6 hG46))
        all_goals (
          have hz2 : -1 ≤ z ∧ z ≤ 2199023255552 ∨ z = x.2 := by
            simp only [List.mem_cons, List.not_mem_nil, or_false] at hz
            omega
          have hO6 := hO4.grown hG46 ls
          have hlg : w.heap.size ≤ g := lg.1
          have hg6 := Gr.trans hg4 hG46
          have hOY := OwnY.set hO6 i y z
          have hgY := Gr.set (Gr.set hg6 g (i * 2) (.inr hlg) (.int .i64 y)) g (i * 2 + 1) (.inr hlg) (.int .i64 z)
          have hSY := Str.far (Str.far hS6 g (i * 2) (by omega) (.int .i64 y)) g (i * 2 + 1) (by omega) (.int .i64 z)
          obtain ⟨w7, l7, hO7, hL7, hB7, hS7, hg7, hw7⟩ : ∃ w7 l7, OwnR TY w7 w.heap.size (.slice (some ⟨g, 0, none⟩) l.length cap) l7 ∧ Hid (l7.length = k) ∧ Hid (∀ p ∈ l7, BdS p) ∧ Str w7 s (c + 37) ∧ w.grownBy w7 (some s) ∧ w7 = (w6.setCell ⟨g, i * 2, none⟩ (.int .i64 y)).setCell ⟨g, i * 2 + 1, none⟩ (.int .i64 z) := by
            refine ⟨_, l.set i (y, z), hOY, Lib.hid (by rw [List.length_set]; exact hL.out), Lib.hid (fun q hq => ?_), hSY.mono (by omega), hgY, rfl⟩
            rcases List.mem_or_eq_of_mem_set hq with h | h
            · exact hB.out q h
            · rw [h]
              have := HX.out
              unfold BdS at *
              simp only at *
              omega
          rw [← hw7]
          clear hw7 hO4 hS4 hg4 hO6 hg6 hOY hgY hSY hS6 hG46 HF HX
          go_wp2_with fail)
      all_goals (
        refine (Flip_any s _ 40 _ hS7 (by omega) (by omega)).mono ?_
        rintro e w8 ⟨fl, rfl, hS8, hG8⟩
        have hO8 := hO7.grown hG8 ls
        have hg8 := Gr.trans hg7 hG8
        have e1 : l.length = l7.length := by rw [hL.out, hL7.out]
        rw [e1] at hO8
        have hl7 : l7.length ≤ 7 := by rw [hL7.out]; omega
        clear hO7 hS7 hg7 hG8
        cases fl
        · go_wp2
          go_ret
          exact ⟨_, l7, by first | rfl | rw [e1], hO8, hl7, hB7.out, hS8.mono (by omega), hg8⟩
        · go_wp2
          go_ret
          exact ⟨_, [], rfl, OwnR.nil _ _, by simp, by simp, hS8.mono (by omega), hg8⟩)
set_option maxHeartbeats 4000000 in
set_option maxRecDepth 100000 in
theorem ATime_any (s : Nat) (c : Int) (l : List (Int × Int)) (v : Value) (w : World) (h : Str w s c) (hc : c ≤ 999900) (rl : RecR TY w (s + 1) v l) (hl : l.length ≤ 7) (hB : ∀ p ∈ l, BdS p) :
    Calls Tryz.prog 17 #[.pointer (some ⟨s, 0, none⟩), v] w fun e w' => ∃ r : Int, e = .returned (.int .i64 r) ∧ (-2199023255553 ≤ r ∧ r ≤ 3000000000000) ∧ Str w' s (c + 5) ∧ w.grownBy w' (some s) := by
  obtain ⟨a, cap, rfl, hc1, hc2⟩ := RecR.form rl
  have HB := Lib.hid hB
  clear hB
  go_enter Tryz.func17, Tryz.ntmps17
  by_cases h0 : l.length = 0
  · go_wp2_with fail
    refine (Pick_any s c [0, -1, 345686399999, 345686400000] _ _ (h.alloc _) (by omega) (Ints.of_blk (blk_new _ _) rfl rfl (by simp) (by omega) h.lt) (by simp) (by simp)).mono ?_
    rintro e w1 ⟨r, rfl, hr, hS1, hG1⟩
    have hr1 : -1 ≤ r ∧ r ≤ 345686400000 := by
      simp only [List.mem_cons, List.not_mem_nil, or_false] at hr
      omega
    go_wp2
    go_ret
    exact ⟨r, rfl, by omega, hS1.mono (by omega), Gr.trans (Gr.alloc (Gr.refl w (some s)) _) hG1⟩
  · have hne : ((l.length : Int) == 0) = false := by rw [beq_eq_false_iff_ne]; omega
    go_wp2_with fail
    refine (Flip_any s c 15 w h (by omega) (by omega)).mono ?_
    rintro e w1 ⟨fl, rfl, hS1, hG1⟩
    have rl1 := rl.grown hG1 (Nat.lt_succ_self s)
    clear rl h
    cases fl
    · go_wp2
      go_region_with (first
        | (go_at_call 61; refine (Next_any s _ l.length _ hS1.drew (by omega) (by omega)).mono ?_; rintro e w2 ⟨i, rfl, ⟨hi0, hi1, _⟩, hS2, hG2⟩; have hG2 := Gr.undrew hG2; have hi2 := hi1 (by omega); clear hi1; obtain ⟨i, rfl⟩ := Int.eq_ofNat_of_zero_le hi0;
            obtain ⟨x, hx⟩ : ∃ x, l[i]? = some x := ⟨_, List.getElem?_eq_getElem (by omega)⟩; have rl2 := rl1.grown hG2 (Nat.lt_succ_self s); have HX := Lib.hid (HB.out x (List.mem_of_getElem? hx)); obtain ⟨x1, x2⟩ := x; obtain ⟨b, o, rfl, hb, _, hc⟩ := rl2.at TY.ok.len hx TY.ok.pos; have c2 : w2.cell? ⟨b, o + i * 2 + 1, none⟩ = some (.int .i64 x2) := hc 1 _ rfl; clear hx rl2 hc)
        | (go_at_call 25; refine (Hours_any s _ w2 hS2 (by omega)).mono ?_; rintro e w3 ⟨hr, rfl, hhr, hS3, hG3⟩; have c3 : w3.cell? ⟨b, o + i * 2 + 1, none⟩ = some (.int .i64 x2) := (World.cell?_of_block (w := w2) (hG3.block b (World.block_lt_of_cell? _ _ c2) (by intro e; injection e; omega))).trans c2; have lb3 := World.block_lt_of_cell? _ _ c3; simp only at lb3)
        | (go_at_call 24; refine (Pick_any s _ [0, 0, -1, 1, hr] _ _ (hS3.alloc _) (by omega) (Ints.of_blk (blk_new _ _) rfl rfl (by simp) (by omega) hS3.lt) (by simp) (by simp)).mono ?_; rintro e w4 ⟨z, rfl, hz, hS4, hG4⟩; have c4 : w4.cell? ⟨b, o + i * 2 + 1, none⟩ = some (.int .i64 x2) := (World.cell?_of_block (w := w3) ((Gr.trans (Gr.alloc (Gr.refl w3 (some s)) _) hG4).block b (World.block_lt_of_cell? _ _ c3) (by intro e; injection e; omega))).trans c3))
      all_goals (
        have hz2 : -1 ≤ z ∧ z ≤ 1440000001 := by
          simp only [List.mem_cons, List.not_mem_nil, or_false] at hz
          omega
        have hg4 := Gr.trans (Gr.trans (Gr.trans hG1 hG2) hG3) (Gr.trans (Gr.alloc (Gr.refl w3 (some s)) _) hG4)
        obtain ⟨_, _, q1, q2⟩ := HX.out
        simp only at q1 q2
        have hw : IntKind.i64.wrap (x2 + z) = x2 + z := IntWalk.i64_in _ (by omega)
        go_wp2
        go_ret
        exact ⟨_, rfl, by first | omega | (rw [hw]; omega), hS4.mono (by omega), hg4⟩)
    · go_wp2_with fail
      refine (Pick_any s _ [0, -1, 345686399999, 345686400000] _ _ (hS1.alloc _) (by omega) (Ints.of_blk (blk_new _ _) rfl rfl (by simp) (by omega) hS1.lt) (by simp) (by simp)).mono ?_
      rintro e w2 ⟨r, rfl, hr, hS2, hG2⟩
      have hr1 : -1 ≤ r ∧ r ≤ 345686400000 := by
        simp only [List.mem_cons, List.not_mem_nil, or_false] at hr
        omega
      go_wp2
      go_ret
      exact ⟨r, rfl, by omega, hS2.mono (by omega), Gr.trans (Gr.trans hG1 (Gr.alloc (Gr.refl w1 (some s)) _)) hG2⟩
end Go.Proofs.YtpfichbhhpnioaaGreatDoor
