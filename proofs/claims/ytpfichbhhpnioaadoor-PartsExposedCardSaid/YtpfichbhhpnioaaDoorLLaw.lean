/- The walk of the law PartsExposed: whatever the input: true. -/
import Derived.Test.YtpfichbhhpnioaaDoorLEx
import Derived.Deep.Cut
import Derived.Deep.CutRange
namespace Go.Proofs.YtpfichbhhpnioaaDoor
open Go.RowKit Go.Sort

theorem Str.start {w : World} {a : Option Addr} {cap : Nat} {l : List Int} (rl : Ints w 0 (.slice a l.length cap) l) (hl : ∀ x ∈ l, -9223372036854775808 ≤ x ∧ x ≤ 9223372036854775807) :
    Str (w.alloc (.cells #[.slice a l.length cap, .int .i64 0] 25)) w.heap.size 0 := by
  obtain ⟨a', cap', hv, h1, h2⟩ := Ints.form rl
  injection hv with _ _ hcap
  refine ⟨a, l.length, cap, 0, blk_new w _, Int.le_refl _, Int.le_refl _, by omega, fun k hk => ?_⟩
  obtain ⟨b, o, ha, _, hb, hc⟩ := rl.at (k := k) (x := l[k]) (List.getElem?_eq_getElem hk)
  have hx := hl l[k] (List.getElem_mem hk)
  exact ⟨b, o, l[k], ha, hb, by simp; omega, ((bcell (Bl.alloc (Below.refl _ _) _)).1 _ _ hb).trans hc, hx.1, hx.2⟩
def spE (lo n hi : Int) : Int := if inB lo n hi = true then 0 else 1
set_option maxHeartbeats 1000000 in
theorem SpanE_any (n lo hi : Int) (w : World) : Calls Tryd.prog 12 #[.int .i64 n, .int .i64 lo, .int .i64 hi] w fun e w' => e = .returned (.int .i64 (spE lo n hi)) ∧ w = w' := by
  cases h : inB lo n hi
  · have HV : Hid (spE lo n hi = 1) := Lib.hid (by unfold spE; rw [h]; rfl)
    go_enter Tryd.func12, Tryd.ntmps12
    go_wp2_with (go_at_call 33; refine (in_any _ _ _ _).mono ?_; rintro e w' ⟨rfl, rfl⟩; rw [h])
    go_ret
    exact ⟨ret_int HV.out.symm, rfl⟩
  · have HV : Hid (spE lo n hi = 0) := Lib.hid (by unfold spE; rw [h]; rfl)
    go_enter Tryd.func12, Tryd.ntmps12
    go_wp2_with (go_at_call 33; refine (in_any _ _ _ _).mono ?_; rintro e w' ⟨rfl, rfl⟩; rw [h])
    go_ret
    exact ⟨ret_int HV.out.symm, rfl⟩
theorem MomE_any (n : Int) (w : World) : Calls Tryd.prog 20 #[.int .i64 n] w fun e w' => e = .returned (.int .i64 (spE 0 n 345686399999)) ∧ w = w' := by
  go_enter Tryd.func20, Tryd.ntmps20
  go_wp2_with fail
  refine (SpanE_any _ _ _ _).mono ?_
  rintro e w' ⟨rfl, rfl⟩
  go_wp2
  go_ret
  exact ⟨rfl, rfl⟩
theorem Or2_any (key : ByteArray) (lv t : Int) (l : List Sty) (w : World) :
    Calls Tryd.prog 19 #[.slice (some ⟨w.heap.size, 0, none⟩) 2 2] (w.alloc (.cells #[.int .i64 (livF key lv l), .int .i64 (spE 0 t 345686399999)] 36)).drew fun e w' => e = .returned (.int .i64 (momF key lv l t)) ∧ (w.alloc (.cells #[.int .i64 (livF key lv l), .int .i64 (spE 0 t 345686399999)] 36)).drew = w' := by
  refine (OrErrno_any [livF key lv l, spE 0 t 345686399999] (.slice (some ⟨w.heap.size, 0, none⟩) 2 2) _ (by simp) (Ints.of_blk (show (w.alloc (.cells #[.int .i64 (livF key lv l), .int .i64 (spE 0 t 345686399999)] 36)).drew.heap[w.heap.size]? = _ from blk_new w _) rfl rfl (Nat.le_refl _) (by omega) (Nat.zero_le _))).mono ?_
  rintro e w' ⟨rfl, rfl⟩
  refine ⟨ret_int ?_, rfl⟩
  unfold momF orF orF orF spE
  by_cases h0 : livF key lv l = 0
  · rw [if_pos h0, if_pos h0]; repeat' split <;> omega
  · rw [if_neg h0, if_neg h0]
theorem Or3_any (key : ByteArray) (lv lo hi : Int) (l : List Sty) (w : World) (g : Nat) (hg : g = w.heap.size) :
    Calls Tryd.prog 19 #[.slice (some ⟨g, 0, none⟩) 3 3] (w.alloc (.cells #[.int .i64 (livF key lv l), .int .i64 (spE 0 lo hi), .int .i64 (spE 0 hi 345686399999)] 36)).drew fun e w' => e = .returned (.int .i64 (useF key lv l lo hi)) ∧ (w.alloc (.cells #[.int .i64 (livF key lv l), .int .i64 (spE 0 lo hi), .int .i64 (spE 0 hi 345686399999)] 36)).drew = w' := by
  subst hg
  refine (OrErrno_any [livF key lv l, spE 0 lo hi, spE 0 hi 345686399999] (.slice (some ⟨w.heap.size, 0, none⟩) 3 3) _ (by simp) (Ints.of_blk (show (w.alloc (.cells #[.int .i64 (livF key lv l), .int .i64 (spE 0 lo hi), .int .i64 (spE 0 hi 345686399999)] 36)).drew.heap[w.heap.size]? = _ from blk_new w _) rfl rfl (Nat.le_refl _) (by omega) (Nat.zero_le _))).mono ?_
  rintro e w' ⟨rfl, rfl⟩
  refine ⟨ret_int ?_, rfl⟩
  unfold useF orF orF orF orF spE
  by_cases h0 : livF key lv l = 0
  · rw [if_pos h0, if_pos h0]
    by_cases h1 : inB 0 lo hi = true
    · by_cases h2 : inB 0 hi 345686399999 = true
      · simp [h1, h2]
      · simp [h1, h2]
    · simp [h1]
  · rw [if_neg h0, if_neg h0]
theorem aged_any (w : World) : Calls Tryd.prog 25 #[] w fun e w' => e = .returned (.bool true) ∧ w = w' := by
  have h := Life_any 4 w
  rw [show lifR 4 = (259200000, true, 0) by decide] at h
  have HL := Lib.hid h
  clear h
  go_enter Tryd.func25, Tryd.ntmps25
  go_wp2_with fail
  refine HL.out.mono ?_
  rintro e w' ⟨rfl, rfl⟩
  go_wp2
  go_ret
  exact ⟨rfl, rfl⟩
theorem OwnR.far2 {α : Type} {T : Rty α} {w : World} {B b : Nat} {v : Value} {l : List α} (h : OwnR T w B v l) (hne : v.ownBlock ≠ some b) (j : Nat) (u : Value) : OwnR T (w.setCell ⟨b, j, none⟩ u) B v l := by
  refine ⟨h.1, h.2.imp id ?_⟩
  rintro ⟨g, cap, cur, hv, hB, hc, rest⟩
  exact ⟨g, cap, cur, hv, hB, blk_far hc b j u (by rintro rfl; exact hne (by rw [hv]; rfl)), rest⟩
/-- what stands from the first parts of the law on. -/
structure Cx (W0 : World) (P W : Nat) (key : ByteArray) (lv bk lo hi : Int) (v : Value) (l : List Sty) (w : World) : Prop where
  hP : PartAt w P key lv bk
  hW : w.heap[W]? = some (.cells #[.int .i64 lo, .int .i64 hi] 34 (0, 0))
  rl : RecR TY w 0 v l
  hb : Below W0.heap.size W0 w
theorem Cx.below {W0 : World} {P W : Nat} {key : ByteArray} {lv bk lo hi : Int} {v : Value} {l : List Sty} {w w' : World} (h : Cx W0 P W key lv bk lo hi v l w) (hb : Below w.heap.size w w') : Cx W0 P W key lv bk lo hi v l w' :=
  ⟨blk_below h.hP hb, blk_below h.hW hb, h.rl.below hb, Bl.trans h.hb hb⟩
theorem Cx.ub {W0 : World} {P W : Nat} {key : ByteArray} {lv bk lo hi : Int} {v : Value} {l : List Sty} {w : World} (h : Cx W0 P W key lv bk lo hi v l w) : Ub w P W key lv bk lo hi := Ub.of h.hP h.hW

set_option maxHeartbeats 20000000 in
set_option maxRecDepth 100000 in
theorem PartsExposed_any (l : List Int) (v : Value) (w : World) (rl : Ints w 0 v l) (hl : ∀ x ∈ l, -9223372036854775808 ≤ x ∧ x ≤ 9223372036854775807) :
    Calls Tryd.prog 3 #[v] w fun e w' => e = .returned (.bool true) ∧ Below w.heap.size w w' := by
  obtain ⟨va, cap, rfl, hc1, hc2⟩ := Ints.form rl
  have hs0 := Str.start rl hl
  have hb0 := Bl.alloc (Below.refl w.heap.size w) (.cells #[.slice va l.length cap, .int .i64 0] 25)
  clear rl hl
  go_enter Tryd.func3, Tryd.ntmps3
  go_wp2_with fail
  generalize w.alloc (.cells #[.slice va l.length cap, .int .i64 0] 25) = w0 at *
  refine (OnePart_any _ 0 w0 hs0 (by omega)).mono ?_
  rintro e w1 ⟨key, lv, bk, he, hk, hlv, hbk, hs1, hg1⟩
  simp only [partV] at he
  subst he
  have hksz : key.size ≤ 1000 := by rcases hk with rfl | rfl <;> decide
  have hb1 := Below.trans hb0 (Gr.below hg1 (Nat.le_refl _) hb0.size)
  have l1 := hs1.lt
  clear hg1 hs0 hk
  go_wp2_with fail
  refine (Stays_any _ _ w1 hs1 (by omega)).mono ?_
  rintro e w2 ⟨vs, st, rfl, hO2, hst, hB, hs2, hg2⟩
  obtain ⟨sa, scap, rfl, _, _⟩ := OwnR.form hO2
  have HB := Lib.hid hB
  have hb2 := Below.trans hb1 (Gr.below hg2 (Nat.le_refl _) hb1.size)
  have hO2 := hO2.base (show w.heap.size + 1 ≤ w1.heap.size by omega)
  have z2 := hg2.size
  clear hg2 hs1 hB
  go_wp2_with fail
  refine (Odd_any _ _ 1 6 w2 hs2 (by omega) (by omega) (by omega) (by omega)).mono ?_
  rintro e w3 ⟨level, rfl, hlev, hs3, hg3⟩
  have hb3 := Below.trans hb2 (Gr.below hg3 (Nat.le_refl _) hb2.size)
  have hO3 := hO2.grown hg3 (Nat.lt_succ_self _)
  have z3 := hg3.size
  clear hg3 hs2 hO2
  have hP4 : PartAt _ w3.heap.size key lv bk := blk_new w3 (.cells #[.string key, .string ⟨#[113]⟩, .int .i64 lv, .int .i64 bk] 27)
  have hb4 := Bl.alloc hb3 (.cells #[.string key, .string ⟨#[113]⟩, .int .i64 lv, .int .i64 bk] 27)
  have hO4 := hO3.alloc (.cells #[.string key, .string ⟨#[113]⟩, .int .i64 lv, .int .i64 bk] 27)
  have hs4 := hs3.alloc (.cells #[.string key, .string ⟨#[113]⟩, .int .i64 lv, .int .i64 bk] 27)
  clear hO3 hs3
  go_wp2_with fail
  refine (ATime_any _ _ st _ _ hs4 (by omega) hO4.rec hst HB.out).mono ?_
  rintro e w5 ⟨t, rfl, ht, hs5, hg5⟩
  have hb5 := Below.trans hb4 (Gr.below hg5 (Nat.le_refl _) hb4.size)
  have hO5 := hO4.grown hg5 (Nat.lt_succ_self _)
  have hP5 : PartAt w5 w3.heap.size key lv bk := Gr.blk hg5 hP4 (by omega)
  clear hg5 hs4 hO4 hP4
  go_wp2_with fail
  refine (ATime_any _ _ st _ _ hs5 (by omega) hO5.rec hst HB.out).mono ?_
  rintro e w6 ⟨lo0, rfl, hlo0, hs6, hg6⟩
  have hb6 := Below.trans hb5 (Gr.below hg6 (Nat.le_refl _) hb5.size)
  have hO6 := hO5.grown hg6 (Nat.lt_succ_self _)
  have hP6 : PartAt w6 w3.heap.size key lv bk := Gr.blk hg6 hP5 (by omega)
  clear hg6 hs5 hO5 hP5
  go_wp2_with fail
  refine (ATime_any _ _ st _ _ hs6 (by omega) hO6.rec hst HB.out).mono ?_
  rintro e w7 ⟨hi0, rfl, hhi0, hs7, hg7⟩
  have hb7 := Below.trans hb6 (Gr.below hg7 (Nat.le_refl _) hb6.size)
  have hO7 := hO6.grown hg7 (Nat.lt_succ_self _)
  have hP7 : PartAt w7 w3.heap.size key lv bk := Gr.blk hg7 hP6 (by omega)
  have lP7 := blk_lt hP7
  clear hg7 hs6 hO6 hP6
  have hP8 : PartAt _ w3.heap.size key lv bk := blk_old hP7 (.cells #[.int .i64 lo0, .int .i64 hi0] 34)
  have hW8 := blk_new w7 (.cells #[.int .i64 lo0, .int .i64 hi0] 34)
  have hb8 := Bl.alloc hb7 (.cells #[.int .i64 lo0, .int .i64 hi0] 34)
  have hO8 := hO7.alloc (.cells #[.int .i64 lo0, .int .i64 hi0] 34)
  have hs8 := hs7.alloc (.cells #[.int .i64 lo0, .int .i64 hi0] 34)
  have ls7 := hs7.lt
  have hnW : (Value.slice sa st.length scap).ownBlock ≠ some w7.heap.size := fun e => by have := (World.ownsRow.lt hO7 _ e).2; omega
  clear hP7 hO7 hs7
  go_upto_region 5 with fail
  go_cut [8, 62] from 53 to 61 (fun v8 v62 wx => v8 = .pointer (some ⟨w7.heap.size, 0, none⟩) ∧ (∃ c : Bool, v62 = .bool c) ∧ PartAt wx w3.heap.size key lv bk ∧ wx.heap[w7.heap.size]? = some (.cells #[.int .i64 lo0, .int .i64 hi0] 34 (0, 0)) ∧ OwnR TY wx (w.heap.size + 1) (.slice sa st.length scap) st ∧ Below w.heap.size w wx)
  case first =>
    by_cases hlt : hi0 < lo0
    · go_wp2_with fail
      generalize w7.alloc (.cells #[.int .i64 lo0, .int .i64 hi0] 34) = w8 at *
      refine (Flip_any _ _ 6 w8 hs8 (by omega) (by omega)).mono ?_
      rintro e w9 ⟨fl, rfl, hs9, hg9⟩
      have hb9 := Below.trans hb8 (Gr.below hg9 (Nat.le_refl _) hb8.size)
      have hO9 := hO8.grown hg9 (Nat.lt_succ_self _)
      have hP9 : PartAt w9 w3.heap.size key lv bk := Gr.blk hg9 hP8 (by omega)
      have hW9 := Gr.blk hg9 hW8 (by omega)
      clear hP8 hW8 hO8 hb8
      go_wp2_with fail
      go_meet
      case rel => exact ⟨rfl, ⟨_, rfl⟩, hP9, hW9, hO9, hb9⟩
    · go_wp2_with fail
      go_meet
      case rel => exact ⟨rfl, ⟨_, rfl⟩, hP8, hW8, hO8, hb8⟩
  case rest =>
    obtain ⟨rfl, ⟨c, rfl⟩, hP9, hW9, hO9, hb9⟩ := hcut
    have l9 := blk_lt hW9
    clear hP8 hW8 hO8 hb8 hs8
    go_upto_if 62 with fail
    go_cut [8] from 63 to 68 (fun v8 wx => v8 = .pointer (some ⟨w7.heap.size, 0, none⟩) ∧ ∃ lo hi : Int, Cx w w3.heap.size w7.heap.size key lv bk lo hi (.slice sa st.length scap) st wx)
    case first =>
      cases c
      · go_wp2_with fail
        go_meet
        case rel => exact ⟨rfl, lo0, hi0, hP9, hW9, hO9.rec0, hb9⟩
      · have x0 : wc.cell? ⟨w7.heap.size, 0, none⟩ = some (.int .i64 lo0) := blk_cell hW9 0
        have x1 : wc.cell? ⟨w7.heap.size, 1, none⟩ = some (.int .i64 hi0) := blk_cell hW9 1
        have y0 := blk_free hW9 0
        have y1 := blk_free hW9 1
        have hW10 := blk_set (blk_set hW9 0 (.int .i64 hi0)) 1 (.int .i64 lo0)
        have hP10 : PartAt _ w3.heap.size key lv bk := blk_far (blk_far hP9 w7.heap.size 0 (.int .i64 hi0) (by omega)) w7.heap.size 1 (.int .i64 lo0) (by omega)
        have hb10 := Bl.set (Bl.set hb9 w7.heap.size 0 (by have := hb7.size; omega) (.int .i64 hi0)) w7.heap.size 1 (by have := hb7.size; omega) (.int .i64 lo0)
        have hr10 := (OwnR.far2 (OwnR.far2 hO9 hnW 0 (.int .i64 hi0)) hnW 1 (.int .i64 lo0)).rec0
        go_wp2_with fail
        go_meet
        case rel => exact ⟨rfl, hi0, lo0, hP10, hW10, hr10, hb10⟩
    case rest =>
      obtain ⟨rfl, lo, hi, hC⟩ := hcut
      clear hP9 hW9 hO9 hb9 l9 hb7
      go_wp2_with fail
      refine (CheckStays_any st _ _ (by omega) hC.rl).mono ?_
      rintro e wA ⟨rfl, hbA⟩
      have hC := hC.below hbA
      go_wp2_with fail
      refine (StaysFault_any st _ _ (by omega) hC.rl).mono ?_
      rintro e wB ⟨rfl, hbB⟩
      have hC := hC.below hbB
      clear hbA hbB
      have HLf := Lib.hid (Life_any level wB)
      go_wp2_with fail
      refine HLf.out.mono ?_
      rintro e w' ⟨rfl, rfl⟩
      go_wp2_with fail
      refine (SpanE_any _ _ _ _).mono ?_
      rintro e w' ⟨rfl, rfl⟩
      obtain ⟨n1, bb1, e1, f1, h1, h2, h3, h4⟩ : ∃ n1 b1 e1 f1, (lifR level).1 = n1 ∧ (lifR level).2.1 = b1 ∧ (lifR level).2.2 = e1 ∧ spE 1 level 6 = f1 := ⟨_, _, _, _, rfl, rfl, rfl, rfl⟩
      rw [h1, h2, h3, h4]
      go_upto_if 83 with fail
      go_cut [13, 14] from 84 to 110 (fun _ _ wx => Cx w w3.heap.size w7.heap.size key lv bk lo hi (.slice sa st.length scap) st wx)
      case first =>
        cases hin : inB 1 level 6
        · have g1 : n1 = 0 := by rw [← h1]; unfold lifR; rw [hin]; rfl
          have g2 : bb1 = false := by rw [← h2]; unfold lifR; rw [hin]; rfl
          have g3 : e1 = 1 := by rw [← h3]; unfold lifR; rw [hin]; rfl
          have g4 : f1 = 1 := by rw [← h4]; unfold spE; rw [hin]; rfl
          clear h1 h2 h3 h4
          subst g1 g2 g3 g4
          go_wp2_with fail
          go_meet
          case rel => exact hC
        · have g1 : lifeV level = n1 := by rw [← h1]; unfold lifR; rw [hin]; rfl
          have g2 : decide (level ≠ 1) = bb1 := by rw [← h2]; unfold lifR; rw [hin]; rfl
          have g3 : e1 = 0 := by rw [← h3]; unfold lifR; rw [hin]; rfl
          have g4 : f1 = 0 := by rw [← h4]; unfold spE; rw [hin]; rfl
          have HLo := LifeOf_any level wB (inB_iff.1 hin)
          rw [g1, g2] at HLo
          have HLo := Lib.hid HLo
          clear h1 h2 h3 h4 g1 g2
          subst g3 g4
          go_wp2_with fail
          refine HLo.out.mono ?_
          rintro e wD ⟨rfl, hbD⟩
          have hC := hC.below hbD
          go_wp2_with fail
          go_meet
          case rel => exact hC
      case rest =>
        have hC := hcut
        have hbk7 : 0 ≤ bk ∧ bk ≤ 720000000 := by omega
        have hst5 : st.length ≤ 500 := by omega
        clear hcut
        obtain ⟨p0, p1, p2, p3, q0, q1, lP, lW⟩ := hC.ub
        go_wp2_with fail
        refine (LivedFault_any key lv bk st _ _ hksz hbk7 hst5 hC.rl).mono ?_
        rintro e wD ⟨rfl, hbD⟩
        have hC := hC.below hbD
        clear p0 p1 p2 p3 q0 q1 lP lW hbD
        obtain ⟨p0, p1, p2, p3, q0, q1, lP, lW⟩ := hC.ub
        go_wp2_with fail
        refine (Exposed_any key lv bk t st _ _ hksz hbk7 hst5 hC.rl).mono ?_
        rintro e wE ⟨rfl, hbE⟩
        have hC := hC.below hbE
        clear p0 p1 p2 p3 q0 q1 lP lW hbE
        obtain ⟨p0, p1, p2, p3, q0, q1, lP, lW⟩ := hC.ub
        go_wp2_with fail
        refine (Left_any key lv bk t st _ _ hksz hbk7 hst5 hC.rl).mono ?_
        rintro e wF ⟨rfl, hbF⟩
        have hC := hC.below hbF
        clear p0 p1 p2 p3 q0 q1 lP lW hbF
        obtain ⟨p0, p1, p2, p3, q0, q1, lP, lW⟩ := hC.ub
        go_wp2_with fail
        refine (Usable_any key lv bk lo hi st _ _ hksz hbk7 hst5 hC.rl).mono ?_
        rintro e wG ⟨rfl, hbG⟩
        have hC := hC.below hbG
        clear p0 p1 p2 p3 q0 q1 lP lW hbG
        obtain ⟨p0, p1, p2, p3, q0, q1, lP, lW⟩ := hC.ub
        go_wp2_with fail
        refine (Expires_any key lv bk st _ _ hksz hbk7 hst5 hC.rl).mono ?_
        rintro e wH ⟨rfl, hbH⟩
        have hC := hC.below hbH
        clear p0 p1 p2 p3 q0 q1 lP lW hbH
        obtain ⟨p0, p1, p2, p3, q0, q1, lP, lW⟩ := hC.ub
        go_upto_region 22 with fail
        go_cut [26, 27] from 143 to 158 (fun v26 v27 wx => v26 = .int .i64 (momF key lv st t) ∧ v27 = .int .i64 (useF key lv st lo hi) ∧ Cx w w3.heap.size w7.heap.size key lv bk lo hi (.slice sa st.length scap) st wx)
        case first =>
          have HS := Lib.hid (show ∀ W, Below wH.heap.size wH W → W.cell? ⟨w7.heap.size, 0, none⟩ = some (.int .i64 lo) ∧ W.cell? ⟨w7.heap.size, 1, none⟩ = some (.int .i64 hi) from fun W hW => by
            obtain ⟨_, _, _, _, r0, r1, _, _⟩ := (hC.below hW).ub
            exact ⟨r0, r1⟩)
          go_region_held3 (fun W : World => W.cell? ⟨w7.heap.size, 0, none⟩ = some (.int .i64 lo) ∧ W.cell? ⟨w7.heap.size, 1, none⟩ = some (.int .i64 hi))
            (first | exact HS.out _ (Below.refl _ _) | exact HS.out _ (Below.drew (Below.refl _ _)) | exact HS.out _ (Bl.alloc (Below.refl _ _) _) | exact HS.out _ (Below.drew (Bl.alloc (Below.refl _ _) _)) | exact HS.out _ (Bl.alloc (Bl.alloc (Below.refl _ _) _) _) | exact HS.out _ (Below.drew (Bl.alloc (Bl.alloc (Below.refl _ _) _) _)))
            (first
            | (go_at_call 20; refine (MomE_any _ _).mono ?_; rintro e w' ⟨rfl, rfl⟩)
            | (go_at_call 12; refine (SpanE_any _ _ _ _).mono ?_; rintro e w' ⟨rfl, rfl⟩)
            | (go_at_call 19; have hO2d := hOr2; refine (Or3_any key lv lo hi st _ _ (by simp)).mono ?_; rintro e w' ⟨rfl, rfl⟩)
            | (go_at_call 19; refine (Or2_any key lv t st _).mono ?_; rintro e w' ⟨rfl, rfl⟩; have hOr2 : True := trivial))
          all_goals (
            go_wp2_with fail
            go_meet
            case rel => exact ⟨rfl, rfl, hC.below (Below.drew (Bl.alloc (Bl.alloc (Below.refl _ _) _) _))⟩)
        case rest =>
          obtain ⟨rfl, rfl, hC2⟩ := hcut
          clear p0 p1 p2 p3 q0 q1 lP lW hC
          obtain ⟨p0, p1, p2, p3, q0, q1, lP, lW⟩ := hC2.ub
          go_upto_if 160 with fail
          go_cut [28, 29, 30] from 160 to 171 (fun v28 v29 v30 wx => v28 = .int .i64 (exV key lv bk st t) ∧ v29 = .int .i64 (leV key lv bk st t).1 ∧ v30 = .bool (leV key lv bk st t).2 ∧ Cx w w3.heap.size w7.heap.size key lv bk lo hi (.slice sa st.length scap) st wx)
          case first =>
            by_cases h0 : momF key lv st t = 0
            · have heq : (momF key lv st t == 0) = true := by simpa using h0
              obtain ⟨hl0, ht1, ht2⟩ := momF_zero h0
              have hasc := (stF_asc (livF_zero hl0).2).1
              have hlv6 := catF_zero (livF_zero hl0).1
              have HV1 : Hid (exV key lv bk st t = expo lv bk st t) := Lib.hid (by unfold exV; rw [if_pos h0])
              have HV2 : Hid (leV key lv bk st t = leO lv bk st t) := Lib.hid (by unfold leV; rw [if_pos h0])
              have HE := Lib.hid (ExposedOf_any key ⟨#[113]⟩ lv bk t st _ wc hst5 hasc ht1 (by omega) hC2.rl)
              have HLo := Lib.hid (fun W (hW : Below wc.heap.size wc W) => LeftOf_any key lv bk t st _ W hlv6 hst5 hasc ht1 (by omega) (hC2.rl.below hW))
              unfold partV at HE HLo
              clear h0 hl0 hasc
              go_wp2_with fail
              refine HE.out.mono ?_
              rintro e wJ ⟨rfl, hbJ⟩
              have hC3 := hC2.below hbJ
              clear p0 p1 p2 p3 q0 q1 lP lW
              obtain ⟨p0, p1, p2, p3, q0, q1, lP, lW⟩ := hC3.ub
              go_wp2_with fail
              refine (HLo.out _ hbJ).mono ?_
              rintro e wK ⟨rfl, hbK⟩
              have hC4 := hC3.below hbK
              go_wp2_with fail
              go_meet
              case rel => exact ⟨by rw [HV1.out], by rw [HV2.out], by rw [HV2.out], hC4⟩
            · have heq : (momF key lv st t == 0) = false := by simpa using h0
              have HV1 : exV key lv bk st t = 0 := by unfold exV; rw [if_neg h0]
              have HV2 : leV key lv bk st t = (0, false) := by unfold leV; rw [if_neg h0]
              clear h0
              go_wp2_with fail
              go_meet
              case rel => exact ⟨by rw [HV1], by rw [HV2], by rw [HV2], hC2⟩
          case rest =>
            obtain ⟨rfl, rfl, rfl, hC5⟩ := hcut
            clear p0 p1 p2 p3 q0 q1 lP lW hC2
            obtain ⟨p0, p1, p2, p3, q0, q1, lP, lW⟩ := hC5.ub
            go_upto_if 173 with fail
            go_cut [31] from 173 to 177 (fun v31 wx => v31 = .bool (usV key lv bk st lo hi) ∧ Cx w w3.heap.size w7.heap.size key lv bk lo hi (.slice sa st.length scap) st wx)
            case first =>
              by_cases h0 : useF key lv st lo hi = 0
              · have heq : (useF key lv st lo hi == 0) = true := by simpa using h0
                obtain ⟨hl0, b1, b2, b3⟩ := useF_zero h0
                have hasc := (stF_asc (livF_zero hl0).2).1
                have hlv6 := catF_zero (livF_zero hl0).1
                have HV1 : Hid (usV key lv bk st lo hi = usB lv bk st lo hi) := Lib.hid (by unfold usV; rw [if_pos h0])
                have HE := Lib.hid (UsableIn_any key lv bk lo hi st _ wc hlv6 hst5 hasc b1 b2 b3 hC5.rl)
                unfold partV at HE
                clear h0 hl0 hasc
                go_wp2_with fail
                refine HE.out.mono ?_
                rintro e wJ ⟨rfl, hbJ⟩
                have hC6 := hC5.below hbJ
                go_wp2_with fail
                go_meet
                case rel => exact ⟨by rw [HV1.out], hC6⟩
              · have heq : (useF key lv st lo hi == 0) = false := by simpa using h0
                have HV1 : usV key lv bk st lo hi = false := by unfold usV; rw [if_neg h0]
                clear h0
                go_wp2_with fail
                go_meet
                case rel => exact ⟨by rw [HV1], hC5⟩
            case rest =>
              obtain ⟨rfl, hC7⟩ := hcut
              clear p0 p1 p2 p3 q0 q1 lP lW hC5
              obtain ⟨p0, p1, p2, p3, q0, q1, lP, lW⟩ := hC7.ub
              go_upto_if 179 with fail
              go_cut [32, 33] from 179 to 185 (fun v32 v33 wx => v32 = .int .i64 (exP key lv bk st).1 ∧ v33 = .bool (exP key lv bk st).2 ∧ Cx w w3.heap.size w7.heap.size key lv bk lo hi (.slice sa st.length scap) st wx)
              case first =>
                by_cases h0 : livF key lv st = 0
                · have heq : (livF key lv st == 0) = true := by simpa using h0
                  have hasc := (stF_asc (livF_zero h0).2).1
                  have hlv6 := catF_zero (livF_zero h0).1
                  have HV1 : Hid (exP key lv bk st = exR lv bk st) := Lib.hid (by unfold exP; rw [if_pos h0, exR_exO hasc])
                  have HE := Lib.hid (ExpiresOf_any key lv bk st _ wc hlv6 hst5 hasc hC7.rl)
                  unfold partV at HE
                  clear h0 hasc
                  go_wp2_with fail
                  refine HE.out.mono ?_
                  rintro e wJ ⟨rfl, hbJ⟩
                  have hC8 := hC7.below hbJ
                  go_wp2_with fail
                  go_meet
                  case rel => exact ⟨by rw [HV1.out], by rw [HV1.out], hC8⟩
                · have heq : (livF key lv st == 0) = false := by simpa using h0
                  have HV1 : exP key lv bk st = (0, false) := by unfold exP; rw [if_neg h0]
                  clear h0
                  go_wp2_with fail
                  go_meet
                  case rel => exact ⟨by rw [HV1], by rw [HV1], hC7⟩
              case rest =>
                obtain ⟨rfl, rfl, hC9⟩ := hcut
                have hbF := hC9.hb
                clear p0 p1 p2 p3 q0 q1 lP lW hC7 hC9
                generalize momF key lv st t = f1
                generalize exV key lv bk st t = x1
                generalize (leV key lv bk st t).1 = y1
                generalize (leV key lv bk st t).2 = y2
                generalize usV key lv bk st lo hi = u1
                generalize useF key lv st lo hi = f2
                generalize (exP key lv bk st).1 = t1
                generalize (exP key lv bk st).2 = t2
                generalize livF key lv st = f0
                go_wp2_with (go_at_call 25; refine (aged_any _).mono ?_; rintro e w' ⟨rfl, rfl⟩)
                go_ret
                exact ⟨rfl, hbF⟩
end Go.Proofs.YtpfichbhhpnioaaDoor
