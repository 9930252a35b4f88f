/- The walk of the law ExposureGrowsOnTheFloorAlone: whatever the input: true. -/
import Derived.Test.YtpfichbhhpnioaaGreatDoorLLaw
import Derived.Test.YtpfichbhhpnioaaGreatDoorLGrow
import Derived.Test.YtpfichbhhpnioaaGreatDoorLExpired
import Derived.Test.YtpfichbhhpnioaaGreatDoorReady2
namespace Go.Proofs.YtpfichbhhpnioaaGreatDoor
open Go.RowKit Go.Sort

/-- what stands behind the making of a part and stays. -/
structure Cs (W0 : World) (s P : Nat) (c : Int) (key : ByteArray) (lv bk : Int) (v : Value) (l : List Sty) (w : World) : Prop where
  hP : PartAt w P key lv bk
  hO : OwnR TY w (s + 1) v l
  hs : Str w s c
  hb : Below W0.heap.size W0 w
  hsP : s < P
  h0 : W0.heap.size ≤ s
theorem Cs.below {W0 : World} {s P : Nat} {c : Int} {key : ByteArray} {lv bk : Int} {v : Value} {l : List Sty} {w w' : World} (h : Cs W0 s P c key lv bk v l w) (hb : Below w.heap.size w w') : Cs W0 s P c key lv bk v l w' :=
  ⟨blk_below h.hP hb, h.hO.below hb, h.hs.below hb, Bl.trans h.hb hb, h.hsP, h.h0⟩
theorem Cs.grown {W0 : World} {s P : Nat} {c d : Int} {key : ByteArray} {lv bk : Int} {v : Value} {l : List Sty} {w w' : World} (h : Cs W0 s P c key lv bk v l w) (hg : w.grownBy w' (some s)) (hs : Str w' s d) : Cs W0 s P d key lv bk v l w' :=
  ⟨Gr.blk hg h.hP (by have := h.hsP; omega), h.hO.grown hg (Nat.lt_succ_self _), hs, Below.trans h.hb (Gr.below hg h.h0 h.hb.size), h.hsP, h.h0⟩
theorem Cs.cells {W0 : World} {s P : Nat} {c : Int} {key : ByteArray} {lv bk : Int} {v : Value} {l : List Sty} {w : World} (h : Cs W0 s P c key lv bk v l w) :
    w.cell? ⟨P, 0, none⟩ = some (.string key) ∧ w.cell? ⟨P, 1, none⟩ = some (.string ⟨#[113]⟩) ∧ w.cell? ⟨P, 2, none⟩ = some (.int .i64 lv) ∧ w.cell? ⟨P, 3, none⟩ = some (.int .i64 bk) ∧ P < w.heap.size :=
  ⟨blk_cell h.hP 0, blk_cell h.hP 1, blk_cell h.hP 2, blk_cell h.hP 3, blk_lt h.hP⟩
theorem placeF_snoc {t : Int} : ∀ (l : List Sty) (p : Int) (x : Sty), placeF t p (l ++ [x]) = if x.2 ≤ t then x.1 else placeF t p l
  | [], p, x => by simp only [List.nil_append, placeF]
  | y :: l, p, x => by
    rw [List.cons_append]
    simp only [placeF]
    exact placeF_snoc l _ x
theorem placeF_take {t p : Int} {l : List Sty} {k : Nat} {x : Sty} (h : l[k]? = some x) : placeF t p (l.take (k + 1)) = if x.2 ≤ t then x.1 else placeF t p (l.take k) := by
  rw [show l.take (k + 1) = l.take k ++ [x] by rw [List.take_add_one, h]; rfl]
  exact placeF_snoc _ _ _

set_option maxHeartbeats 8000000 in
set_option maxRecDepth 100000 in
theorem ExposureGrowsOnTheFloorAlone_any (l : List Int) (v : Value) (w : World) (rl : Ints w 0 v l) (hl : ∀ x ∈ l, -9223372036854775808 ≤ x ∧ x ≤ 9223372036854775807) :
    Calls Tryz.prog 3 #[v] w fun e w' => e = .returned (.bool true) ∧ Below w.heap.size w w' := by
  obtain ⟨va, cap, rfl, hc1, hc2⟩ := Ints.form rl
  have hs0 := Str.start rl hl
  have hb0 := Bl.alloc (Below.refl w.heap.size w) (.cells #[.slice va l.length cap, .int .i64 0] 25)
  clear rl hl
  go_enter Tryz.func3, Tryz.ntmps3
  go_wp2_with fail
  generalize w.alloc (.cells #[.slice va l.length cap, .int .i64 0] 25) = w0 at *
  refine (OnePart_any _ 0 w0 hs0 (by omega)).mono ?_
  rintro e w1 ⟨key, lv, bk, he, hk, hlv, hbk, hs1, hg1⟩
  simp only [partV] at he
  subst he
  have hksz : key.size ≤ 1000 := by rcases hk with rfl | rfl <;> decide
  have hbk7 : 0 ≤ bk ∧ bk ≤ 720000000 := by omega
  have hb1 := Below.trans hb0 (Gr.below hg1 (Nat.le_refl _) hb0.size)
  have l1 := hs1.lt
  clear hg1 hs0 hk
  go_wp2_with fail
  refine (Stays_any _ _ w1 hs1 (by omega)).mono ?_
  rintro e w2 ⟨vs, st, rfl, hO2, hst, hB, hs2, hg2⟩
  obtain ⟨sa, scap, rfl, _, _⟩ := OwnR.form hO2
  have HB := Lib.hid hB
  have hst5 : st.length ≤ 500 := by omega
  have hb2 := Below.trans hb1 (Gr.below hg2 (Nat.le_refl _) hb1.size)
  have hO2 := hO2.base (show w.heap.size + 1 ≤ w1.heap.size by omega)
  have z2 := hg2.size
  have hC : Cs w w.heap.size w2.heap.size _ key lv bk _ st _ := ⟨blk_new w2 (.cells #[.string key, .string ⟨#[113]⟩, .int .i64 lv, .int .i64 bk] 27), hO2.alloc (.cells #[.string key, .string ⟨#[113]⟩, .int .i64 lv, .int .i64 bk] 27), hs2.alloc (.cells #[.string key, .string ⟨#[113]⟩, .int .i64 lv, .int .i64 bk] 27), Bl.alloc hb2 (.cells #[.string key, .string ⟨#[113]⟩, .int .i64 lv, .int .i64 bk] 27), by omega, Nat.le_refl _⟩
  clear hg2 hs1 hB hO2 hs2 hb1 hb2 hb0
  go_wp2_with fail
  refine (LivedFault_any key lv bk st _ _ hksz hbk7 hst5 hC.hO.rec0).mono ?_
  rintro e wA ⟨rfl, hbA⟩
  have hC := hC.below hbA
  clear hbA
  by_cases hlf : livF key lv st = 0
  · have heq : (livF key lv st != 0) = false := by simpa using hlf
    have hasc := (stF_asc (livF_zero hlf).2).1
    have HASC := Lib.hid hasc
    go_wp2_with fail
    refine (ATime_any _ _ st _ _ hC.hs (by omega) hC.hO.rec hst HB.out).mono ?_
    rintro e wB ⟨t, rfl, ht, hsB, hgB⟩
    have hC := hC.grown hgB hsB
    clear hsB hgB heq
    go_wp2_with fail
    refine (Moment_any t _).mono ?_
    rintro e w' ⟨rfl, rfl⟩
    by_cases hm : inB 0 t 345686399999 = true
    · have hm' := inB_iff.1 hm
      rw [hm]
      go_wp2_with fail
      refine (Moment_any _ _).mono ?_
      rintro e w' ⟨rfl, rfl⟩
      have hw1 : IntKind.i64.wrap (t + 1) = t + 1 := IntWalk.i64_in _ (by omega)
      (try rw [hw1])
      by_cases hm1 : inB 0 (t + 1) 345686399999 = true
      · have hm1' := inB_iff.1 hm1
        rw [hm1]
        have HF : Hid (momF key lv st t = 0) := Lib.hid (by unfold momF; rw [if_pos hlf, if_pos hm])
        have HF1 : Hid (momF key lv st (t + 1) = 0) := Lib.hid (by unfold momF; rw [if_pos hlf, if_pos hm1])
        have HX : Hid (exV key lv bk st t = expo lv bk st t) := Lib.hid (by unfold exV; rw [if_pos HF.out])
        have HX1 : Hid (exV key lv bk st (t + 1) = expo lv bk st (t + 1)) := Lib.hid (by unfold exV; rw [if_pos HF1.out])
        have hgr : expo lv bk st (t + 1) ≤ expo lv bk st t + 1 ∧ (expo lv bk st (t + 1) ≤ expo lv bk st t ∨ placeF t 0 st = 2) := grows lv bk t st 0 0 hasc (Int.le_refl _)
        have hbd := (expo_bd (lv := lv) (bk := bk) hasc (t := t) hm'.1)
        have hbd1 := (expo_bd (lv := lv) (bk := bk) hasc (t := t + 1) hm1'.1)
        clear hm hm1 hlf hasc
        obtain ⟨p0, p1, p2, p3, lP⟩ := hC.cells
        go_wp2_with fail
        refine (Exposed_any key lv bk t st _ _ hksz hbk7 hst5 hC.hO.rec0).mono ?_
        rintro e wE ⟨rfl, hbE⟩
        rw [HX.out, HF.out]
        have hC := hC.below hbE
        clear p0 p1 p2 p3 lP hbE
        obtain ⟨p0, p1, p2, p3, lP⟩ := hC.cells
        go_wp2_with fail
        (try rw [hw1])
        refine (Exposed_any key lv bk (t + 1) st _ _ hksz hbk7 hst5 hC.hO.rec0).mono ?_
        rintro e wF ⟨rfl, hbF⟩
        rw [HX1.out, HF1.out]
        have hC := hC.below hbF
        clear p0 p1 p2 p3 lP hbF
        clear HX HX1 HF HF1
        generalize hpl : placeF t 0 st = pl at *
        have HPL := Lib.hid hpl
        clear hpl
        generalize expo lv bk st t = a at *
        generalize expo lv bk st (t + 1) = b at *
        have hw2 : IntKind.i64.wrap (a + 1) = a + 1 := IntWalk.i64_in _ (by omega)
        have hbF := hC.hb
        have hR := hC.hO.rec0
        have hgr0 : ¬ a < 0 := by omega
        have hgr1 : ¬ a + 1 < b := by omega
        clear hbd hbd1 HASC HB hst hlv hbk hbk7 hst5 hksz hm' hm1' ht
        go_wp2_with fail
        go_loopw [11, 72] (fun p i wr => ∃ k : Nat, k ≤ st.length ∧ i = .int .i64 k ∧ p = .int .i64 (placeF t 0 (st.take k)) ∧ Below wF.heap.size wF wr) (fun _ i _ => st.length - (intOf i).toNat)
        case atStart => exact ⟨0, Nat.zero_le _, rfl, rfl, Below.refl _ _⟩
        case round =>
          obtain ⟨k, hk, rfl, rfl, hbr⟩ := hrel
          by_cases hlt : k < st.length
          · obtain ⟨⟨x1, x2⟩, hx⟩ : ∃ x, st[k]? = some x := ⟨_, List.getElem?_eq_getElem hlt⟩
            obtain ⟨b', o', rfl, _, hlb, hc⟩ := (hR.below hbr).at TY.ok.len hx TY.ok.pos
            have c0 : wr.cell? ⟨b', o' + k * 2, none⟩ = some (.int .i64 x1) := hc 0 _ rfl
            have c1 : wr.cell? ⟨b', o' + k * 2 + 1, none⟩ = some (.int .i64 x2) := hc 1 _ rfl
            have hP := placeF_take (t := t) (p := 0) hx
            have hbr' := Bl.alloc hbr (.cells #[.int .i64 x1, .int .i64 x2] 39)
            simp only at hP
            have hw1 : IntKind.i64.wrap ((k : Int) + 1) = ((k + 1 : Nat) : Int) := by rw [IntWalk.i64_in _ (by omega)]; omega
            clear hc hx
            by_cases hle : x2 ≤ t
            · rw [if_pos hle] at hP
              go_wp2_with fail
              go_roundw
              case rel => exact ⟨k + 1, by omega, by go_num, by rw [hP], hbr'⟩
              case measure => simp [intOf]; omega
            · rw [if_neg hle] at hP
              go_wp2_with fail
              go_roundw
              case rel => exact ⟨k + 1, by omega, by go_num, by rw [hP], hbr'⟩
              case measure => simp [intOf]; omega
          · obtain rfl : k = st.length := by omega
            rw [List.take_length, HPL.out]
            have hbW := Bl.trans hbF hbr
            by_cases hle : b ≤ a
            · go_wp2_with fail
              refine (ready_any _).mono ?_
              rintro e wD ⟨rfl, hbD⟩
              go_wp2
              go_ret
              exact ⟨rfl, Bl.trans hbW hbD⟩
            · have hpl2 : pl = 2 := by omega
              subst hpl2
              go_wp2_with fail
              refine (ready_any _).mono ?_
              rintro e wD ⟨rfl, hbD⟩
              go_wp2
              go_ret
              exact ⟨rfl, Bl.trans hbW hbD⟩
      · simp only [Bool.not_eq_true] at hm1
        rw [hm1]
        have hbF := hC.hb
        go_wp2_with fail
        refine (ready_any _).mono ?_
        rintro e wD ⟨rfl, hbD⟩
        go_wp2
        go_ret
        exact ⟨rfl, Bl.trans hbF hbD⟩
    · simp only [Bool.not_eq_true] at hm
      rw [hm]
      have hbF := hC.hb
      go_wp2_with fail
      refine (ready_any _).mono ?_
      rintro e wD ⟨rfl, hbD⟩
      go_wp2
      go_ret
      exact ⟨rfl, Bl.trans hbF hbD⟩
  · have heq : (livF key lv st != 0) = true := by simpa using hlf
    have hbF := hC.hb
    go_wp2_with fail
    refine (ready_any _).mono ?_
    rintro e wD ⟨rfl, hbD⟩
    go_wp2
    go_ret
    exact ⟨rfl, Bl.trans hbF hbD⟩
end Go.Proofs.YtpfichbhhpnioaaGreatDoor
