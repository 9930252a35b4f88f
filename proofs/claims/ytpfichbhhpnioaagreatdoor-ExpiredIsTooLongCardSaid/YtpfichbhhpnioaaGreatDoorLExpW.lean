/- The walk of the law ExpiredIsTooLong: whatever the input: true. -/
import Derived.Test.YtpfichbhhpnioaaGreatDoorLGrowW
namespace Go.Proofs.YtpfichbhhpnioaaGreatDoor
open Go.RowKit Go.Sort

theorem lifeV_nonneg (lv : Int) : 0 ≤ lifeV lv := (lifeV_bd lv).1
/-- within life at each moment up to one. -/
theorem usB_within {lv bk : Int} {l : List Sty} {hi : Int} (h0 : 0 ≤ hi) (h : ∀ u, 0 ≤ u → u ≤ hi → expo lv bk l u ≤ lifeV lv) : usB lv bk l 0 hi = true := by
  unfold usB
  by_cases h1 : lv = 1
  · simp [h1]
  · simp only [h1, decide_false, Bool.false_or, List.all_cons, Bool.and_eq_true, decide_eq_true_eq, List.all_eq_true]
    refine ⟨h 0 (Int.le_refl _) h0, h hi h0 (Int.le_refl _), fun x hx => ?_⟩
    have hx2 := (List.mem_filter.1 hx).2
    rw [inB_iff] at hx2
    exact h x hx2.1 hx2.2
theorem usB_over {lv bk t : Int} {l : List Sty} (h1 : lv ≠ 1) (h : lifeV lv < expo lv bk l t) : usB lv bk l t t = false := by
  unfold usB
  have h2 : decide (expo lv bk l t ≤ lifeV lv) = false := decide_eq_false (by omega)
  simp [h1, h2]
theorem useF_ok {key : ByteArray} {lv : Int} {l : List Sty} {lo hi : Int} (h : livF key lv l = 0) (h0 : 0 ≤ lo) (h1 : lo ≤ hi) (h2 : hi ≤ 345686399999) : useF key lv l lo hi = 0 := by
  unfold useF
  rw [if_pos h, if_pos ⟨inB_iff.2 ⟨h0, h1⟩, inB_iff.2 ⟨by omega, h2⟩⟩]

set_option maxHeartbeats 8000000 in
set_option maxRecDepth 100000 in
theorem ExpiredIsTooLong_any (l : List Int) (v : Value) (w : World) (rl : Ints w 0 v l) (hl : ∀ x ∈ l, -9223372036854775808 ≤ x ∧ x ≤ 9223372036854775807) :
    Calls Tryz.prog 4 #[v] w fun e w' => e = .returned (.bool true) ∧ Below w.heap.size w w' := by
  obtain ⟨va, cap, rfl, hc1, hc2⟩ := Ints.form rl
  have hs0 := Str.start rl hl
  have hb0 := Bl.alloc (Below.refl w.heap.size w) (.cells #[.slice va l.length cap, .int .i64 0] 25)
  clear rl hl
  go_enter Tryz.func4, Tryz.ntmps4
  go_wp2_with fail
  generalize w.alloc (.cells #[.slice va l.length cap, .int .i64 0] 25) = w0 at *
  refine (OnePart_any _ 0 w0 hs0 (by omega)).mono ?_
  rintro e w1 ⟨key, lv, bk, he, hk, hlv, hbk, hs1, hg1⟩
  simp only [partV] at he
  subst he
  have hksz : key.size ≤ 1000 := by rcases hk with rfl | rfl <;> decide
  have hbk7 : 0 ≤ bk ∧ bk ≤ 720000000 := by omega
  have hb1 := Below.trans hb0 (Gr.below hg1 (Nat.le_refl _) hb0.size)
  have l1 := hs1.lt
  clear hg1 hs0 hk
  go_wp2_with fail
  refine (Stays_any _ _ w1 hs1 (by omega)).mono ?_
  rintro e w2 ⟨vs, st, rfl, hO2, hst, hB, hs2, hg2⟩
  obtain ⟨sa, scap, rfl, _, _⟩ := OwnR.form hO2
  have hst5 : st.length ≤ 500 := by omega
  have hb2 := Below.trans hb1 (Gr.below hg2 (Nat.le_refl _) hb1.size)
  have hO2 := hO2.base (show w.heap.size + 1 ≤ w1.heap.size by omega)
  have z2 := hg2.size
  have hC : Cs w w.heap.size w2.heap.size _ key lv bk _ st _ := ⟨blk_new w2 (.cells #[.string key, .string ⟨#[113]⟩, .int .i64 lv, .int .i64 bk] 27), hO2.alloc (.cells #[.string key, .string ⟨#[113]⟩, .int .i64 lv, .int .i64 bk] 27), hs2.alloc (.cells #[.string key, .string ⟨#[113]⟩, .int .i64 lv, .int .i64 bk] 27), Bl.alloc hb2 (.cells #[.string key, .string ⟨#[113]⟩, .int .i64 lv, .int .i64 bk] 27), by omega, Nat.le_refl _⟩
  clear hg2 hs1 hB hO2 hs2 hb1 hb2 hb0
  go_wp2_with fail
  refine (LivedFault_any key lv bk st _ _ hksz hbk7 hst5 hC.hO.rec0).mono ?_
  rintro e wA ⟨rfl, hbA⟩
  have hC := hC.below hbA
  clear hbA
  by_cases hlf : livF key lv st = 0
  · have heq : (livF key lv st != 0) = false := by simpa using hlf
    have hasc := (stF_asc (livF_zero hlf).2).1
    have hlv6 := catF_zero (livF_zero hlf).1
    have HLF := Lib.hid hlf
    obtain ⟨p0, p1, p2, p3, lP⟩ := hC.cells
    go_wp2_with fail
    refine (Expires_any key lv bk st _ _ hksz hbk7 hst5 hC.hO.rec0).mono ?_
    rintro e wB ⟨rfl, hbB⟩
    have hC := hC.below hbB
    rw [HLF.out]
    clear p0 p1 p2 p3 lP hbB heq hlf
    have hln := lifeV_nonneg lv
    have HXP : Hid (exP key lv bk st = exO lv bk st) := Lib.hid (by unfold exP; rw [if_pos HLF.out])
    rw [HXP.out]
    cases hex : (exO lv bk st).2
    · -- they never expire
      have HU : Hid (usV key lv bk st 0 345686399999 = true ∧ useF key lv st 0 345686399999 = 0) := Lib.hid (by
        have hf := useF_ok (key := key) (lv := lv) (l := st) (lo := 0) (hi := 345686399999) HLF.out (by omega) (by omega) (by omega)
        refine ⟨?_, hf⟩
        unfold usV
        rw [if_pos hf]
        by_cases h1 : lv = 1
        · exact usB_one h1
        · unfold exO at hex
          rw [if_neg h1] at hex
          cases hxi : expiP (lifeV lv) (expo lv bk st) st with
          | none => exact usB_within (by omega) fun u h0 h2 => expires_none hln hasc hxi u h0 (by rw [lvN_val]; omega)
          | some t => rw [hxi] at hex; cases hex)
      clear hex HXP hasc
      obtain ⟨p0, p1, p2, p3, lP⟩ := hC.cells
      go_wp2_with fail
      refine (Usable_any key lv bk 0 345686399999 st _ _ hksz hbk7 hst5 hC.hO.rec0).mono ?_
      rintro e wC ⟨rfl, hbC⟩
      rw [HU.out.1, HU.out.2]
      have hC := hC.below hbC
      have hbF := hC.hb
      clear p0 p1 p2 p3 lP hbC
      go_wp2_with fail
      refine (ready_any _).mono ?_
      rintro e wD ⟨rfl, hbD⟩
      go_wp2
      go_ret
      exact ⟨rfl, Bl.trans hbF hbD⟩
    · -- they expire at a moment
      have hl1 : lv ≠ 1 := fun h1 => by unfold exO at hex; rw [if_pos h1] at hex; cases hex
      obtain ⟨t, hxi⟩ : ∃ t, expiP (lifeV lv) (expo lv bk st) st = some t := by
        unfold exO at hex
        rw [if_neg hl1] at hex
        cases hxi : expiP (lifeV lv) (expo lv bk st) st with
        | none => rw [hxi] at hex; cases hex
        | some t => exact ⟨t, rfl⟩
      have hT : (exO lv bk st).1 = t := by unfold exO; rw [if_neg hl1, hxi]; rfl
      rw [hT]
      obtain ⟨t1, t2, t3, t4⟩ := expires_some hln hasc hxi
      rw [lvN_val] at t2
      have hu1 := useF_ok (key := key) (lv := lv) (l := st) (lo := 0) (hi := t - 1) HLF.out (by omega) (by omega) (by omega)
      have hu2 := useF_ok (key := key) (lv := lv) (l := st) (lo := t) (hi := t) HLF.out (by omega) (by omega) (by omega)
      have HU1 : Hid (usV key lv bk st 0 (t - 1) = true ∧ useF key lv st 0 (t - 1) = 0) := Lib.hid ⟨by
        unfold usV
        rw [if_pos hu1]
        exact usB_within (by omega) fun u h0 h2 => t4 u h0 (by omega), hu1⟩
      have HU2 : Hid (usV key lv bk st t t = false ∧ useF key lv st t t = 0) := Lib.hid ⟨by
        unfold usV
        rw [if_pos hu2]
        exact usB_over hl1 t3, hu2⟩
      have hm0 : momF key lv st t = 0 := by unfold momF; rw [if_pos HLF.out, if_pos (inB_iff.2 ⟨by omega, by omega⟩)]
      have HL : Hid (leV key lv bk st t = (0, true) ∧ momF key lv st t = 0) := Lib.hid ⟨by
        unfold leV leO
        rw [if_pos hm0, if_neg hl1, show max 0 (lifeV lv - expo lv bk st t) = 0 by omega], hm0⟩
      have hlt1 : ¬ t < 1 := by omega
      have hw1 : IntKind.i64.wrap (t - 1) = t - 1 := IntWalk.i64_in _ (by omega)
      clear hex HXP hasc hxi hT hu1 hu2 hm0 t3 t4
      obtain ⟨p0, p1, p2, p3, lP⟩ := hC.cells
      go_wp2_with fail
      (try rw [hw1])
      refine (Usable_any key lv bk 0 (t - 1) st _ _ hksz hbk7 hst5 hC.hO.rec0).mono ?_
      rintro e wC ⟨rfl, hbC⟩
      rw [HU1.out.1, HU1.out.2]
      have hC := hC.below hbC
      clear p0 p1 p2 p3 lP hbC
      obtain ⟨p0, p1, p2, p3, lP⟩ := hC.cells
      go_wp2_with fail
      refine (Usable_any key lv bk t t st _ _ hksz hbk7 hst5 hC.hO.rec0).mono ?_
      rintro e wD ⟨rfl, hbD⟩
      rw [HU2.out.1, HU2.out.2]
      have hC := hC.below hbD
      clear p0 p1 p2 p3 lP hbD
      obtain ⟨p0, p1, p2, p3, lP⟩ := hC.cells
      go_wp2_with fail
      refine (Left_any key lv bk t st _ _ hksz hbk7 hst5 hC.hO.rec0).mono ?_
      rintro e wE ⟨rfl, hbE⟩
      rw [HL.out.1, HL.out.2]
      have hC := hC.below hbE
      have hbF := hC.hb
      clear p0 p1 p2 p3 lP hbE
      go_wp2_with fail
      refine (ready_any _).mono ?_
      rintro e wF ⟨rfl, hbG⟩
      go_wp2
      go_ret
      exact ⟨rfl, Bl.trans hbF hbG⟩
  · have heq : (livF key lv st != 0) = true := by simpa using hlf
    have hbF := hC.hb
    go_wp2_with fail
    refine (ready_any _).mono ?_
    rintro e wD ⟨rfl, hbD⟩
    go_wp2
    go_ret
    exact ⟨rfl, Bl.trans hbF hbD⟩
end Go.Proofs.YtpfichbhhpnioaaGreatDoor
