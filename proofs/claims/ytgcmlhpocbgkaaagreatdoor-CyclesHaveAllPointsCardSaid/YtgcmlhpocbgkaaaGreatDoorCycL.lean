/- The walk of the law CyclesDivided: whatever the input: true. -/
import Derived.Test.YtgcmlhpocbgkaaaGreatDoorCycW
import Derived.Test.YtgcmlhpocbgkaaaGreatDoorLaw
namespace Go.Proofs.YtgcmlhpocbgkaaaGreatDoor
open Go.RowKit Go.Sort

theorem scan_nonneg (P : List Pt) (T : Nat → Nat → Int) (hT : ∀ k s, 0 ≤ T k s) (a : Pt) (set k : Nat) : 0 ≤ (scanTo P T a set k).2 := by
  obtain ⟨_, g2, g3⟩ := scan_ok P T a set k
  by_cases h : 0 ≤ (scanTo P T a set k).1
  · rw [(g2 h).2]
    have := dist_nonneg a (pt P (scanTo P T a set k).1.toNat)
    have := hT (scanTo P T a set k).1.toNat (clr set (scanTo P T a set k).1.toNat)
    omega
  · rw [(g3 (by omega)).1]; exact Int.le_refl _
theorem tab_nonneg (st : Pt) (P : List Pt) : ∀ m k set, 0 ≤ tab st P m k set
  | 0, _, _ => Int.le_refl _
  | m + 1, k, set => by
    simp only [tab]
    split
    · split
      · exact dist_nonneg _ _
      · exact scan_nonneg P _ (fun k s => tab_nonneg st P m k s) _ _ _
    · exact tab_nonneg st P m k set
theorem V_nonneg (st : Pt) (P : List Pt) (a : Pt) (s : Nat) : 0 ≤ V st P a s := by
  unfold V
  split
  · exact dist_nonneg _ _
  · exact scan_nonneg P _ (fun k s => tab_nonneg st P _ k s) _ _ _
theorem nats_inj {a b : List Nat} (h : nats a = nats b) : a = b := by
  unfold nats at h
  exact (List.map_inj_right (f := fun k : Nat => (k : Int)) (fun x y e => by have e' : (x : Int) = (y : Int) := e; omega)).1 h
theorem tlv_inj (st : Pt) (P : List Pt) (hn : P.length ≤ 16) {s t : Nat} (hs : s < 2 ^ P.length) (ht : t < 2 ^ P.length) (h : tlv st P s = tlv st P t) : s = t := by
  have h2 := nats_inj h
  refine Nat.eq_of_testBit_eq fun i => ?_
  have e1 := tlist_mem (st := st) hn i P.length s st (Few.start (sub_of_lt hs)) (sub_of_lt hs)
  have e2 := tlist_mem (st := st) hn i P.length t st (Few.start (sub_of_lt ht)) (sub_of_lt ht)
  rw [h2] at e1
  rw [Bool.eq_iff_iff]
  exact e1.symm.trans e2
theorem cyc_same (st : Pt) (P : List Pt) {z : Nat} {L : Nat → Int × Int} {F : Nat → Nat} (hz1 : 1 ≤ z) (hz8 : z ≤ 8) (hn : P.length ≤ 5) (h0 : L 0 = (0, 0)) (hF : ∀ s, 0 < s → s < pw P.length → Best (tlv st P) (lgv st P) z L s 0 (L s) (F s)) :
    ((leaves z P.length 0 []).foldl (stepC st P) (-1, [])).2 = (walkF F 31 (pw P.length - 1)).map (tlv st P) ∧ max ((leaves z P.length 0 []).foldl (stepC st P) (-1, [])).1 0 = (L (pw P.length - 1)).1 := by
  have hinj : ∀ s t, s < 2 ^ P.length → t < 2 ^ P.length → tlv st P s = tlv st P t → s = t := fun s t hs ht h => tlv_inj st P (by omega) hs ht h
  have hl := cycles_law (tlv st P) (lgv st P) hz1 hz8 hn (fun s => V_nonneg st P st s) hinj h0 hF
  have hp : 2 ^ P.length ≤ 32 := pw_5 hn
  have hp0 : 0 < 2 ^ P.length := Nat.two_pow_pos _
  have hv := has_valid
  rw [List.all_eq_true] at hv
  have hex : ∀ set, 0 < set → set < 2 ^ P.length → ∃ t, valid z set t = true := by
    intro set hs0 hs
    have hv1 := hv set (List.mem_range.2 (by omega))
    rw [List.all_eq_true] at hv1
    have hv2 := hv1 (z - 1) (List.mem_range.2 (by omega))
    rw [show z - 1 + 1 = z by omega] at hv2
    simp only [Bool.or_eq_true, beq_iff_eq, List.any_eq_true] at hv2
    rcases hv2 with hv2 | ⟨t, _, ht⟩
    · omega
    · exact ⟨t, ht⟩
  obtain ⟨_, w2, _⟩ := dp_min (tlv st P) (lgv st P) hinj hex h0 hF 31 (2 ^ P.length - 1) (by omega) (by omega)
  have hnn : 0 ≤ (valD (tlv st P) (lgv st P) (walkF F 31 (2 ^ P.length - 1))).1 := by
    unfold valD
    induction (walkF F 31 (2 ^ P.length - 1)) with
    | nil => simp
    | cons x l ih =>
      simp only [List.map_cons, List.sum_cons] at ih ⊢
      have := V_nonneg st P st x
      show 0 ≤ V st P st x + _
      omega
  have hl' : (leaves z P.length 0 []).foldl (stepC st P) (-1, []) = valD (tlv st P) (lgv st P) (walkF F 31 (2 ^ P.length - 1)) := hl
  rw [hl']
  refine ⟨rfl, ?_⟩
  show max _ 0 = (L (2 ^ P.length - 1)).1
  rw [w2]
  simp only
  omega

theorem walkF_len (F : Nat → Nat) : ∀ (f s : Nat), (walkF F f s).length ≤ f
  | 0, _ => Nat.le_refl _
  | f + 1, s => by
    simp only [walkF]
    split
    · simp
    · rw [List.length_cons]; have := walkF_len F f (s - F s); omega
set_option maxHeartbeats 1000000 in
set_option maxRecDepth 100000 in
theorem Cycles_bad1 (st : Pt) (P : List Pt) (vp : Value) (z : Int) (w : World) (hn : P.length ≤ 1000) (hT8 : tourF st P 8 ≠ 0) (rp : Pts w 0 vp P) :
    Calls Tryz.prog 56 #[ptv st, vp, .int .i64 z] w fun e w' => e = .returned (.tuple #[.slice none 0 0, .int .i64 0, .int .i64 (tourF st P 8)]) ∧ Below w.heap.size w w' := by
  obtain ⟨sx, sy⟩ := st
  obtain ⟨va, cap, rfl, hc1, hc2⟩ := Pts.form rp
  unfold ptv
  have hb0 := Bl.alloc (Below.refl w.heap.size w) (.cells #[.int .i64 sx, .int .i64 sy] 57)
  go_enter Tryz.func56, Tryz.ntmps56
  go_wp2_with fail
  refine (pointsFault_any (sx, sy) P 8 _ _ hn (rp.alloc _)).mono ?_
  rintro e w1 ⟨rfl, hb1⟩
  have hb1' := Bl.trans hb0 hb1
  generalize hTe : tourF (sx, sy) P 8 = T8 at *
  have HTE := Lib.hid hTe
  have h8 : (T8 != 0) = true := by simpa using hT8
  clear hb1 hb0 hTe
  go_wp2
  go_ret3
  rw [HTE.out]
  exact ⟨rfl, hb1'⟩
set_option maxHeartbeats 1000000 in
set_option maxRecDepth 100000 in
theorem Cycles_bad2 (st : Pt) (P : List Pt) (vp : Value) (z : Int) (w : World) (hn : P.length ≤ 1000) (hT8 : tourF st P 8 = 0) (hz : inB 1 z 8 = false) (rp : Pts w 0 vp P) :
    Calls Tryz.prog 56 #[ptv st, vp, .int .i64 z] w fun e w' => e = .returned (.tuple #[.slice none 0 0, .int .i64 0, .int .i64 1]) ∧ Below w.heap.size w w' := by
  obtain ⟨sx, sy⟩ := st
  obtain ⟨va, cap, rfl, hc1, hc2⟩ := Pts.form rp
  unfold ptv
  have hb0 := Bl.alloc (Below.refl w.heap.size w) (.cells #[.int .i64 sx, .int .i64 sy] 57)
  have HT8 := Lib.hid hT8
  clear hT8
  go_enter Tryz.func56, Tryz.ntmps56
  go_wp2_with fail
  refine (pointsFault_any (sx, sy) P 8 _ _ hn (rp.alloc _)).mono ?_
  rintro e w1 ⟨rfl, hb1⟩
  have hb1' := Bl.trans hb0 hb1
  rw [HT8.out]
  clear hb1 hb0
  go_wp2_with (go_at_call 115; refine (Outside_any _ _ _ _).mono ?_; rintro e w' ⟨rfl, rfl⟩)
  go_ret3
  exact ⟨rfl, hb1'⟩

end Go.Proofs.YtgcmlhpocbgkaaaGreatDoor
