/- Stream.Changed: some string of about the same length. Conditions: strings of at most 2^40 bytes. · Stream.PointString: some short string. Conditions: what lies in the library (TxW), below the stream. -/
import Derived.Test.YtgcmlhpocbgkaaaGreatDoorStream
import Derived.Test.YtgcmlhpocbgkaaaGreatDoorDist
import Derived.BigQuiet
import Derived.Deep.QuietTactic
import Derived.Laws.Runes
import Derived.Test.YtgcmlhpocbgkaaaGreatDoorTtx
import Derived.Test.YtgcmlhpocbgkaaaGreatDoorMake2
namespace Go.Proofs.YtgcmlhpocbgkaaaGreatDoor
open Go.RowKit Go.Sort

theorem enc_le (n : Int) : (Utf8.encode n).size ≤ 4 := by
  unfold Utf8.encode
  have h : ∀ (c : Nat), (let b (n : Nat) : UInt8 := UInt8.ofNat n
    if c < 0x80 then (⟨#[b c]⟩ : ByteArray)
    else if c < 0x800 then ⟨#[b (0xC0 + c / 64), b (0x80 + c % 64)]⟩
    else if c < 0x10000 then ⟨#[b (0xE0 + c / 4096), b (0x80 + c / 64 % 64), b (0x80 + c % 64)]⟩
    else ⟨#[b (0xF0 + c / 262144), b (0x80 + c / 4096 % 64), b (0x80 + c / 64 % 64), b (0x80 + c % 64)]⟩).size ≤ 4 := by
    intro c
    simp only
    split
    · show 1 ≤ 4; omega
    · split
      · show 2 ≤ 4; omega
      · split
        · show 3 ≤ 4; omega
        · show 4 ≤ 4; omega
  exact h _
theorem sz3 {A E C : ByteArray} {n u : Nat} (h2 : E.size ≤ 4) (h3 : A.size + C.size ≤ n) : (A ++ E ++ C).size ≤ n + u + 4 := by
  rw [ByteArray.size_append, ByteArray.size_append]; omega
theorem sz2 {A C : ByteArray} {n u : Nat} (h3 : A.size + C.size ≤ n) : (A ++ C).size ≤ n + u + 4 := by
  rw [ByteArray.size_append]; omega
theorem big_no {n a b c : Nat} (h1 : a + c ≤ n) (h2 : b ≤ 4) (h3 : n ≤ 1099511627776) : (¬ 9223372036854775807 < a + b) ∧ ¬ 9223372036854775807 < a + b + c := by omega
set_option maxHeartbeats 4000000 in
set_option maxRecDepth 100000 in
theorem Changed_any (s : Nat) (c : Int) (t u : ByteArray) (w : World) (h : Str w s c) (hc : c ≤ 999990) (ht : t.size ≤ 1099511627776) (hu : 0 < u.size) (hu2 : u.size ≤ 1000) :
    Calls Tryz.prog 95 #[.pointer (some ⟨s, 0, none⟩), .string t, .string u] w fun e w' => ∃ r : ByteArray, e = .returned (.string r) ∧ r.size ≤ t.size + u.size + 4 ∧ Str w' s (c + 3) ∧ w.grownBy w' (some s) := by
  have e1 : u.toList.isEmpty = false := by
    rw [ByteArray.toList_eq]
    cases h : u.data.toList with
    | nil =>
      have : u.data.toList.length = u.size := Array.length_toList
      rw [h] at this; simp at this; omega
    | cons => rfl
  have e2 : ¬ u.toList = [] := by
    intro h; rw [h] at e1; cases e1
  by_cases h0 : t.size = 0
  · obtain rfl : t = ⟨#[]⟩ := by
      apply ByteArray.ext
      exact Array.eq_empty_of_size_eq_zero h0
    go_enter Tryz.func95, Tryz.ntmps95
    go_wp2
    go_ret
    exact ⟨_, rfl, by omega, h.mono (by omega), Gr.refl _ _⟩
  · have f1 : t.toList.isEmpty = false := by
      rw [ByteArray.toList_eq]
      cases h : t.data.toList with
      | nil =>
        have : t.data.toList.length = t.size := Array.length_toList
        rw [h] at this; simp at this; omega
      | cons => rfl
    have f2 : ¬ t.toList = [] := by
      intro h; rw [h] at f1; cases f1
    go_enter Tryz.func95, Tryz.ntmps95
    go_wp2_with fail
    refine (Next_any s c t.size w h (by omega) (by omega)).mono ?_
    rintro e w1 ⟨i, rfl, ⟨hi0, hi1, _⟩, hS1, hG1⟩
    have hi2 := hi1 (by omega)
    clear hi1
    obtain ⟨i, rfl⟩ := Int.eq_ofNat_of_zero_le hi0
    go_wp2_with fail
    refine (Next_any s (c + 1) u.size w1 hS1 (by omega) (by omega)).mono ?_
    rintro e w2 ⟨j, rfl, ⟨hj0, hj1, _⟩, hS2, hG2⟩
    have hj2 := hj1 (by omega)
    clear hj1
    obtain ⟨j, rfl⟩ := Int.eq_ofNat_of_zero_le hj0
    have hj3 : j < u.size := by omega
    have hi3 : i < t.size := by omega
    have hi4 : i ≤ t.size := by omega
    have hi5 : ((i : Nat) : Int) ≤ (t.size : Int) := by omega
    have hi6 : ((i : Nat) : Int) + 1 ≤ (t.size : Int) := by omega
    have hwr : IntKind.i64.wrap ((i : Int) + 1) = ((i + 1 : Nat) : Int) := by rw [IntWalk.i64_in _ (by omega)]; omega
    have hg12 := Gr.trans hG1 hG2
    go_wp2_with fail
    refine (Next_any s (c + 1 + 1) 3 w2 hS2 (by omega) (by omega)).mono ?_
    rintro e w3 ⟨k, rfl, ⟨hk0, hk1, _⟩, hS3, hG3⟩
    have hk2 := hk1 (by omega)
    have hg := Gr.trans hg12 hG3
    clear hk1 hG1 hG2 hG3 hg12 hS1 hS2
    have hwu : IntKind.i32.wrap ((u[j].toNat : Nat) : Int) = ((u[j].toNat : Nat) : Int) := by
      have := u[j].toNat_lt
      unfold IntKind.wrap
      simp [IntKind.bits, IntKind.signed]
      omega
    have hen := enc_le ((u[j].toNat : Nat) : Int)
    have hx1 : (t.extract 0 i).size = i := by rw [ByteArray.size_extract]; omega
    have hx2 : (t.extract i t.size).size = t.size - i := by rw [ByteArray.size_extract]; omega
    have hx3 : (t.extract (i + 1) t.size).size = t.size - (i + 1) := by rw [ByteArray.size_extract]; omega
    have hs1 : (t.extract 0 i).size + (t.extract (i + 1) t.size).size ≤ t.size := by rw [hx1, hx3]; omega
    have hs2 : (t.extract 0 i).size + (t.extract i t.size).size ≤ t.size := by rw [hx1, hx2]; omega
    have hs0 : (t.extract 0 i).size ≤ t.size := by rw [hx1]; omega
    have hq1 := sz3 (u := u.size) hen hs1
    have hq2 := sz3 (u := u.size) hen hs2
    have hq3 := sz2 (u := u.size) hs1
    have HSZ := Lib.hid (And.intro hq1 (And.intro hq2 hq3))
    obtain ⟨hz1, hz2⟩ := big_no hs1 hen ht
    obtain ⟨_, hz3⟩ := big_no hs2 hen ht
    have HG : ∀ nq, w.grownBy (w3.drewN nq) (some s) := fun nq => ⟨hg.os, hg.tape, hg.output, hg.size, hg.block⟩
    clear hs1 hs2 hs0 hq1 hq2 hq3
    rcases (show k = 0 ∨ k = 1 ∨ k = 2 by omega) with rfl | rfl | rfl
    · go_wp2
      go_quiet (fail)
      go_wp2
      go_ret
      exact ⟨_, rfl, HSZ.out.1, (hS3.mono (by omega)), HG _⟩
    · go_wp2
      go_quiet (fail)
      go_wp2
      go_ret
      exact ⟨_, rfl, HSZ.out.2.1, (hS3.mono (by omega)), HG _⟩
    · go_wp2
      go_quiet (fail)
      go_wp2
      go_ret
      exact ⟨_, rfl, HSZ.out.2.2, (hS3.mono (by omega)), HG _⟩
end Go.Proofs.YtgcmlhpocbgkaaaGreatDoor
namespace Go.Proofs.YtgcmlhpocbgkaaaGreatDoor
open Go.RowKit Go.Sort

theorem TxW.grown {w w' : World} {s : Nat} (h : TxW w) (hg : w.grownBy w' (some s)) (h1 : 1 < s) (h2 : 0 < s) (hs : s ≤ w.heap.size) : TxW w' := h.belowB (Gr.below hg (Nat.le_refl _) hs) h1 h2
set_option maxHeartbeats 4000000 in
set_option maxRecDepth 100000 in
theorem PointString_any (s : Nat) (c : Int) (w : World) (h : Str w s c) (hT : TxW w) (hg1 : 1 < s) (hg2 : 0 < s) (hc : c ≤ 800000) :
    Calls Tryz.prog 38 #[.pointer (some ⟨s, 0, none⟩)] w fun e w' => ∃ r : ByteArray, e = .returned (.string r) ∧ r.size ≤ 2000 ∧ Str w' s (c + 100) ∧ w.grownBy w' (some s) := by
  have ls := h.lt
  have HT := Lib.hid hT
  clear hT
  go_enter Tryz.func38, Tryz.ntmps38
  go_wp2_with fail
  refine (PointsOf_any s 5 c w h (by omega) (by omega)).mono ?_
  rintro e w1 ⟨v, P, rfl, hO1, hP5, hBd, hS1, hG1⟩
  obtain ⟨pa, pcap, rfl, _, _⟩ := Pts.form hO1.pts
  have rp1 : Pts w1 0 (.slice pa P.length pcap) P := hO1.pts.mono (Nat.zero_le _)
  have HF := Lib.hid (PointsFault_big P (.slice pa P.length pcap) w1 (by omega) rp1)
  have hz1 := hG1.size
  have HT1 := Lib.hid (HT.out.grown hG1 hg1 hg2 (by omega))
  obtain ⟨f, hf⟩ : ∃ f, f = ptsF P 500 := ⟨_, rfl⟩
  rw [← hf] at HF
  have HRP := Lib.hid rp1
  have HBD := Lib.hid fun p hp => (And.intro (hBd p hp) (wrP_small (hBd p hp)))
  clear hO1 rp1 hf hBd
  have HLEN : Hid (∀ r : ByteArray, r.data.toList = textL wrP P → r.size ≤ 600) := Lib.hid fun r hr => by
    have h1 := textL_len P fun q hq => (HBD.out q hq).2
    have h2 : r.data.toList.length = r.size := Array.length_toList
    rw [hr] at h2
    have h3 : P.length * 101 ≤ 505 := by omega
    omega
  by_cases h0 : f = 0
  · subst h0
    go_wp2_with fail
    refine HF.out.mono ?_
    rintro e w2 ⟨rfl, hb2⟩
    have hz2 := hb2.size
    have HPL := Lib.hid (RLinesOf_any P (.slice pa P.length pcap) w2 (HT1.out.below hb2) (by omega) (Pts.below HRP.out hb2) HBD.out)
    have hG2 := Gr.trans hG1 (Gr.of_below hb2 (some s))
    have hS2 := hS1.below hb2
    clear hb2 hG1 hS1 HF
    go_wp2_with fail
    refine HPL.out.mono ?_
    rintro e w3 ⟨r, rfl, hr, hb3⟩
    have hrs := HLEN.out r hr
    have hz3 := hb3.size
    have hG3 := Gr.trans hG2 (Gr.of_below hb3 (some s))
    have hS3 := (hS2.below hb3).alloc (.cells #[.int .i64 0, .int .i64 0, .int .i64 1, .int .i64 2] 3)
    have hG3' := Gr.alloc hG3 (.cells #[.int .i64 0, .int .i64 0, .int .i64 1, .int .i64 2] 3)
    clear hr hb3 hG2 hS2 hG3
    go_wp2_with fail
    refine (Pick_any s _ [0, 0, 1, 2] _ _ hS3 (by omega) (Ints.of_blk (blk_new _ _) rfl rfl (by simp) (by omega) (by omega)) (by simp) (by simp)).mono ?_
    rintro e w4 ⟨n, rfl, hn, hS4, hG4⟩
    obtain ⟨n, rfl, hn2⟩ : ∃ m : Nat, n = (m : Int) ∧ m ≤ 2 := by
      simp only [List.mem_cons, List.not_mem_nil, or_false] at hn
      exact ⟨n.toNat, by omega, by omega⟩
    have hG4' := Gr.trans hG3' hG4
    clear hn hG3' hG4 hS3
    go_wp2_with fail
    go_loopw [3, 15] (fun v i wr => ∃ (k : Nat) (t : ByteArray), k ≤ n ∧ i = .int .i64 k ∧ v = .string t ∧ t.size ≤ 600 + 9 * k ∧ Str wr s (c + 27 + 3 * k) ∧ w.grownBy wr (some s)) (fun _ i _ => n - (intOf i).toNat)
    case atStart => exact ⟨0, r, Nat.zero_le _, rfl, rfl, by omega, hS4.mono (by omega), hG4'⟩
    case round =>
      obtain ⟨k, t, hk, rfl, rfl, ht, hS, hG⟩ := hrel
      by_cases hlt : k < n
      · have hw1 : IntKind.i64.wrap ((k : Int) + 1) = ((k + 1 : Nat) : Int) := by rw [IntWalk.i64_in _ (by omega)]; omega
        have HC := Lib.hid (Changed_any s _ t ⟨#[32, 10, 48, 49, 45]⟩ wr hS (by omega) (by omega) (by show 0 < 5; omega) (by show 5 ≤ 1000; omega))
        go_wp2_with fail
        refine HC.out.mono ?_
        rintro e w5 ⟨r5, rfl, hr5, hS5, hG5⟩
        have hr6 : r5.size ≤ 600 + 9 * (k + 1) := by
          have : (⟨#[32, 10, 48, 49, 45]⟩ : ByteArray).size = 5 := rfl
          rw [this] at hr5
          omega
        have hG6 := Gr.trans hG hG5
        clear hr5 hG5
        go_wp2
        go_roundw
        case rel => exact ⟨k + 1, r5, by omega, by go_num, rfl, hr6, hS5.mono (by omega), hG6⟩
        case measure => simp [intOf]; omega
      · go_wp2
        go_ret
        exact ⟨_, rfl, by omega, hS.mono (by omega), hG⟩
  · go_wp2_with fail
    refine HF.out.mono ?_
    rintro e w2 ⟨rfl, hb2⟩
    have hz2 := hb2.size
    have hG3' := Gr.alloc (Gr.trans hG1 (Gr.of_below hb2 (some s))) (.cells #[.int .i64 0, .int .i64 0, .int .i64 1, .int .i64 2] 3)
    have hS3 := (hS1.below hb2).alloc (.cells #[.int .i64 0, .int .i64 0, .int .i64 1, .int .i64 2] 3)
    clear hb2 hG1 hS1 HF
    go_wp2_with fail
    refine (Pick_any s _ [0, 0, 1, 2] _ _ hS3 (by omega) (Ints.of_blk (blk_new _ _) rfl rfl (by simp) (by omega) (by omega)) (by simp) (by simp)).mono ?_
    rintro e w4 ⟨n, rfl, hn, hS4, hG4⟩
    obtain ⟨n, rfl, hn2⟩ : ∃ m : Nat, n = (m : Int) ∧ m ≤ 2 := by
      simp only [List.mem_cons, List.not_mem_nil, or_false] at hn
      exact ⟨n.toNat, by omega, by omega⟩
    have hG4' := Gr.trans hG3' hG4
    clear hn hG3' hG4 hS3
    go_wp2_with fail
    go_loopw [3, 15] (fun v i wr => ∃ (k : Nat) (t : ByteArray), k ≤ n ∧ i = .int .i64 k ∧ v = .string t ∧ t.size ≤ 600 + 9 * k ∧ Str wr s (c + 27 + 3 * k) ∧ w.grownBy wr (some s)) (fun _ i _ => n - (intOf i).toNat)
    case atStart => exact ⟨0, ⟨#[]⟩, Nat.zero_le _, rfl, rfl, by show 0 ≤ _; omega, hS4.mono (by omega), hG4'⟩
    case round =>
      obtain ⟨k, t, hk, rfl, rfl, ht, hS, hG⟩ := hrel
      by_cases hlt : k < n
      · have hw1 : IntKind.i64.wrap ((k : Int) + 1) = ((k + 1 : Nat) : Int) := by rw [IntWalk.i64_in _ (by omega)]; omega
        have HC := Lib.hid (Changed_any s _ t ⟨#[32, 10, 48, 49, 45]⟩ wr hS (by omega) (by omega) (by show 0 < 5; omega) (by show 5 ≤ 1000; omega))
        go_wp2_with fail
        refine HC.out.mono ?_
        rintro e w5 ⟨r5, rfl, hr5, hS5, hG5⟩
        have hr6 : r5.size ≤ 600 + 9 * (k + 1) := by
          have : (⟨#[32, 10, 48, 49, 45]⟩ : ByteArray).size = 5 := rfl
          rw [this] at hr5
          omega
        have hG6 := Gr.trans hG hG5
        clear hr5 hG5
        go_wp2
        go_roundw
        case rel => exact ⟨k + 1, r5, by omega, by go_num, rfl, hr6, hS5.mono (by omega), hG6⟩
        case measure => simp [intOf]; omega
      · go_wp2
        go_ret
        exact ⟨_, rfl, by omega, hS.mono (by omega), hG⟩
end Go.Proofs.YtgcmlhpocbgkaaaGreatDoor
