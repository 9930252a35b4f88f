/- Right reels and right events of the random stream. Conditions: the stream's count below 8*10^5. -/
import Derived.Test.YtcfeoapbbkfbnaaGreatDoorRf9
import Derived.Test.YtcfeoapbbkfbnaaGreatDoorRh2
namespace Go.Proofs.YtcfeoapbbkfbnaaGreatDoor
open Go.RowKit Go.Sort

set_option maxHeartbeats 4000000 in
theorem RightReels_any (s : Nat) (c : Int) (w : World) (h : Str w s c) (hc : c ≤ 800000) :
    Calls Tryz.prog 86 #[.pointer (some ⟨s, 0, none⟩)] w fun e w' => ∃ v l, e = .returned v ∧ OwnR TRe w' w.heap.size v l ∧ l.length ≤ 4 ∧ (∀ x ∈ l, RelOk x) ∧ reelsF l = 0 ∧ Str w' s (c + 40000) ∧ w.grownBy w' (some s) := by
  have ls := h.lt
  go_enter Tryz.func86, Tryz.ntmps86
  go_wp2_with fail
  go_loopw [4] (fun i wr => ∃ k : Nat, k ≤ 6 ∧ i = .int .i64 k ∧ Str wr s (c + 6000 * k) ∧ w.grownBy wr (some s)) (fun i _ => 6 - (intOf i).toNat)
  case atStart => exact ⟨0, by omega, rfl, h.mono (by omega), Gr.refl _ _⟩
  case round =>
    obtain ⟨k, hk, rfl, hS, hG⟩ := hrel
    have hz := hG.size
    by_cases hlt : k < 6
    · have hwk : IntKind.i64.wrap ((k : Int) + 1) = ((k + 1 : Nat) : Int) := by rw [IntWalk.i64_in _ (by omega)]; omega
      go_wp2_with fail
      refine (ReelList_any s _ wr hS (by omega)).mono ?_
      rintro e w2 ⟨v, l, rfl, hO, hl, hok, hS2, hG2⟩
      have HSF := Lib.hid (ReelsFault_any l v w2 (by omega) hO.rec0 (RelOk.z hok))
      obtain ⟨F, hF⟩ : ∃ F, F = reelsF l := ⟨_, rfl⟩
      rw [← hF] at HSF
      have HO := Lib.hid (And.intro (OwnR.base hO hz) (And.intro hl.1 (And.intro hok hF)))
      have hG2' := Gr.trans hG hG2
      clear hO hok hF hG2 hG hl
      by_cases h0 : F = 0
      · subst h0
        go_wp2_with fail
        refine HSF.out.mono ?_
        rintro e w3 ⟨rfl, hb3⟩
        have HF := Lib.hid (And.intro (HO.out.1.below hb3) (And.intro ((hS2.below hb3).mono (d := c + 40000) (by omega)) (Gr.trans hG2' (Gr.of_below hb3 (some s)))))
        clear hb3 hS2 hG2' hS
        go_wp2
        go_ret
        exact ⟨_, l, rfl, HF.out.1, HO.out.2.1, HO.out.2.2.1, HO.out.2.2.2.symm, HF.out.2.1, HF.out.2.2⟩
      · go_wp2_with fail
        refine HSF.out.mono ?_
        rintro e w3 ⟨rfl, hb3⟩
        have HF := Lib.hid (And.intro ((hS2.below hb3).mono (d := c + 6000 * ((k + 1 : Nat) : Int)) (by omega)) (Gr.trans hG2' (Gr.of_below hb3 (some s))))
        clear hb3 hS2 hG2' hS
        go_wp2
        go_roundw
        case rel => exact ⟨k + 1, by omega, by go_num, HF.out.1, HF.out.2⟩
        case measure => simp [intOf]; omega
    · obtain rfl : k = 6 := by omega
      have HF := Lib.hid (And.intro (hS.mono (d := c + 40000) (by omega)) hG)
      clear hS hG
      go_wp2
      go_ret
      exact ⟨_, [], rfl, OwnR.nil _ _, by simp, by simp, rfl, HF.out.1, HF.out.2⟩
set_option maxHeartbeats 4000000 in
theorem RightFeeds_any (s : Nat) (c : Int) (w : World) (h : Str w s c) (hc : c ≤ 700000) :
    Calls Tryz.prog 37 #[.pointer (some ⟨s, 0, none⟩)] w fun e w' => ∃ vr rs vl l, e = .returned (.tuple #[vr, vl]) ∧ OwnR TRe w' w.heap.size vr rs ∧ OwnR TFe w' w.heap.size vl l ∧ rs.length ≤ 4 ∧ l.length ≤ 15 ∧ (∀ x ∈ rs, RelOk x) ∧ (∀ x ∈ l, FedOk x) ∧ feedsF rs l = 0 ∧ Str w' s (c + 80000) ∧ w.grownBy w' (some s) := by
  have ls := h.lt
  go_enter Tryz.func37, Tryz.ntmps37
  go_wp2_with fail
  refine (RightReels_any s c w h (by omega)).mono ?_
  rintro e w1 ⟨vr, rs, rfl, hR1, hr4, hrk, hr0, hs1, hg1⟩
  obtain ⟨ra, rc, rfl, _, _⟩ := hR1.form
  have HRK := Lib.hid (And.intro hrk hr0)
  have HR4 := Lib.hid hr4
  clear h hrk hr0 hr4
  go_wp2_with fail
  go_loopw [8] (fun i wr => ∃ k : Nat, k ≤ 6 ∧ i = .int .i64 k ∧ Str wr s (c + 40000 + 6000 * k) ∧ w.grownBy wr (some s) ∧ Hid (OwnR TRe wr w.heap.size (.slice ra rs.length rc) rs)) (fun i _ => 6 - (intOf i).toNat)
  case atStart => exact ⟨0, by omega, rfl, hs1.mono (by omega), hg1, Lib.hid hR1⟩
  case round =>
    obtain ⟨k, hk, rfl, hS, hG, HR⟩ := hrel
    have hz := hG.size
    by_cases hlt : k < 6
    · have hwk : IntKind.i64.wrap ((k : Int) + 1) = ((k + 1 : Nat) : Int) := by rw [IntWalk.i64_in _ (by omega)]; omega
      go_wp2_with fail
      refine (FeedList_any s _ wr w.heap.size _ rs hS (by omega) HR.out ls (by have := HR4.out; omega) HRK.out.1).mono ?_
      rintro e w2 ⟨v, l, rfl, hO, hl, hok, hS2, hG2⟩
      have hR2 := HR.out.grown hG2 ls
      have HSF := Lib.hid (FeedsFault_any rs l (.slice ra rs.length rc) v w2 (by have := HR4.out; omega) (by omega) hR2.rec0 hO.rec0 (RelOk.z HRK.out.1) (FedOk.z hok))
      obtain ⟨F, hF⟩ : ∃ F, F = feedsF rs l := ⟨_, rfl⟩
      rw [← hF] at HSF
      have HO := Lib.hid (And.intro (OwnR.base hO hz) (And.intro hl (And.intro hok hF)))
      have HR2 := Lib.hid hR2
      have hG2' := Gr.trans hG hG2
      clear hO hok hF hG2 hG hl hR2
      by_cases h0 : F = 0
      · subst h0
        go_wp2_with fail
        refine HSF.out.mono ?_
        rintro e w3 ⟨rfl, hb3⟩
        have HF := Lib.hid (And.intro (HO.out.1.below hb3) (And.intro ((hS2.below hb3).mono (d := c + 80000) (by omega)) (And.intro (Gr.trans hG2' (Gr.of_below hb3 (some s))) (HR2.out.below hb3))))
        clear hb3 hS2 hG2' hS
        go_wp2
        go_ret2
        exact ⟨_, rs, _, l, rfl, HF.out.2.2.2, HF.out.1, HR4.out, HO.out.2.1, HRK.out.1, HO.out.2.2.1, HO.out.2.2.2.symm, HF.out.2.1, HF.out.2.2.1⟩
      · go_wp2_with fail
        refine HSF.out.mono ?_
        rintro e w3 ⟨rfl, hb3⟩
        have HF := Lib.hid (And.intro ((hS2.below hb3).mono (d := c + 40000 + 6000 * ((k + 1 : Nat) : Int)) (by omega)) (And.intro (Gr.trans hG2' (Gr.of_below hb3 (some s))) (HR2.out.below hb3)))
        clear hb3 hS2 hG2' hS
        go_wp2
        go_roundw
        case rel => exact ⟨k + 1, by omega, by go_num, HF.out.1, HF.out.2.1, Lib.hid HF.out.2.2⟩
        case measure => simp [intOf]; omega
    · obtain rfl : k = 6 := by omega
      have HF := Lib.hid (And.intro (hS.mono (d := c + 80000) (by omega)) (And.intro hG HR.out))
      clear hS hG
      go_wp2
      go_ret2
      exact ⟨_, rs, _, [], rfl, HF.out.2.2, OwnR.nil _ _, HR4.out, by simp, HRK.out.1, by simp, feedsF_nil HRK.out.2, HF.out.1, HF.out.2.1⟩
end Go.Proofs.YtcfeoapbbkfbnaaGreatDoor
