/- The contract of NozzleList. Conditions: at most 100 kinds; numbers left in the stream. -/
import Derived.Test.YtbkglhakhahfpaaGreatDoorHd2
namespace Go.Proofs.YtbkglhakhahfpaaGreatDoor
open Go.RowKit Go.Sort

set_option maxHeartbeats 4000000 in
set_option maxRecDepth 100000 in
theorem NozzleList_any (s m : Nat) (c : Int) (w : World) (h : Str w s c) (hm : m ≤ 100) (hc : c ≤ 900000) :
    Calls Tryz.prog 28 #[.pointer (some ⟨s, 0, none⟩), .int .i64 m] w fun e w' => ∃ v l, e = .returned v ∧ OwnR TS w' w.heap.size v l ∧ l.length ≤ m ∧ (∀ x ∈ l, x.size ≤ 1000) ∧ Str w' s (c + m + 10) ∧ w.grownBy w' (some s) := by
  have hs := h.lt
  go_enter Tryz.func28, Tryz.ntmps28
  go_wp2_with fail
  refine (Range_any s c 0 m _ h (by omega) (by omega) (by omega) (by omega) (by omega)).mono ?_
  rintro e w1 ⟨n, rfl, ⟨hn0, hn1, _⟩, hS1, hG1⟩
  have hn2 := hn1 (by omega)
  clear hn1
  obtain ⟨n, rfl⟩ := Int.eq_ofNat_of_zero_le (show 0 ≤ n by omega)
  go_wp2_with fail
  go_loopw [5, 9] (fun v i wr => ∃ (k : Nat) (l : List Nm), k ≤ n ∧ i = .int .i64 k ∧ OwnR TS wr w.heap.size v l ∧ Hid (l.length = k ∧ ∀ x ∈ l, x.size ≤ 1000) ∧ Str wr s (c + 1 + k) ∧ w.grownBy wr (some s)) (fun _ i _ => n - (intOf i).toNat)
  case atStart => exact ⟨0, [], Nat.zero_le _, rfl, OwnR.nil _ _, Lib.hid ⟨rfl, by simp⟩, hS1.mono (by omega), hG1⟩
  case round =>
    obtain ⟨k, l, hk, rfl, hO, hP, hS, hG⟩ := hrel
    by_cases hlt : k < n
    · go_wp2_with fail
      refine (Some_any s _ [⟨#[97]⟩, ⟨#[98]⟩, ⟨#[99]⟩, ⟨#[100]⟩] _ _ (hS.alloc _) (by omega) (RecR.of_blk (blk_new _ _) rfl rfl (by simp) (by omega) hS.lt) (by simp) (by simp)).mono ?_
      rintro e w2 ⟨x, rfl, hx, hS2, hG2⟩
      have hx1 : x.size ≤ 1000 := by
        simp only [List.mem_cons, List.not_mem_nil, or_false] at hx
        rcases hx with rfl | rfl | rfl | rfl <;> decide
      have HX := Lib.hid hx1
      have hO2 := (hO.alloc _).grown hG2 hs
      have hG2' := Gr.trans (Gr.alloc hG _) hG2
      have hz := hG2'.size
      have hw1 : IntKind.i64.wrap ((k : Int) + 1) = ((k + 1 : Nat) : Int) := by rw [IntWalk.i64_in _ (by omega)]; omega
      clear hG2 hG hS hO hx hx1
      go_wp2_with (at_builtin; refine wp_app_rec TS.ok rfl _ _ rfl w.heap.size _ l rfl (hO2.alloc _) w2.heap.size 1 x rfl (blk_new w2 _) rfl (by have := hP.out.1; omega) (by simp; omega) ?_)
      intro v' w3 hO3 hA3 hb3
      go_wp2
      go_roundw
      case rel => exact ⟨k + 1, l ++ [x], by omega, by go_num, hO3, Lib.hid ⟨by rw [List.length_append, hP.out.1]; rfl, fun y hy => by
        rcases List.mem_append.1 hy with hy | hy
        · exact hP.out.2 y hy
        · simp at hy; subst hy; exact HX.out⟩, ((hS2.alloc _).belowB hb3 hs).mono (by omega), Gr.appR (Gr.alloc hG2' _) (hO2.alloc _) hA3 (Nat.le_refl _)⟩
      case measure => simp [intOf]; omega
    · obtain rfl : k = n := by omega
      obtain ⟨va, vcap, rfl, hv1, hv2⟩ := hO.form
      by_cases hl0 : l.length = 0
      · go_wp2_with fail
        go_ret
        exact ⟨_, l, rfl, hO, by have := hP.out.1; omega, hP.out.2, hS.mono (by omega), hG⟩
      · have hl1 : 0 < l.length := by omega
        go_wp2_with fail
        refine (Flip_any s _ 20 _ hS (by omega) (by omega)).mono ?_
        rintro e w2 ⟨fl, rfl, hS2, hG2⟩
        have hO2 := hO.grown hG2 hs
        have hG2' := Gr.trans hG hG2
        clear hG2 hG hS hO
        cases fl
        · go_wp2
          go_ret
          exact ⟨_, l, rfl, hO2, by have := hP.out.1; omega, hP.out.2, hS2.mono (by omega), hG2'⟩
        · go_wp2_with fail
          refine (Next_any s _ l.length _ hS2 (by omega) (by have := hP.out.1; omega)).mono ?_
          rintro e w3 ⟨r, rfl, ⟨hr0, hr1, _⟩, hS3, hG3⟩
          have hr2 := hr1 (by omega)
          clear hr1
          obtain ⟨r, rfl⟩ := Int.eq_ofNat_of_zero_le hr0
          have hO3 := hO2.grown hG3 hs
          have hG3' := Gr.trans hG2' hG3
          clear hG3 hG2' hS2 hO2
          go_wp2_with fail
          refine (Some_any s _ [⟨#[]⟩, ⟨#[65]⟩] _ _ (hS3.alloc _) (by omega) (RecR.of_blk (blk_new _ _) rfl rfl (by simp) (by omega) hS3.lt) (by simp) (by simp)).mono ?_
          rintro e w4 ⟨x, rfl, hx, hS4, hG4⟩
          have hx1 : x.size ≤ 1000 := by
            simp only [List.mem_cons, List.not_mem_nil, or_false] at hx
            rcases hx with rfl | rfl <;> decide
          have HX := Lib.hid hx1
          have hO4 := (hO3.alloc _).grown hG4 hs
          have hG4' := Gr.trans (Gr.alloc hG3' _) hG4
          clear hG4 hG3' hS3 hO3 hx hx1
          obtain ⟨g, cap, cur, hvv, hg1, hg2, hcap, _, _, _⟩ := OwnR.blk hO4 (by intro e; rw [e] at hl1; simp at hl1)
          injection hvv with hva _ hvc
          subst hva hvc
          have hl2 : r < l.length := by omega
          obtain ⟨y, hy⟩ : ∃ y, l[r]? = some y := ⟨_, List.getElem?_eq_getElem hl2⟩
          obtain ⟨b', o', ebo, _, _, k1⟩ := strs_at hO4.rec hy
          injection ebo with ebo; injection ebo with eb eo _; subst eb eo
          rw [Nat.zero_add] at k1
          have f1 := OwnS.free hO4 rfl r
          clear hy hg2
          go_wp2_with fail
          go_ret
          refine ⟨_, l.set r x, rfl, ?_, by rw [List.length_set]; have := hP.out.1; omega, fun z hz => ?_, (hS4.belowB (B := w.heap.size) (Bl.set (Below.refl _ _) _ _ hg1 _) hs).mono (by omega), Gr.set hG4' _ _ (.inr hg1) _⟩
          · have := OwnS.set hO4 rfl r x
            exact this
          · rcases List.mem_or_eq_of_mem_set hz with hz | rfl
            · exact hP.out.2 z hz
            · exact HX.out
end Go.Proofs.YtbkglhakhahfpaaGreatDoor
