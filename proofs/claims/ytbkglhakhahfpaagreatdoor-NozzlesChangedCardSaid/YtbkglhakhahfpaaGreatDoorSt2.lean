/- The contract of SlotList. Conditions: at most 100 slots; numbers left in the stream. -/
import Derived.Test.YtbkglhakhahfpaaGreatDoorSt1
namespace Go.Proofs.YtbkglhakhahfpaaGreatDoor
open Go.RowKit Go.Sort

set_option maxHeartbeats 4000000 in
set_option maxRecDepth 100000 in
theorem SlotList_any (s m : Nat) (c : Int) (w : World) (h : Str w s c) (hm : m ≤ 100) (hm1 : 1 ≤ m) (hc : c ≤ 900000) :
    Calls Tryz.prog 29 #[.pointer (some ⟨s, 0, none⟩), .int .i64 m] w fun e w' => ∃ v l, e = .returned v ∧ Own w' w.heap.size v l ∧ l.length ≤ m ∧ Str w' s (c + m + 10) ∧ w.grownBy w' (some s) := by
  have hs := h.lt
  go_enter Tryz.func29, Tryz.ntmps29
  go_wp2_with fail
  refine (Range_any s c 1 m _ h (by omega) (by omega) (by omega) (by omega) (by omega)).mono ?_
  rintro e w1 ⟨n, rfl, ⟨hn0, hn1, _⟩, hS1, hG1⟩
  have hn2 := hn1 (by omega)
  clear hn1
  obtain ⟨n, rfl⟩ := Int.eq_ofNat_of_zero_le (show 0 ≤ n by omega)
  go_wp2_with fail
  go_loopw [5, 9] (fun v i wr => ∃ (k : Nat) (l : List Int), k ≤ n ∧ i = .int .i64 k ∧ Own wr w.heap.size v l ∧ Hid (l.length = k) ∧ Str wr s (c + 1 + k) ∧ w.grownBy wr (some s)) (fun _ i _ => n - (intOf i).toNat)
  case atStart => exact ⟨0, [], Nat.zero_le _, rfl, Own.nil _ _, Lib.hid rfl, hS1.mono (by omega), hG1⟩
  case round =>
    obtain ⟨k, l, hk, rfl, hO, hP, hS, hG⟩ := hrel
    by_cases hlt : k < n
    · go_wp2_with fail
      refine (Pick_any s _ [0, 1, 2, 3, 4, 5, 9] _ _ (hS.alloc _) (by omega) (Ints.of_blk (blk_new _ _) rfl rfl (by simp) (by omega) hS.lt) (by simp) (by simp)).mono ?_
      rintro e w2 ⟨x, rfl, _, hS2, hG2⟩
      have hO2 := (hO.alloc _).grown hG2 hs
      have hG2' := Gr.trans (Gr.alloc hG _) hG2
      have hz := hG2'.size
      have hw1 : IntKind.i64.wrap ((k : Int) + 1) = ((k + 1 : Nat) : Int) := by rw [IntWalk.i64_in _ (by omega)]; omega
      clear hG2 hG hS hO
      go_wp2_with (at_builtin; refine wp_app_int rfl _ _ rfl w.heap.size _ l rfl (hO2.alloc _) w2.heap.size 1 x rfl (by rw [blk_cell (blk_new w2 _) 0]; rfl) (by have := hP.out; omega) (by simp; omega) ?_)
      intro v' w3 hO3 hA3 hb3
      go_wp2
      go_roundw
      case rel => exact ⟨k + 1, l ++ [x], by omega, by go_num, hO3, Lib.hid (by rw [List.length_append, hP.out]; rfl), ((hS2.alloc _).belowB hb3 hs).mono (by omega), Gr.app (Gr.alloc hG2' _) (hO2.alloc _) hA3 (Nat.le_refl _)⟩
      case measure => simp [intOf]; omega
    · obtain rfl : k = n := by omega
      go_wp2_with fail
      refine (Flip_any s _ 20 _ hS (by omega) (by omega)).mono ?_
      rintro e w2 ⟨fl, rfl, hS2, hG2⟩
      have hO2 := hO.grown hG2 hs
      have hG2' := Gr.trans hG hG2
      clear hG2 hG hS hO
      cases fl
      · go_wp2_with fail
        refine (Flip_any s _ 40 _ hS2 (by omega) (by omega)).mono ?_
        rintro e w6 ⟨fl, rfl, hS6, hG6⟩
        have hO6 := hO2.grown hG6 hs
        have hG6' := Gr.trans hG2' hG6
        cases fl
        · go_wp2
          go_ret
          exact ⟨_, l, rfl, hO6, by have := hP.out; omega, hS6.mono (by omega), hG6'⟩
        · go_wp2
          go_ret
          exact ⟨_, [], rfl, Own.nil _ _, by simp, hS6.mono (by omega), hG6'⟩
      · have hl1 : 1 ≤ l.length := by have := hP.out; omega
        obtain ⟨va, vcap, rfl, hv1, hv2⟩ := Ints.form hO2.ints
        go_wp2_with fail
        refine (Next_any s _ l.length _ hS2 (by omega) (by omega)).mono ?_
        rintro e w3 ⟨r, rfl, ⟨hr0, hr1, _⟩, hS3, hG3⟩
        have hr2 := hr1 (by omega)
        clear hr1
        obtain ⟨r, rfl⟩ := Int.eq_ofNat_of_zero_le hr0
        have hO3 := hO2.grown hG3 hs
        have hG3' := Gr.trans hG2' hG3
        clear hG3 hG2' hS2 hO2
        go_wp2_with fail
        refine (Pick_any s _ [-1, 1000, 1001] _ _ (hS3.alloc _) (by omega) (Ints.of_blk (blk_new _ _) rfl rfl (by simp) (by omega) hS3.lt) (by simp) (by simp)).mono ?_
        rintro e w4 ⟨x, rfl, hx, hS4, hG4⟩
        have hO4 := (hO3.alloc _).grown hG4 hs
        have hG4' := Gr.trans (Gr.alloc hG3' _) hG4
        clear hG4 hG3' hS3 hO3
        obtain ⟨g, cap, hvv, hg1, hg2, hcap⟩ := Own.nonnil hO4 (by intro e; rw [e] at hl1; simp at hl1)
        injection hvv with hva _ hvc
        subst hva hvc
        have hl2 : r < l.length := by omega
        obtain ⟨y, hy⟩ : ∃ y, l[r]? = some y := ⟨_, List.getElem?_eq_getElem hl2⟩
        have k1 := Own.cell hO4 hy
        have f1 := Own.free hO4 rfl r
        clear hy
        go_wp2_with fail
        obtain ⟨w5, l5, hO5, HQ5, hS5, hG5, hw5⟩ : ∃ w5 l5, Own w5 w.heap.size (.slice (some ⟨g, 0, none⟩) l.length vcap) l5 ∧ Hid (l5.length = l.length) ∧ Str w5 s (c + k + 5) ∧ w.grownBy w5 (some s) ∧ w5 = w4.setCell ⟨g, r, none⟩ (.int .i64 x) :=
          ⟨_, l.set r x, Own.set hO4 rfl r x, Lib.hid (by rw [List.length_set]), (hS4.belowB (B := w.heap.size) (Bl.set (Below.refl _ _) _ _ hg1 _) hs).mono (by omega), Gr.set hG4' _ _ (.inr hg1) _, rfl⟩
        rw [← hw5]
        clear hw5 hO4 hS4 hG4' k1 f1
        refine (Flip_any s _ 40 _ hS5 (by omega) (by omega)).mono ?_
        rintro e w6 ⟨fl, rfl, hS6, hG6⟩
        have hO6 := hO5.grown hG6 hs
        have hG6' := Gr.trans hG5 hG6
        cases fl
        · go_wp2
          go_ret
          exact ⟨_, l5, rfl, hO6, by have := hP.out; have := HQ5.out; omega, hS6.mono (by omega), hG6'⟩
        · go_wp2
          go_ret
          exact ⟨_, [], rfl, Own.nil _ _, by simp, hS6.mono (by omega), hG6'⟩
end Go.Proofs.YtbkglhakhahfpaaGreatDoor
