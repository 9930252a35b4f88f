/- The contract of WorkList. Conditions: numbers left in the stream. -/
import Derived.Test.YtnmimagninhkkaaGreatDoorCh1
import Derived.Deep.RegionLaw
import Derived.Test.YtnmimagninhkkaaGreatDoorStep
namespace Go.Proofs.YtnmimagninhkkaaGreatDoor
open Go.RowKit Go.Sort

theorem flat3_set : ∀ (l : List Wk) (r : Nat) (x : Wk), (((l.flatMap TW.f).set (r * 3) (.string x.1)).set (r * 3 + 1) (.int .i64 x.2.1)).set (r * 3 + 2) (.int .i64 x.2.2) = (l.set r x).flatMap TW.f
  | [], _, _ => by simp
  | y :: l, 0, x => by simp [TW]
  | y :: l, r + 1, x => by
    have := flat3_set l r x
    rw [List.set_cons_succ, List.flatMap_cons, List.flatMap_cons, ← this]
    rw [show (r + 1) * 3 = r * 3 + 1 + 1 + 1 by omega]
    simp [TW]
theorem OwnW.set {w : World} {B g cap : Nat} {l : List Wk} (h : OwnR TW w B (.slice (some ⟨g, 0, none⟩) l.length cap) l) (h0 : l ≠ []) (r : Nat) (x : Wk) :
    OwnR TW (((w.setCell ⟨g, r * 3, none⟩ (.string x.1)).setCell ⟨g, r * 3 + 1, none⟩ (.int .i64 x.2.1)).setCell ⟨g, r * 3 + 2, none⟩ (.int .i64 x.2.2)) B (.slice (some ⟨g, 0, none⟩) l.length cap) (l.set r x) := by
  obtain ⟨g', cap', cur, hv, hB, hb, h1, h2, h3, h4⟩ := h.blk h0
  obtain ⟨hv1, _, hv2⟩ := Value.slice.inj hv
  injection hv1 with hv1
  injection hv1 with hv1
  subst hv1 hv2
  have := OwnR.of_blk (T := TW) (l := l.set r x) hB (blk_set (blk_set (blk_set hb (r * 3) (.string x.1)) (r * 3 + 1) (.int .i64 x.2.1)) (r * 3 + 2) (.int .i64 x.2.2)) (by rw [List.length_set]; exact h1) h2 (by simpa using h3) (by
    rw [List.length_set, Array.toList_setIfInBounds, Array.toList_setIfInBounds, Array.toList_setIfInBounds, List.take_set, List.take_set, List.take_set, h4, flat3_set]) (by rw [flat_len TW.ok.len])
  rw [List.length_set] at this
  exact this
theorem OwnW.cell {w : World} {B g cap n : Nat} {l : List Wk} (h : OwnR TW w B (.slice (some ⟨g, 0, none⟩) n cap) l) (hn : n = l.length) {r : Nat} {x : Wk} (hx : l[r]? = some x) :
    (w.cell? ⟨g, r * 3, none⟩ = some (.string x.1) ∧ w.cell? ⟨g, r * 3 + 1, none⟩ = some (.int .i64 x.2.1) ∧ w.cell? ⟨g, r * 3 + 2, none⟩ = some (.int .i64 x.2.2)) ∧ w.frozen? ⟨g, r * 3, none⟩ = false ∧ w.frozen? ⟨g, r * 3 + 1, none⟩ = false ∧ w.frozen? ⟨g, r * 3 + 2, none⟩ = false := by
  subst hn
  obtain ⟨b, o, ha, _, _, e0, e1, e2⟩ := works_at h.rec hx
  injection ha with ha
  injection ha with h1 h2 h3
  subst h1 h2
  rw [Nat.zero_add] at e0 e1 e2
  obtain ⟨g', cap', cur, hv, hB, hb, _⟩ := h.blk (by rintro rfl; simp at hx)
  obtain ⟨hv1, _, hv2⟩ := Value.slice.inj hv
  injection hv1 with hv1
  injection hv1 with hv1
  subst hv1
  exact ⟨⟨e0, e1, e2⟩, blk_free hb _, blk_free hb _, blk_free hb _⟩
def uNames : List ByteArray := [⟨#[117, 49]⟩, ⟨#[117, 50]⟩, ⟨#[117, 51]⟩, ⟨#[117, 52]⟩, ⟨#[117, 53]⟩, ⟨#[117, 54]⟩]
theorem uNames_at {k : Nat} (h : k < 6) : ∃ x : ByteArray, x.size ≤ 1000 ∧ (#[Value.string ⟨#[117, 49]⟩, .string ⟨#[117, 50]⟩, .string ⟨#[117, 51]⟩, .string ⟨#[117, 52]⟩, .string ⟨#[117, 53]⟩, .string ⟨#[117, 54]⟩] : Array Value)[k]? = some (.string x) := by
  rcases (show k = 0 ∨ k = 1 ∨ k = 2 ∨ k = 3 ∨ k = 4 ∨ k = 5 by omega) with rfl | rfl | rfl | rfl | rfl | rfl
  all_goals exact ⟨_, by decide, rfl⟩
set_option maxHeartbeats 8000000 in
set_option maxRecDepth 100000 in
theorem WorkList_any (s : Nat) (c : Int) (w : World) (h : Str w s c) (hc : c ≤ 900000) :
    Calls Tryz.prog 49 #[.pointer (some ⟨s, 0, none⟩)] w fun e w' => ∃ v l, e = .returned v ∧ OwnR TW w' w.heap.size v l ∧ l.length ≤ 6 ∧ (∀ x ∈ l, x.1.size ≤ 1000) ∧ Str w' s (c + 40) ∧ w.grownBy w' (some s) := by
  have hs := h.lt
  have h1 := h.alloc (.cells #[.string ⟨#[117, 49]⟩, .string ⟨#[117, 50]⟩, .string ⟨#[117, 51]⟩, .string ⟨#[117, 52]⟩, .string ⟨#[117, 53]⟩, .string ⟨#[117, 54]⟩] 9)
  have hN0 := blk_new w (.cells #[.string ⟨#[117, 49]⟩, .string ⟨#[117, 50]⟩, .string ⟨#[117, 51]⟩, .string ⟨#[117, 52]⟩, .string ⟨#[117, 53]⟩, .string ⟨#[117, 54]⟩] 9)
  have hg0 := Gr.alloc (Gr.refl w (some s)) (.cells #[.string ⟨#[117, 49]⟩, .string ⟨#[117, 50]⟩, .string ⟨#[117, 51]⟩, .string ⟨#[117, 52]⟩, .string ⟨#[117, 53]⟩, .string ⟨#[117, 54]⟩] 9)
  go_enter Tryz.func49, Tryz.ntmps49
  go_wp2_with fail
  refine (Range_any s c 0 6 _ h1 (by omega) (by omega) (by omega) (by omega) (by omega)).mono ?_
  rintro e w1 ⟨n, rfl, ⟨hn0, hn1, _⟩, hS1, hG1⟩
  have hn2 := hn1 (by omega)
  clear hn1
  obtain ⟨n, rfl⟩ := Int.eq_ofNat_of_zero_le hn0
  have hN1 := Gr.blk hG1 hN0 (by omega)
  have hg1 := Gr.trans hg0 hG1
  have hz1 := hg1.size
  clear h1 hN0 hg0 hG1
  have hn3 : n ≤ 6 := by omega
  go_wp2_with fail
  go_loopw [3, 12] (fun v i wr => ∃ (k : Nat) (l : List Wk), k ≤ n ∧ i = .int .i64 k ∧ OwnR TW wr (w.heap.size + 1) v l ∧ Hid (l.length = k ∧ ∀ x ∈ l, x.1.size ≤ 1000) ∧ Str wr s (c + 1 + k * 2) ∧ w.grownBy wr (some s) ∧ wr.heap[w.heap.size]? = some (.cells #[.string ⟨#[117, 49]⟩, .string ⟨#[117, 50]⟩, .string ⟨#[117, 51]⟩, .string ⟨#[117, 52]⟩, .string ⟨#[117, 53]⟩, .string ⟨#[117, 54]⟩] 9 (0, 0))) (fun _ i _ => n - (intOf i).toNat)
  case atStart => exact ⟨0, [], Nat.zero_le _, rfl, OwnR.nil _ _, Lib.hid ⟨rfl, by simp⟩, hS1.mono (by omega), hg1, hN1⟩
  case round =>
    obtain ⟨k, l, hk, rfl, hO, hP, hS, hG, hN⟩ := hrel
    have hzN := blk_lt hN
    by_cases hlt : k < n
    · obtain ⟨nm, hnm, hna⟩ := uNames_at (show k < 6 by omega)
      have HNM := Lib.hid hnm
      have kc : wr.cell? ⟨w.heap.size, k, none⟩ = some (.string nm) := (blk_cell hN k).trans hna
      clear hna hnm
      go_wp2_with fail
      refine (Pick_any s _ [0, 5, 10, 20, 30] _ _ (hS.alloc _) (by omega) (Ints.of_blk (blk_new _ _) rfl rfl (by simp) (by omega) hS.lt) (by simp) (by simp)).mono ?_
      rintro e w2 ⟨mi, rfl, _, hS2, hG2⟩
      have hO2 := (hO.alloc (.cells #[.int .i64 0, .int .i64 5, .int .i64 10, .int .i64 20, .int .i64 30] 3)).grown hG2 (by omega)
      have hN2 := Gr.blk hG2 (blk_old hN _) (by omega)
      have hG2' := Gr.trans (Gr.alloc hG _) hG2
      clear hG2 hG hS hO hN kc
      go_wp2_with fail
      refine (Pick_any s _ [0, 10, 20, 20, 70] _ _ (hS2.alloc _) (by omega) (Ints.of_blk (blk_new _ _) rfl rfl (by simp) (by omega) hS2.lt) (by simp) (by simp)).mono ?_
      rintro e w3 ⟨va, rfl, _, hS3, hG3⟩
      have hO3 := (hO2.alloc (.cells #[.int .i64 0, .int .i64 10, .int .i64 20, .int .i64 20, .int .i64 70] 3)).grown hG3 (by omega)
      have hN3 := Gr.blk hG3 (blk_old hN2 _) (by omega)
      have hG3' := Gr.trans (Gr.alloc hG2' _) hG3
      have hz := hG3'.size
      have hw1 : IntKind.i64.wrap ((k : Int) + 1) = ((k + 1 : Nat) : Int) := by rw [IntWalk.i64_in _ (by omega)]; omega
      have hNl := blk_lt hN3
      clear hG3 hG2' hS2 hO2 hN2
      go_wp2_with (at_builtin; refine wp_app_rec TW.ok rfl _ _ rfl (w.heap.size + 1) _ l rfl (hO3.alloc _) w3.heap.size 1 (nm, mi, va) rfl (blk_new w3 _) rfl (by have := hP.out.1; omega) (by simp; omega) ?_)
      intro v' w4 hO4 hA4 hb4
      go_wp2
      go_roundw
      case rel => exact ⟨k + 1, l ++ [(nm, mi, va)], by omega, by go_num, hO4, Lib.hid ⟨by rw [List.length_append, hP.out.1]; rfl, fun y hy => by
        rcases List.mem_append.1 hy with hy | hy
        · exact hP.out.2 y hy
        · simp at hy; subst hy; exact HNM.out⟩, ((hS3.alloc _).belowB hb4 (by omega)).mono (by omega), Gr.appR (Gr.alloc hG3' _) (hO3.alloc _) hA4 (by omega), (hb4.block w.heap.size (Nat.lt_succ_self _)).trans (blk_old hN3 _)⟩
      case measure => simp [intOf]; omega
    · obtain rfl : k = n := by omega
      have hO' := OwnR.base hO (show w.heap.size ≤ w.heap.size + 1 by omega)
      clear hO hN
      obtain ⟨va, vcap, rfl, hv1, hv2⟩ := hO'.form
      by_cases hl0 : l.length = 0
      · go_wp2_with fail
        go_ret
        exact ⟨_, l, rfl, hO', by have := hP.out.1; omega, hP.out.2, hS.mono (by omega), hG⟩
      · have hl1 : 0 < l.length := by omega
        go_wp2_with fail
        refine (Flip_any s _ 15 _ hS (by omega) (by omega)).mono ?_
        rintro e w2 ⟨fl, rfl, hS2, hG2⟩
        have hO2 := hO'.grown hG2 hs
        have hG2' := Gr.trans hG hG2
        clear hG2 hG hS hO'
        cases fl
        · go_wp2
          go_ret
          exact ⟨_, l, rfl, hO2, by have := hP.out.1; omega, hP.out.2, hS2.mono (by omega), hG2'⟩
        · go_wp2_with fail
          refine (Next_any s _ l.length _ hS2 (by omega) (by have := hP.out.1; omega)).mono ?_
          rintro e w4 ⟨i, rfl, ⟨hi0, hi1, _⟩, hS4, hG4⟩
          have hi2 := hi1 (by omega)
          clear hi1
          obtain ⟨i, rfl⟩ := Int.eq_ofNat_of_zero_le hi0
          have hil : i < l.length := by omega
          have hO4 := hO2.grown hG4 hs
          have hg4 := Gr.trans hG2' hG4
          obtain ⟨x, hx⟩ : ∃ x, l[i]? = some x := ⟨_, List.getElem?_eq_getElem hil⟩
          have HX := Lib.hid (hP.out.2 x (List.mem_of_getElem? hx))
          have hl00 : l ≠ [] := by intro e; rw [e] at hl1; simp at hl1
          obtain ⟨g, cap, cur, hvv, hgB, hgb, _, _, _, _⟩ := hO4.blk hl00
          injection hvv with hva _ hvc
          subst hva hvc
          have hgl := blk_lt hgb
          have HF := Lib.hid (fun (W : World) (hW : w4.grownBy W (some s)) => OwnW.cell (hO4.grown hW hs) rfl hx)
          obtain ⟨⟨c0, c1, c2⟩, f0, f1, f2⟩ := HF.out w4 (Gr.refl _ _)
          have ls4 := hS4.lt
          have HO4 := Lib.hid hO4
          have HL0 := Lib.hid hl00
          obtain ⟨xb, xm, xv⟩ := x
          simp only at c0 c1 c2 HF HX
          clear hx hG4 hS2 hO2 hgb hO4 hl00
          have HSome := Lib.hid (show ∀ (W : World) (b : Nat) (C : Int), Str W s C → C ≤ 1000000 → s + 1 ≤ b → W.heap[b]? = some (.cells #[.string xb, .string ⟨#[]⟩, .string ⟨#[117, 49]⟩] 9 (0, 0)) → Calls Tryz.prog 30 #[.pointer (some ⟨s, 0, none⟩), .slice (some ⟨b, 0, none⟩) 3 3] W fun e w' => ∃ r : ByteArray, e = .returned (.string r) ∧ r ∈ [xb, ⟨#[]⟩, ⟨#[117, 49]⟩] ∧ Str w' s (C + 1) ∧ W.grownBy w' (some s) from fun W b C hS hc hsb hb => Some_any s C [xb, ⟨#[]⟩, ⟨#[117, 49]⟩] _ W hS hc (RecR.of_blk hb rfl rfl (by simp) (by omega) hsb) (by simp) (by simp))
          have HPick := Lib.hid (show ∀ (W : World) (b : Nat) (C : Int), Str W s C → C ≤ 1000000 → s + 1 ≤ b → W.heap[b]? = some (.cells #[.int .i64 xv, .int .i64 (-1)] 3 (0, 0)) → Calls Tryz.prog 68 #[.pointer (some ⟨s, 0, none⟩), .slice (some ⟨b, 0, none⟩) 2 2] W fun e w' => ∃ r : Int, e = .returned (.int .i64 r) ∧ r ∈ [xv, -1] ∧ Str w' s (C + 1) ∧ W.grownBy w' (some s) from fun W b C hS hc hsb hb => Pick_any s C [xv, -1] _ W hS hc (Ints.of_blk hb rfl rfl (by simp) (by omega) hsb) (by simp) (by simp))
          have HOdd := Lib.hid (show ∀ (W : World) (C : Int), Str W s C → C ≤ 999999 → Calls Tryz.prog 32 #[.pointer (some ⟨s, 0, none⟩), .int .i64 0, .int .i64 10000] W fun e w' => ∃ r : Int, e = .returned (.int .i64 r) ∧ (-1099511627777 ≤ r ∧ r ≤ 1099511627777) ∧ Str w' s (C + 2) ∧ W.grownBy w' (some s) from fun W C hS hc => Odd_any s C 0 10000 W hS hc (by omega) (by omega) (by omega))
          go_wp2
          go_region_law (first
            | (refine step_goN rfl 30 #[.tmp 44, .tmp 49] _ rfl (enters_of Tryz.func30 (by kernel_rfl) rfl) #[.pointer (some ⟨s, 0, none⟩), .slice (some ⟨w4.heap.size, 0, none⟩) 3 3] (by simp [Act.eval]) _ (HSome.out _ _ _ (by first | exact (hS4.alloc _).drew | exact ((hS4.alloc _).alloc _).drew) (by omega) (by omega) (by first | exact blk_new w4 _ | exact blk_old (blk_new w4 _) _)) ?_; rintro e w5 ⟨nb, rfl, hnb, hS5, hG5⟩; refine ⟨_, rfl, ?_⟩; (first | (have hG45 := Gr.trans (Gr.alloc (Gr.refl w4 (some s)) _) (Gr.undrew hG5); have hB5 : True := trivial) | (have hG45 := Gr.trans (Gr.alloc (Gr.alloc (Gr.refl w4 (some s)) (.cells #[.string xb, .string ⟨#[]⟩, .string ⟨#[117, 49]⟩] 9)) (.cells #[.int .i64 xv, .int .i64 (-1)] 3)) (Gr.undrew hG5); have hB5 := Gr.blk (Gr.undrew hG5) (blk_new' (w4.alloc (.cells #[.string xb, .string ⟨#[]⟩, .string ⟨#[117, 49]⟩] 9)) (.cells #[.int .i64 xv, .int .i64 (-1)] 3) (g := w4.heap.size + 1) (by simp)) (by omega))); obtain ⟨⟨d0, d1, d2⟩, e0, e1, e2⟩ := HF.out w5 hG45; clear hG5; have ls5 := hS5.lt)
            | (refine step_goN rfl 30 #[.tmp 44, .tmp 49] _ rfl (enters_of Tryz.func30 (by kernel_rfl) rfl) #[.pointer (some ⟨s, 0, none⟩), .slice (some ⟨w4.heap.size + 1, 0, none⟩) 3 3] (by simp [Act.eval]) _ (HSome.out _ _ _ ((hS4.alloc (.cells #[.int .i64 xv, .int .i64 (-1)] 3)).alloc _).drew (by omega) (by omega) (blk_new' (w4.alloc (.cells #[.int .i64 xv, .int .i64 (-1)] 3)) _ (by simp))) ?_; rintro e w5 ⟨nb, rfl, hnb, hS5, hG5⟩; refine ⟨_, rfl, ?_⟩; have hG45 := Gr.trans (Gr.alloc (Gr.alloc (Gr.refl w4 (some s)) (.cells #[.int .i64 xv, .int .i64 (-1)] 3)) _) (Gr.undrew hG5); have hB5 := Gr.blk (Gr.undrew hG5) (blk_old (blk_new w4 (.cells #[.int .i64 xv, .int .i64 (-1)] 3)) _) (by omega); obtain ⟨⟨d0, d1, d2⟩, e0, e1, e2⟩ := HF.out w5 hG45; clear hG5; have ls5 := hS5.lt)
            | (refine step_goN rfl 32 #[.tmp 51, .const (.int .i64 0), .const (.int .i64 10000)] _ rfl (enters_of Tryz.func32 (by kernel_rfl) rfl) #[.pointer (some ⟨s, 0, none⟩), .int .i64 0, .int .i64 10000] (by simp [Act.eval]) _ (HOdd.out _ _ (by first | exact hS5 | exact hS5.alloc _) (by omega)) ?_; rintro e w6 ⟨nm, rfl, _, hS6, hG6⟩; refine ⟨_, rfl, ?_⟩; (first | (have hG46 := Gr.trans hG45 hG6; first | have hB6 := Gr.blk hG6 hB5 (by omega) | have hB6 : True := trivial) | (have hG46 := Gr.trans (Gr.alloc hG45 (.cells #[.int .i64 xv, .int .i64 (-1)] 3)) hG6; have hB6 := Gr.blk hG6 (blk_new w5 (.cells #[.int .i64 xv, .int .i64 (-1)] 3)) (by omega))); obtain ⟨⟨d0, d1, d2⟩, e0, e1, e2⟩ := HF.out w6 hG46; clear hG6; have ls6 := hS6.lt)
            | (refine step_goN rfl 68 #[.tmp 53, .tmp 58] _ rfl (enters_of Tryz.func68 (by kernel_rfl) rfl) #[.pointer (some ⟨s, 0, none⟩), .slice (some ⟨w6.heap.size, 0, none⟩) 2 2] (by simp [Act.eval]) _ (HPick.out _ _ _ (hS6.alloc (.cells #[.int .i64 xv, .int .i64 (-1)] 3)) (by omega) (by omega) (blk_new w6 _)) ?_; rintro e w7 ⟨nv, rfl, _, hS7, hG7⟩; refine ⟨_, rfl, ?_⟩; have hG47 := Gr.trans (Gr.alloc hG46 _) hG7; obtain ⟨⟨d0, d1, d2⟩, e0, e1, e2⟩ := HF.out w7 hG47; clear hG7)
            | (refine step_goN rfl 68 #[.tmp 53, .tmp 58] _ rfl (enters_of Tryz.func68 (by kernel_rfl) rfl) #[.pointer (some ⟨s, 0, none⟩), .slice (some ⟨w5.heap.size, 0, none⟩) 2 2] (by simp [Act.eval]) _ (HPick.out _ _ _ hS6 (by omega) (by omega) hB6) ?_; rintro e w7 ⟨nv, rfl, _, hS7, hG7⟩; refine ⟨_, rfl, ?_⟩; have hG47 := Gr.trans hG46 hG7; obtain ⟨⟨d0, d1, d2⟩, e0, e1, e2⟩ := HF.out w7 hG47; clear hG7)
            | (refine step_goN rfl 68 #[.tmp 53, .tmp 58] _ rfl (enters_of Tryz.func68 (by kernel_rfl) rfl) #[.pointer (some ⟨s, 0, none⟩), .slice (some ⟨w4.heap.size, 0, none⟩) 2 2] (by simp [Act.eval]) _ (HPick.out _ _ _ hS6 (by omega) (by omega) hB6) ?_; rintro e w7 ⟨nv, rfl, _, hS7, hG7⟩; refine ⟨_, rfl, ?_⟩; have hG47 := Gr.trans hG46 hG7; obtain ⟨⟨d0, d1, d2⟩, e0, e1, e2⟩ := HF.out w7 hG47; clear hG7)
            | (refine step_goN rfl 68 #[.tmp 53, .tmp 58] _ rfl (enters_of Tryz.func68 (by kernel_rfl) rfl) #[.pointer (some ⟨s, 0, none⟩), .slice (some ⟨w4.heap.size + 1, 0, none⟩) 2 2] (by simp [Act.eval]) _ (HPick.out _ _ _ hS6 (by omega) (by omega) hB6) ?_; rintro e w7 ⟨nv, rfl, _, hS7, hG7⟩; refine ⟨_, rfl, ?_⟩; have hG47 := Gr.trans hG46 hG7; obtain ⟨⟨d0, d1, d2⟩, e0, e1, e2⟩ := HF.out w7 hG47; clear hG7))
          all_goals (
            have hnb2 : nb.size ≤ 1000 := by
              simp only [List.mem_cons, List.not_mem_nil, or_false] at hnb
              rcases hnb with rfl | rfl | rfl
              · exact HX.out
              · decide
              · decide
            have hO7 := HO4.out.grown hG47 hs
            have hOs := OwnW.set hO7 HL0.out i (nb, nm, nv)
            have hgs := Gr.set (Gr.set (Gr.set (Gr.trans hg4 hG47) g (i * 3) (.inr hgB) (.string nb)) g (i * 3 + 1) (.inr hgB) (.int .i64 nm)) g (i * 3 + 2) (.inr hgB) (.int .i64 nv)
            have hSs := Str.far (Str.far (Str.far hS7 g (i * 3) (by omega) (.string nb)) g (i * 3 + 1) (by omega) (.int .i64 nm)) g (i * 3 + 2) (by omega) (.int .i64 nv)
            have hfin : ∀ y ∈ l.set i (nb, nm, nv), y.1.size ≤ 1000 := by
              intro y hy
              rcases List.mem_or_eq_of_mem_set hy with hy | rfl
              · exact hP.out.2 y hy
              · exact hnb2
            have HFI := Lib.hid hfin
            have hlen : (l.set i (nb, nm, nv)).length ≤ 6 := by rw [List.length_set]; have := hP.out.1; omega
            clear hfin
            go_wp2
            go_ret
            first
              | exact ⟨_, rfl, l.set i (nb, nm, nv), hOs, hlen, (by first | exact HFI.out | exact fun y z t h => HFI.out (y, z, t) h), hSs.mono (by omega), hgs⟩
              | exact ⟨_, l.set i (nb, nm, nv), rfl, hOs, hlen, (by first | exact HFI.out | exact fun y z t h => HFI.out (y, z, t) h), hSs.mono (by omega), hgs⟩)
end Go.Proofs.YtnmimagninhkkaaGreatDoor
