/- The contract of WorkList. Conditions: numbers left in the stream. · slices.Clone of Steps. Conditions: at most 10^6 of them. · slices.Clone of Works. Conditions: at most 10^6 of them. · slices.Equal of Steps. Conditions: at most 10^6 of them. · slices.Equal of Works. Conditions: at most 10^6 of them. · The exact faults of works: ChooseFault, worksFault; Choose where something is wrong. Conditions: at most 100 works, names of at most 1000 bytes. · spoilNames and spoilInts: what the call owns is written over, nothing else turns. Conditions: at most 100000 elements. · The program's choice of works, to the set: the same step by step as a plain function. Conditions: works that are right. · The reference's choice of works, to the set. Conditions: works that are right. -/
import Derived.Test.YtbkglhakhahfpaaGreatDoorCh2
import Derived.Deep.RegionLaw
import Derived.Test.YtbkglhakhahfpaaGreatDoorStep
import Derived.Test.YtbkglhakhahfpaaGreatDoorEqs
import Derived.Test.YtbkglhakhahfpaaGreatDoorStl
import Derived.Test.YtbkglhakhahfpaaGreatDoorRec
import Derived.Test.YtbkglhakhahfpaaGreatDoorStrs
import Derived.Test.YtbkglhakhahfpaaGreatDoorInvS
import Derived.Test.YtbkglhakhahfpaaGreatDoorBd2
import Derived.Test.YtbkglhakhahfpaaGreatDoorSl
namespace Go.Proofs.YtbkglhakhahfpaaGreatDoor
open Go.RowKit Go.Sort

theorem flat3_set : ∀ (l : List Wk) (r : Nat) (x : Wk), (((l.flatMap TW.f).set (r * 3) (.string x.1)).set (r * 3 + 1) (.int .i64 x.2.1)).set (r * 3 + 2) (.int .i64 x.2.2) = (l.set r x).flatMap TW.f
  | [], _, _ => by simp
  | y :: l, 0, x => by simp [TW]
  | y :: l, r + 1, x => by
    have := flat3_set l r x
    rw [List.set_cons_succ, List.flatMap_cons, List.flatMap_cons, ← this]
    rw [show (r + 1) * 3 = r * 3 + 1 + 1 + 1 by omega]
    simp [TW]
theorem OwnW.set {w : World} {B g cap : Nat} {l : List Wk} (h : OwnR TW w B (.slice (some ⟨g, 0, none⟩) l.length cap) l) (h0 : l ≠ []) (r : Nat) (x : Wk) :
    OwnR TW (((w.setCell ⟨g, r * 3, none⟩ (.string x.1)).setCell ⟨g, r * 3 + 1, none⟩ (.int .i64 x.2.1)).setCell ⟨g, r * 3 + 2, none⟩ (.int .i64 x.2.2)) B (.slice (some ⟨g, 0, none⟩) l.length cap) (l.set r x) := by
  obtain ⟨g', cap', cur, hv, hB, hb, h1, h2, h3, h4⟩ := h.blk h0
  obtain ⟨hv1, _, hv2⟩ := Value.slice.inj hv
  injection hv1 with hv1
  injection hv1 with hv1
  subst hv1 hv2
  have := OwnR.of_blk (T := TW) (l := l.set r x) hB (blk_set (blk_set (blk_set hb (r * 3) (.string x.1)) (r * 3 + 1) (.int .i64 x.2.1)) (r * 3 + 2) (.int .i64 x.2.2)) (by rw [List.length_set]; exact h1) h2 (by simpa using h3) (by
    rw [List.length_set, Array.toList_setIfInBounds, Array.toList_setIfInBounds, Array.toList_setIfInBounds, List.take_set, List.take_set, List.take_set, h4, flat3_set]) (by rw [flat_len TW.ok.len])
  rw [List.length_set] at this
  exact this
theorem OwnW.cell {w : World} {B g cap n : Nat} {l : List Wk} (h : OwnR TW w B (.slice (some ⟨g, 0, none⟩) n cap) l) (hn : n = l.length) {r : Nat} {x : Wk} (hx : l[r]? = some x) :
    (w.cell? ⟨g, r * 3, none⟩ = some (.string x.1) ∧ w.cell? ⟨g, r * 3 + 1, none⟩ = some (.int .i64 x.2.1) ∧ w.cell? ⟨g, r * 3 + 2, none⟩ = some (.int .i64 x.2.2)) ∧ w.frozen? ⟨g, r * 3, none⟩ = false ∧ w.frozen? ⟨g, r * 3 + 1, none⟩ = false ∧ w.frozen? ⟨g, r * 3 + 2, none⟩ = false := by
  subst hn
  obtain ⟨b, o, ha, _, _, e0, e1, e2⟩ := works_at h.rec hx
  injection ha with ha
  injection ha with h1 h2 h3
  subst h1 h2
  rw [Nat.zero_add] at e0 e1 e2
  obtain ⟨g', cap', cur, hv, hB, hb, _⟩ := h.blk (by rintro rfl; simp at hx)
  obtain ⟨hv1, _, hv2⟩ := Value.slice.inj hv
  injection hv1 with hv1
  injection hv1 with hv1
  subst hv1
  exact ⟨⟨e0, e1, e2⟩, blk_free hb _, blk_free hb _, blk_free hb _⟩
def uNames : List ByteArray := [⟨#[117, 49]⟩, ⟨#[117, 50]⟩, ⟨#[117, 51]⟩, ⟨#[117, 52]⟩, ⟨#[117, 53]⟩, ⟨#[117, 54]⟩]
theorem uNames_at {k : Nat} (h : k < 6) : ∃ x : ByteArray, x.size ≤ 1000 ∧ (#[Value.string ⟨#[117, 49]⟩, .string ⟨#[117, 50]⟩, .string ⟨#[117, 51]⟩, .string ⟨#[117, 52]⟩, .string ⟨#[117, 53]⟩, .string ⟨#[117, 54]⟩] : Array Value)[k]? = some (.string x) := by
  rcases (show k = 0 ∨ k = 1 ∨ k = 2 ∨ k = 3 ∨ k = 4 ∨ k = 5 by omega) with rfl | rfl | rfl | rfl | rfl | rfl
  all_goals exact ⟨_, by decide, rfl⟩
set_option maxHeartbeats 8000000 in
set_option maxRecDepth 100000 in
theorem WorkList_any (s : Nat) (c : Int) (w : World) (h : Str w s c) (hc : c ≤ 900000) :
    Calls Tryz.prog 9 #[.pointer (some ⟨s, 0, none⟩)] w fun e w' => ∃ v l, e = .returned v ∧ OwnR TW w' w.heap.size v l ∧ l.length ≤ 6 ∧ (∀ x ∈ l, x.1.size ≤ 1000) ∧ Str w' s (c + 40) ∧ w.grownBy w' (some s) := by
  have hs := h.lt
  have h1 := h.alloc (.cells #[.string ⟨#[117, 49]⟩, .string ⟨#[117, 50]⟩, .string ⟨#[117, 51]⟩, .string ⟨#[117, 52]⟩, .string ⟨#[117, 53]⟩, .string ⟨#[117, 54]⟩] 9)
  have hN0 := blk_new w (.cells #[.string ⟨#[117, 49]⟩, .string ⟨#[117, 50]⟩, .string ⟨#[117, 51]⟩, .string ⟨#[117, 52]⟩, .string ⟨#[117, 53]⟩, .string ⟨#[117, 54]⟩] 9)
  have hg0 := Gr.alloc (Gr.refl w (some s)) (.cells #[.string ⟨#[117, 49]⟩, .string ⟨#[117, 50]⟩, .string ⟨#[117, 51]⟩, .string ⟨#[117, 52]⟩, .string ⟨#[117, 53]⟩, .string ⟨#[117, 54]⟩] 9)
  go_enter Tryz.func9, Tryz.ntmps9
  go_wp2_with fail
  refine (Range_any s c 0 6 _ h1 (by omega) (by omega) (by omega) (by omega) (by omega)).mono ?_
  rintro e w1 ⟨n, rfl, ⟨hn0, hn1, _⟩, hS1, hG1⟩
  have hn2 := hn1 (by omega)
  clear hn1
  obtain ⟨n, rfl⟩ := Int.eq_ofNat_of_zero_le hn0
  have hN1 := Gr.blk hG1 hN0 (by omega)
  have hg1 := Gr.trans hg0 hG1
  have hz1 := hg1.size
  clear h1 hN0 hg0 hG1
  have hn3 : n ≤ 6 := by omega
  go_wp2_with fail
  go_loopw [3, 12] (fun v i wr => ∃ (k : Nat) (l : List Wk), k ≤ n ∧ i = .int .i64 k ∧ OwnR TW wr (w.heap.size + 1) v l ∧ Hid (l.length = k ∧ ∀ x ∈ l, x.1.size ≤ 1000) ∧ Str wr s (c + 1 + k * 2) ∧ w.grownBy wr (some s) ∧ wr.heap[w.heap.size]? = some (.cells #[.string ⟨#[117, 49]⟩, .string ⟨#[117, 50]⟩, .string ⟨#[117, 51]⟩, .string ⟨#[117, 52]⟩, .string ⟨#[117, 53]⟩, .string ⟨#[117, 54]⟩] 9 (0, 0))) (fun _ i _ => n - (intOf i).toNat)
  case atStart => exact ⟨0, [], Nat.zero_le _, rfl, OwnR.nil _ _, Lib.hid ⟨rfl, by simp⟩, hS1.mono (by omega), hg1, hN1⟩
  case round =>
    obtain ⟨k, l, hk, rfl, hO, hP, hS, hG, hN⟩ := hrel
    have hzN := blk_lt hN
    by_cases hlt : k < n
    · obtain ⟨nm, hnm, hna⟩ := uNames_at (show k < 6 by omega)
      have HNM := Lib.hid hnm
      have kc : wr.cell? ⟨w.heap.size, k, none⟩ = some (.string nm) := (blk_cell hN k).trans hna
      clear hna hnm
      go_wp2_with fail
      refine (Pick_any s _ [0, 5, 10, 20, 30] _ _ (hS.alloc _) (by omega) (Ints.of_blk (blk_new _ _) rfl rfl (by simp) (by omega) hS.lt) (by simp) (by simp)).mono ?_
      rintro e w2 ⟨mi, rfl, _, hS2, hG2⟩
      have hO2 := (hO.alloc (.cells #[.int .i64 0, .int .i64 5, .int .i64 10, .int .i64 20, .int .i64 30] 3)).grown hG2 (by omega)
      have hN2 := Gr.blk hG2 (blk_old hN _) (by omega)
      have hG2' := Gr.trans (Gr.alloc hG _) hG2
      clear hG2 hG hS hO hN kc
      go_wp2_with fail
      refine (Pick_any s _ [0, 10, 20, 20, 70] _ _ (hS2.alloc _) (by omega) (Ints.of_blk (blk_new _ _) rfl rfl (by simp) (by omega) hS2.lt) (by simp) (by simp)).mono ?_
      rintro e w3 ⟨va, rfl, _, hS3, hG3⟩
      have hO3 := (hO2.alloc (.cells #[.int .i64 0, .int .i64 10, .int .i64 20, .int .i64 20, .int .i64 70] 3)).grown hG3 (by omega)
      have hN3 := Gr.blk hG3 (blk_old hN2 _) (by omega)
      have hG3' := Gr.trans (Gr.alloc hG2' _) hG3
      have hz := hG3'.size
      have hw1 : IntKind.i64.wrap ((k : Int) + 1) = ((k + 1 : Nat) : Int) := by rw [IntWalk.i64_in _ (by omega)]; omega
      have hNl := blk_lt hN3
      clear hG3 hG2' hS2 hO2 hN2
      go_wp2_with (at_builtin; refine wp_app_rec TW.ok rfl _ _ rfl (w.heap.size + 1) _ l rfl (hO3.alloc _) w3.heap.size 1 (nm, mi, va) rfl (blk_new w3 _) rfl (by have := hP.out.1; omega) (by simp; omega) ?_)
      intro v' w4 hO4 hA4 hb4
      go_wp2
      go_roundw
      case rel => exact ⟨k + 1, l ++ [(nm, mi, va)], by omega, by go_num, hO4, Lib.hid ⟨by rw [List.length_append, hP.out.1]; rfl, fun y hy => by
        rcases List.mem_append.1 hy with hy | hy
        · exact hP.out.2 y hy
        · simp at hy; subst hy; exact HNM.out⟩, ((hS3.alloc _).belowB hb4 (by omega)).mono (by omega), Gr.appR (Gr.alloc hG3' _) (hO3.alloc _) hA4 (by omega), (hb4.block w.heap.size (Nat.lt_succ_self _)).trans (blk_old hN3 _)⟩
      case measure => simp [intOf]; omega
    · obtain rfl : k = n := by omega
      have hO' := OwnR.base hO (show w.heap.size ≤ w.heap.size + 1 by omega)
      clear hO hN
      obtain ⟨va, vcap, rfl, hv1, hv2⟩ := hO'.form
      by_cases hl0 : l.length = 0
      · go_wp2_with fail
        go_ret
        exact ⟨_, l, rfl, hO', by have := hP.out.1; omega, hP.out.2, hS.mono (by omega), hG⟩
      · have hl1 : 0 < l.length := by omega
        go_wp2_with fail
        refine (Flip_any s _ 15 _ hS (by omega) (by omega)).mono ?_
        rintro e w2 ⟨fl, rfl, hS2, hG2⟩
        have hO2 := hO'.grown hG2 hs
        have hG2' := Gr.trans hG hG2
        clear hG2 hG hS hO'
        cases fl
        · go_wp2
          go_ret
          exact ⟨_, l, rfl, hO2, by have := hP.out.1; omega, hP.out.2, hS2.mono (by omega), hG2'⟩
        · go_wp2_with fail
          refine (Next_any s _ l.length _ hS2 (by omega) (by have := hP.out.1; omega)).mono ?_
          rintro e w4 ⟨i, rfl, ⟨hi0, hi1, _⟩, hS4, hG4⟩
          have hi2 := hi1 (by omega)
          clear hi1
          obtain ⟨i, rfl⟩ := Int.eq_ofNat_of_zero_le hi0
          have hil : i < l.length := by omega
          have hO4 := hO2.grown hG4 hs
          have hg4 := Gr.trans hG2' hG4
          obtain ⟨x, hx⟩ : ∃ x, l[i]? = some x := ⟨_, List.getElem?_eq_getElem hil⟩
          have HX := Lib.hid (hP.out.2 x (List.mem_of_getElem? hx))
          have hl00 : l ≠ [] := by intro e; rw [e] at hl1; simp at hl1
          obtain ⟨g, cap, cur, hvv, hgB, hgb, _, _, _, _⟩ := hO4.blk hl00
          injection hvv with hva _ hvc
          subst hva hvc
          have hgl := blk_lt hgb
          have HF := Lib.hid (fun (W : World) (hW : w4.grownBy W (some s)) => OwnW.cell (hO4.grown hW hs) rfl hx)
          obtain ⟨⟨c0, c1, c2⟩, f0, f1, f2⟩ := HF.out w4 (Gr.refl _ _)
          have ls4 := hS4.lt
          have HO4 := Lib.hid hO4
          have HL0 := Lib.hid hl00
          obtain ⟨xb, xm, xv⟩ := x
          simp only at c0 c1 c2 HF HX
          clear hx hG4 hS2 hO2 hgb hO4 hl00
          have HSome := Lib.hid (show ∀ (W : World) (b : Nat) (C : Int), Str W s C → C ≤ 1000000 → s + 1 ≤ b → W.heap[b]? = some (.cells #[.string xb, .string ⟨#[]⟩, .string ⟨#[117, 49]⟩] 9 (0, 0)) → Calls Tryz.prog 58 #[.pointer (some ⟨s, 0, none⟩), .slice (some ⟨b, 0, none⟩) 3 3] W fun e w' => ∃ r : ByteArray, e = .returned (.string r) ∧ r ∈ [xb, ⟨#[]⟩, ⟨#[117, 49]⟩] ∧ Str w' s (C + 1) ∧ W.grownBy w' (some s) from fun W b C hS hc hsb hb => Some_any s C [xb, ⟨#[]⟩, ⟨#[117, 49]⟩] _ W hS hc (RecR.of_blk hb rfl rfl (by simp) (by omega) hsb) (by simp) (by simp))
          have HPick := Lib.hid (show ∀ (W : World) (b : Nat) (C : Int), Str W s C → C ≤ 1000000 → s + 1 ≤ b → W.heap[b]? = some (.cells #[.int .i64 xv, .int .i64 (-1)] 3 (0, 0)) → Calls Tryz.prog 10 #[.pointer (some ⟨s, 0, none⟩), .slice (some ⟨b, 0, none⟩) 2 2] W fun e w' => ∃ r : Int, e = .returned (.int .i64 r) ∧ r ∈ [xv, -1] ∧ Str w' s (C + 1) ∧ W.grownBy w' (some s) from fun W b C hS hc hsb hb => Pick_any s C [xv, -1] _ W hS hc (Ints.of_blk hb rfl rfl (by simp) (by omega) hsb) (by simp) (by simp))
          have HOdd := Lib.hid (show ∀ (W : World) (C : Int), Str W s C → C ≤ 999999 → Calls Tryz.prog 83 #[.pointer (some ⟨s, 0, none⟩), .int .i64 0, .int .i64 10000] W fun e w' => ∃ r : Int, e = .returned (.int .i64 r) ∧ (-1099511627777 ≤ r ∧ r ≤ 1099511627777) ∧ Str w' s (C + 2) ∧ W.grownBy w' (some s) from fun W C hS hc => Odd_any s C 0 10000 W hS hc (by omega) (by omega) (by omega))
          go_wp2
          go_region_law (first
            | (refine step_goN rfl 58 #[.tmp 44, .tmp 49] _ rfl (enters_of Tryz.func58 (by kernel_rfl) rfl) #[.pointer (some ⟨s, 0, none⟩), .slice (some ⟨w4.heap.size, 0, none⟩) 3 3] (by simp [Act.eval]) _ (HSome.out _ _ _ (by first | exact (hS4.alloc _).drew | exact ((hS4.alloc _).alloc _).drew) (by omega) (by omega) (by first | exact blk_new w4 _ | exact blk_old (blk_new w4 _) _)) ?_; rintro e w5 ⟨nb, rfl, hnb, hS5, hG5⟩; refine ⟨_, rfl, ?_⟩; (first | (have hG45 := Gr.trans (Gr.alloc (Gr.refl w4 (some s)) _) (Gr.undrew hG5); have hB5 : True := trivial) | (have hG45 := Gr.trans (Gr.alloc (Gr.alloc (Gr.refl w4 (some s)) (.cells #[.string xb, .string ⟨#[]⟩, .string ⟨#[117, 49]⟩] 9)) (.cells #[.int .i64 xv, .int .i64 (-1)] 3)) (Gr.undrew hG5); have hB5 := Gr.blk (Gr.undrew hG5) (blk_new' (w4.alloc (.cells #[.string xb, .string ⟨#[]⟩, .string ⟨#[117, 49]⟩] 9)) (.cells #[.int .i64 xv, .int .i64 (-1)] 3) (g := w4.heap.size + 1) (by simp)) (by omega))); obtain ⟨⟨d0, d1, d2⟩, e0, e1, e2⟩ := HF.out w5 hG45; clear hG5; have ls5 := hS5.lt)
            | (refine step_goN rfl 58 #[.tmp 44, .tmp 49] _ rfl (enters_of Tryz.func58 (by kernel_rfl) rfl) #[.pointer (some ⟨s, 0, none⟩), .slice (some ⟨w4.heap.size + 1, 0, none⟩) 3 3] (by simp [Act.eval]) _ (HSome.out _ _ _ ((hS4.alloc (.cells #[.int .i64 xv, .int .i64 (-1)] 3)).alloc _).drew (by omega) (by omega) (blk_new' (w4.alloc (.cells #[.int .i64 xv, .int .i64 (-1)] 3)) _ (by simp))) ?_; rintro e w5 ⟨nb, rfl, hnb, hS5, hG5⟩; refine ⟨_, rfl, ?_⟩; have hG45 := Gr.trans (Gr.alloc (Gr.alloc (Gr.refl w4 (some s)) (.cells #[.int .i64 xv, .int .i64 (-1)] 3)) _) (Gr.undrew hG5); have hB5 := Gr.blk (Gr.undrew hG5) (blk_old (blk_new w4 (.cells #[.int .i64 xv, .int .i64 (-1)] 3)) _) (by omega); obtain ⟨⟨d0, d1, d2⟩, e0, e1, e2⟩ := HF.out w5 hG45; clear hG5; have ls5 := hS5.lt)
            | (refine step_goN rfl 83 #[.tmp 51, .const (.int .i64 0), .const (.int .i64 10000)] _ rfl (enters_of Tryz.func83 (by kernel_rfl) rfl) #[.pointer (some ⟨s, 0, none⟩), .int .i64 0, .int .i64 10000] (by simp [Act.eval]) _ (HOdd.out _ _ (by first | exact hS5 | exact hS5.alloc _) (by omega)) ?_; rintro e w6 ⟨nm, rfl, _, hS6, hG6⟩; refine ⟨_, rfl, ?_⟩; (first | (have hG46 := Gr.trans hG45 hG6; first | have hB6 := Gr.blk hG6 hB5 (by omega) | have hB6 : True := trivial) | (have hG46 := Gr.trans (Gr.alloc hG45 (.cells #[.int .i64 xv, .int .i64 (-1)] 3)) hG6; have hB6 := Gr.blk hG6 (blk_new w5 (.cells #[.int .i64 xv, .int .i64 (-1)] 3)) (by omega))); obtain ⟨⟨d0, d1, d2⟩, e0, e1, e2⟩ := HF.out w6 hG46; clear hG6; have ls6 := hS6.lt)
            | (refine step_goN rfl 10 #[.tmp 53, .tmp 58] _ rfl (enters_of Tryz.func10 (by kernel_rfl) rfl) #[.pointer (some ⟨s, 0, none⟩), .slice (some ⟨w6.heap.size, 0, none⟩) 2 2] (by simp [Act.eval]) _ (HPick.out _ _ _ (hS6.alloc (.cells #[.int .i64 xv, .int .i64 (-1)] 3)) (by omega) (by omega) (blk_new w6 _)) ?_; rintro e w7 ⟨nv, rfl, _, hS7, hG7⟩; refine ⟨_, rfl, ?_⟩; have hG47 := Gr.trans (Gr.alloc hG46 _) hG7; obtain ⟨⟨d0, d1, d2⟩, e0, e1, e2⟩ := HF.out w7 hG47; clear hG7)
            | (refine step_goN rfl 10 #[.tmp 53, .tmp 58] _ rfl (enters_of Tryz.func10 (by kernel_rfl) rfl) #[.pointer (some ⟨s, 0, none⟩), .slice (some ⟨w5.heap.size, 0, none⟩) 2 2] (by simp [Act.eval]) _ (HPick.out _ _ _ hS6 (by omega) (by omega) hB6) ?_; rintro e w7 ⟨nv, rfl, _, hS7, hG7⟩; refine ⟨_, rfl, ?_⟩; have hG47 := Gr.trans hG46 hG7; obtain ⟨⟨d0, d1, d2⟩, e0, e1, e2⟩ := HF.out w7 hG47; clear hG7)
            | (refine step_goN rfl 10 #[.tmp 53, .tmp 58] _ rfl (enters_of Tryz.func10 (by kernel_rfl) rfl) #[.pointer (some ⟨s, 0, none⟩), .slice (some ⟨w4.heap.size, 0, none⟩) 2 2] (by simp [Act.eval]) _ (HPick.out _ _ _ hS6 (by omega) (by omega) hB6) ?_; rintro e w7 ⟨nv, rfl, _, hS7, hG7⟩; refine ⟨_, rfl, ?_⟩; have hG47 := Gr.trans hG46 hG7; obtain ⟨⟨d0, d1, d2⟩, e0, e1, e2⟩ := HF.out w7 hG47; clear hG7)
            | (refine step_goN rfl 10 #[.tmp 53, .tmp 58] _ rfl (enters_of Tryz.func10 (by kernel_rfl) rfl) #[.pointer (some ⟨s, 0, none⟩), .slice (some ⟨w4.heap.size + 1, 0, none⟩) 2 2] (by simp [Act.eval]) _ (HPick.out _ _ _ hS6 (by omega) (by omega) hB6) ?_; rintro e w7 ⟨nv, rfl, _, hS7, hG7⟩; refine ⟨_, rfl, ?_⟩; have hG47 := Gr.trans hG46 hG7; obtain ⟨⟨d0, d1, d2⟩, e0, e1, e2⟩ := HF.out w7 hG47; clear hG7))
          all_goals (
            have hnb2 : nb.size ≤ 1000 := by
              simp only [List.mem_cons, List.not_mem_nil, or_false] at hnb
              rcases hnb with rfl | rfl | rfl
              · exact HX.out
              · decide
              · decide
            have hO7 := HO4.out.grown hG47 hs
            have hOs := OwnW.set hO7 HL0.out i (nb, nm, nv)
            have hgs := Gr.set (Gr.set (Gr.set (Gr.trans hg4 hG47) g (i * 3) (.inr hgB) (.string nb)) g (i * 3 + 1) (.inr hgB) (.int .i64 nm)) g (i * 3 + 2) (.inr hgB) (.int .i64 nv)
            have hSs := Str.far (Str.far (Str.far hS7 g (i * 3) (by omega) (.string nb)) g (i * 3 + 1) (by omega) (.int .i64 nm)) g (i * 3 + 2) (by omega) (.int .i64 nv)
            have hfin : ∀ y ∈ l.set i (nb, nm, nv), y.1.size ≤ 1000 := by
              intro y hy
              rcases List.mem_or_eq_of_mem_set hy with hy | rfl
              · exact hP.out.2 y hy
              · exact hnb2
            have HFI := Lib.hid hfin
            have hlen : (l.set i (nb, nm, nv)).length ≤ 6 := by rw [List.length_set]; have := hP.out.1; omega
            clear hfin
            go_wp2
            go_ret
            first
              | exact ⟨_, rfl, l.set i (nb, nm, nv), hOs, hlen, (by first | exact HFI.out | exact fun y z t h => HFI.out (y, z, t) h), hSs.mono (by omega), hgs⟩
              | exact ⟨_, l.set i (nb, nm, nv), rfl, hOs, hlen, (by first | exact HFI.out | exact fun y z t h => HFI.out (y, z, t) h), hSs.mono (by omega), hgs⟩)
end Go.Proofs.YtbkglhakhahfpaaGreatDoor
namespace Go.Proofs.YtbkglhakhahfpaaGreatDoor
open Go.RowKit Go.Sort

end Go.Proofs.YtbkglhakhahfpaaGreatDoor
namespace Go.Proofs.YtbkglhakhahfpaaGreatDoor
open Go.RowKit Go.Sort

theorem neqWk_no (x1 x2 x3 : _) (W : World) : (binOp .neq 138 (.agg #[.string x1, .int .i64 x2, .int .i64 x3]) (.agg #[.string x1, .int .i64 x2, .int .i64 x3])).run Tryz.prog W = .ok (.bool false) W := by
  go_simp
theorem neqWk_yes {x1 x2 x3 y1 y2 y3 : _} (hxy : ((x1, x2, x3) : ByteArray × Int × Int) ≠ (y1, y2, y3)) (W : World) : (binOp .neq 138 (.agg #[.string x1, .int .i64 x2, .int .i64 x3]) (.agg #[.string y1, .int .i64 y2, .int .i64 y3])).run Tryz.prog W = .ok (.bool true) W := by
  go_simp
  intro e1 e2 e3
  first
    | (exact hxy (by subst e1; subst e2; subst e3; rfl))
    | (have e1 := ba_inj e1; exact hxy (by subst e1; subst e2; subst e3; rfl))
end Go.Proofs.YtbkglhakhahfpaaGreatDoor
namespace Go.Proofs.YtbkglhakhahfpaaGreatDoor
open Go.RowKit Go.Sort

def wkG (m : Int) : List Wk → List Wk → Int
  | _, [] => if inB 0 m 10000 = true then 0 else 1
  | pre, x :: r => if keyB x.1 = false then 5 else if inB 0 x.2.1 10000 = false then 1 else if inB 0 x.2.2 1000000000 = false then 1 else if (pre.any fun y => y.1.toList == x.1.toList) = true then 6 else wkG m (pre ++ [x]) r
/-- what is wrong with works and minutes. -/
def wkF (ws : List Wk) (m : Int) : Int := if 14 < ws.length then 2 else wkG m [] ws
theorem wkG_go {m : Int} {ws : List Wk} {k : Nat} {x : Wk} (hx : ws[k]? = some x) : wkG m (ws.take k) (ws.drop k) = if keyB x.1 = false then 5 else if inB 0 x.2.1 10000 = false then 1 else if inB 0 x.2.2 1000000000 = false then 1 else if ((ws.take k).any fun y => y.1.toList == x.1.toList) = true then 6 else wkG m (ws.take (k + 1)) (ws.drop (k + 1)) := by
  obtain ⟨hk, he⟩ := List.getElem?_eq_some_iff.1 hx
  rw [List.drop_eq_getElem_cons hk, he, wkG, take_snoc hx]
theorem wkG_end {m : Int} {ws : List Wk} : wkG m (ws.take ws.length) (ws.drop ws.length) = if inB 0 m 10000 = true then 0 else 1 := by rw [List.drop_length]; rfl
theorem wkG_good {m : Int} : ∀ (r pre : List Wk), GoodW keyB pre → (pre ++ r).length ≤ 14 → wkG m pre r = 0 → GoodW keyB (pre ++ r) ∧ 0 ≤ m ∧ m ≤ 10000
  | [], pre, h, _, h0 => by
    rw [List.append_nil]
    refine ⟨h, ?_⟩
    unfold wkG at h0
    split at h0
    · rename_i hm; unfold inB at hm; simpa using hm
    · cases h0
  | x :: r, pre, h, hl, h0 => by
    rw [wkG] at h0
    split at h0
    · cases h0
    rename_i h1
    split at h0
    · cases h0
    rename_i h2
    split at h0
    · cases h0
    rename_i h3
    split at h0
    · cases h0
    rename_i h4
    have hg := GoodW.snoc (key := keyB) (ws := pre ++ x :: r) (k := pre.length) (x := x) (by rw [List.take_left']; exact h; rfl) (by simp) (by simpa using h1) (by unfold inB at h2; simpa using h2) (by unfold inB at h3; simpa using h3) (by simp at hl; omega) (by rw [List.take_left' rfl]; simpa using h4)
    have e : (pre ++ x :: r).take (pre.length + 1) = pre ++ [x] := by
      rw [List.take_append, List.take_of_length_le (by omega)]; simp
    rw [e] at hg
    have := wkG_good r (pre ++ [x]) hg (by simpa using hl) h0
    simpa using this
theorem wkF_good {ws : List Wk} {m : Int} (h : wkF ws m = 0) : GoodW keyB ws ∧ 0 ≤ m ∧ m ≤ 10000 := by
  unfold wkF at h
  split at h
  · cases h
  · exact wkG_good ws [] ⟨by simp, by simp, fun i j x y _ h => by simp at h⟩ (by simp; omega) h
set_option maxHeartbeats 8000000 in
set_option maxRecDepth 100000 in
theorem ChooseF_any (ws : List Wk) (m : Int) (vw : Value) (w : World) (hlen : ws.length ≤ 100) (hsz : ∀ x ∈ ws, x.1.size ≤ 1000) (rl : RecR TW w 0 vw ws) :
    Calls Tryz.prog 24 #[vw, .int .i64 m] w fun e w' => e = .returned (.int .i64 (wkF ws m)) ∧ Below w.heap.size w w' := by
  obtain ⟨a, cap, rfl, hc1, hc2⟩ := rl.form
  have hmf : ∀ (fn : Fn) (first cap : Array Value) (w : World), (Instr.makeFunc fn first cap).run Tryz.prog w = .ok (.func fn first cap) w := fun _ _ _ _ => rfl
  have HSZ := Lib.hid hsz
  clear hsz
  by_cases h14 : 14 < ws.length
  · have e1 : (14 : Int) < ws.length := by omega
    have HV : Hid (wkF ws m = 2) := Lib.hid (if_pos h14)
    go_enter Tryz.func24, Tryz.ntmps24
    go_wp2
    go_ret
    exact ⟨ret_int HV.out.symm, Below.refl _ _⟩
  · have e1 : ¬ (14 : Int) < ws.length := by omega
    have HV0 : Hid (wkF ws m = wkG m [] ws) := Lib.hid (if_neg h14)
    go_enter Tryz.func24, Tryz.ntmps24
    go_wp2
    go_loopw [12] (fun i wr => ∃ k : Nat, k ≤ ws.length ∧ i = .int .i64 k ∧ Hid (wkF ws m = wkG m (ws.take k) (ws.drop k)) ∧ Below w.heap.size w wr) (fun i _ => ws.length - (intOf i).toNat)
    case atStart => exact ⟨0, Nat.zero_le _, rfl, HV0, Below.refl _ _⟩
    case round =>
      obtain ⟨k, hk, rfl, hg, hb⟩ := hrel
      by_cases hlt : k < ws.length
      · obtain ⟨x, hx⟩ : ∃ x, ws[k]? = some x := ⟨_, List.getElem?_eq_getElem hlt⟩
        obtain ⟨b2, o2, hae, _, hl2, y1, y2, y3⟩ := works_at (rl.below hb) hx
        subst hae
        have hbn := Bl.alloc hb (.cells #[.string x.1, .int .i64 x.2.1, .int .i64 x.2.2] 138)
        have hnb := blk_new wr (.cells #[.string x.1, .int .i64 x.2.1, .int .i64 x.2.2] 138)
        have HK := Lib.hid (fun W => Key_any x.1 W (by have := HSZ.out x (List.mem_of_getElem? hx); omega))
        have HCT := Lib.hid (fun (W : World) (h1 : Below w.heap.size w W) (h2 : W.cell? ⟨wr.heap.size, 0, none⟩ = some (.string x.1)) => ContainsWR_any (ws.take k) (.slice (some ⟨b2, o2, none⟩) k cap) x.1 wr.heap.size W (by simp; omega) (rec_take (rl.below h1) (by omega)) h2)
        have HN := Lib.hid (hg.out.trans (wkG_go hx))
        clear hx
        obtain ⟨xb, xm, xv⟩ := x
        simp only at y1 y2 y3 hbn hnb HK HCT HN
        cases hkb : keyB xb
        · have HV : Hid (wkF ws m = 5) := Lib.hid (by rw [HN.out, if_pos hkb])
          rw [hkb] at HK
          clear hkb HN
          go_wp2_with fail
          refine (HK.out _).mono ?_
          rintro e w2 ⟨rfl, hb2⟩
          go_wp2
          go_ret
          exact ⟨ret_int HV.out.symm, Bl.trans hbn hb2⟩
        · have HKB := Lib.hid hkb
          rw [hkb] at HK
          clear hkb
          have HO1 := fun W => in_any xm 0 10000 W
          have HO2 := fun W => in_any xv 0 1000000000 W
          cases hm1 : inB 0 xm 10000
          · have HV : Hid (wkF ws m = 1) := Lib.hid (by rw [HN.out, if_neg (by rw [HKB.out]; decide), if_pos hm1])
            rw [hm1] at HO1
            have HO1 := Lib.hid HO1
            clear hm1 HO2
            go_wp2_with fail
            refine (HK.out _).mono ?_
            rintro e w2 ⟨rfl, hb2⟩
            have hn2 := blk_below hnb hb2
            have z1 := blk_cell hn2 1
            go_wp2_with fail
            refine (HO1.out _).mono ?_
            rintro e w' ⟨rfl, rfl⟩
            go_wp2
            go_ret
            exact ⟨ret_int HV.out.symm, Bl.trans hbn hb2⟩
          · have HM1 := Lib.hid hm1
            rw [hm1] at HO1
            have HO1 := Lib.hid HO1
            clear hm1
            cases hv1 : inB 0 xv 1000000000
            · have HV : Hid (wkF ws m = 1) := Lib.hid (by rw [HN.out, if_neg (by rw [HKB.out]; decide), if_neg (by rw [HM1.out]; decide), if_pos hv1])
              rw [hv1] at HO2
              have HO2 := Lib.hid HO2
              clear hv1
              go_wp2_with fail
              refine (HK.out _).mono ?_
              rintro e w2 ⟨rfl, hb2⟩
              have hn2 := blk_below hnb hb2
              have z1 := blk_cell hn2 1
              have z2 := blk_cell hn2 2
              go_wp2_with fail
              refine (HO1.out _).mono ?_
              rintro e w' ⟨rfl, rfl⟩
              go_wp2_with fail
              refine (HO2.out _).mono ?_
              rintro e w' ⟨rfl, rfl⟩
              go_wp2
              go_ret
              exact ⟨ret_int HV.out.symm, Bl.trans hbn hb2⟩
            · have HN2 : Hid (wkF ws m = if ((ws.take k).any fun y => y.1.toList == xb.toList) = true then 6 else wkG m (ws.take (k + 1)) (ws.drop (k + 1))) := Lib.hid (by rw [HN.out, if_neg (by rw [HKB.out]; decide), if_neg (by rw [HM1.out]; decide), if_neg (by rw [hv1]; decide)])
              rw [hv1] at HO2
              have HO2 := Lib.hid HO2
              clear hv1 HN
              generalize hany : ((ws.take k).any fun y => y.1.toList == xb.toList) = an at *
              clear hany
              cases an
              all_goals
                go_wp2_with fail
                refine (HK.out _).mono ?_
                rintro e w2 ⟨rfl, hb2⟩
                have hn2 := blk_below hnb hb2
                have z0 := blk_cell hn2 0
                have z1 := blk_cell hn2 1
                have z2 := blk_cell hn2 2
                have hb02 := Bl.trans hbn hb2
                go_wp2_with fail
                refine (HO1.out _).mono ?_
                rintro e w' ⟨rfl, rfl⟩
                go_wp2_with fail
                refine (HO2.out _).mono ?_
                rintro e w' ⟨rfl, rfl⟩
                go_wp2_with fail
                refine (HCT.out w2 hb02 z0).mono ?_
                rintro e w3 ⟨rfl, hb3⟩
                go_wp2
              · go_roundw
                case rel => exact ⟨k + 1, by omega, by go_num, Lib.hid (HN2.out.trans (by simp)), Bl.trans hb02 hb3⟩
                case measure => simp [intOf]; omega
              · go_ret
                exact ⟨ret_int (by rw [HN2.out]; simp), Bl.trans hb02 hb3⟩
      · have hk2 : k = ws.length := by omega
        subst hk2
        have HE := Lib.hid (hg.out.trans wkG_end)
        have HSP : Hid (spanF m 0 10000 = wkF ws m) := Lib.hid (by
          rw [HE.out]; unfold spanF inB
          by_cases hc : 0 ≤ m ∧ m ≤ 10000
          · rw [if_pos hc, if_pos (by simp; omega)]
          · rw [if_neg hc, if_neg (by simp; omega)])
        go_wp2_with fail
        refine (SpanFault_any m 0 10000 _).mono ?_
        rintro e w' ⟨rfl, rfl⟩
        go_wp2
        go_ret
        exact ⟨ret_int HSP.out, hb⟩
set_option maxHeartbeats 8000000 in
set_option maxRecDepth 100000 in
theorem worksF_any (ws : List Wk) (m : Int) (vw : Value) (w : World) (hlen : ws.length ≤ 100) (hsz : ∀ x ∈ ws, x.1.size ≤ 1000) (rl : RecR TW w 0 vw ws) :
    Calls Tryz.prog 115 #[vw, .int .i64 m] w fun e w' => e = .returned (.int .i64 (wkF ws m)) ∧ Below w.heap.size w w' := by
  obtain ⟨a, cap, rfl, hc1, hc2⟩ := rl.form
  have hmf : ∀ (fn : Fn) (first cap : Array Value) (w : World), (Instr.makeFunc fn first cap).run Tryz.prog w = .ok (.func fn first cap) w := fun _ _ _ _ => rfl
  have HSZ := Lib.hid hsz
  clear hsz
  by_cases h14 : 14 < ws.length
  · have e1 : (14 : Int) < ws.length := by omega
    have HV : Hid (wkF ws m = 2) := Lib.hid (if_pos h14)
    go_enter Tryz.func115, Tryz.ntmps115
    go_wp2
    go_ret
    exact ⟨ret_int HV.out.symm, Below.refl _ _⟩
  · have e1 : ¬ (14 : Int) < ws.length := by omega
    have HV0 : Hid (wkF ws m = wkG m [] ws) := Lib.hid (if_neg h14)
    go_enter Tryz.func115, Tryz.ntmps115
    go_wp2
    go_loopw [12] (fun i wr => ∃ k : Nat, k ≤ ws.length ∧ i = .int .i64 k ∧ Hid (wkF ws m = wkG m (ws.take k) (ws.drop k)) ∧ Below w.heap.size w wr) (fun i _ => ws.length - (intOf i).toNat)
    case atStart => exact ⟨0, Nat.zero_le _, rfl, HV0, Below.refl _ _⟩
    case round =>
      obtain ⟨k, hk, rfl, hg, hb⟩ := hrel
      by_cases hlt : k < ws.length
      · obtain ⟨x, hx⟩ : ∃ x, ws[k]? = some x := ⟨_, List.getElem?_eq_getElem hlt⟩
        obtain ⟨b2, o2, hae, _, hl2, y1, y2, y3⟩ := works_at (rl.below hb) hx
        subst hae
        have hbn := Bl.alloc hb (.cells #[.string x.1, .int .i64 x.2.1, .int .i64 x.2.2] 138)
        have hnb := blk_new wr (.cells #[.string x.1, .int .i64 x.2.1, .int .i64 x.2.2] 138)
        have HK := Lib.hid (fun W => IsKey_any x.1 W (by have := HSZ.out x (List.mem_of_getElem? hx); omega))
        have HCT := Lib.hid (fun (W : World) (h1 : Below w.heap.size w W) (h2 : W.cell? ⟨wr.heap.size, 0, none⟩ = some (.string x.1)) => ContainsWP_any (ws.take k) (.slice (some ⟨b2, o2, none⟩) k cap) x.1 wr.heap.size W (by simp; omega) (rec_take (rl.below h1) (by omega)) h2)
        have HN := Lib.hid (hg.out.trans (wkG_go hx))
        clear hx
        obtain ⟨xb, xm, xv⟩ := x
        simp only at y1 y2 y3 hbn hnb HK HCT HN
        cases hkb : keyB xb
        · have HV : Hid (wkF ws m = 5) := Lib.hid (by rw [HN.out, if_pos hkb])
          rw [hkb] at HK
          clear hkb HN
          go_wp2_with fail
          refine (HK.out _).mono ?_
          rintro e w2 ⟨rfl, hb2⟩
          go_wp2
          go_ret
          exact ⟨ret_int HV.out.symm, Bl.trans hbn hb2⟩
        · have HKB := Lib.hid hkb
          rw [hkb] at HK
          clear hkb
          have HO1 := fun W => Outside_any xm 0 10000 W
          have HO2 := fun W => Outside_any xv 0 1000000000 W
          cases hm1 : inB 0 xm 10000
          · have HV : Hid (wkF ws m = 1) := Lib.hid (by rw [HN.out, if_neg (by rw [HKB.out]; decide), if_pos hm1])
            rw [hm1] at HO1
            have HO1 := Lib.hid HO1
            clear hm1 HO2
            go_wp2_with fail
            refine (HK.out _).mono ?_
            rintro e w2 ⟨rfl, hb2⟩
            have hn2 := blk_below hnb hb2
            have z1 := blk_cell hn2 1
            go_wp2_with fail
            refine (HO1.out _).mono ?_
            rintro e w' ⟨rfl, rfl⟩
            go_wp2
            go_ret
            exact ⟨ret_int HV.out.symm, Bl.trans hbn hb2⟩
          · have HM1 := Lib.hid hm1
            rw [hm1] at HO1
            have HO1 := Lib.hid HO1
            clear hm1
            cases hv1 : inB 0 xv 1000000000
            · have HV : Hid (wkF ws m = 1) := Lib.hid (by rw [HN.out, if_neg (by rw [HKB.out]; decide), if_neg (by rw [HM1.out]; decide), if_pos hv1])
              rw [hv1] at HO2
              have HO2 := Lib.hid HO2
              clear hv1
              go_wp2_with fail
              refine (HK.out _).mono ?_
              rintro e w2 ⟨rfl, hb2⟩
              have hn2 := blk_below hnb hb2
              have z1 := blk_cell hn2 1
              have z2 := blk_cell hn2 2
              go_wp2_with fail
              refine (HO1.out _).mono ?_
              rintro e w' ⟨rfl, rfl⟩
              go_wp2_with fail
              refine (HO2.out _).mono ?_
              rintro e w' ⟨rfl, rfl⟩
              go_wp2
              go_ret
              exact ⟨ret_int HV.out.symm, Bl.trans hbn hb2⟩
            · have HN2 : Hid (wkF ws m = if ((ws.take k).any fun y => y.1.toList == xb.toList) = true then 6 else wkG m (ws.take (k + 1)) (ws.drop (k + 1))) := Lib.hid (by rw [HN.out, if_neg (by rw [HKB.out]; decide), if_neg (by rw [HM1.out]; decide), if_neg (by rw [hv1]; decide)])
              rw [hv1] at HO2
              have HO2 := Lib.hid HO2
              clear hv1 HN
              generalize hany : ((ws.take k).any fun y => y.1.toList == xb.toList) = an at *
              clear hany
              cases an
              all_goals
                go_wp2_with fail
                refine (HK.out _).mono ?_
                rintro e w2 ⟨rfl, hb2⟩
                have hn2 := blk_below hnb hb2
                have z0 := blk_cell hn2 0
                have z1 := blk_cell hn2 1
                have z2 := blk_cell hn2 2
                have hb02 := Bl.trans hbn hb2
                go_wp2_with fail
                refine (HO1.out _).mono ?_
                rintro e w' ⟨rfl, rfl⟩
                go_wp2_with fail
                refine (HO2.out _).mono ?_
                rintro e w' ⟨rfl, rfl⟩
                go_wp2_with fail
                refine (HCT.out w2 hb02 z0).mono ?_
                rintro e w3 ⟨rfl, hb3⟩
                go_wp2
              · go_roundw
                case rel => exact ⟨k + 1, by omega, by go_num, Lib.hid (HN2.out.trans (by simp)), Bl.trans hb02 hb3⟩
                case measure => simp [intOf]; omega
              · go_ret
                exact ⟨ret_int (by rw [HN2.out]; simp), Bl.trans hb02 hb3⟩
      · have hk2 : k = ws.length := by omega
        subst hk2
        have HE := Lib.hid (hg.out.trans wkG_end)
        have HO := fun W => Outside_any m 0 10000 W
        cases hmm : inB 0 m 10000
        all_goals (
          have HV := HE.out
          rw [hmm] at HO HV
          have HO := Lib.hid HO
          have HV := Lib.hid HV
          clear hmm
          go_wp2_with fail
          refine (HO.out _).mono ?_
          rintro e w' ⟨rfl, rfl⟩
          go_wp2
          go_ret
          exact ⟨ret_int (by rw [HV.out]; simp), hb⟩)
set_option maxHeartbeats 1000000 in
theorem ChooseBad_any (ws : List Wk) (m : Int) (vw : Value) (w : World) (hlen : ws.length ≤ 100) (hsz : ∀ x ∈ ws, x.1.size ≤ 1000) (rl : RecR TW w 0 vw ws) (h0 : wkF ws m ≠ 0) :
    Calls Tryz.prog 23 #[vw, .int .i64 m] w fun e w' => e = .returned (.tuple #[.slice none 0 0, .int .i64 0, .int .i64 (wkF ws m)]) ∧ Below w.heap.size w w' := by
  have HW := Lib.hid (worksF_any ws m vw w hlen hsz rl)
  obtain ⟨a, cap, rfl, hc1, hc2⟩ := rl.form
  generalize wkF ws m = F at *
  clear hsz rl
  go_enter Tryz.func23, Tryz.ntmps23
  go_wp2_with fail
  refine HW.out.mono ?_
  rintro e w1 ⟨rfl, hb1⟩
  go_wp2
  go_ret3
  exact ⟨rfl, hb1⟩
end Go.Proofs.YtbkglhakhahfpaaGreatDoor
namespace Go.Proofs.YtbkglhakhahfpaaGreatDoor
open Go.RowKit Go.Sort

def TIn : Rty Int := { e := 3, S := 22, k := 1, b := 8, z := .int .i64 0, f := fun x => [.int .i64 x] }
theorem TIn.ok : TIn.Ok := ⟨by kernel_rfl, Tryz.underlying22, rfl, by decide, fun _ => rfl, fun x u hu => by simp [TIn] at hu; subst hu; rfl, by decide⟩
theorem flat_int (l : List Int) : l.flatMap TIn.f = ics l := by
  induction l with
  | nil => rfl
  | cons a l ih => rw [List.flatMap_cons, ih]; rfl
theorem Own.rec {w : World} {B : Nat} {v : Value} {l : List Int} (h : Own w B v l) : OwnR TIn w B v l := by
  unfold OwnR
  rw [flat_int]; exact h
set_option maxHeartbeats 2000000 in
theorem spoilS_any (l : List ByteArray) (v : Value) (w : World) (B C : Nat) (hlen : l.length ≤ 100000) (hO : OwnR TS w B v l) (hC : ∀ g, v.ownBlock = some g → g < C) :
    Calls Tryz.prog 52 #[v] w fun e w' => e = .returned (.tuple #[]) ∧ Kp w w' (fun i => B ≤ i ∧ i < C) := by
  obtain ⟨a, n, cap, hv, hn⟩ : ∃ a n cap, v = .slice a n cap ∧ n = l.length := by obtain ⟨a, cap, hv, _, _⟩ := hO.form; exact ⟨a, _, cap, hv, rfl⟩
  subst hv
  have hn2 : n ≤ 100000 := by omega
  have HN := Lib.hid hn
  have HO := Lib.hid hO
  clear hO hn hlen
  go_enter Tryz.func52, Tryz.ntmps52
  go_wp2_with fail
  go_loopw [5] (fun i wr => ∃ (k : Nat) (l' : List ByteArray), k ≤ n ∧ i = .int .i64 k ∧ Hid (l'.length = n ∧ OwnR TS wr B (.slice a n cap) l') ∧ Kp w wr (fun i => B ≤ i ∧ i < C)) (fun i _ => n - (intOf i).toNat)
  case atStart => exact ⟨0, l, Nat.zero_le _, rfl, Lib.hid ⟨HN.out.symm, HO.out⟩, Kp.refl _ _⟩
  case round =>
    obtain ⟨k, l', hk, rfl, HI, hK⟩ := hrel
    by_cases hlt : k < n
    · obtain ⟨x, hx⟩ : ∃ x, l'[k]? = some x := ⟨_, List.getElem?_eq_getElem (by rw [HI.out.1]; exact hlt)⟩
      obtain ⟨g, cap2, cur, hv2, hB, hb2, _⟩ := HI.out.2.blk (by intro e; have := HI.out.1; rw [e] at this; simp at this; omega)
      obtain ⟨rfl, _, _⟩ := Value.slice.inj hv2
      have hgC : g < C := hC g rfl
      obtain ⟨c1, f1⟩ := HI.out.2.cellf (fo := 0) (v := .string x) TS.ok HI.out.1.symm hx rfl
      simp only [TS, Nat.mul_one, Nat.add_zero] at c1 f1
      have hs := HI.out.2.setf (fo := 0) (x' := ⟨#[115, 112, 111, 105, 108, 116]⟩) (v := .string ⟨#[115, 112, 111, 105, 108, 116]⟩) TS.ok HI.out.1.symm hx (by decide) rfl
      simp only [TS, Nat.mul_one, Nat.add_zero] at hs
      have HS := Lib.hid hs
      have hlb := blk_lt hb2
      have hK2 : Kp w (wr.setCell ⟨g, k, none⟩ (.string ⟨#[115, 112, 111, 105, 108, 116]⟩)) (fun i => B ≤ i ∧ i < C) := hK.trans ⟨rfl, rfl, rfl, by simp [World.setCell], fun i hi hx => Below.heap_setCell wr ⟨g, k, none⟩ _ i (by rintro rfl; exact hx ⟨hB, hgC⟩)⟩
      have hw1 : IntKind.i64.wrap ((k : Int) + 1) = ((k + 1 : Nat) : Int) := by rw [IntWalk.i64_in _ (by omega)]; omega
      have HL : Hid ((l'.set k ⟨#[115, 112, 111, 105, 108, 116]⟩).length = n) := Lib.hid (by rw [List.length_set]; exact HI.out.1)
      clear hs hx hb2 hK hv2
      go_wp2
      go_roundw
      case rel => exact ⟨k + 1, _, by omega, by go_num, Lib.hid ⟨HL.out, HS.out⟩, hK2⟩
      case measure => simp [intOf]; omega
    · go_wp2
      go_end0
      exact ⟨rfl, hK⟩
set_option maxHeartbeats 2000000 in
theorem spoilI_any (l : List Int) (v : Value) (w : World) (B C : Nat) (hlen : l.length ≤ 100000) (hO : OwnR TIn w B v l) (hC : ∀ g, v.ownBlock = some g → g < C) :
    Calls Tryz.prog 53 #[v] w fun e w' => e = .returned (.tuple #[]) ∧ Kp w w' (fun i => B ≤ i ∧ i < C) := by
  obtain ⟨a, n, cap, hv, hn⟩ : ∃ a n cap, v = .slice a n cap ∧ n = l.length := by obtain ⟨a, cap, hv, _, _⟩ := hO.form; exact ⟨a, _, cap, hv, rfl⟩
  subst hv
  have hn2 : n ≤ 100000 := by omega
  have HN := Lib.hid hn
  have HO := Lib.hid hO
  clear hO hn hlen
  go_enter Tryz.func53, Tryz.ntmps53
  go_wp2_with fail
  go_loopw [5] (fun i wr => ∃ (k : Nat) (l' : List Int), k ≤ n ∧ i = .int .i64 k ∧ Hid (l'.length = n ∧ OwnR TIn wr B (.slice a n cap) l') ∧ Kp w wr (fun i => B ≤ i ∧ i < C)) (fun i _ => n - (intOf i).toNat)
  case atStart => exact ⟨0, l, Nat.zero_le _, rfl, Lib.hid ⟨HN.out.symm, HO.out⟩, Kp.refl _ _⟩
  case round =>
    obtain ⟨k, l', hk, rfl, HI, hK⟩ := hrel
    by_cases hlt : k < n
    · obtain ⟨x, hx⟩ : ∃ x, l'[k]? = some x := ⟨_, List.getElem?_eq_getElem (by rw [HI.out.1]; exact hlt)⟩
      obtain ⟨g, cap2, cur, hv2, hB, hb2, _⟩ := HI.out.2.blk (by intro e; have := HI.out.1; rw [e] at this; simp at this; omega)
      obtain ⟨rfl, _, _⟩ := Value.slice.inj hv2
      have hgC : g < C := hC g rfl
      obtain ⟨c1, f1⟩ := HI.out.2.cellf (fo := 0) (v := .int .i64 x) TIn.ok HI.out.1.symm hx rfl
      simp only [TIn, Nat.mul_one, Nat.add_zero] at c1 f1
      have hs := HI.out.2.setf (fo := 0) (x' := 777) (v := .int .i64 777) TIn.ok HI.out.1.symm hx (by decide) rfl
      simp only [TIn, Nat.mul_one, Nat.add_zero] at hs
      have HS := Lib.hid hs
      have hlb := blk_lt hb2
      have hK2 : Kp w (wr.setCell ⟨g, k, none⟩ (.int .i64 777)) (fun i => B ≤ i ∧ i < C) := hK.trans ⟨rfl, rfl, rfl, by simp [World.setCell], fun i hi hx => Below.heap_setCell wr ⟨g, k, none⟩ _ i (by rintro rfl; exact hx ⟨hB, hgC⟩)⟩
      have hw1 : IntKind.i64.wrap ((k : Int) + 1) = ((k + 1 : Nat) : Int) := by rw [IntWalk.i64_in _ (by omega)]; omega
      have HL : Hid ((l'.set k 777).length = n) := Lib.hid (by rw [List.length_set]; exact HI.out.1)
      clear hs hx hb2 hK hv2
      go_wp2
      go_roundw
      case rel => exact ⟨k + 1, _, by omega, by go_num, Lib.hid ⟨HL.out, HS.out⟩, hK2⟩
      case measure => simp [intOf]; omega
    · go_wp2
      go_end0
      exact ⟨rfl, hK⟩
end Go.Proofs.YtbkglhakhahfpaaGreatDoor
namespace Go.Proofs.YtbkglhakhahfpaaGreatDoor
open Go.RowKit Go.Sort

def betB (ws : List Wk) (k s : Nat) : Bool := decide (orF [cmpI (sumO (wkV ws) (setL s ws.length)) (sumO (wkV ws) (setL k ws.length)), cmpI (sumO (wkM ws) (setL k ws.length)) (sumO (wkM ws) (setL s ws.length)), cmpL (nats (setL k ws.length)) (nats (setL s ws.length))] < 0)
/-- the best of the first sets. -/
def pickF (ws : List Wk) (m : Int) : Nat → Nat
  | 0 => 0
  | k + 1 => if sumO (wkM ws) (setL k ws.length) ≤ m ∧ betB ws k (pickF ws m k) = true then k else pickF ws m k
/-- and it is that one. -/
def BestE (ws : List Wk) (m : Int) (k s : Nat) : Prop := s = pickF ws m k
theorem BestE.take {ws : List Wk} {m : Int} {k s : Nat} (h : BestE ws m k s) (hf : sumO (wkM ws) (setL k ws.length) ≤ m) (hv : betB ws k s = true) : BestE ws m (k + 1) k := by
  unfold BestE at h ⊢
  rw [pickF, ← h, if_pos ⟨hf, hv⟩]
theorem BestE.leave {ws : List Wk} {m : Int} {k s : Nat} (h : BestE ws m k s) (hn : ¬ (sumO (wkM ws) (setL k ws.length) ≤ m ∧ betB ws k s = true)) : BestE ws m (k + 1) s := by
  unfold BestE at h ⊢
  rw [pickF, ← h, if_neg hn]
set_option maxHeartbeats 16000000 in
set_option maxRecDepth 100000 in
theorem ChooseE_any (ws : List Wk) (m : Int) (vw : Value) (w : World) (hG : GoodW keyB ws) (hm0 : 0 ≤ m) (hm1 : m ≤ 10000) (hsz : ∀ x ∈ ws, x.1.size ≤ 1000) (rl : RecR TW w 0 vw ws) :
    Calls Tryz.prog 23 #[vw, .int .i64 m] w fun e w' => (∃ (s : Nat) (vr : Value), e = .returned (.tuple #[vr, .int .i64 (sumO (wkV ws) (setL s ws.length)), .int .i64 0]) ∧ Own w' w.heap.size vr (nats (setL s ws.length)) ∧ BestE ws m (2 ^ ws.length) s) ∧ Below w.heap.size w w' := by
  obtain ⟨a, cap, rfl, hc1, hc2⟩ := rl.form
  have hn := hG.len
  have HG := Lib.hid hG
  have HWF := Lib.hid (worksFault_any ws m _ w hG hm0 hm1 hsz rl)
  have hpw : pw ws.length ≤ 16384 := by
    unfold pw
    exact Nat.le_trans (Nat.pow_le_pow_right (by omega) hn) (by simp)
  have hshl := wrap_pw ws.length (by omega)
  have HZ : Hid (setL 0 ws.length = []) := Lib.hid (setL_zero _)
  have HM0 := Lib.hid hm0
  clear hG hsz
  go_enter Tryz.func23, Tryz.ntmps23
  go_wp2_with fail
  refine HWF.out.mono ?_
  rintro e w1 ⟨rfl, hb1⟩
  have rl1 := rl.below hb1
  have hbx := blk_new w1 (.cells #[.slice none 0 0, .int .i64 0, .int .i64 0] 185)
  have hba := Bl.alloc (Below.refl w1.heap.size w1) (.cells #[.slice none 0 0, .int .i64 0, .int .i64 0] 185)
  have hza : w1.heap.size + 1 ≤ (w1.alloc (.cells #[.slice none 0 0, .int .i64 0, .int .i64 0] 185)).heap.size := by simp
  clear rl HWF
  go_wp2_with fail
  go_loopg [22] (pw ws.length) (fun gk i wr => ∃ (k s : Nat) (ba : Option Addr) (bc : Nat), gk = pw ws.length - k ∧ k ≤ pw ws.length ∧ i = .int .i64 k ∧ wr.heap[w1.heap.size]? = some (.cells #[.slice ba (setL s ws.length).length bc, .int .i64 (sumO (wkV ws) (setL s ws.length)), .int .i64 (sumO (wkM ws) (setL s ws.length))] 185 (0, 0)) ∧ Own wr (w1.heap.size + 1) (.slice ba (setL s ws.length).length bc) (nats (setL s ws.length)) ∧ Hid (BestE ws m k s) ∧ Below w1.heap.size w1 wr ∧ w1.heap.size + 1 ≤ wr.heap.size)
  case atStart => exact ⟨0, 0, none, 0, rfl, Nat.zero_le _, rfl, by rw [HZ.out]; exact hbx, by rw [HZ.out]; exact Own.nil _ _, Lib.hid ((rfl : BestE ws m 0 0)), hba, hza⟩
  case round =>
    obtain ⟨k, s, ba, bc, rfl, hk, rfl, hB, hO, hbest, hbr, hzr⟩ := hrel
    obtain ⟨bl, hbl⟩ : ∃ bl, bl = setL s ws.length := ⟨_, rfl⟩
    obtain ⟨bv, hbv⟩ : ∃ bv, bv = sumO (wkV ws) (setL s ws.length) := ⟨_, rfl⟩
    obtain ⟨bm, hbm⟩ : ∃ bm, bm = sumO (wkM ws) (setL s ws.length) := ⟨_, rfl⟩
    have hbll : bl.length ≤ 14 := by rw [hbl]; exact Nat.le_trans (setL_len s ws.length) hn
    rw [← hbv, ← hbm, ← hbl] at hB
    rw [← hbl] at hO
    have HBL := Lib.hid hbl
    have HBV := Lib.hid hbv
    have HBM := Lib.hid hbm
    clear hbl hbv hbm
    by_cases hlt : k < pw ws.length
    · have hltI : (k : Int) < ((pw ws.length : Nat) : Int) := by omega
      have hw0 : IntKind.i64.wrap ((k : Int) + 1) = ((k + 1 : Nat) : Int) := by rw [IntWalk.i64_in _ (by omega)]; omega
      obtain ⟨wo, rfl⟩ : ∃ wo : World, wo = wr := ⟨_, rfl⟩
      go_wp2
      go_loopg [27] ws.length (fun gq j wx => ∃ (q : Nat) (ca : Option Addr) (cc : Nat), gq = ws.length - q ∧ q ≤ ws.length ∧ j = .int .i64 q ∧ wx.heap[wo.heap.size]? = some (.cells #[.slice ca (setL k q).length cc, .int .i64 (sumO (wkV ws) (setL k q)), .int .i64 (sumO (wkM ws) (setL k q))] 185 (0, 0)) ∧ Own wx (wo.heap.size + 1) (.slice ca (setL k q).length cc) (nats (setL k q)) ∧ Below wo.heap.size wo wx ∧ wo.heap.size + 1 ≤ wx.heap.size)
      case atStart => exact ⟨0, none, 0, rfl, Nat.zero_le _, rfl, blk_new wo _, Own.nil _ _, Bl.alloc (Below.refl _ _) _, by simp⟩
      case round =>
        obtain ⟨q, ca, cc, rfl, hq, rfl, hC, hOc, hbx, hzx⟩ := hrel
        have hsum := HG.out.sums k q hq
        have hcl0 := setL_len k q
        by_cases hqn : q < ws.length
        · obtain ⟨x, hx⟩ : ∃ x, ws[q]? = some x := ⟨_, List.getElem?_eq_getElem hqn⟩
          obtain ⟨b2, o2, hae, _, hl2, y1, y2, y3⟩ := works_at (rl1.below (Bl.trans hbr hbx)) hx
          subst hae
          have hxb := HG.out.all x (List.mem_of_getElem? hx)
          have HWM : Hid (wkM ws q = x.2.1) := Lib.hid (by unfold wkM; rw [hx]; rfl)
          have HWV : Hid (wkV ws q = x.2.2) := Lib.hid (by unfold wkV; rw [hx]; rfl)
          have r1 := op_shr k q (by omega)
          have r2 := bits_and1' k q (by omega)
          have hw1 : IntKind.i64.wrap ((q : Int) + 1) = ((q + 1 : Nat) : Int) := by rw [IntWalk.i64_in _ (by omega)]; omega
          obtain ⟨xb, xm, xv⟩ := x
          simp only at y1 y2 y3 HWM HWV hxb
          have hnb := blk_new wr (.cells #[.string xb, .int .i64 xm, .int .i64 xv] 138)
          have hCb := blk_old hC (.cells #[.string xb, .int .i64 xm, .int .i64 xv] 138)
          have hOb := hOc.alloc (.cells #[.string xb, .int .i64 xm, .int .i64 xv] 138)
          have hbb := Bl.alloc hbx (.cells #[.string xb, .int .i64 xm, .int .i64 xv] 138)
          have hzb : wo.heap.size + 1 ≤ (wr.alloc (.cells #[.string xb, .int .i64 xm, .int .i64 xv] 138)).heap.size := by simp; omega
          clear hx
          cases hbit : k.testBit q
          · have r3 := bitN_not hbit
            have HS := Lib.hid (setL_no hbit)
            clear hbit
            go_wp2
            go_roundg (ws.length - (q + 1))
            case rel => exact ⟨q + 1, ca, cc, rfl, by omega, by go_num, by rw [HS.out]; exact hCb, by rw [HS.out]; exact hOb, hbb, hzb⟩
            case measure => omega
          · have r3 := bitN_is hbit
            have HS := Lib.hid (setL_yes hbit)
            have HSV := Lib.hid (sumO_snoc (wkV ws) (setL k q) q)
            have HSM := Lib.hid (sumO_snoc (wkM ws) (setL k q) q)
            rw [HWV.out] at HSV
            rw [HWM.out] at HSM
            have hovn : ∀ g, (Value.slice ca (setL k q).length cc).ownBlock = some g → g < wr.heap.size := fun g e => (own_aboveI hOc g e).2
            have HOV := Lib.hid hovn
            clear hbit hovn hOc
            generalize setL k q = cl at *
            generalize sumO (wkV ws) cl = cv at *
            generalize sumO (wkM ws) cl = cm at *
            have hw2 : IntKind.i64.wrap (cv + xv) = cv + xv := IntWalk.i64_in _ (by omega)
            have hw3 : IntKind.i64.wrap (cm + xm) = cm + xm := IntWalk.i64_in _ (by omega)
            have k0 := blk_cell hCb 0
            go_wp2_with (at_builtin; refine wp_app_int rfl _ _ rfl (wo.heap.size + 1) _ (nats cl) rfl (hOb.alloc _) (wr.heap.size + 1) 1 (q : Int) rfl (by rw [blk_cell (blk_new' _ _ (by simp)) 0]; rfl) (by rw [nats_len]; omega) (by simp; omega) ?_)
            intro v3 w3 hO3 hg3 hb3
            have hC3 : w3.heap[wo.heap.size]? = _ := (hb3.block wo.heap.size (Nat.lt_succ_self _)).trans (blk_old hCb (.cells #[.int .i64 q] 3))
            have hn3 : w3.heap[wr.heap.size]? = _ := (hg3.block wr.heap.size (by simp; omega) (fun e => by have := HOV.out _ e.symm; omega)).trans (blk_old hnb (.cells #[.int .i64 q] 3))
            rw [← nats_app] at hO3
            obtain ⟨da, dc, hv3⟩ := own_formI hO3
            rw [List.length_append, List.length_singleton] at hv3
            subst hv3
            have k1 := blk_cell hC3 1
            have k2 := blk_cell hC3 2
            have k00 := blk_cell hC3 0
            have f0 := blk_free hC3 0
            have f1 := blk_free hC3 1
            have f2 := blk_free hC3 2
            have z1 := blk_cell hn3 1
            have z2 := blk_cell hn3 2
            have hCs := blk_set (blk_set (blk_set hC3 0 (.slice da (cl.length + 1) dc)) 1 (.int .i64 (cv + xv))) 2 (.int .i64 (cm + xm))
            have hOs := own_far (own_far (own_far hO3 (Nat.lt_succ_self wo.heap.size) 0 (.slice da (cl.length + 1) dc)) (Nat.lt_succ_self wo.heap.size) 1 (.int .i64 (cv + xv))) (Nat.lt_succ_self wo.heap.size) 2 (.int .i64 (cm + xm))
            have hb13 : Below wo.heap.size wo w3 := (Bl.alloc hbb (.cells #[.int .i64 q] 3)).trans (hb3.mono (by omega))
            have hbs := Bl.set (Bl.set (Bl.set hb13 wo.heap.size 0 (Nat.le_refl _) (.slice da (cl.length + 1) dc)) wo.heap.size 1 (Nat.le_refl _) (.int .i64 (cv + xv))) wo.heap.size 2 (Nat.le_refl _) (.int .i64 (cm + xm))
            have hzs : wo.heap.size + 1 ≤ (((w3.setCell ⟨wo.heap.size, 0, none⟩ (.slice da (cl.length + 1) dc)).setCell ⟨wo.heap.size, 1, none⟩ (.int .i64 (cv + xv))).setCell ⟨wo.heap.size, 2, none⟩ (.int .i64 (cm + xm))).heap.size := by have := blk_lt hC3; simp; omega
            clear hO3 hg3 hb3 hb13
            go_wp2
            go_roundg (ws.length - (q + 1))
            case rel => exact ⟨q + 1, da, dc, rfl, by omega, by go_num, by rw [HS.out, HSV.out, HSM.out, List.length_append, List.length_singleton]; exact hCs, by rw [HS.out, List.length_append, List.length_singleton]; exact hOs, hbs, hzs⟩
            case measure => omega
        · have hq2 : q = ws.length := by omega
          subst hq2
          have hB2 : wr.heap[w1.heap.size]? = _ := (hbx.block w1.heap.size (blk_lt hB)).trans hB
          have hO2 := hO.below hbx
          have HLV : Hid (∀ h : ¬ sumO (wkM ws) (setL k ws.length) ≤ m, BestE ws m (k + 1) s) := Lib.hid (fun h => hbest.out.leave fun h' => absurd h'.1 h)
          have HLV2 : Hid (decide (orF [cmpI bv (sumO (wkV ws) (setL k ws.length)), cmpI (sumO (wkM ws) (setL k ws.length)) bm, cmpL (nats (setL k ws.length)) (nats bl)] < 0) = false → BestE ws m (k + 1) s) := Lib.hid (fun h => hbest.out.leave fun h' => by
            have h2 := h'.2
            unfold betB at h2
            rw [← HBV.out, ← HBM.out, ← HBL.out, h] at h2; cases h2)
          have HTK : Hid (sumO (wkM ws) (setL k ws.length) ≤ m → decide (orF [cmpI bv (sumO (wkV ws) (setL k ws.length)), cmpI (sumO (wkM ws) (setL k ws.length)) bm, cmpL (nats (setL k ws.length)) (nats bl)] < 0) = true → BestE ws m (k + 1) k) := Lib.hid (fun h h' => hbest.out.take h (by unfold betB; rw [← HBV.out, ← HBM.out, ← HBL.out]; exact h'))
          have hbw := Bl.trans hbr hbx
          have hzw : w1.heap.size + 1 ≤ wr.heap.size := by omega
          obtain ⟨cl, hcl⟩ : ∃ cl, cl = setL k ws.length := ⟨_, rfl⟩
          obtain ⟨cv, hcv⟩ : ∃ cv, cv = sumO (wkV ws) (setL k ws.length) := ⟨_, rfl⟩
          obtain ⟨cm, hcm⟩ : ∃ cm, cm = sumO (wkM ws) (setL k ws.length) := ⟨_, rfl⟩
          rw [← hcv, ← hcm, ← hcl] at hC
          rw [← hcl] at hOc
          rw [← hcm] at HLV HTK HLV2
          rw [← hcv] at HLV2 HTK
          rw [← hcl] at HLV2 HTK
          have HCLQ := Lib.hid hcl
          have HCV := Lib.hid hcv
          have HCM := Lib.hid hcm
          have hcll : cl.length ≤ 14 := by rw [hcl]; omega
          clear hcl hcv hcm hsum hcl0
          have c0 := blk_cell hC 0
          have c1 := blk_cell hC 1
          have c2 := blk_cell hC 2
          have b0 := blk_cell hB2 0
          have b1 := blk_cell hB2 1
          have b2 := blk_cell hB2 2
          have HBT := Lib.hid (better_any (nats cl) (nats bl) cv cm bv bm _ _ wr (by rw [nats_len]; omega) (by rw [nats_len]; omega) hOc.ints0 hO2.ints0)
          by_cases hfe : cm ≤ m
          · generalize hbt : decide (orF [cmpI bv cv, cmpI cm bm, cmpL (nats cl) (nats bl)] < 0) = bt at *
            have HT := Lib.hid hbt
            clear hbt
            go_wp2_with fail
            refine HBT.out.mono ?_
            rintro e w5 ⟨rfl, hb5⟩
            have hC5 := blk_below hC hb5
            have hB5 := blk_below hB2 hb5
            have hO5 := hO2.below hb5
            have hOc5 := hOc.below hb5
            have hbw5 := Bl.trans hbw hb5
            have hz5 : w1.heap.size + 1 ≤ w5.heap.size := Nat.le_trans hzw hb5.size
            cases bt
            · have HL := Lib.hid (HLV2.out rfl)
              go_wp2
              go_roundg (pw ws.length - (k + 1))
              case rel => exact ⟨k + 1, s, ba, bc, rfl, by omega, by go_num, by rw [← HBV.out, ← HBM.out, ← HBL.out]; exact hB5, by rw [← HBL.out]; exact hO5, HL, hbw5, hz5⟩
              case measure => omega
            · have HL := Lib.hid (HTK.out hfe rfl)
              have d0 := blk_cell hC5 0
              have d1 := blk_cell hC5 1
              have d2 := blk_cell hC5 2
              have g0 := blk_cell hB5 0
              have g1 := blk_cell hB5 1
              have g2 := blk_cell hB5 2
              have f0 := blk_free hB5 0
              have f1 := blk_free hB5 1
              have f2 := blk_free hB5 2
              have hBs := blk_set (blk_set (blk_set hB5 0 (.slice ca cl.length cc)) 1 (.int .i64 cv)) 2 (.int .i64 cm)
              have hOd := own_base hOc5 (show w1.heap.size + 1 ≤ wo.heap.size + 1 by omega)
              have hOs := own_far (own_far (own_far hOd (Nat.lt_succ_self w1.heap.size) 0 (.slice ca cl.length cc)) (Nat.lt_succ_self w1.heap.size) 1 (.int .i64 cv)) (Nat.lt_succ_self w1.heap.size) 2 (.int .i64 cm)
              have hbs := Bl.set (Bl.set (Bl.set hbw5 w1.heap.size 0 (Nat.le_refl _) (.slice ca cl.length cc)) w1.heap.size 1 (Nat.le_refl _) (.int .i64 cv)) w1.heap.size 2 (Nat.le_refl _) (.int .i64 cm)
              have hzs : w1.heap.size + 1 ≤ (((w5.setCell ⟨w1.heap.size, 0, none⟩ (.slice ca cl.length cc)).setCell ⟨w1.heap.size, 1, none⟩ (.int .i64 cv)).setCell ⟨w1.heap.size, 2, none⟩ (.int .i64 cm)).heap.size := by simp; omega
              go_wp2
              go_roundg (pw ws.length - (k + 1))
              case rel => exact ⟨k + 1, k, ca, cc, rfl, by omega, by go_num, by rw [← HCV.out, ← HCM.out, ← HCLQ.out]; exact hBs, by rw [← HCLQ.out]; exact hOs, HL, hbs, hzs⟩
              case measure => omega
          · have HL := Lib.hid (HLV.out hfe)
            go_wp2
            go_roundg (pw ws.length - (k + 1))
            case rel => exact ⟨k + 1, s, ba, bc, rfl, by omega, by go_num, by rw [← HBV.out, ← HBM.out, ← HBL.out]; exact hB2, by rw [← HBL.out]; exact hO2, HL, hbw, hzw⟩
            case measure => omega
    · obtain rfl : k = pw ws.length := by omega
      have b0 := blk_cell hB 0
      have b1 := blk_cell hB 1
      have hbw := Bl.trans hb1 hbr
      have hbz := hb1.size
      have HBS : Hid (BestE ws m (2 ^ ws.length) s) := Lib.hid hbest.out
      go_wp2
      go_region
      all_goals (
        go_wp2
        go_ret3
        exact ⟨⟨s, _, by rw [← HBV.out] <;> rfl, by rw [← HBL.out]; exact own_base (hO.below (Below.drew (Below.refl _ _))) (by omega), HBS.out⟩, Below.drew hbw⟩)
end Go.Proofs.YtbkglhakhahfpaaGreatDoor
namespace Go.Proofs.YtbkglhakhahfpaaGreatDoor
open Go.RowKit Go.Sort

theorem rem_bit (s k : Nat) : Int.tmod ((s : Int) / 2 ^ k) 2 = ((bitN s k : Nat) : Int) := by
  have e : (s : Int) / 2 ^ k = ((s / 2 ^ k : Nat) : Int) := by simp
  rw [e]
  show (((s / 2 ^ k) % 2 : Nat) : Int) = _
  unfold bitN
  rw [Nat.testBit_eq_decide_div_mod_eq]
  have := Nat.mod_two_eq_zero_or_one (s / 2 ^ k)
  rcases this with h | h <;> rw [h] <;> rfl
theorem pickF_lt (ws : List Wk) {m : Int} : ∀ k, pickF ws m k = 0 ∨ pickF ws m k < k
  | 0 => .inl rfl
  | k + 1 => by
    rw [pickF]
    split
    · exact .inr (Nat.lt_succ_self k)
    · rcases pickF_lt ws (m := m) k with h | h
      · exact .inl h
      · exact .inr (by omega)
/-- the most so far: none ahead of the first set. -/
def mostF (ws : List Wk) (m : Int) (k : Nat) : Int := if k = 0 then -1 else sumO (wkV ws) (setL (pickF ws m k) ws.length)
set_option maxHeartbeats 16000000 in
set_option maxRecDepth 100000 in
theorem Chosen_any (ws : List Wk) (m : Int) (vw : Value) (w : World) (hG : GoodW keyB ws) (hm0 : 0 ≤ m) (hm1 : m ≤ 10000) (rl : RecR TW w 0 vw ws) :
    Calls Tryz.prog 26 #[vw, .int .i64 m] w fun e w' => (∃ vr : Value, e = .returned (.tuple #[vr, .int .i64 (sumO (wkV ws) (setL (pickF ws m (2 ^ ws.length)) ws.length))]) ∧ Own w' w.heap.size vr (nats (setL (pickF ws m (2 ^ ws.length)) ws.length))) ∧ Below w.heap.size w w' := by
  obtain ⟨a, cap, rfl, hc1, hc2⟩ := rl.form
  have hn := hG.len
  have HG := Lib.hid hG
  have hpw : pw ws.length ≤ 16384 := by
    unfold pw
    exact Nat.le_trans (Nat.pow_le_pow_right (by omega) hn) (by simp)
  have hshl := wrap_pw ws.length (by omega)
  have HZ : Hid (setL 0 ws.length = []) := Lib.hid (setL_zero _)
  have HM0 := Lib.hid hm0
  have rl1 := rl
  clear hG rl
  go_enter Tryz.func26, Tryz.ntmps26
  go_wp2_with fail
  go_loopg [6, 7, 8, 18] (pw ws.length) (fun gk bv mo le i wr => ∃ (k : Nat) (ba : Option Addr) (bc : Nat) (bl : List Nat) (bm cm : Int), gk = pw ws.length - k ∧ k ≤ pw ws.length ∧ i = .int .i64 k ∧ bv = .slice ba bl.length bc ∧ mo = .int .i64 bm ∧ le = .int .i64 cm ∧ Own wr w.heap.size (.slice ba bl.length bc) (nats bl) ∧ Hid (bl = setL (pickF ws m k) ws.length ∧ bm = mostF ws m k ∧ cm = sumO (wkM ws) (setL (pickF ws m k) ws.length)) ∧ Below w.heap.size w wr)
  case atStart => exact ⟨0, none, 0, [], -1, 0, rfl, Nat.zero_le _, rfl, rfl, rfl, rfl, Own.nil _ _, Lib.hid ⟨by show [] = setL 0 _; rw [HZ.out], rfl, by show 0 = sumO _ (setL 0 _); rw [HZ.out]; rfl⟩, Below.refl _ _⟩
  case round =>
    obtain ⟨k, ba, bc, bl, bm, bmm, rfl, hk, rfl, rfl, rfl, rfl, hO, HB, hbr⟩ := hrel
    have hbll : bl.length ≤ 14 := by rw [HB.out.1]; exact Nat.le_trans (setL_len _ ws.length) hn
    by_cases hlt : k < pw ws.length
    · have hltI : (k : Int) < ((pw ws.length : Nat) : Int) := by omega
      have hw0 : IntKind.i64.wrap ((k : Int) + 1) = ((k + 1 : Nat) : Int) := by rw [IntWalk.i64_in _ (by omega)]; omega
      obtain ⟨wo, rfl⟩ : ∃ wo : World, wo = wr := ⟨_, rfl⟩
      go_wp2
      go_loopg [10, 11, 12, 23] ws.length (fun gq lv va lo j wx => ∃ (q : Nat) (ca : Option Addr) (cc : Nat), gq = ws.length - q ∧ q ≤ ws.length ∧ j = .int .i64 q ∧ lv = .slice ca (setL k q).length cc ∧ va = .int .i64 (sumO (wkV ws) (setL k q)) ∧ lo = .int .i64 (sumO (wkM ws) (setL k q)) ∧ Own wx wo.heap.size (.slice ca (setL k q).length cc) (nats (setL k q)) ∧ Below wo.heap.size wo wx)
      case atStart => exact ⟨0, none, 0, rfl, Nat.zero_le _, rfl, rfl, rfl, rfl, Own.nil _ _, Below.refl _ _⟩
      case round =>
        obtain ⟨q, ca, cc, rfl, hq, rfl, hlv, hva, hlo, hOc, hbx⟩ := hrel
        have hsum := HG.out.sums k q hq
        have hcl0 := setL_len k q
        by_cases hqn : q < ws.length
        · subst hlv
          subst hva
          subst hlo
          obtain ⟨x, hx⟩ : ∃ x, ws[q]? = some x := ⟨_, List.getElem?_eq_getElem hqn⟩
          obtain ⟨b2, o2, hae, _, hl2, y1, y2, y3⟩ := works_at (rl1.below (Bl.trans hbr hbx)) hx
          subst hae
          have hxb := HG.out.all x (List.mem_of_getElem? hx)
          have HWM : Hid (wkM ws q = x.2.1) := Lib.hid (by unfold wkM; rw [hx]; rfl)
          have HWV : Hid (wkV ws q = x.2.2) := Lib.hid (by unfold wkV; rw [hx]; rfl)
          have r1 := op_shr k q (by omega)
          have r2 := rem_bit k q
          have hw1 : IntKind.i64.wrap ((q : Int) + 1) = ((q + 1 : Nat) : Int) := by rw [IntWalk.i64_in _ (by omega)]; omega
          obtain ⟨xb, xm, xv⟩ := x
          simp only at y1 y2 y3 HWM HWV hxb
          have hnb := blk_new wr (.cells #[.string xb, .int .i64 xm, .int .i64 xv] 138)
          have hOb := hOc.alloc (.cells #[.string xb, .int .i64 xm, .int .i64 xv] 138)
          have hbb := Bl.alloc hbx (.cells #[.string xb, .int .i64 xm, .int .i64 xv] 138)
          have hzx := hbx.size
          clear hx
          cases hbit : k.testBit q
          · have r3 := bitN_not hbit
            have r4 : ¬ ((bitN k q : Nat) : Int) = 1 := by simpa using r3
            have HS := Lib.hid (setL_no hbit)
            clear hbit
            go_wp2
            go_roundg (ws.length - (q + 1))
            case rel => exact ⟨q + 1, ca, cc, rfl, by omega, by go_num, by rw [HS.out], by rw [HS.out], by rw [HS.out], by rw [HS.out]; exact hOb, hbb⟩
            case measure => omega
          · have r3 := bitN_is hbit
            have r4 : ((bitN k q : Nat) : Int) = 1 := by simpa using r3
            have HS := Lib.hid (setL_yes hbit)
            have HSV := Lib.hid (sumO_snoc (wkV ws) (setL k q) q)
            have HSM := Lib.hid (sumO_snoc (wkM ws) (setL k q) q)
            rw [HWV.out] at HSV
            rw [HWM.out] at HSM
            have hovn : ∀ g, (Value.slice ca (setL k q).length cc).ownBlock = some g → g < wr.heap.size := fun g e => (own_aboveI hOc g e).2
            have HOV := Lib.hid hovn
            clear hbit hovn hOc
            generalize setL k q = cl at *
            generalize sumO (wkV ws) cl = cv at *
            generalize sumO (wkM ws) cl = cm at *
            have hw2 : IntKind.i64.wrap (cv + xv) = cv + xv := IntWalk.i64_in _ (by omega)
            have hw3 : IntKind.i64.wrap (cm + xm) = cm + xm := IntWalk.i64_in _ (by omega)
            go_wp2_with (at_builtin; refine wp_app_int rfl _ _ rfl wo.heap.size _ (nats cl) rfl (hOb.alloc _) (wr.heap.size + 1) 1 (q : Int) rfl (by rw [blk_cell (blk_new' _ _ (by simp)) 0]; rfl) (by rw [nats_len]; omega) (by simp; omega) ?_)
            intro v3 w3 hO3 hg3 hb3
            have hn3 : w3.heap[wr.heap.size]? = _ := (hg3.block wr.heap.size (by simp; omega) (fun e => by have := HOV.out _ e.symm; omega)).trans (blk_old hnb (.cells #[.int .i64 q] 3))
            rw [← nats_app] at hO3
            obtain ⟨da, dc, hv3⟩ := own_formI hO3
            rw [List.length_append, List.length_singleton] at hv3
            subst hv3
            have z1 := blk_cell hn3 1
            have z2 := blk_cell hn3 2
            have l3 := blk_lt hn3
            have hb13 : Below wo.heap.size wo w3 := (Bl.alloc hbb (.cells #[.int .i64 q] 3)).trans hb3
            have HF := Lib.hid (And.intro hO3 hb13)
            clear hO3 hg3 hb3 hb13 hn3
            go_wp2
            go_roundg (ws.length - (q + 1))
            case rel => exact ⟨q + 1, da, dc, rfl, by omega, by go_num, by rw [HS.out, List.length_append, List.length_singleton], by rw [HS.out, HSV.out], by rw [HS.out, HSM.out], by rw [HS.out, List.length_append, List.length_singleton]; exact HF.out.1, HF.out.2⟩
            case measure => omega
        · have hq2 : q = ws.length := by omega
          subst hq2
          have hO2 := hO.below hbx
          have hbw := Bl.trans hbr hbx
          have hps := HG.out.sums (pickF ws m k) ws.length (Nat.le_refl _)
          obtain ⟨cl, hcl⟩ : ∃ cl, cl = setL k ws.length := ⟨_, rfl⟩
          obtain ⟨cv, hcv⟩ : ∃ cv, cv = sumO (wkV ws) (setL k ws.length) := ⟨_, rfl⟩
          obtain ⟨cm, hcm⟩ : ∃ cm, cm = sumO (wkM ws) (setL k ws.length) := ⟨_, rfl⟩
          rw [← hcl] at hOc hlv
          rw [← hcv] at hva
          rw [← hcm] at hlo
          subst hlv
          subst hva
          subst hlo
          have HC := Lib.hid (And.intro hcl (And.intro hcv hcm))
          have hcll : cl.length ≤ 14 := by rw [hcl]; omega
          have hnext : pickF ws m (k + 1) = if cm ≤ m ∧ betB ws k (pickF ws m k) = true then k else pickF ws m k := by rw [pickF, hcm]
          have hmn : mostF ws m (k + 1) = sumO (wkV ws) (setL (pickF ws m (k + 1)) ws.length) := by unfold mostF; rw [if_neg (Nat.succ_ne_zero k)]
          have HNX := Lib.hid (And.intro hnext hmn)
          have hk0 : k = 0 → cm ≤ m ∧ bm = -1 := fun e => by
            subst e
            refine ⟨?_, HB.out.2.1⟩
            rw [hcm, HZ.out]
            exact HM0.out
          have hk1 : k ≠ 0 → bm = sumO (wkV ws) (setL (pickF ws m k) ws.length) := fun e => by rw [HB.out.2.1]; unfold mostF; rw [if_neg e]
          -- taken
          have HTK : Hid (pickF ws m (k + 1) = k → cl = setL (pickF ws m (k + 1)) ws.length ∧ cv = mostF ws m (k + 1) ∧ cm = sumO (wkM ws) (setL (pickF ws m (k + 1)) ws.length)) := Lib.hid fun e => by
            rw [HNX.out.2, e]; exact HC.out
          -- left
          have HLV : Hid (k ≠ 0 → pickF ws m (k + 1) = pickF ws m k → bl = setL (pickF ws m (k + 1)) ws.length ∧ bm = mostF ws m (k + 1) ∧ bmm = sumO (wkM ws) (setL (pickF ws m (k + 1)) ws.length)) := Lib.hid fun h0 e => by
            rw [HNX.out.2, e]; exact ⟨HB.out.1, hk1 h0, HB.out.2.2⟩
          have hcb := hbw
          have hOc2 : Own wr w.heap.size (.slice ca cl.length cc) (nats cl) := own_base hOc hbr.size
          by_cases hfe : cm ≤ m
          · by_cases h0 : k = 0
            · have hb1 : bm = -1 := (hk0 h0).2
              subst hb1
              have HT := Lib.hid (HTK.out (by
                rw [HNX.out.1]
                split
                · rfl
                · subst h0; rfl))
              have HF := Lib.hid (And.intro hOc2 hcb)
              clear hnext hmn hk0 hk1 hcl hcv hcm hOc hOc2 hO2 hcb hbw hsum hcl0 hps hO hbx hbr
              go_wp2
              go_roundg (pw ws.length - (k + 1))
              case rel => exact ⟨k + 1, ca, cc, cl, cv, cm, rfl, by omega, by go_num, rfl, rfl, rfl, HF.out.1, HT, HF.out.2⟩
              case measure => omega
            · have hbm := hk1 h0
              have hb0 : ¬ bm < 0 := by rw [hbm]; omega
              have hbb0 : decide (bm < 0) = false := by simpa using hb0
              have HCL := Lib.hid (CompareI_any (nats cl) (nats bl) (.slice ca cl.length cc) (.slice ba bl.length bc) wr (by rw [nats_len]; omega) (by rw [nats_len]; omega) hOc.ints0 hO2.ints0)
              have hbet : betB ws k (pickF ws m k) = decide (orF [cmpI bm cv, cmpI cm bmm, cmpL (nats cl) (nats bl)] < 0) := by
                unfold betB
                rw [hbm, HB.out.2.2, HC.out.2.1, HC.out.2.2, HC.out.1, HB.out.1]
              have HOR := Lib.hid fun (c : Int) => OrQ_any [cmpI bm cv, cmpI cm bmm, c] (.slice (some ⟨wr.heap.size, 0, none⟩) 3 3) (wr.alloc (.cells #[.int .i64 (cmpI bm cv), .int .i64 (cmpI cm bmm), .int .i64 c] 3)) (by simp)
                (Ints.of_blk (show (wr.alloc (.cells #[.int .i64 (cmpI bm cv), .int .i64 (cmpI cm bmm), .int .i64 c] 3)).heap[wr.heap.size]? = _ from blk_new wr _) rfl rfl (Nat.le_refl _) (by simp) (Nat.zero_le _))
              generalize cmpL (nats cl) (nats bl) = c at *
              have hA : ∀ o, Below w.heap.size w (wr.alloc o) := fun o => Bl.alloc hcb o
              have HF := Lib.hid (And.intro hOc2 (And.intro (hO.below hbx) hcb))
              cases hbt : decide (orF [cmpI bm cv, cmpI cm bmm, c] < 0)
              · have HL := Lib.hid (HLV.out h0 (by rw [HNX.out.1, hbet, hbt, if_neg (by simp)]))
                clear hnext hmn hk0 hk1 hcl hcv hcm hOc hOc2 hO2 hcb hbw hsum hcl0 hps hO hbx hbr hbm hbet hA
                go_wp2_with (first
                  | (go_at_call 103; refine (cmpInt_any _ _ _).mono ?_; rintro e w' ⟨rfl, rfl⟩)
                  | (go_at_call 120; refine HCL.out.mono ?_; rintro e w' ⟨rfl, rfl⟩)
                  | (go_at_call 102; refine (HOR.out _).mono ?_; rintro e w' ⟨rfl, rfl⟩))
                go_roundg (pw ws.length - (k + 1))
                case rel => exact ⟨k + 1, ba, bc, bl, bm, bmm, rfl, by omega, by go_num, rfl, rfl, rfl, HF.out.2.1.alloc _, HL, Bl.alloc HF.out.2.2 _⟩
                case measure => omega
              · have HT := Lib.hid (HTK.out (by rw [HNX.out.1, hbet, hbt, if_pos ⟨hfe, rfl⟩]))
                clear hnext hmn hk0 hk1 hcl hcv hcm hOc hOc2 hO2 hcb hbw hsum hcl0 hps hO hbx hbr hbm hbet hA
                go_wp2_with (first
                  | (go_at_call 103; refine (cmpInt_any _ _ _).mono ?_; rintro e w' ⟨rfl, rfl⟩)
                  | (go_at_call 120; refine HCL.out.mono ?_; rintro e w' ⟨rfl, rfl⟩)
                  | (go_at_call 102; refine (HOR.out _).mono ?_; rintro e w' ⟨rfl, rfl⟩))
                go_roundg (pw ws.length - (k + 1))
                case rel => exact ⟨k + 1, ca, cc, cl, cv, cm, rfl, by omega, by go_num, rfl, rfl, rfl, HF.out.1.alloc _, HT, Bl.alloc HF.out.2.2 _⟩
                case measure => omega
          · have h0 : k ≠ 0 := fun e => hfe (hk0 e).1
            have HL := Lib.hid (HLV.out h0 (by rw [HNX.out.1, if_neg (fun h => hfe h.1)]))
            have HF := Lib.hid (And.intro (hO.below hbx) hcb)
            clear hnext hmn hk0 hk1 hcl hcv hcm hOc hOc2 hO2 hcb hbw hsum hcl0 hps hO hbx hbr
            go_wp2
            go_roundg (pw ws.length - (k + 1))
            case rel => exact ⟨k + 1, ba, bc, bl, bm, bmm, rfl, by omega, by go_num, rfl, rfl, rfl, HF.out.1, HL, HF.out.2⟩
            case measure => omega
    · obtain rfl : k = pw ws.length := by omega
      have hp : 0 < pw ws.length := Nat.two_pow_pos _
      have hbm : bm = sumO (wkV ws) (setL (pickF ws m (pw ws.length)) ws.length) := by rw [HB.out.2.1]; unfold mostF; rw [if_neg (by omega)]
      have HF := Lib.hid (And.intro hbm (And.intro HB.out.1 (And.intro hO hbr)))
      clear hbm hO hbr hp
      go_wp2
      go_ret2
      exact ⟨⟨_, by rw [HF.out.1] <;> rfl, by rw [HF.out.2.1] at *; exact HF.out.2.2.1⟩, HF.out.2.2.2⟩
end Go.Proofs.YtbkglhakhahfpaaGreatDoor
