/- Texts of the proof of a law, put together, part 34 of 35. Conditions: none beyond those that each theorem names. -/
import Derived.Test.YtihgnpobkpnipaaGreatDoorCz1
import Derived.Test.YtihgnpobkpnipaaGreatDoorCz2
import Derived.Test.YtihgnpobkpnipaaGreatDoorCz19
import Derived.Test.YtihgnpobkpnipaaGreatDoorCz23
import Derived.Test.YtihgnpobkpnipaaGreatDoorCz28
import Derived.Test.YtihgnpobkpnipaaGreatDoorCz31
import Derived.Test.YtihgnpobkpnipaaGreatDoorCz33
import Derived.Test.YtihgnpobkpnipaaGreatDoorRows
import Derived.ProofKit
import Derived.LaidMore
import Derived.Lay
import Derived.LaidOnce
import Derived.SevenTiedAt
import Derived.Stop.Joined
namespace Go.Proofs.YtihgnpobkpnipaaGreatDoor
open Go.RowKit Go.Sort
theorem rblk2 {w : World} {g : Nat} {x y : Value} {t : TypeId} (h : w.heap[g]? = some (.cells #[x, y] t (0, 0))) : w.cell? ⟨g, 0, none⟩ = some x ∧ w.cell? ⟨g, 1, none⟩ = some y :=
  ⟨by simp [World.cell?, h], by simp [World.cell?, h]⟩
set_option maxHeartbeats 1000000 in
theorem rDistance_any (w : World) : Calls Tryz.prog 62 #[.agg #[.int .i64 1, .int .i64 1], .agg #[.int .i64 4, .int .i64 3]] w fun e w' => e = .returned (.tuple #[.int .i64 3, .int .i64 0]) ∧ Below w.heap.size w w' := by
  have h1 : farB (1, 1) = false := by decide
  have h2 : farB (4, 3) = false := by decide
  have h3 : dist (1, 1) (4, 3) = 3 := by decide
  have b1 : Bd (1, 1) := by unfold Bd; omega
  have b2 : Bd (4, 3) := by unfold Bd; omega
  have c1 : ∀ w, Calls Tryz.prog 97 #[.agg #[.int .i64 1, .int .i64 1]] w fun e w' => e = .returned (.bool false) ∧ Below w.heap.size w w' := fun w => by rw [← h1]; exact isFar_any (1, 1) w
  have c2 : ∀ w, Calls Tryz.prog 97 #[.agg #[.int .i64 4, .int .i64 3]] w fun e w' => e = .returned (.bool false) ∧ Below w.heap.size w w' := fun w => by rw [← h2]; exact isFar_any (4, 3) w
  have c3 : ∀ w, Calls Tryz.prog 98 #[.agg #[.int .i64 1, .int .i64 1], .agg #[.int .i64 4, .int .i64 3]] w fun e w' => e = .returned (.int .i64 3) ∧ Below w.heap.size w w' := fun w => by rw [← h3]; exact distance_any (1, 1) (4, 3) w b1 b2
  go_enter Tryz.func62, Tryz.ntmps62
  have hA := blk_old (blk_new w (.cells #[.int .i64 1, .int .i64 1] 113)) (.cells #[.int .i64 4, .int .i64 3] 113)
  have hB := blk_new' (w.alloc (.cells #[.int .i64 1, .int .i64 1] 113)) (.cells #[.int .i64 4, .int .i64 3] 113) (g := w.heap.size + 1) (by simp)
  have hb := Bl.alloc (Bl.alloc (Below.refl w.heap.size w) (.cells #[.int .i64 1, .int .i64 1] 113)) (.cells #[.int .i64 4, .int .i64 3] 113)
  go_wp2_with fail
  refine (c1 _).mono ?_
  rintro e w1 ⟨rfl, hb1⟩
  have hA1 := blk_below hA hb1
  have hB1 := blk_below hB hb1
  have hw1 := Bl.trans hb hb1
  obtain ⟨x1, x2⟩ := rblk2 hB1
  go_wp2_with fail
  refine (c2 _).mono ?_
  rintro e w2 ⟨rfl, hb2⟩
  have hA2 := blk_below hA1 hb2
  have hB2 := blk_below hB1 hb2
  have hw2 := Bl.trans hw1 hb2
  obtain ⟨x3, x4⟩ := rblk2 hA2
  obtain ⟨x5, x6⟩ := rblk2 hB2
  go_wp2_with fail
  refine (c3 _).mono ?_
  rintro e w3 ⟨rfl, hb3⟩
  go_wp2
  go_ret2
  exact ⟨rfl, Bl.trans hw2 hb3⟩
end Go.Proofs.YtihgnpobkpnipaaGreatDoor
namespace Go.Proofs.YtihgnpobkpnipaaGreatDoor
open Go.RowKit Go.Sort Go.Maps Go.Shelf Go.Lib
set_option maxHeartbeats 4000000 in
set_option maxRecDepth 100000 in
theorem ShopCond_u (S : Nat) (w : World) (hs : ShopU w S ⟨#[117]⟩) :
    Calls Tryz.prog 101 #[.pointer (some ⟨S, 0, none⟩), .string ⟨#[117]⟩] w fun e w' => (∃ a n c, e = .returned (.agg #[.int .i64 2, .int .i64 3, .int .i64 1, .slice a n c])) ∧ Below w.heap.size w w' := by
  obtain ⟨mb, g, hS, hM, hB, hm⟩ := hs
  have hb0 := Bl.alloc (Below.refl w.heap.size w) (.cells #[.int .i64 0, .int .i64 0, .int .i64 0, .slice none 0 0] 115)
  have hC0 := blk_new w (.cells #[.int .i64 0, .int .i64 0, .int .i64 0, .slice none 0 0] 115)
  have hS1 := blk_old hS (.cells #[.int .i64 0, .int .i64 0, .int .i64 0, .slice none 0 0] 115)
  have hM1 := hM.alloc (.cells #[.int .i64 0, .int .i64 0, .int .i64 0, .slice none 0 0] 115)
  have hB1 : Brd _ g 2 3 1 (.map (some (g - 2))) (.map (some (g - 1))) 0 := blk_old hB (.cells #[.int .i64 0, .int .i64 0, .int .i64 0, .slice none 0 0] 115)
  have hm1 := blk_old hm (.cells #[.int .i64 0, .int .i64 0, .int .i64 0, .slice none 0 0] 115)
  have lw := blk_lt hC0
  have lS := blk_lt hS
  have c1 : w.cell? ⟨S, 2, none⟩ = some (.map (some mb)) := blk_cell hS 2
  have hl0 := look_some hM1 ⟨#[117]⟩ (by show 1 ≤ maxLen; unfold maxLen; omega) rfl
  have hown : (w.alloc (.cells #[.int .i64 0, .int .i64 0, .int .i64 0, .slice none 0 0] 115)).ownsMap Tryz.prog 9 (fun _ => (none : Option (DataW Unit × List MemPlace))) (g - 2) 0 (.map []) := ⟨#[], 0, hm1, ⟨by simp, Go.MapKept.stamped_empty 0, by simp⟩, Nat.le_refl _, rfl⟩
  have HC := Lib.hid (condition_any g (g - 2) 0 2 3 1 0 _ _ _ _ hB1 hown (by show 0 ≤ 1099511627776; omega))
  clear hS hM hB hm hS1 hM1 hB1 hm1 hown
  go_enter Tryz.func101, Tryz.ntmps101
  go_wp2_with fail
  refine HC.out.mono ?_
  rintro e w2 ⟨v, ss, rfl, _, h2, _, hb2⟩
  obtain ⟨va, vc, rfl⟩ := row_form h2
  have hC2 := blk_below hC0 hb2
  have g0 := blk_free hC2 0
  have g1 := blk_free hC2 1
  have g2 := blk_free hC2 2
  have g3 := blk_free hC2 3
  have k0 : w2.cell? ⟨w.heap.size, 0, none⟩ = some (.int .i64 0) := blk_cell hC2 0
  have k1 : w2.cell? ⟨w.heap.size, 1, none⟩ = some (.int .i64 0) := blk_cell hC2 1
  have k2 : w2.cell? ⟨w.heap.size, 2, none⟩ = some (.int .i64 0) := blk_cell hC2 2
  have k3 : w2.cell? ⟨w.heap.size, 3, none⟩ = some (.slice none 0 0) := blk_cell hC2 3
  have hb3 := Bl.set (Bl.set (Bl.set (Bl.set (Bl.trans hb0 hb2) _ 0 (Nat.le_refl _) (.int .i64 2)) _ 1 (Nat.le_refl _) (.int .i64 3)) _ 2 (Nat.le_refl _) (.int .i64 1)) _ 3 (Nat.le_refl _) (.slice va ss.length vc)
  have hC3 := blk_set (blk_set (blk_set (blk_set hC2 0 (.int .i64 2)) 1 (.int .i64 3)) 2 (.int .i64 1)) 3 (.slice va ss.length vc)
  go_wp2
  generalize (((w2.setCell ⟨w.heap.size, 0, none⟩ (.int .i64 2)).setCell ⟨w.heap.size, 1, none⟩ (.int .i64 3)).setCell ⟨w.heap.size, 2, none⟩ (.int .i64 1)).setCell ⟨w.heap.size, 3, none⟩ (.slice va ss.length vc) = w3 at *
  have r0 : w3.cell? ⟨w.heap.size, 0, none⟩ = some (.int .i64 2) := blk_cell hC3 0
  have r1 : w3.cell? ⟨w.heap.size, 1, none⟩ = some (.int .i64 3) := blk_cell hC3 1
  have r2 : w3.cell? ⟨w.heap.size, 2, none⟩ = some (.int .i64 1) := blk_cell hC3 2
  have r3 : w3.cell? ⟨w.heap.size, 3, none⟩ = some (.slice va ss.length vc) := blk_cell hC3 3
  refine bodyPost_ret (v := .agg #[.int .i64 2, .int .i64 3, .int .i64 1, .slice va ss.length vc]) (by simp [results, Tryz.results101, go_sem, r0, r1, r2, r3]) rfl ?_
  exact ⟨⟨_, _, _, rfl⟩, hb3⟩
set_option maxHeartbeats 4000000 in
set_option maxRecDepth 100000 in
theorem At_u (b : Nat) (w : World) (h0 : w.cell? ⟨b, 0, none⟩ = some (.int .i64 3)) (h1 : w.cell? ⟨b, 1, none⟩ = some (.string ⟨#[117]⟩)) (h2 : w.cell? ⟨b, 2, none⟩ = some (.int .i64 1)) (h3 : w.cell? ⟨b, 3, none⟩ = some (.string ⟨#[]⟩)) :
    Calls Tryz.prog 63 #[.agg #[.int .i64 1, .int .i64 0], .slice (some ⟨b, 0, none⟩) 1 1, .string ⟨#[117]⟩, .int .i64 3] w fun e w' => (∃ a n c, e = .returned (.tuple #[.agg #[.int .i64 2, .int .i64 3, .int .i64 1, .slice a n c], .int .i64 0])) ∧ Below w.heap.size w w' := by
  have lb := World.block_lt_of_cell? _ _ h0
  have hR0 := blk_old (blk_new w (.cells #[.int .i64 1, .int .i64 0] 119)) (.cells #[.int .i64 0, .int .i64 0, .int .i64 0, .slice none 0 0] 115)
  have hC0 := blk_new' (w.alloc (.cells #[.int .i64 1, .int .i64 0] 119)) (.cells #[.int .i64 0, .int .i64 0, .int .i64 0, .slice none 0 0] 115) (g := w.heap.size + 1) (by simp)
  have hb0 := Bl.alloc (Bl.alloc (Below.refl w.heap.size w) (.cells #[.int .i64 1, .int .i64 0] 119)) (.cells #[.int .i64 0, .int .i64 0, .int .i64 0, .slice none 0 0] 115)
  go_enter Tryz.func63, Tryz.ntmps63
  go_wp2_with fail
  generalize (w.alloc (.cells #[.int .i64 1, .int .i64 0] 119)).alloc (.cells #[.int .i64 0, .int .i64 0, .int .i64 0, .slice none 0 0] 115) = w1 at *
  obtain ⟨bc, _⟩ := bcell hb0
  refine (boardFault_u b w1 ((bc b 0 lb).trans h0) ((bc b 1 lb).trans h1) ((bc b 2 lb).trans h2) ((bc b 3 lb).trans h3)).mono ?_
  rintro e w2 ⟨rfl, hb2⟩
  have hb02 := Bl.trans hb0 hb2
  have hR2 := blk_below hR0 hb2
  have hC2 := blk_below hC0 hb2
  have q0 : w2.cell? ⟨w.heap.size, 0, none⟩ = some (.int .i64 1) := blk_cell hR2 0
  have q1 : w2.cell? ⟨w.heap.size, 1, none⟩ = some (.int .i64 0) := blk_cell hR2 1
  obtain ⟨bc2, _⟩ := bcell hb02
  have HS := Lib.hid (shopAt_u b w2 ((bc2 b 0 lb).trans h0) ((bc2 b 1 lb).trans h1) ((bc2 b 2 lb).trans h2) ((bc2 b 3 lb).trans h3))
  clear h0 h1 h2 h3 bc bc2 hR0 hC0
  go_wp2_with fail
  refine HS.out.mono ?_
  rintro e w3 ⟨⟨S, rfl, hs⟩, hb3⟩
  have hC3 := blk_below hC2 hb3
  have hb03 := Bl.trans hb02 hb3
  have HT := Lib.hid (ShopCond_u S w3 hs)
  clear hs
  go_wp2_with fail
  refine HT.out.mono ?_
  rintro e w4 ⟨⟨va, vn, vc, rfl⟩, hb4⟩
  have hC4 := blk_below hC3 hb4
  have hb04 := Bl.trans hb03 hb4
  have g0 := blk_free hC4 0
  have g1 := blk_free hC4 1
  have g2 := blk_free hC4 2
  have g3 := blk_free hC4 3
  have k0 : w4.cell? ⟨w.heap.size + 1, 0, none⟩ = some (.int .i64 0) := blk_cell hC4 0
  have k1 : w4.cell? ⟨w.heap.size + 1, 1, none⟩ = some (.int .i64 0) := blk_cell hC4 1
  have k2 : w4.cell? ⟨w.heap.size + 1, 2, none⟩ = some (.int .i64 0) := blk_cell hC4 2
  have k3 : w4.cell? ⟨w.heap.size + 1, 3, none⟩ = some (.slice none 0 0) := blk_cell hC4 3
  have hb5 := Bl.set (Bl.set (Bl.set (Bl.set hb04 (w.heap.size + 1) 0 (by omega) (.int .i64 2)) (w.heap.size + 1) 1 (by omega) (.int .i64 3)) (w.heap.size + 1) 2 (by omega) (.int .i64 1)) (w.heap.size + 1) 3 (by omega) (.slice va vn vc)
  have hC5 := blk_set (blk_set (blk_set (blk_set hC4 0 (.int .i64 2)) 1 (.int .i64 3)) 2 (.int .i64 1)) 3 (.slice va vn vc)
  go_wp2
  generalize (((w4.setCell ⟨w.heap.size + 1, 0, none⟩ (.int .i64 2)).setCell ⟨w.heap.size + 1, 1, none⟩ (.int .i64 3)).setCell ⟨w.heap.size + 1, 2, none⟩ (.int .i64 1)).setCell ⟨w.heap.size + 1, 3, none⟩ (.slice va vn vc) = w5 at *
  have r0 : w5.cell? ⟨w.heap.size + 1, 0, none⟩ = some (.int .i64 2) := blk_cell hC5 0
  have r1 : w5.cell? ⟨w.heap.size + 1, 1, none⟩ = some (.int .i64 3) := blk_cell hC5 1
  have r2 : w5.cell? ⟨w.heap.size + 1, 2, none⟩ = some (.int .i64 1) := blk_cell hC5 2
  have r3 : w5.cell? ⟨w.heap.size + 1, 3, none⟩ = some (.slice va vn vc) := blk_cell hC5 3
  refine bodyPost_ret (v := .tuple #[.agg #[.int .i64 2, .int .i64 3, .int .i64 1, .slice va vn vc], .int .i64 0]) (by simp [results, Tryz.results63, go_sem, r0, r1, r2, r3]) rfl ?_
  exact ⟨⟨_, _, _, rfl⟩, hb5⟩
set_option maxHeartbeats 4000000 in
set_option maxRecDepth 100000 in
theorem ready_any (w : World) : Calls Tryz.prog 18 #[] w fun e w' => e = .returned (.bool true) ∧ Below w.heap.size w w' := by
  go_enter Tryz.func18, Tryz.ntmps18
  go_wp2_with fail
  refine (Life4_any w).mono ?_
  rintro e w' ⟨rfl, rfl⟩
  go_wp2_with fail
  refine (rDistance_any w).mono ?_
  rintro e w1 ⟨rfl, hb1⟩
  have hS := blk_new w1 (.cells #[.int .i64 3, .string ⟨#[117]⟩, .int .i64 1, .string ⟨#[]⟩] 121)
  have hb2 := Bl.alloc hb1 (.cells #[.int .i64 3, .string ⟨#[117]⟩, .int .i64 1, .string ⟨#[]⟩] 121)
  go_wp2_with fail
  refine (At_u w1.heap.size _ (blk_cell hS 0) (blk_cell hS 1) (blk_cell hS 2) (blk_cell hS 3)).mono ?_
  rintro e w3 ⟨⟨va, vn, vc, rfl⟩, hb3⟩
  have hb4 := Bl.alloc (Bl.trans hb2 hb3) (.cells #[.int .i64 2, .int .i64 3, .int .i64 1, .slice va vn vc] 115)
  go_wp2
  go_ret
  exact ⟨rfl, hb4⟩
end Go.Proofs.YtihgnpobkpnipaaGreatDoor
namespace Go.Proofs.YtihgnpobkpnipaaGreatDoor
open Go.RowKit Go.Sort Go.Maps Go.Lib
theorem bsB_inj {a b : ByteArray} (h : bsOf a = bsOf b) : a = b := by
  have h2 := congrArg baOf h
  rwa [baOf_bsOf, baOf_bsOf] at h2
/-- a right catalogue's names are short, its rows are few. -/
theorem catsF_small {ps : List Prt} {l : List Alt} (h : catsF ps l = 0) : PrtZ ps ∧ AltZ l ∧ ps.length ≤ 100000 ∧ l.length ≤ 100000 := by
  obtain ⟨h1, h2⟩ := catsF_PtT h
  have h3 := (catsF_ok h).1
  have h4 := (catsF_ok h).2.2.1
  refine ⟨fun x hx => ?_, fun x hx => ?_, by omega, by omega⟩
  · have a := keyB_size (h1 x hx).k
    have b := keyB_size (h1 x hx).p
    exact ⟨by omega, by omega⟩
  · have a := keyB_size (h2 x hx).f
    have b := keyB_size (h2 x hx).b
    exact ⟨by omega, by omega⟩
set_option maxHeartbeats 8000000 in
set_option maxRecDepth 100000 in
theorem CataloguesComeBack_any (li : List Int) (v : Value) (w : World) (rl : Ints w 0 v li) (hl : ∀ x ∈ li, -9223372036854775808 ≤ x ∧ x ≤ 9223372036854775807) (hT : TxW w) :
    Calls Tryz.prog 4 #[v] w fun e w' => e = .returned (.bool true) ∧ Below w.heap.size w w' := by
  obtain ⟨xa, xcap, rfl, hc1, hc2⟩ := Ints.form rl
  obtain ⟨w0, hw0⟩ : ∃ w0, w0 = w.alloc (.cells #[.slice xa li.length xcap, .int .i64 0] 25) := ⟨_, rfl⟩
  have hs0 : Str w0 w.heap.size 0 := by rw [hw0]; exact Str.begin rl hl
  have hb0 : Below w.heap.size w w0 := by rw [hw0]; exact Bl.alloc (Below.refl w.heap.size w) _
  obtain ⟨hg1, hg2⟩ := hT.size
  have HG := Lib.hid (And.intro hg1 hg2)
  have HT := Lib.hid hT
  have HW0 := Lib.hid hw0
  have HB0 := Lib.hid hb0
  have hz0 : w.heap.size < w0.heap.size := hs0.lt
  clear rl hl hT hw0 hb0 hg1 hg2
  go_enter Tryz.func4, Tryz.ntmps4
  go_wp2_with fail
  rw [← HW0.out]
  refine (RightCatalogue_any w.heap.size 0 w0 hs0 (by omega)).mono ?_
  rintro e wA ⟨⟨vp, va, ps, l, rfl, hOp, hOa, hp5, hl25, hkp, hka, hF⟩, hSA, hGA⟩
  obtain ⟨pa, pc, rfl, _, _⟩ := hOp.form
  obtain ⟨aa, ac, rfl, _, _⟩ := hOa.form
  obtain ⟨sz1, sz2, sz3, sz4⟩ := catsF_small hF
  have htl : (catText (ps, l)).length ≤ 200000 := by have := catText_len hF; omega
  have hbA := Below.trans HB0.out (Gr.below hGA (Nat.le_refl _) (Nat.le_of_lt hz0))
  obtain ⟨C, hC⟩ : ∃ C, C = wA.heap.size := ⟨_, rfl⟩
  obtain ⟨w1, hw1⟩ : ∃ w1, w1 = wA.alloc (.cells #[.slice pa ps.length pc, .slice aa l.length ac] 29) := ⟨_, rfl⟩
  have hab : Below wA.heap.size wA w1 := by rw [hw1]; exact Bl.alloc (Below.refl _ _) _
  have hb1 := Bl.trans hbA hab
  have HCC : Hid (∀ W, Below w1.heap.size w1 W → W.cell? ⟨C, 0, none⟩ = some (.slice pa ps.length pc) ∧ W.cell? ⟨C, 1, none⟩ = some (.slice aa l.length ac)) := Lib.hid fun W hW => by
    have h3 : W.heap[C]? = _ := blk_below (show w1.heap[C]? = some (.cells #[.slice pa ps.length pc, .slice aa l.length ac] 29 (0, 0)) by rw [hw1, hC]; exact blk_new wA _) hW
    exact ⟨blk_cell h3 0, blk_cell h3 1⟩
  have HB1 := Lib.hid hb1
  have HS1 := Lib.hid (hSA.below hab)
  have HC1 : Hid (CatR w1 (.slice pa ps.length pc) (.slice aa l.length ac) ps l) := Lib.hid ⟨(hOp.below hab).rec0, (hOa.below hab).rec0⟩
  have HTX := Lib.hid (CatText_ok ps l (.slice pa ps.length pc) (.slice aa l.length ac) w1 (HT.out.below hb1) sz1 sz2 HC1.out hF htl)
  have HRS := Lib.hid (catRead_same hF htl)
  have HSZ := Lib.hid (And.intro sz3 (And.intro sz4 htl))
  have HWA := Lib.hid (And.intro hw1 hC)
  obtain ⟨q0, q1⟩ := HCC.out w1 (Below.refl _ _)
  obtain ⟨pn, hpn⟩ : ∃ q, q = ps.length := ⟨_, rfl⟩
  obtain ⟨an, han⟩ : ∃ q, q = l.length := ⟨_, rfl⟩
  rw [← hpn, ← han] at HTX HWA HCC HC1
  rw [← hpn] at q0
  rw [← han] at q1
  rw [← hpn, ← han]
  have HN := Lib.hid (And.intro hpn han)
  clear hOp hOa hp5 hl25 hkp hka hF hSA hGA hbA hb1 hab hw1 hC sz1 sz2 sz3 sz4 htl hpn han
  go_upto_region 3 with fail
  rw [← HWA.out.1, ← HWA.out.2]
  go_wp2_with fail
  refine HTX.out.mono ?_
  rintro e w2 ⟨t, rfl, ht, hb2⟩
  have hB2 := Bl.trans HB1.out hb2
  have HRD0 := CatRead_any t w2 (HT.out.below hB2) (by rw [← bsOf_len, ht]; have := HSZ.out.2.2; omega)
  rw [ht] at HRD0
  unfold RdR at HRD0
  rw [HRS.out] at HRD0
  have HRD := Lib.hid HRD0
  have HB2 := Lib.hid hB2
  have HS2 := Lib.hid (HS1.out.below hb2)
  have HC2 := Lib.hid (HC1.out.low hb2)
  have HL2 := Lib.hid hb2
  clear ht hb2 hB2 HRD0 HTX HRS HC1 HS1 HB1 q0 q1
  go_wp2_with fail
  refine HRD.out.mono ?_
  rintro e wB ⟨vx, ax, rfl, hcB, hbB⟩
  obtain ⟨x1, y1, rfl⟩ : ∃ x y, vx = .slice x ps.length y := by obtain ⟨a, c, h, _, _⟩ := hcB.p.form; exact ⟨a, c, h⟩
  obtain ⟨x2, y2, rfl⟩ : ∃ x y, ax = .slice x l.length y := by obtain ⟨a, c, h, _, _⟩ := hcB.a.form; exact ⟨a, c, h⟩
  obtain ⟨X, hX⟩ : ∃ X, X = wB.heap.size := ⟨_, rfl⟩
  obtain ⟨w3, hw3⟩ : ∃ w3, w3 = wB.alloc (.cells #[.slice x1 ps.length y1, .slice x2 l.length y2] 29) := ⟨_, rfl⟩
  have hb3a : Below wB.heap.size wB w3 := by rw [hw3]; exact Bl.alloc (Below.refl _ _) _
  have hb3 := Bl.trans hbB hb3a
  have hx3 : w3.heap[X]? = some (.cells #[.slice x1 ps.length y1, .slice x2 l.length y2] 29 (0, 0)) := by rw [hw3, hX]; exact blk_new wB _
  have k0 : w3.cell? ⟨X, 0, none⟩ = some (.slice x1 ps.length y1) := blk_cell hx3 0
  have k1 : w3.cell? ⟨X, 1, none⟩ = some (.slice x2 l.length y2) := blk_cell hx3 1
  have HB3 := Lib.hid (Bl.trans HB2.out hb3)
  have HS3 := Lib.hid (HS2.out.below hb3)
  have HEQ := Lib.hid (SameCat_same ps l (.slice x1 ps.length y1) (.slice x2 l.length y2) (.slice pa pn pc) (.slice aa an ac) w3 HSZ.out.1 HSZ.out.2.1 (hcB.low hb3a) (HC2.out.low hb3))
  obtain ⟨q0, q1⟩ := HCC.out w3 (Bl.trans HL2.out hb3)
  have HWB := Lib.hid (And.intro hw3 hX)
  rw [← HN.out.1, ← HN.out.2] at HWB HEQ
  rw [← HN.out.1] at k0
  rw [← HN.out.2] at k1
  rw [← HN.out.1, ← HN.out.2]
  clear hcB hbB hb3a hb3 hx3 hw3 hX HRD HC2 HB2 HS2 HL2
  go_upto_region 5 with fail
  rw [← HWB.out.1, ← HWB.out.2]
  go_wp2_with fail
  refine HEQ.out.mono ?_
  rintro e w4 ⟨rfl, hb4⟩
  have hB4 := Bl.trans HB3.out hb4
  have hz4 := hB4.size
  obtain ⟨hg1, hg2⟩ := HG.out
  have HST := Lib.hid (CatString_any w.heap.size _ w4 (HS3.out.below hb4) (HT.out.below hB4) hg1 hg2 (by omega))
  clear hb4 HEQ HS3 HB3 hg1 hg2 q0 q1 k0 k1
  go_wp2_with fail
  refine HST.out.mono ?_
  rintro e w5 ⟨tt, rfl, hts, hS5, hG5⟩
  have hB5 := Below.trans hB4 (Gr.below hG5 (Nat.le_refl _) hz4)
  have hRD := CatRead_any tt w5 (HT.out.below hB5) (by omega)
  unfold RdR at hRD
  obtain ⟨PP, hPP⟩ : ∃ q, q = (catRead (bsOf tt)).1.1 := ⟨_, rfl⟩
  obtain ⟨LL, hLL⟩ : ∃ q, q = (catRead (bsOf tt)).1.2 := ⟨_, rfl⟩
  obtain ⟨i2, hi2⟩ : ∃ q, q = (catRead (bsOf tt)).2.1 := ⟨_, rfl⟩
  obtain ⟨g2, hgg⟩ : ∃ q, q = (catRead (bsOf tt)).2.2 := ⟨_, rfl⟩
  rw [← hPP, ← hLL, ← hi2, ← hgg] at hRD
  have HQ : Hid (g2 = 0 → catsF PP LL = 0 ∧ catText (PP, LL) = bsOf tt ∧ (bsOf tt).length ≤ 200000) := Lib.hid fun h0 => by
    have := catRead_back (t := bsOf tt) (by rw [← hgg]; exact h0)
    rw [hPP, hLL]
    exact this
  have HRD := Lib.hid hRD
  have HB5 := Lib.hid hB5
  clear hPP hLL hi2 hgg hRD hS5 hG5 hB5 hB4 hz4 HST hts
  go_wp2_with fail
  refine HRD.out.mono ?_
  rintro e wD ⟨p1, a1, rfl, hcD, hbD⟩
  obtain ⟨x3, y3, rfl⟩ : ∃ x y, p1 = .slice x PP.length y := by obtain ⟨a, c, h, _, _⟩ := hcD.p.form; exact ⟨a, c, h⟩
  obtain ⟨x4, y4, rfl⟩ : ∃ x y, a1 = .slice x LL.length y := by obtain ⟨a, c, h, _, _⟩ := hcD.a.form; exact ⟨a, c, h⟩
  obtain ⟨Y, hY⟩ : ∃ Y, Y = wD.heap.size := ⟨_, rfl⟩
  obtain ⟨w6, hw6⟩ : ∃ w6, w6 = wD.alloc (.cells #[.slice x3 PP.length y3, .slice x4 LL.length y4] 29) := ⟨_, rfl⟩
  have hb6a : Below wD.heap.size wD w6 := by rw [hw6]; exact Bl.alloc (Below.refl _ _) _
  have hb6 := Bl.trans hbD hb6a
  have hx6 : w6.heap[Y]? = some (.cells #[.slice x3 PP.length y3, .slice x4 LL.length y4] 29 (0, 0)) := by rw [hw6, hY]; exact blk_new wD _
  have m0 : w6.cell? ⟨Y, 0, none⟩ = some (.slice x3 PP.length y3) := blk_cell hx6 0
  have m1 : w6.cell? ⟨Y, 1, none⟩ = some (.slice x4 LL.length y4) := blk_cell hx6 1
  have HB6 := Lib.hid (Bl.trans HB5.out hb6)
  have HC6 := Lib.hid (hcD.low hb6a)
  have HWD := Lib.hid (And.intro hw6 hY)
  clear hcD hbD hb6a hb6 hx6 hw6 hY HRD
  go_upto_region 9 with fail
  rw [← HWD.out.1, ← HWD.out.2]
  by_cases h0 : g2 = 0
  · obtain ⟨r1, r2, r3⟩ := HQ.out h0
    obtain ⟨sz1, sz2, _, _⟩ := catsF_small r1
    have HTX := Lib.hid (CatText_ok PP LL _ _ w6 (HT.out.below HB6.out) sz1 sz2 HC6.out r1 (by rw [r2]; exact r3))
    have HR2 := Lib.hid r2
    subst h0
    clear r1 r2 r3 sz1 sz2 HQ HC6
    go_wp2_with fail
    refine HTX.out.mono ?_
    rintro e w7 ⟨t3, rfl, ht3, hb7⟩
    obtain rfl := bsB_inj (ht3.trans HR2.out)
    have HB7 := Lib.hid (Bl.trans HB6.out hb7)
    clear ht3 hb7 HTX HR2 m0 m1
    go_wp2_with fail
    refine (ready_any _).mono ?_
    rintro e w9 ⟨rfl, hb9⟩
    go_wp2
    go_ret
    exact ⟨rfl, Bl.trans HB7.out hb9⟩
  · clear HQ HC6
    go_wp2_with fail
    refine (ready_any _).mono ?_
    rintro e w9 ⟨rfl, hb9⟩
    go_wp2
    go_ret
    exact ⟨rfl, Bl.trans HB6.out hb9⟩
end Go.Proofs.YtihgnpobkpnipaaGreatDoor
namespace Go.Proofs.YtihgnpobkpnipaaGreatDoor
open Go.ChangeShapes Go.WideShapes Go.ChangeAt Go.RowKit
theorem own : ownKnob Tryz.prog.godebug = none := by kernel_rfl
theorem laidOut : laidOutB Tryz.prog = true := by kernel_rfl
section
variable {H : Type} {enc : TypeId × Value → H} {P : Program}
theorem post_of_below {f : Func} {s : ChangeSpec} {apart fresh handsOn again : Bool} {W W' : World} {args : Array Value} {v : Value} {ds gs : List (DataW H)} {before pa pv : List MemPlace}
    (hW : DataW.Whole enc P f.params.toList s.vars apart W args.toList ds gs before)
    (hres : ∀ (b : Nat) (sp : Nat → Bool) (hd : Bool), DataW.TrodAll enc P W' b sp hd f.resultTypes.toList (v.resultList f.resultTypes.size) (s.fn H (ds ++ gs)).results [])
    (hargs : ∀ sp : Nat → Bool, (∀ p ∈ before, sp p.block = true) → DataW.TrodAll enc P W' 0 sp true f.params.toList args.toList (s.fn H (ds ++ gs)).args pa)
    (hvars : ∀ sp : Nat → Bool, (∀ p ∈ before, sp p.block = true) → DataW.TrodVars enc P W' sp s.vars (s.fn H (ds ++ gs)).vars pv)
    (hps : before = pa ++ pv) (hb : Below W.heap.size W W')
    (hok : ∀ (j : Nat) (t : TypeId) (r : Value), f.resultTypes[j]? = some t → (v.resultList f.resultTypes.size)[j]? = some r → Value.okWide P W' .any 0 t r) :
    s.post enc P f apart fresh handsOn again W args v W' := by
  have hlt : ∀ p ∈ before, p.block < W.heap.size := fun p hp => hW.lt p hp
  have hold : ∀ p ∈ before, (fun b => decide (b < W.heap.size)) p.block = true := fun p hp => by simpa using hlt p hp
  refine ⟨ds, gs, before, [], pa, pv, hW, hres _ _ _, hargs _ hold, hvars _ hold, World.keptBut_mono (fun p hp => ⟨hp, ?_⟩) (hb.frame (· ∈ before)), fun _ => ?_⟩
  · rw [hps, List.mem_append] at hp
    exact Or.inr hp
  · obtain ⟨_, _, _, _, _, hz, hn⟩ := hW
    refine ⟨hok, _, _, ([] ++ pa) ++ pv, ⟨[] ++ pa, pv, trodAll_append (hargs _ (fun _ _ => rfl)) (hres _ _ _), hvars _ (fun _ _ => rfl), rfl, ?_, ?_⟩, ?_⟩
    · intro b off hp
      have hin : MemPlace.cell b off ∈ before := by rw [hps]; simpa using hp
      rw [hb.frozen (hlt _ hin)]
      exact hz b off hin
    · intro ha
      have := hn ha
      rw [hps] at this
      simpa using this
    · intro p hp _
      rw [hps]
      simpa using hp
end
set_option maxRecDepth 100000 in
theorem ints_key {H : Type} {enc : TypeId × Value → H} {W : World} {base : Nat} {v0 : Value} {d0 : DataW H} {p : List MemPlace}
    (hv : Value.okWide Tryz.prog W .any base 22 v0) (h0 : DataW.Trod enc Tryz.prog W 0 (fun _ => true) true 22 v0 d0 p) :
    ∃ l : List Int, Ints W 0 v0 l ∧ ∀ x ∈ l, -9223372036854775808 ≤ x ∧ x ≤ 9223372036854775807 := by
  obtain ⟨fuel, hf⟩ := h0
  obtain ⟨a0, len, cap, rfl⟩ := okWide_slice Tryz.underlying22 hv
  rcases open_ints Tryz.underlying22 Tryz.underlying3 (show Tryz.prog.cellsOf 3 = 1 by kernel_rfl) hf with ⟨hcs, hx⟩ | ⟨a, len', cap', zs, hcs, _, hl, hm, hz, hx, hcell, hwz⟩
  · simp [Value.cells] at hcs
    obtain ⟨rfl, rfl, rfl⟩ := hcs
    exact ⟨[], Rd.nil _ _, by simp⟩
  · simp [Value.cells] at hcs
    obtain ⟨rfl, rfl, rfl⟩ := hcs
    simp only [if_true] at hz
    refine ⟨zs.take len, ⟨some a, cap, by rw [List.length_take, Nat.min_eq_left (by omega)], by rw [List.length_take]; omega, by unfold maxLen at hm; omega, fun j x hj => ?_⟩, fun x hx => ?_⟩
    · have hjl : j < (zs.take len).length := by
        have := (List.getElem?_eq_some_iff.1 hj).1
        simpa [ics] using this
      rw [List.length_take] at hjl
      have hc := hcell j (by omega)
      obtain ⟨b, off, spot⟩ := a
      have hspot : spot = none := by simpa [Addr.add] using World.cell?_spot (hcell 0 (by omega))
      subst hspot
      have hx : x = .int .i64 (zs.getD j 0) := by
        have e : (ics (zs.take len))[j]? = some (.int .i64 (zs.getD j 0)) := ics_at (by rw [List.getElem?_take_of_lt (by omega), List.getD_eq_getElem?_getD, List.getElem?_eq_getElem (by omega)]; rfl)
        rw [e] at hj
        exact (Option.some.inj hj).symm
      subst hx
      have hc' : W.cell? ⟨b, off + j, none⟩ = some (.int .i64 (zs.getD j 0)) := by
        by_cases hj0 : j = 0
        · subst hj0; simpa [Addr.add] using hc
        · simpa [Addr.add, hj0] using hc
      exact ⟨b, off, rfl, Nat.zero_le _, World.block_lt_of_cell? W ⟨b, off + j, none⟩ hc', hc'⟩
    · have := hwz x (List.mem_of_mem_take hx)
      simp only [Lit.wf, Bool.and_eq_true, decide_eq_true_eq] at this
      exact this
end Go.Proofs.YtihgnpobkpnipaaGreatDoor
