/- Texts of the proof of a law, put together, part 31 of 35. Conditions: none beyond those that each theorem names. -/
import Derived.Test.YtihgnpobkpnipaaGreatDoorCz4
import Derived.Test.YtihgnpobkpnipaaGreatDoorCz5
import Derived.Test.YtihgnpobkpnipaaGreatDoorCz19
import Derived.Test.YtihgnpobkpnipaaGreatDoorCz26
import Derived.Test.YtihgnpobkpnipaaGreatDoorCz30
import Derived.Lib.Hide
import Derived.Deep.RegionWith
import Derived.Maps.Own
import Derived.BigQuiet
import Derived.Lib.QuietBelow
import Derived.Deep.LoopGhost
import Derived.Maps.AppendAt
import Derived.Deep.Cut
import Derived.Deep.CutRange
namespace Go.Proofs.YtihgnpobkpnipaaGreatDoor
open Go.RowKit Go.Sort
theorem catsF_nil : catsF [] [] = 0 := rfl
theorem PrtS.z {ps : List Prt} (h : ∀ x ∈ ps, PrtS x) : PrtZ ps := fun x hx => ⟨Nat.le_trans (h x hx).1 (by decide), Nat.le_trans (h x hx).2.1 (by decide)⟩
theorem AltS.z {l : List Alt} (h : ∀ x ∈ l, AltS x) : AltZ l := fun x hx => ⟨Nat.le_trans (h x hx).1 (by decide), Nat.le_trans (h x hx).2 (by decide)⟩
def CatRt (w0 : World) (e : Ending) (w' : World) : Prop := ∃ vp va ps l, e = .returned (.agg #[vp, va]) ∧ OwnR TPt w' w0.heap.size vp ps ∧ OwnR TAl w' w0.heap.size va l ∧ ps.length ≤ 5 ∧ l.length ≤ 25 ∧ (∀ x ∈ ps, PrtS x) ∧ (∀ x ∈ l, AltS x) ∧ catsF ps l = 0
/-- what the two stores of the result leave as it was. -/
theorem RightCat_keep (w : World) (g s : Nat) (c : Int) (ps : List Prt) (vp va : Value) (l : List Alt) (hx : w.heap[g]? = some (.cells #[.slice none 0 0, .slice none 0 0] 29 (0, 0))) (ls : s < g) (hp : OwnR TPt w g vp ps) (ha : OwnR TAl w g va l) (hs : Str w s c) :
    OwnR TPt ((w.setCell ⟨g, 0, none⟩ vp).setCell ⟨g, 1, none⟩ va) g vp ps ∧ OwnR TAl ((w.setCell ⟨g, 0, none⟩ vp).setCell ⟨g, 1, none⟩ va) g va l ∧ Str ((w.setCell ⟨g, 0, none⟩ vp).setCell ⟨g, 1, none⟩ va) s c := by
  have e : ∀ k : Nat, k ≠ g → ((w.setCell ⟨g, 0, none⟩ vp).setCell ⟨g, 1, none⟩ va).heap[k]? = w.heap[k]? := fun k hk =>
    (Below.heap_setCell _ ⟨g, 1, none⟩ _ k hk).trans (Below.heap_setCell _ ⟨g, 0, none⟩ _ k hk)
  refine ⟨(ownR_k TPt g).keep hp fun k hk => e k fun e2 => ?_, (ownR_k TAl g).keep ha fun k hk => e k fun e2 => ?_, (hs.far g 0 (by omega) vp).far g 1 (by omega) va⟩
  · subst e2
    obtain ⟨_, c1, h1⟩ := (ownR_k TPt k).blk hp hk
    rw [hx] at h1
    injection h1 with h1
    injection h1 with _ e3 _
    exact absurd e3 (by decide)
  · subst e2
    obtain ⟨_, c1, h1⟩ := (ownR_k TAl k).blk ha hk
    rw [hx] at h1
    injection h1 with h1
    injection h1 with _ e3 _
    exact absurd e3 (by decide)
set_option maxHeartbeats 4000000 in
set_option maxRecDepth 100000 in
theorem RightCatalogue_any (s : Nat) (c : Int) (w : World) (h : Str w s c) (hc : c ≤ 800000) :
    Calls Tryz.prog 17 #[.pointer (some ⟨s, 0, none⟩)] w fun e w' => CatRt w e w' ∧ Str w' s (c + 50000) ∧ w.grownBy w' (some s) := by
  have ls := h.lt
  obtain ⟨w1, hw1⟩ : ∃ w1, w1 = w.alloc (.cells #[.slice none 0 0, .slice none 0 0] 29) := ⟨_, rfl⟩
  have hb1 : Below w.heap.size w w1 := by rw [hw1]; exact Bl.alloc (Below.refl _ _) _
  have HS1 := Lib.hid (h.below hb1)
  have HG1 := Lib.hid (Gr.of_below hb1 (some s))
  have HX1 := Lib.hid (show w1.heap[w.heap.size]? = some (.cells #[.slice none 0 0, .slice none 0 0] 29 (0, 0)) by rw [hw1]; exact blk_new w _)
  have HW1 := Lib.hid hw1
  clear h hb1 hw1
  go_enter Tryz.func17, Tryz.ntmps17
  go_wp2_with fail
  rw [← HW1.out]
  go_loopw [4] (fun i wr => ∃ k : Nat, k ≤ 8 ∧ i = .int .i64 k ∧ Hid (Str wr s (c + 6000 * k)) ∧ Hid (w.grownBy wr (some s)) ∧ Hid (wr.heap[w.heap.size]? = some (.cells #[.slice none 0 0, .slice none 0 0] 29 (0, 0)))) (fun i _ => 8 - (intOf i).toNat)
  case atStart => exact ⟨0, by omega, rfl, Lib.hid (HS1.out.mono (by omega)), HG1, HX1⟩
  case round =>
    obtain ⟨k, hk, rfl, HS, HG, HX⟩ := hrel
    by_cases hlt : k < 8
    · have hwk : IntKind.i64.wrap ((k : Int) + 1) = ((k + 1 : Nat) : Int) := by rw [IntWalk.i64_in _ (by omega)]; omega
      go_wp2_with fail
      refine (CatalogueOf_any s _ wr HS.out (by omega)).mono ?_
      rintro e w2 ⟨⟨vp, va, ps, l, rfl, hOp, hOa, hlp, hla, hkp, hka⟩, hS2, hG2⟩
      obtain ⟨pa, pn, pcap, rfl⟩ : ∃ a n c, vp = .slice a n c := by obtain ⟨a, c, h, _, _⟩ := hOp.form; exact ⟨a, _, c, h⟩
      obtain ⟨aa, an, acap, rfl⟩ : ∃ a n c, va = .slice a n c := by obtain ⟨a, c, h, _, _⟩ := hOa.form; exact ⟨a, _, c, h⟩
      obtain ⟨r3, hr3⟩ : ∃ r3, r3 = w2.heap.size := ⟨_, rfl⟩
      obtain ⟨w3, hw3⟩ : ∃ w3, w3 = w2.alloc (.cells #[.slice pa pn pcap, .slice aa an acap] 29) := ⟨_, rfl⟩
      have hb3 : Below w2.heap.size w2 w3 := by rw [hw3]; exact Bl.alloc (Below.refl _ _) _
      have hx3 : w3.heap[r3]? = some (.cells #[.slice pa pn pcap, .slice aa an acap] 29 (0, 0)) := by rw [hw3, hr3]; exact blk_new w2 _
      have HX3 := Lib.hid (blk_below (Gr.blk hG2 HX.out (by omega)) hb3)
      have HG3 := Lib.hid (Gr.trans (Gr.trans HG.out hG2) (Gr.of_below hb3 _))
      have hz0 := HG.out.size
      have HOp := Lib.hid ((OwnR.base hOp hz0).below hb3)
      have HOa := Lib.hid ((OwnR.base hOa hz0).below hb3)
      have HS3 := Lib.hid (hS2.below hb3)
      have HCR : CatR w3 (.slice pa pn pcap) (.slice aa an acap) ps l := ⟨(hOp.below hb3).rec0, (hOa.below hb3).rec0⟩
      have HSF := Lib.hid (CatalogueFault_any ps l _ _ w3 (by omega) (by omega) (PrtS.z hkp) (AltS.z hka) HCR)
      have HK := Lib.hid (And.intro hlp (And.intro hla (And.intro hkp hka)))
      obtain ⟨F, hF⟩ : ∃ F, F = catsF ps l := ⟨_, rfl⟩
      rw [← hF] at HSF
      have HF := Lib.hid hF
      have HR3 := Lib.hid (And.intro hr3 hw3)
      have c3 : w3.cell? ⟨r3, 0, none⟩ = some (.slice pa pn pcap) := blk_cell hx3 0
      have c4 : w3.cell? ⟨r3, 1, none⟩ = some (.slice aa an acap) := blk_cell hx3 1
      have HX3' := Lib.hid hx3
      have lr3 := blk_lt hx3
      have hzw : w.heap.size < r3 := by
        have := blk_lt (Gr.blk hG2 HX.out (by omega))
        omega
      clear hOp hOa hlp hla hkp hka hS2 hG2 hF HCR hx3 hb3 hr3 hw3
      by_cases h0 : F = 0
      · subst h0
        go_wp2_with fail
        rw [← HR3.out.2, ← HR3.out.1]
        refine HSF.out.mono ?_
        rintro e w4 ⟨rfl, hb4⟩
        have c3 : w4.cell? ⟨r3, 0, none⟩ = some (.slice pa pn pcap) := blk_cell (blk_below HX3'.out hb4) 0
        have c4 : w4.cell? ⟨r3, 1, none⟩ = some (.slice aa an acap) := blk_cell (blk_below HX3'.out hb4) 1
        have hx4 := blk_below HX3.out hb4
        have q0 : w4.cell? ⟨w.heap.size, 0, none⟩ = some (.slice none 0 0) := blk_cell hx4 0
        have q1 : w4.cell? ⟨w.heap.size, 1, none⟩ = some (.slice none 0 0) := blk_cell hx4 1
        have f0 : w4.frozen? ⟨w.heap.size, 0, none⟩ = false := blk_free hx4 0
        have f1 : w4.frozen? ⟨w.heap.size, 1, none⟩ = false := blk_free hx4 1
        have lR : w.heap.size < w4.heap.size := blk_lt hx4
        have hRS : ((w4.setCell ⟨w.heap.size, 0, none⟩ (.slice pa pn pcap)).setCell ⟨w.heap.size, 1, none⟩ (.slice aa an acap)).heap[w.heap.size]? = some (.cells #[.slice pa pn pcap, .slice aa an acap] 29 (0, 0)) := by
          have := blk_set (blk_set hx4 0 (.slice pa pn pcap)) 1 (.slice aa an acap)
          simpa using this
        have HSz := Lib.hid (And.intro ls HSF.out)
        have HPF := Lib.hid (RightCat_keep w4 w.heap.size s (c + 6000 * k + 6000) ps (.slice pa pn pcap) (.slice aa an acap) l hx4 ls (HOp.out.below hb4) (HOa.out.below hb4) (HS3.out.below hb4))
        have HGF := Lib.hid (Gr.set (Gr.set (Gr.trans HG3.out (Gr.of_below hb4 (some s))) w.heap.size 0 (.inr (Nat.le_refl _)) (.slice pa pn pcap)) w.heap.size 1 (.inr (Nat.le_refl _)) (.slice aa an acap))
        clear hb4 hx4
        go_wp2
        generalize (w4.setCell ⟨w.heap.size, 0, none⟩ (.slice pa pn pcap)).setCell ⟨w.heap.size, 1, none⟩ (.slice aa an acap) = w8 at *
        have t0 : w8.cell? ⟨w.heap.size, 0, none⟩ = some (.slice pa pn pcap) := blk_cell hRS 0
        have t1 : w8.cell? ⟨w.heap.size, 1, none⟩ = some (.slice aa an acap) := blk_cell hRS 1
        refine bodyPost_ret (v := .agg #[.slice pa pn pcap, .slice aa an acap]) (by simp [results, Tryz.results17, go_sem, t0, t1]) rfl ?_
        exact ⟨⟨_, _, _, _, rfl, HPF.out.1, HPF.out.2.1, HK.out.1, HK.out.2.1, HK.out.2.2.1, HK.out.2.2.2, HF.out.symm⟩, HPF.out.2.2.mono (by omega), HGF.out⟩
      · have h0' : (F == 0) = false := by simp [h0]
        go_wp2_with fail
        rw [← HR3.out.2, ← HR3.out.1]
        refine HSF.out.mono ?_
        rintro e w4 ⟨rfl, hb4⟩
        have HN := Lib.hid (And.intro ((HS3.out.below hb4).mono (d := c + 6000 * ((k + 1 : Nat) : Int)) (by omega)) (And.intro (Gr.trans HG3.out (Gr.of_below hb4 (some s))) (blk_below HX3.out hb4)))
        clear hb4
        go_wp2
        go_roundw
        case rel => exact ⟨k + 1, by omega, by go_num, Lib.hid HN.out.1, Lib.hid HN.out.2.1, Lib.hid HN.out.2.2⟩
        case measure => simp [intOf]; omega
    · obtain rfl : k = 8 := by omega
      have q0 : wr.cell? ⟨w.heap.size, 0, none⟩ = some (.slice none 0 0) := blk_cell HX.out 0
      have q1 : wr.cell? ⟨w.heap.size, 1, none⟩ = some (.slice none 0 0) := blk_cell HX.out 1
      have f0 : wr.frozen? ⟨w.heap.size, 0, none⟩ = false := blk_free HX.out 0
      have f1 : wr.frozen? ⟨w.heap.size, 1, none⟩ = false := blk_free HX.out 1
      have lR : w.heap.size < wr.heap.size := blk_lt HX.out
      have hRS : ((wr.setCell ⟨w.heap.size, 0, none⟩ (.slice none 0 0)).setCell ⟨w.heap.size, 1, none⟩ (.slice none 0 0)).heap[w.heap.size]? = some (.cells #[.slice none 0 0, .slice none 0 0] 29 (0, 0)) := by
        have := blk_set (blk_set HX.out 0 (.slice none 0 0)) 1 (.slice none 0 0)
        simpa using this
      have HPF := Lib.hid (RightCat_keep wr w.heap.size s (c + 6000 * (8 : Nat)) [] (.slice none 0 0) (.slice none 0 0) [] HX.out ls (OwnR.nil _ _) (OwnR.nil _ _) HS.out)
      have HGF := Lib.hid (Gr.set (Gr.set HG.out w.heap.size 0 (.inr (Nat.le_refl _)) (.slice none 0 0)) w.heap.size 1 (.inr (Nat.le_refl _)) (.slice none 0 0))
      go_wp2
      generalize (wr.setCell ⟨w.heap.size, 0, none⟩ (.slice none 0 0)).setCell ⟨w.heap.size, 1, none⟩ (.slice none 0 0) = w8 at *
      have t0 : w8.cell? ⟨w.heap.size, 0, none⟩ = some (.slice none 0 0) := blk_cell hRS 0
      have t1 : w8.cell? ⟨w.heap.size, 1, none⟩ = some (.slice none 0 0) := blk_cell hRS 1
      refine bodyPost_ret (v := .agg #[.slice none 0 0, .slice none 0 0]) (by simp [results, Tryz.results17, go_sem, t0, t1]) rfl ?_
      exact ⟨⟨_, _, [], [], rfl, HPF.out.1, HPF.out.2.1, by simp, by simp, by simp, by simp, catsF_nil⟩, HPF.out.2.2.mono (by omega), HGF.out⟩
end Go.Proofs.YtihgnpobkpnipaaGreatDoor
namespace Go.Proofs.YtihgnpobkpnipaaGreatDoor
open Go.RowKit Go.Sort Go.Maps
set_option maxHeartbeats 4000000 in
set_option maxRecDepth 100000 in
theorem CatString_any (s : Nat) (c : Int) (w : World) (h : Str w s c) (hT : TxW w) (hg1 : 3 < s) (hg2 : 0 < s) (hc : c ≤ 700000) :
    Calls Tryz.prog 12 #[.pointer (some ⟨s, 0, none⟩)] w fun e w' => ∃ r : ByteArray, e = .returned (.string r) ∧ r.size ≤ 5000 ∧ Str w' s (c + 50100) ∧ w.grownBy w' (some s) := by
  have ls := h.lt
  have HT := Lib.hid hT
  clear hT
  go_enter Tryz.func12, Tryz.ntmps12
  go_wp2_with fail
  refine (RightCatalogue_any s c w h (by omega)).mono ?_
  rintro e w1 ⟨⟨vp, va, ps, l, rfl, hO1, hO2, hp5, hl25, _, _, hc0⟩, hS1, hG1⟩
  have hz1 := hG1.size
  have HT1 := Lib.hid (HT.out.low (Gr.below hG1 (Nat.le_refl _) (Nat.le_of_lt ls)) hg1 hg2)
  have HSL := Lib.hid (CatLines_any ps l vp va w1 HT1.out ⟨hO1.rec0, hO2.rec0⟩ hc0)
  have HLEN : Hid (∀ r : ByteArray, bsOf r = catText (ps, l) → r.size ≤ 4000) := Lib.hid fun r hr => by
    have h1 := catText_len hc0
    rw [← bsOf_len, hr]
    omega
  obtain ⟨pa, pc, rfl, _, _⟩ := hO1.form
  obtain ⟨aa, ac, rfl, _, _⟩ := hO2.form
  clear hO1 hO2 hp5 hl25 hc0
  go_wp2_with fail
  refine HSL.out.mono ?_
  rintro e w2 ⟨r, rfl, hr, hb2⟩
  have hrs := HLEN.out r hr
  have hz2 := hb2.size
  have hG2 := Gr.trans hG1 (Gr.of_below hb2 (some s))
  have hS3 := (hS1.below hb2).alloc (.cells #[.int .i64 0, .int .i64 0, .int .i64 1, .int .i64 2] 3)
  have hG3' := Gr.alloc hG2 (.cells #[.int .i64 0, .int .i64 0, .int .i64 1, .int .i64 2] 3)
  clear hr hb2 hG1 hS1 hG2 HSL
  go_wp2_with fail
  refine (Pick_any s _ [0, 0, 1, 2] _ _ hS3 (by omega) (Ints.of_blk (blk_new _ _) rfl rfl (by simp) (by omega) (by omega)) (by simp) (by simp)).mono ?_
  rintro e w4 ⟨m, rfl, hm, hS4, hG4⟩
  obtain ⟨m, rfl, hm2⟩ : ∃ m' : Nat, m = (m' : Int) ∧ m' ≤ 2 := by
    simp only [List.mem_cons, List.not_mem_nil, or_false] at hm
    exact ⟨m.toNat, by omega, by omega⟩
  have hG4' := Gr.trans hG3' hG4
  clear hm hG3' hG4 hS3
  go_wp2_with fail
  go_loopw [3, 10] (fun v i wr => ∃ (k : Nat) (t : ByteArray), k ≤ m ∧ i = .int .i64 k ∧ v = .string t ∧ t.size ≤ 4000 + 11 * k ∧ Str wr s (c + 50001 + 3 * k) ∧ w.grownBy wr (some s)) (fun _ i _ => m - (intOf i).toNat)
  case atStart => exact ⟨0, r, Nat.zero_le _, rfl, rfl, by omega, hS4.mono (by omega), hG4'⟩
  case round =>
    obtain ⟨k, t, hk, rfl, rfl, ht, hS, hG⟩ := hrel
    by_cases hlt : k < m
    · have hw1 : IntKind.i64.wrap ((k : Int) + 1) = ((k + 1 : Nat) : Int) := by rw [IntWalk.i64_in _ (by omega)]; omega
      have HC := Lib.hid (Changed_any s _ t ⟨#[32, 10, 48, 49, 112, 117, 45]⟩ wr hS (by omega) (by omega) (by show 0 < 7; omega) (by show 7 ≤ 1000; omega))
      go_wp2_with fail
      refine HC.out.mono ?_
      rintro e w5 ⟨r5, rfl, hr5, hS5, hG5⟩
      have hr6 : r5.size ≤ 4000 + 11 * (k + 1) := by
        have : (⟨#[32, 10, 48, 49, 112, 117, 45]⟩ : ByteArray).size = 7 := rfl
        rw [this] at hr5
        omega
      have hG6 := Gr.trans hG hG5
      clear hr5 hG5
      go_wp2
      go_roundw
      case rel => exact ⟨k + 1, r5, by omega, by go_num, rfl, hr6, hS5.mono (by omega), hG6⟩
      case measure => simp [intOf]; omega
    · go_wp2
      go_ret
      exact ⟨_, rfl, by omega, hS.mono (by omega), hG⟩
end Go.Proofs.YtihgnpobkpnipaaGreatDoor
namespace Go.Proofs.YtihgnpobkpnipaaGreatDoor
abbrev Sty := Int × Int
def lvN : Int := 345686400000
/-- stays in order, each at a moment. -/
def AscS : List Sty → Prop
  | [] => True
  | [x] => 0 ≤ x.2 ∧ x.2 < lvN
  | x :: y :: r => 0 ≤ x.2 ∧ x.2 < y.2 ∧ AscS (y :: r)
theorem AscS.tail {x : Sty} {r : List Sty} (h : AscS (x :: r)) : AscS r := by
  cases r with
  | nil => trivial
  | cons y r => exact h.2.2
theorem AscS.head {x : Sty} {r : List Sty} (h : AscS (x :: r)) : 0 ≤ x.2 ∧ x.2 < lvN := by
  induction r generalizing x with
  | nil => exact h
  | cons y r ih =>
    have h2 := ih h.2.2
    exact ⟨h.1, by have := h.2.1; omega⟩
end Go.Proofs.YtihgnpobkpnipaaGreatDoor
namespace Go.Proofs.YtihgnpobkpnipaaGreatDoor
open Go.RowKit Go.Sort
def lifeV (lv : Int) : Int := if lv = 2 then 31536000000 else if lv = 3 then 604800000 else if lv = 4 then 259200000 else if lv = 5 then 86400000 else if lv = 6 then 21600000 else 0
theorem six {lv : Int} (h : 1 ≤ lv ∧ lv ≤ 6) : lv = 1 ∨ lv = 2 ∨ lv = 3 ∨ lv = 4 ∨ lv = 5 ∨ lv = 6 := by omega
theorem inB_iff {l n h : Int} : inB l n h = true ↔ l ≤ n ∧ n ≤ h := by unfold inB; simp
set_option maxHeartbeats 2000000 in
theorem life_any (lv : Int) (w : World) (h : 1 ≤ lv ∧ lv ≤ 6) : Calls Tryz.prog 96 #[.int .i64 lv] w fun e w' => e = .returned (.int .i64 (lifeV lv)) ∧ w = w' := by
  rcases six h with rfl | rfl | rfl | rfl | rfl | rfl
  all_goals (
    go_enter Tryz.func96, Tryz.ntmps96
    go_wp2
    go_ret
    exact ⟨ret_int (by decide), rfl⟩)
def lifR (lv : Int) : Int × Bool × Int := if inB 1 lv 6 = true then (lifeV lv, decide (lv ≠ 1), 0) else (0, false, 1)
set_option maxHeartbeats 2000000 in
theorem Life_any (lv : Int) (w : World) : Calls Tryz.prog 61 #[.int .i64 lv] w fun e w' => e = .returned (.tuple #[.int .i64 (lifR lv).1, .bool (lifR lv).2.1, .int .i64 (lifR lv).2.2]) ∧ w = w' := by
  cases h : inB 1 lv 6
  · have HR : Hid (lifR lv = (0, false, 1)) := Lib.hid (by unfold lifR; rw [h]; rfl)
    go_enter Tryz.func61, Tryz.ntmps61
    go_wp2_with (go_at_call 87; refine (Outside_any _ _ _ _).mono ?_; rintro e w' ⟨rfl, rfl⟩; rw [h])
    go_ret3
    exact ⟨by rw [HR.out] <;> rfl, rfl⟩
  · have HR : Hid (lifR lv = (lifeV lv, decide (lv ≠ 1), 0)) := Lib.hid (by unfold lifR; rw [h]; rfl)
    have hlv := inB_iff.1 h
    have HL := Lib.hid (life_any lv w hlv)
    have hd : (lv != 1) = decide (lv ≠ 1) := by rw [Bool.eq_iff_iff]; simp
    have HD := Lib.hid hd
    clear hd
    go_enter Tryz.func61, Tryz.ntmps61
    go_wp2_with (first | (go_at_call 87; refine (Outside_any _ _ _ _).mono ?_; rintro e w' ⟨rfl, rfl⟩; rw [h]) | (go_at_call 96; refine HL.out.mono ?_; rintro e w' ⟨rfl, rfl⟩))
    go_ret3
    exact ⟨by
      rw [HR.out]
      show Ending.returned (.tuple #[.int .i64 (lifeV lv), .bool (lv != 1), .int .i64 0]) = _
      rw [HD.out], rfl⟩
end Go.Proofs.YtihgnpobkpnipaaGreatDoor
namespace Go.Proofs.YtihgnpobkpnipaaGreatDoor
open Go.RowKit Go.Sort
/-- what lies in memory from the first steps of Usable on. -/
structure Ub (w : World) (P W : Nat) (key : ByteArray) (lv bk lo hi : Int) : Prop where
  p0 : w.cell? ⟨P, 0, none⟩ = some (.string key)
  p1 : w.cell? ⟨P, 1, none⟩ = some (.string ⟨#[113]⟩)
  p2 : w.cell? ⟨P, 2, none⟩ = some (.int .i64 lv)
  p3 : w.cell? ⟨P, 3, none⟩ = some (.int .i64 bk)
  q0 : w.cell? ⟨W, 0, none⟩ = some (.int .i64 lo)
  q1 : w.cell? ⟨W, 1, none⟩ = some (.int .i64 hi)
  lP : P < w.heap.size
  lW : W < w.heap.size
theorem Ub.below {w w' : World} {P W : Nat} {key : ByteArray} {lv bk lo hi : Int} (h : Ub w P W key lv bk lo hi) (hb : Below w.heap.size w w') : Ub w' P W key lv bk lo hi := by
  obtain ⟨bc, _⟩ := bcell hb
  exact ⟨(bc _ _ h.lP).trans h.p0, (bc _ _ h.lP).trans h.p1, (bc _ _ h.lP).trans h.p2, (bc _ _ h.lP).trans h.p3, (bc _ _ h.lW).trans h.q0, (bc _ _ h.lW).trans h.q1, Nat.lt_of_lt_of_le h.lP hb.size, Nat.lt_of_lt_of_le h.lW hb.size⟩
end Go.Proofs.YtihgnpobkpnipaaGreatDoor
namespace Go.Proofs.YtihgnpobkpnipaaGreatDoor
open Go.RowKit Go.Sort
theorem Ub.belowB {w w' : World} {P W B : Nat} {key : ByteArray} {lv bk lo hi : Int} (h : Ub w P W key lv bk lo hi) (hb : Below B w w') (h1 : P < B) (h2 : W < B) : Ub w' P W key lv bk lo hi :=
  ⟨(hb.cell (p := ⟨P, 0, none⟩) h1).trans h.p0, (hb.cell (p := ⟨P, 1, none⟩) h1).trans h.p1, (hb.cell (p := ⟨P, 2, none⟩) h1).trans h.p2, (hb.cell (p := ⟨P, 3, none⟩) h1).trans h.p3, (hb.cell (p := ⟨W, 0, none⟩) h2).trans h.q0, (hb.cell (p := ⟨W, 1, none⟩) h2).trans h.q1, Nat.lt_of_lt_of_le h.lP hb.size, Nat.lt_of_lt_of_le h.lW hb.size⟩
end Go.Proofs.YtihgnpobkpnipaaGreatDoor
namespace Go.Proofs.YtihgnpobkpnipaaGreatDoor
open Go.RowKit Go.Sort
theorem Str.start {w : World} {a : Option Addr} {cap : Nat} {l : List Int} (rl : Ints w 0 (.slice a l.length cap) l) (hl : ∀ x ∈ l, -9223372036854775808 ≤ x ∧ x ≤ 9223372036854775807) :
    Str (w.alloc (.cells #[.slice a l.length cap, .int .i64 0] 25)) w.heap.size 0 := by
  obtain ⟨a', cap', hv, h1, h2⟩ := Ints.form rl
  injection hv with _ _ hcap
  refine ⟨a, l.length, cap, 0, blk_new w _, Int.le_refl _, Int.le_refl _, by omega, fun k hk => ?_⟩
  obtain ⟨b, o, ha, _, hb, hc⟩ := rl.at (k := k) (x := l[k]) (List.getElem?_eq_getElem hk)
  have hx := hl l[k] (List.getElem_mem hk)
  exact ⟨b, o, l[k], ha, hb, by simp; omega, ((bcell (Bl.alloc (Below.refl _ _) _)).1 _ _ hb).trans hc, hx.1, hx.2⟩
theorem aged_any (w : World) : Calls Tryz.prog 16 #[] w fun e w' => e = .returned (.bool true) ∧ w = w' := by
  have h := Life_any 4 w
  rw [show lifR 4 = (259200000, true, 0) by decide] at h
  have HL := Lib.hid h
  clear h
  go_enter Tryz.func16, Tryz.ntmps16
  go_wp2_with fail
  refine HL.out.mono ?_
  rintro e w' ⟨rfl, rfl⟩
  go_wp2
  go_ret
  exact ⟨rfl, rfl⟩
end Go.Proofs.YtihgnpobkpnipaaGreatDoor
namespace Go.Proofs.YtihgnpobkpnipaaGreatDoor
open Go.RowKit Go.Sort
theorem Str.begin {w : World} {a : Option Addr} {cap : Nat} {l : List Int} (rl : Ints w 0 (.slice a l.length cap) l) (hl : ∀ x ∈ l, -9223372036854775808 ≤ x ∧ x ≤ 9223372036854775807) :
    Str (w.alloc (.cells #[.slice a l.length cap, .int .i64 0] 25)) w.heap.size 0 := by
  obtain ⟨a', cap', hv, h1, h2⟩ := Ints.form rl
  injection hv with _ _ hcap
  refine ⟨a, l.length, cap, 0, blk_new w _, Int.le_refl _, Int.le_refl _, by omega, fun k hk => ?_⟩
  obtain ⟨b, o, ha, _, hb, hc⟩ := rl.at (k := k) (x := l[k]) (List.getElem?_eq_getElem hk)
  have hx := hl l[k] (List.getElem_mem hk)
  exact ⟨b, o, l[k], ha, hb, by simp; omega, ((bcell (Bl.alloc (Below.refl _ _) _)).1 _ _ hb).trans hc, hx.1, hx.2⟩
end Go.Proofs.YtihgnpobkpnipaaGreatDoor
