/- Texts of the proof of a law, put together, part 31 of 35. Conditions: none beyond those that each theorem names. -/
import Derived.Test.YtihgnpobkpnipaaGreatDoorMz27
import Derived.Test.YtihgnpobkpnipaaGreatDoorMz30
namespace Go.Proofs.YtihgnpobkpnipaaGreatDoor
open Go.RowKit Go.Sort
theorem catsF_nil : catsF [] [] = 0 := rfl
theorem PrtS.z {ps : List Prt} (h : ∀ x ∈ ps, PrtS x) : PrtZ ps := fun x hx => ⟨Nat.le_trans (h x hx).1 (by decide), Nat.le_trans (h x hx).2.1 (by decide)⟩
theorem AltS.z {l : List Alt} (h : ∀ x ∈ l, AltS x) : AltZ l := fun x hx => ⟨Nat.le_trans (h x hx).1 (by decide), Nat.le_trans (h x hx).2 (by decide)⟩
def CatRt (w0 : World) (e : Ending) (w' : World) : Prop := ∃ vp va ps l, e = .returned (.agg #[vp, va]) ∧ OwnR TPt w' w0.heap.size vp ps ∧ OwnR TAl w' w0.heap.size va l ∧ ps.length ≤ 5 ∧ l.length ≤ 25 ∧ (∀ x ∈ ps, PrtS x) ∧ (∀ x ∈ l, AltS x) ∧ catsF ps l = 0
/-- what the two stores of the result leave as it was. -/
theorem RightCat_keep (w : World) (g s : Nat) (c : Int) (ps : List Prt) (vp va : Value) (l : List Alt) (hx : w.heap[g]? = some (.cells #[.slice none 0 0, .slice none 0 0] 29 (0, 0))) (ls : s < g) (hp : OwnR TPt w g vp ps) (ha : OwnR TAl w g va l) (hs : Str w s c) :
    OwnR TPt ((w.setCell ⟨g, 0, none⟩ vp).setCell ⟨g, 1, none⟩ va) g vp ps ∧ OwnR TAl ((w.setCell ⟨g, 0, none⟩ vp).setCell ⟨g, 1, none⟩ va) g va l ∧ Str ((w.setCell ⟨g, 0, none⟩ vp).setCell ⟨g, 1, none⟩ va) s c := by
  have e : ∀ k : Nat, k ≠ g → ((w.setCell ⟨g, 0, none⟩ vp).setCell ⟨g, 1, none⟩ va).heap[k]? = w.heap[k]? := fun k hk =>
    (Below.heap_setCell _ ⟨g, 1, none⟩ _ k hk).trans (Below.heap_setCell _ ⟨g, 0, none⟩ _ k hk)
  refine ⟨(ownR_k TPt g).keep hp fun k hk => e k fun e2 => ?_, (ownR_k TAl g).keep ha fun k hk => e k fun e2 => ?_, (hs.far g 0 (by omega) vp).far g 1 (by omega) va⟩
  · subst e2
    obtain ⟨_, c1, h1⟩ := (ownR_k TPt k).blk hp hk
    rw [hx] at h1
    injection h1 with h1
    injection h1 with _ e3 _
    exact absurd e3 (by decide)
  · subst e2
    obtain ⟨_, c1, h1⟩ := (ownR_k TAl k).blk ha hk
    rw [hx] at h1
    injection h1 with h1
    injection h1 with _ e3 _
    exact absurd e3 (by decide)
set_option maxHeartbeats 4000000 in
set_option maxRecDepth 100000 in
theorem RightCatalogue_any (s : Nat) (c : Int) (w : World) (h : Str w s c) (hc : c ≤ 800000) :
    Calls Tryz.prog 17 #[.pointer (some ⟨s, 0, none⟩)] w fun e w' => CatRt w e w' ∧ Str w' s (c + 50000) ∧ w.grownBy w' (some s) := by
  have ls := h.lt
  obtain ⟨w1, hw1⟩ : ∃ w1, w1 = w.alloc (.cells #[.slice none 0 0, .slice none 0 0] 29) := ⟨_, rfl⟩
  have hb1 : Below w.heap.size w w1 := by rw [hw1]; exact Bl.alloc (Below.refl _ _) _
  have HS1 := Lib.hid (h.below hb1)
  have HG1 := Lib.hid (Gr.of_below hb1 (some s))
  have HX1 := Lib.hid (show w1.heap[w.heap.size]? = some (.cells #[.slice none 0 0, .slice none 0 0] 29 (0, 0)) by rw [hw1]; exact blk_new w _)
  have HW1 := Lib.hid hw1
  clear h hb1 hw1
  go_enter Tryz.func17, Tryz.ntmps17
  go_wp2_with fail
  rw [← HW1.out]
  go_loopw [4] (fun i wr => ∃ k : Nat, k ≤ 8 ∧ i = .int .i64 k ∧ Hid (Str wr s (c + 6000 * k)) ∧ Hid (w.grownBy wr (some s)) ∧ Hid (wr.heap[w.heap.size]? = some (.cells #[.slice none 0 0, .slice none 0 0] 29 (0, 0)))) (fun i _ => 8 - (intOf i).toNat)
  case atStart => exact ⟨0, by omega, rfl, Lib.hid (HS1.out.mono (by omega)), HG1, HX1⟩
  case round =>
    obtain ⟨k, hk, rfl, HS, HG, HX⟩ := hrel
    by_cases hlt : k < 8
    · have hwk : IntKind.i64.wrap ((k : Int) + 1) = ((k + 1 : Nat) : Int) := by rw [IntWalk.i64_in _ (by omega)]; omega
      go_wp2_with fail
      refine (CatalogueOf_any s _ wr HS.out (by omega)).mono ?_
      rintro e w2 ⟨⟨vp, va, ps, l, rfl, hOp, hOa, hlp, hla, hkp, hka⟩, hS2, hG2⟩
      obtain ⟨pa, pn, pcap, rfl⟩ : ∃ a n c, vp = .slice a n c := by obtain ⟨a, c, h, _, _⟩ := hOp.form; exact ⟨a, _, c, h⟩
      obtain ⟨aa, an, acap, rfl⟩ : ∃ a n c, va = .slice a n c := by obtain ⟨a, c, h, _, _⟩ := hOa.form; exact ⟨a, _, c, h⟩
      obtain ⟨r3, hr3⟩ : ∃ r3, r3 = w2.heap.size := ⟨_, rfl⟩
      obtain ⟨w3, hw3⟩ : ∃ w3, w3 = w2.alloc (.cells #[.slice pa pn pcap, .slice aa an acap] 29) := ⟨_, rfl⟩
      have hb3 : Below w2.heap.size w2 w3 := by rw [hw3]; exact Bl.alloc (Below.refl _ _) _
      have hx3 : w3.heap[r3]? = some (.cells #[.slice pa pn pcap, .slice aa an acap] 29 (0, 0)) := by rw [hw3, hr3]; exact blk_new w2 _
      have HX3 := Lib.hid (blk_below (Gr.blk hG2 HX.out (by omega)) hb3)
      have HG3 := Lib.hid (Gr.trans (Gr.trans HG.out hG2) (Gr.of_below hb3 _))
      have hz0 := HG.out.size
      have HOp := Lib.hid ((OwnR.base hOp hz0).below hb3)
      have HOa := Lib.hid ((OwnR.base hOa hz0).below hb3)
      have HS3 := Lib.hid (hS2.below hb3)
      have HCR : CatR w3 (.slice pa pn pcap) (.slice aa an acap) ps l := ⟨(hOp.below hb3).rec0, (hOa.below hb3).rec0⟩
      have HSF := Lib.hid (CatalogueFault_any ps l _ _ w3 (by omega) (by omega) (PrtS.z hkp) (AltS.z hka) HCR)
      have HK := Lib.hid (And.intro hlp (And.intro hla (And.intro hkp hka)))
      obtain ⟨F, hF⟩ : ∃ F, F = catsF ps l := ⟨_, rfl⟩
      rw [← hF] at HSF
      have HF := Lib.hid hF
      have HR3 := Lib.hid (And.intro hr3 hw3)
      have c3 : w3.cell? ⟨r3, 0, none⟩ = some (.slice pa pn pcap) := blk_cell hx3 0
      have c4 : w3.cell? ⟨r3, 1, none⟩ = some (.slice aa an acap) := blk_cell hx3 1
      have HX3' := Lib.hid hx3
      have lr3 := blk_lt hx3
      have hzw : w.heap.size < r3 := by
        have := blk_lt (Gr.blk hG2 HX.out (by omega))
        omega
      clear hOp hOa hlp hla hkp hka hS2 hG2 hF HCR hx3 hb3 hr3 hw3
      by_cases h0 : F = 0
      · subst h0
        go_wp2_with fail
        rw [← HR3.out.2, ← HR3.out.1]
        refine HSF.out.mono ?_
        rintro e w4 ⟨rfl, hb4⟩
        have c3 : w4.cell? ⟨r3, 0, none⟩ = some (.slice pa pn pcap) := blk_cell (blk_below HX3'.out hb4) 0
        have c4 : w4.cell? ⟨r3, 1, none⟩ = some (.slice aa an acap) := blk_cell (blk_below HX3'.out hb4) 1
        have hx4 := blk_below HX3.out hb4
        have q0 : w4.cell? ⟨w.heap.size, 0, none⟩ = some (.slice none 0 0) := blk_cell hx4 0
        have q1 : w4.cell? ⟨w.heap.size, 1, none⟩ = some (.slice none 0 0) := blk_cell hx4 1
        have f0 : w4.frozen? ⟨w.heap.size, 0, none⟩ = false := blk_free hx4 0
        have f1 : w4.frozen? ⟨w.heap.size, 1, none⟩ = false := blk_free hx4 1
        have lR : w.heap.size < w4.heap.size := blk_lt hx4
        have hRS : ((w4.setCell ⟨w.heap.size, 0, none⟩ (.slice pa pn pcap)).setCell ⟨w.heap.size, 1, none⟩ (.slice aa an acap)).heap[w.heap.size]? = some (.cells #[.slice pa pn pcap, .slice aa an acap] 29 (0, 0)) := by
          have := blk_set (blk_set hx4 0 (.slice pa pn pcap)) 1 (.slice aa an acap)
          simpa using this
        have HSz := Lib.hid (And.intro ls HSF.out)
        have HPF := Lib.hid (RightCat_keep w4 w.heap.size s (c + 6000 * k + 6000) ps (.slice pa pn pcap) (.slice aa an acap) l hx4 ls (HOp.out.below hb4) (HOa.out.below hb4) (HS3.out.below hb4))
        have HGF := Lib.hid (Gr.set (Gr.set (Gr.trans HG3.out (Gr.of_below hb4 (some s))) w.heap.size 0 (.inr (Nat.le_refl _)) (.slice pa pn pcap)) w.heap.size 1 (.inr (Nat.le_refl _)) (.slice aa an acap))
        clear hb4 hx4
        go_wp2
        generalize (w4.setCell ⟨w.heap.size, 0, none⟩ (.slice pa pn pcap)).setCell ⟨w.heap.size, 1, none⟩ (.slice aa an acap) = w8 at *
        have t0 : w8.cell? ⟨w.heap.size, 0, none⟩ = some (.slice pa pn pcap) := blk_cell hRS 0
        have t1 : w8.cell? ⟨w.heap.size, 1, none⟩ = some (.slice aa an acap) := blk_cell hRS 1
        refine bodyPost_ret (v := .agg #[.slice pa pn pcap, .slice aa an acap]) (by simp [results, Tryz.results17, go_sem, t0, t1]) rfl ?_
        exact ⟨⟨_, _, _, _, rfl, HPF.out.1, HPF.out.2.1, HK.out.1, HK.out.2.1, HK.out.2.2.1, HK.out.2.2.2, HF.out.symm⟩, HPF.out.2.2.mono (by omega), HGF.out⟩
      · have h0' : (F == 0) = false := by simp [h0]
        go_wp2_with fail
        rw [← HR3.out.2, ← HR3.out.1]
        refine HSF.out.mono ?_
        rintro e w4 ⟨rfl, hb4⟩
        have HN := Lib.hid (And.intro ((HS3.out.below hb4).mono (d := c + 6000 * ((k + 1 : Nat) : Int)) (by omega)) (And.intro (Gr.trans HG3.out (Gr.of_below hb4 (some s))) (blk_below HX3.out hb4)))
        clear hb4
        go_wp2
        go_roundw
        case rel => exact ⟨k + 1, by omega, by go_num, Lib.hid HN.out.1, Lib.hid HN.out.2.1, Lib.hid HN.out.2.2⟩
        case measure => simp [intOf]; omega
    · obtain rfl : k = 8 := by omega
      have q0 : wr.cell? ⟨w.heap.size, 0, none⟩ = some (.slice none 0 0) := blk_cell HX.out 0
      have q1 : wr.cell? ⟨w.heap.size, 1, none⟩ = some (.slice none 0 0) := blk_cell HX.out 1
      have f0 : wr.frozen? ⟨w.heap.size, 0, none⟩ = false := blk_free HX.out 0
      have f1 : wr.frozen? ⟨w.heap.size, 1, none⟩ = false := blk_free HX.out 1
      have lR : w.heap.size < wr.heap.size := blk_lt HX.out
      have hRS : ((wr.setCell ⟨w.heap.size, 0, none⟩ (.slice none 0 0)).setCell ⟨w.heap.size, 1, none⟩ (.slice none 0 0)).heap[w.heap.size]? = some (.cells #[.slice none 0 0, .slice none 0 0] 29 (0, 0)) := by
        have := blk_set (blk_set HX.out 0 (.slice none 0 0)) 1 (.slice none 0 0)
        simpa using this
      have HPF := Lib.hid (RightCat_keep wr w.heap.size s (c + 6000 * (8 : Nat)) [] (.slice none 0 0) (.slice none 0 0) [] HX.out ls (OwnR.nil _ _) (OwnR.nil _ _) HS.out)
      have HGF := Lib.hid (Gr.set (Gr.set HG.out w.heap.size 0 (.inr (Nat.le_refl _)) (.slice none 0 0)) w.heap.size 1 (.inr (Nat.le_refl _)) (.slice none 0 0))
      go_wp2
      generalize (wr.setCell ⟨w.heap.size, 0, none⟩ (.slice none 0 0)).setCell ⟨w.heap.size, 1, none⟩ (.slice none 0 0) = w8 at *
      have t0 : w8.cell? ⟨w.heap.size, 0, none⟩ = some (.slice none 0 0) := blk_cell hRS 0
      have t1 : w8.cell? ⟨w.heap.size, 1, none⟩ = some (.slice none 0 0) := blk_cell hRS 1
      refine bodyPost_ret (v := .agg #[.slice none 0 0, .slice none 0 0]) (by simp [results, Tryz.results17, go_sem, t0, t1]) rfl ?_
      exact ⟨⟨_, _, [], [], rfl, HPF.out.1, HPF.out.2.1, by simp, by simp, by simp, by simp, catsF_nil⟩, HPF.out.2.2.mono (by omega), HGF.out⟩
end Go.Proofs.YtihgnpobkpnipaaGreatDoor
