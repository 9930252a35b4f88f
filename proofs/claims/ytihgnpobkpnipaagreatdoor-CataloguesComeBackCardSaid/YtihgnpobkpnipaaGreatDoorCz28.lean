/- Texts of the proof of a law, put together, part 28 of 35. Conditions: none beyond those that each theorem names. -/
import Derived.Test.YtihgnpobkpnipaaGreatDoorCz27
namespace Go.Proofs.YtihgnpobkpnipaaGreatDoor
open Go.RowKit Go.Sort
set_option maxHeartbeats 4000000 in
set_option maxRecDepth 100000 in
theorem SameCat_same (ps : List Prt) (l : List Alt) (vp va up ua : Value) (w : World) (hp : ps.length ≤ 100000) (hl : l.length ≤ 100000) (h1 : CatR w vp va ps l) (h2 : CatR w up ua ps l) :
    Calls Tryz.prog 15 #[.agg #[vp, va], .agg #[up, ua]] w fun e w' => e = .returned (.bool true) ∧ Below w.heap.size w w' := by
  have HE1 := Lib.hid fun (W : World) (hW : Below w.heap.size w W) => EqPt_same ps vp up W hp (h1.p.below hW) (h2.p.below hW)
  have HE2 := Lib.hid fun (W : World) (hW : Below w.heap.size w W) => EqAl_same l va ua W hl (h1.a.below hW) (h2.a.below hW)
  obtain ⟨a1, c1, rfl, _, _⟩ := h1.p.form
  obtain ⟨a2, c2, rfl, _, _⟩ := h1.a.form
  obtain ⟨a3, c3, rfl, _, _⟩ := h2.p.form
  obtain ⟨a4, c4, rfl, _, _⟩ := h2.a.form
  obtain ⟨pn, hpn⟩ : ∃ q, q = ps.length := ⟨_, rfl⟩
  obtain ⟨an, han⟩ : ∃ q, q = l.length := ⟨_, rfl⟩
  rw [← hpn] at HE1
  rw [← han] at HE2
  rw [← hpn, ← han]
  obtain ⟨w1, hw1⟩ : ∃ w1, w1 = w.alloc (.cells #[.slice a1 pn c1, .slice a2 an c2] 29) := ⟨_, rfl⟩
  obtain ⟨w2, hw2⟩ : ∃ w2, w2 = w1.alloc (.cells #[.slice a3 pn c3, .slice a4 an c4] 29) := ⟨_, rfl⟩
  have hA1 : Below w.heap.size w w1 := by rw [hw1]; exact Bl.alloc (Below.refl _ _) _
  have hA2 : Below w.heap.size w w2 := by rw [hw2]; exact Bl.alloc hA1 _
  have hx1 : w1.heap[w.heap.size]? = some (.cells #[.slice a1 pn c1, .slice a2 an c2] 29 (0, 0)) := by rw [hw1]; exact blk_new w _
  have hxr : w2.heap[w.heap.size]? = some (.cells #[.slice a1 pn c1, .slice a2 an c2] 29 (0, 0)) := blk_below hx1 (by rw [hw2]; exact Bl.alloc (Below.refl _ _) _)
  have hz1 : w1.heap.size = w.heap.size + 1 := by rw [hw1]; simp
  have hx2 : w2.heap[w.heap.size + 1]? = some (.cells #[.slice a3 pn c3, .slice a4 an c4] 29 (0, 0)) := by rw [hw2, ← hz1]; exact blk_new w1 _
  have HW1 := Lib.hid hw1
  have HW2 := Lib.hid hw2
  have HA2 := Lib.hid hA2
  have q0 : w2.cell? ⟨w.heap.size, 0, none⟩ = some (.slice a1 pn c1) := blk_cell hxr 0
  have q1 : w2.cell? ⟨w.heap.size, 1, none⟩ = some (.slice a2 an c2) := blk_cell hxr 1
  have p0 : w2.cell? ⟨w.heap.size + 1, 0, none⟩ = some (.slice a3 pn c3) := blk_cell hx2 0
  have p1 : w2.cell? ⟨w.heap.size + 1, 1, none⟩ = some (.slice a4 an c4) := blk_cell hx2 1
  have HXR := Lib.hid hxr
  have HX2 := Lib.hid hx2
  clear h1 h2 hpn han hA1 hA2 hx1 hxr hx2 hw1 hw2 hz1
  go_enter Tryz.func15, Tryz.ntmps15
  go_upto_region 1 with fail
  rw [← HW1.out, ← HW2.out]
  go_wp2_with fail
  refine (HE1.out _ HA2.out).mono ?_
  rintro e w3 ⟨rfl, hb3⟩
  have HB3 := Lib.hid (Bl.trans HA2.out hb3)
  have hxr3 := blk_below HXR.out hb3
  have hx23 := blk_below HX2.out hb3
  have q1 : w3.cell? ⟨w.heap.size, 1, none⟩ = some (.slice a2 an c2) := blk_cell hxr3 1
  have p1 : w3.cell? ⟨w.heap.size + 1, 1, none⟩ = some (.slice a4 an c4) := blk_cell hx23 1
  clear hb3 hxr3 hx23
  go_wp2_with fail
  refine (HE2.out _ HB3.out).mono ?_
  rintro e w4 ⟨rfl, hb4⟩
  have HB4 := Lib.hid (Bl.trans HB3.out hb4)
  clear hb4
  go_wp2
  go_ret
  exact ⟨rfl, HB4.out⟩
end Go.Proofs.YtihgnpobkpnipaaGreatDoor
