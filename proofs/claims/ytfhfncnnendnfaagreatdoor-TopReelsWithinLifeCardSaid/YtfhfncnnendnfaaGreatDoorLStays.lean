/- What the stream gives for floor lives: Stays, ATime. Conditions: a stream that has been asked fewer than 10^6 times. -/
import Derived.Test.YtfhfncnnendnfaaGreatDoorStrs
namespace Go.Proofs.YtfhfncnnendnfaaGreatDoor
open Go.RowKit Go.Sort

def BdS (p : Int × Int) : Prop := -2199023255552 ≤ p.1 ∧ p.1 ≤ 2199023255552 ∧ -2199023255552 ≤ p.2 ∧ p.2 ≤ 2199023255552
theorem flat2_set : ∀ (l : List (Int × Int)) (r : Nat) (y : Int × Int), (l.set r y).flatMap TY.f = ((l.flatMap TY.f).set (r * 2) (.int .i64 y.1)).set (r * 2 + 1) (.int .i64 y.2)
  | [], r, y => by simp
  | x :: l, 0, y => by simp [TY]
  | x :: l, r + 1, y => by
    have := flat2_set l r y
    rw [List.set_cons_succ, List.flatMap_cons, List.flatMap_cons, this]
    rw [show (r + 1) * 2 = r * 2 + 1 + 1 by omega]
    simp [TY]
theorem OwnY.set {w : World} {B g cap : Nat} {l : List (Int × Int)} (h : OwnR TY w B (.slice (some ⟨g, 0, none⟩) l.length cap) l) (r : Nat) (a b : Int) :
    OwnR TY ((w.setCell ⟨g, r * 2, none⟩ (.int .i64 a)).setCell ⟨g, r * 2 + 1, none⟩ (.int .i64 b)) B (.slice (some ⟨g, 0, none⟩) l.length cap) (l.set r (a, b)) := by
  by_cases h0 : l = []
  · subst h0
    rcases h.2 with ⟨h1, _⟩ | ⟨g', cap', cur, hv, hB, hb, h1, h2, h3, h4⟩
    · cases h1
    · obtain ⟨hv1, _, hv2⟩ := Value.slice.inj hv
      injection hv1 with hv1
      injection hv1 with hv1
      subst hv1 hv2
      exact ⟨rfl, .inr ⟨g, cap, _, rfl, hB, blk_set (blk_set hb _ _) _ _, h1, h2, by simpa using h3, by simp⟩⟩
  · obtain ⟨g', cap', cur, hv, hB, hb, h1, h2, h3, h4⟩ := h.blk h0
    obtain ⟨hv1, _, hv2⟩ := Value.slice.inj hv
    injection hv1 with hv1
    injection hv1 with hv1
    subst hv1 hv2
    have := OwnR.of_blk (T := TY) (l := l.set r (a, b)) hB (blk_set (blk_set hb (r * 2) (.int .i64 a)) (r * 2 + 1) (.int .i64 b)) (by rw [List.length_set]; exact h1) h2 (by simpa using h3) (by
      rw [List.length_set, Array.toList_setIfInBounds, Array.toList_setIfInBounds, List.take_set, List.take_set, h4, flat2_set]) (by rw [flat_len TY.ok.len])
    rw [List.length_set] at this
    exact this
theorem OwnY.cell {w : World} {B g cap n : Nat} {l : List (Int × Int)} (h : OwnR TY w B (.slice (some ⟨g, 0, none⟩) n cap) l) (hn : n = l.length) {r : Nat} {x : Int × Int} (hx : l[r]? = some x) :
    w.cell? ⟨g, r * 2, none⟩ = some (.int .i64 x.1) ∧ w.cell? ⟨g, r * 2 + 1, none⟩ = some (.int .i64 x.2) ∧ w.frozen? ⟨g, r * 2, none⟩ = false ∧ w.frozen? ⟨g, r * 2 + 1, none⟩ = false := by
  subst hn
  obtain ⟨b, o, ha, _, _, hc⟩ := h.rec.at TY.ok.len hx TY.ok.pos
  injection ha with ha
  injection ha with h1 h2 h3
  subst h1 h2
  have e0 := hc 0 _ rfl
  have e1 := hc 1 _ rfl
  rw [Nat.zero_add] at e0 e1
  refine ⟨e0, e1, ?_, ?_⟩
  all_goals
    obtain ⟨g', cap', cur, hv, hB, hb, _⟩ := h.blk (by rintro rfl; simp at hx)
    obtain ⟨hv1, _, hv2⟩ := Value.slice.inj hv
    injection hv1 with hv1
    injection hv1 with hv1
    subst hv1
    exact blk_free hb _
end Go.Proofs.YtfhfncnnendnfaaGreatDoor
