/- ContainsFunc of the reference's HopelessAt: whether some component is worn; it turns nothing. Conditions: at most 10^5 names. · The reference's stable sort of the boards that wait. Conditions: at most 19 of them, names of at most 1000 bytes. · What a board is like in the reference's shop: condition, ConditionAt; SameCondition of equal ones. Conditions: names of at most 1000 bytes, right steps. · slices.Equal of equal rows of strings. · The reference's BoardsIn, WaitingAt and HopelessAt. Conditions: right steps, at most 24 of them. -/
import Derived.Test.YtbkglhakhahfpaaGreatDoorIn
import Derived.Test.YtbkglhakhahfpaaGreatDoorHls
import Derived.Test.YtbkglhakhahfpaaGreatDoorTho
import Derived.Deep.RegionWith
import Derived.BigRegion
namespace Go.Proofs.YtbkglhakhahfpaaGreatDoor
open Go.RowKit Go.Sort Go.Maps

end Go.Proofs.YtbkglhakhahfpaaGreatDoor
namespace Go.Proofs.YtbkglhakhahfpaaGreatDoor
open Go.RowKit Go.Sort Go.Maps

end Go.Proofs.YtbkglhakhahfpaaGreatDoor
namespace Go.Proofs.YtbkglhakhahfpaaGreatDoor
open Go.RowKit Go.Sort Go.Maps Go.Shelf Go.Lib

theorem SEqual_any (l : List ByteArray) (v u : Value) (w : World) (hl : l.length ≤ 100000) (rl : RecR TS w 0 v l) (rm : RecR TS w 0 u l) :
    Calls Tryz.prog 36 #[v, u] w fun e w' => e = .returned (.bool true) ∧ Below w.heap.size w w' := by
  obtain ⟨a1, c1, rfl, _, _⟩ := rl.form
  obtain ⟨a2, c2, rfl, _, _⟩ := rm.form
  by_cases h0 : l = []
  · subst h0
    refine (Tryz.slices_Equal_string_empty a1 a2 c1 0 c2 w (by omega)).mono ?_
    rintro e w' ⟨rfl, rfl⟩
    exact ⟨rfl, Below.refl _ _⟩
  · obtain ⟨y, hy⟩ : ∃ y, l[0]? = some y := ⟨_, List.getElem?_eq_getElem (List.length_pos_iff.2 h0)⟩
    obtain ⟨b1, o1, rfl, _, _, _⟩ := str_at rl hy
    obtain ⟨b2, o2, rfl, _, _, _⟩ := str_at rm hy
    refine (Tryz.slices_Equal_string b1 o1 l.length c1 b2 o2 l.length c2 l l w (Nat.le_refl _) (Nat.le_refl _) (by omega) (by omega) (str_cells rl) (str_cells rm)).mono ?_
    rintro e w' ⟨rfl, q, rfl⟩
    exact ⟨by simp, Bl.drewN (Below.refl _ _) q⟩
end Go.Proofs.YtbkglhakhahfpaaGreatDoor
namespace Go.Proofs.YtbkglhakhahfpaaGreatDoor
open Go.RowKit Go.Sort Go.Maps Go.Lib

set_option maxHeartbeats 4000000 in
theorem bic_any (X g : Nat) (b : Bd0) (st : Int) (W : World) (hM : LifeM W g b) (hX : W.cell? ⟨X, 0, none⟩ = some (.int .i64 st)) :
    Calls Tryz.prog 191 #[.pointer (some ⟨g, 0, none⟩), .pointer (some ⟨X, 0, none⟩)] W fun e w' => e = .returned (.bool (decide (b.st = st))) ∧ Below W.heap.size W w' := by
  have hd : (b.st == st) = decide (b.st = st) := by
    by_cases h : b.st = st
    · simp [h]
    · simp [h]
  obtain ⟨r, hr⟩ : ∃ r, r = decide (b.st = st) := ⟨_, rfl⟩
  rw [← hr] at hd ⊢
  have HR := Lib.hid hr
  obtain ⟨_, _, _, v, hbk, _⟩ := hM
  have d0 : W.cell? ⟨g, 0, none⟩ = some (.int .i64 b.st) := blk_cell hbk 0
  have lg := blk_lt hbk
  have lX := World.block_lt_of_cell? _ _ hX
  simp only at lX
  clear hbk hr
  go_enter Tryz.func191, Tryz.ntmps191
  go_wp2
  go_quiet (fail)
  go_wp2
  go_ret
  exact ⟨rfl, Bl.drewN (Below.refl _ _) _⟩
theorem hopen_short {b : Bd0} (h : BdJ b) : ∀ p ∈ b.op, p.1.length ≤ 1000 := fun p hp => by
  have h1 := keyB_size (h.ck p hp)
  have e : (baOf p.1).size = p.1.length := by show p.1.toArray.size = _; simp
  omega
def hopF (rh rr : Int) (b : Bd0) : Bool := decide (b.st = 3) && isHopB rh rr b
set_option maxHeartbeats 4000000 in
theorem RBoardsIn_any (rh rr : Int) (l : List Stp) (at' st : Int) (v : Value) (w : World) (rl : RecR TSt w 0 v l) (hl : stepsF l = 0) :
    Calls Tryz.prog 108 #[.agg #[.int .i64 rh, .int .i64 rr], v, .int .i64 at', .int .i64 st] w fun e w' => (∃ u, e = .returned u ∧ OwnR TS w' w.heap.size u ((inS (runS rh rr at' [] l) st).map baOf)) ∧ Below w.heap.size w w' := by
  have hA := Bl.alloc (Bl.alloc (Below.refl w.heap.size w) (.cells #[.int .i64 rh, .int .i64 rr] 27)) (.cells #[.int .i64 st] 3)
  have hC := blk_new' (w.alloc (.cells #[.int .i64 rh, .int .i64 rr] 27)) (.cells #[.int .i64 st] 3) (g := w.heap.size + 1) (by simp)
  have HC := Lib.hid (RShopAt_any rh rr at' l v _ (rl.below hA) hl)
  have HA := Lib.hid (And.intro hA hC)
  have HM := Lib.hid (run_small (rh := rh) (rr := rr) (at' := at') hl).1
  clear rl hl hA hC
  go_enter Tryz.func108, Tryz.ntmps108
  go_wp2_with fail
  refine HC.out.mono ?_
  rintro e w1 ⟨S, ov, wv, rfl, hS, ho, hw, hS1, hb1⟩
  have hC1 := blk_below HA.out.2 hb1
  have hB1 := Bl.trans HA.out.1 hb1
  have HT := Lib.hid (those_any S rh rr _ w1 hS 191 #[.pointer (some ⟨w.heap.size + 1, 0, none⟩)] (fun a => #[a, .pointer (some ⟨w.heap.size + 1, 0, none⟩)]) _ (by first | exact .inl ⟨rfl, rfl, rfl⟩ | exact .inr (.inl ⟨rfl, rfl, rfl⟩) | exact .inr (.inr (.inl ⟨rfl, rfl, rfl⟩))) (fun b => decide (b.st = st)) (fun W g k b hW hg _ => bic_any (w.heap.size + 1) g b st W hg (blk_cell (blk_below hC1 hW) 0)) HM.out)
  have hz1 := hB1.size
  clear hS ho hw hS1 hb1 HC hC1
  go_wp2_with fail
  refine HT.out.mono ?_
  rintro e w2 ⟨⟨u, rfl, hu⟩, hb2⟩
  have HF := Lib.hid (And.intro (hu.base hz1) (Bl.trans hB1 hb2))
  clear hu hb2 hB1
  go_wp2
  go_ret
  exact ⟨⟨_, rfl, HF.out.1⟩, HF.out.2⟩
theorem inS_hop (rh rr : Int) (m : Sm Bd0) (hm : Sm.Ok m) : Sm.keys (m.filter fun p => hopF rh rr p.2) = (inS m 3).filter (hopK rh rr m) := by
  unfold inS Sm.keys
  rw [List.filter_map, List.filter_filter]
  congr 1
  apply List.filter_congr
  intro p hp
  have hg : m.get p.1 = some p.2 := Sm.get_of_mem hm hp
  unfold hopF hopK
  simp only [Function.comp]
  rw [hg]
  simp [Bool.and_comm]
end Go.Proofs.YtbkglhakhahfpaaGreatDoor
