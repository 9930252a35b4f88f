/- The contract of slices.Concat at slices of ints. Conditions: at most 1000 lists, none empty, none longer than 1000. -/
import Derived.Test.YtgcmlhpocbgkaaaGreatDoorCmp
import Derived.Test.YtgcmlhpocbgkaaaGreatDoorGrow
import Derived.Shelf.Spec.SlicesGrow
namespace Go.Proofs.YtgcmlhpocbgkaaaGreatDoor
open Go.RowKit Go.Sort

def lensOf (ls : List (List Int)) : Int := (ls.map fun l => (l.length : Int)).sum
theorem lensOf_take {ls : List (List Int)} {k : Nat} {l : List Int} (h : ls[k]? = some l) : lensOf (ls.take (k + 1)) = lensOf (ls.take k) + l.length := by
  unfold lensOf
  rw [List.take_add_one, h]
  simp
theorem lensOf_bd {ls : List (List Int)} (h : ∀ l ∈ ls, l.length ≤ 1000) : 0 ≤ lensOf ls ∧ lensOf ls ≤ 1000 * ls.length := by
  unfold lensOf
  induction ls with
  | nil => simp
  | cons l r ih =>
    have h1 := h l (by simp)
    have h2 := ih fun x hx => h x (List.mem_cons_of_mem _ hx)
    simp only [List.map_cons, List.sum_cons, List.length_cons]
    omega
theorem lensOf_nat (ls : List (List Int)) : lensOf ls = (ls.flatten.length : Int) := by
  unfold lensOf
  induction ls with
  | nil => rfl
  | cons l r ih => simp only [List.map_cons, List.sum_cons, List.flatten_cons, List.length_append, ih]; omega
theorem flat_take {ls : List (List Int)} {k : Nat} {l : List Int} (h : ls[k]? = some l) : (ls.take (k + 1)).flatten = (ls.take k).flatten ++ l := by
  rw [List.take_add_one, h]; simp
set_option maxRecDepth 100000 in
theorem GrowI_any (n : Nat) (w : World) (hn : n ≤ 1000000) : Calls Tryz.prog 119 #[.slice none 0 0, .int .i64 n] w fun e w' => ∃ v, e = .returned v ∧ Own w' w.heap.size v [] ∧ Below w.heap.size w w' := by
  obtain ⟨i, hi, hz0, hz1, hz2⟩ := info_parts info_int
  by_cases h0 : n = 0
  · subst h0
    exact (Any8.slices_Grow_room Tryz.growI none 0 0 0 w (Nat.le_refl _) (by omega) (by omega) (Nat.le_refl _)).mono fun e w' ⟨he, hw⟩ => ⟨_, he, Own.nil _ _, by rw [hw]; exact Below.refl _ _⟩
  · refine (Any8.slices_Grow_grow Tryz.growI i _ hi hz0 (by rw [hz1]; decide) none 0 0 n [] w (Nat.le_refl _) (by omega) (by rw [hz2]; omega) (by omega) (by simp) (fun _ => rfl) (fun a h => by cases h)).mono ?_
    rintro e w' ⟨rfl, rfl⟩
    refine ⟨_, rfl, ?_, ?_⟩
    · have hge := grownCap_ge w (0 + n) 0 (Tryz.growI_ren.t 25)
      have hle := grownCap_le_maxLen w (0 + n) 0 (Tryz.growI_ren.t 25) (by unfold maxLen; omega)
      have hcs : (Value.int IntKind.i64 0).cells.size = 1 := rfl
      exact World.ownsRow_made (base := w.heap.size) (e := 3) (size := 1) w.drew _ _ (Nat.le_refl _) hle (by
        rw [Array.size_append, Array.size_append, size_zeroCells, size_zeroCells, hcs]
        show 0 + (0 + n - 0) * 1 + _ * 1 = _ * 1
        omega)
    · exact (Below.drew (Below.refl w.heap.size w)).alloc (Nat.le_refl _) _
set_option maxHeartbeats 4000000 in
set_option maxRecDepth 100000 in
theorem Concat_any (ls : List (List Int)) (v : Value) (w : World) (hlen : ls.length ≤ 1000) (hall : ∀ l ∈ ls, l ≠ [] ∧ l.length ≤ 1000) (rl : Lists w 0 v ls) :
    Calls Tryz.prog 57 #[v] w fun e w' => ∃ vr, e = .returned vr ∧ Own w' w.heap.size vr ls.flatten ∧ Below w.heap.size w w' := by
  obtain ⟨a, cap, rfl, hc1, hc2⟩ := Lists.form rl
  have HAL := Lib.hid hall
  have hbd := lensOf_bd fun l hl => (hall l hl).2
  clear hall
  obtain ⟨i, hi, hz0, hz1, hz2⟩ := info_parts info_int
  go_enter Tryz.func57, Tryz.ntmps57
  go_wp2_with fail
  go_loopw [3, 11] (fun n i wr => w = wr ∧ ∃ k : Nat, k ≤ ls.length ∧ i = .int .i64 k ∧ n = .int .i64 (lensOf (ls.take k))) (fun _ i _ => ls.length - (intOf i).toNat)
  case atStart => exact ⟨rfl, 0, Nat.zero_le _, rfl, rfl⟩
  case round =>
    obtain ⟨rfl, k, hk, rfl, rfl⟩ := hrel
    have hb2 := lensOf_bd (ls := ls.take k) fun l hl => (HAL.out l (List.mem_of_mem_take hl)).2
    rw [List.length_take] at hb2
    by_cases hlt : k < ls.length
    · obtain ⟨l, hl⟩ : ∃ l, ls[k]? = some l := ⟨_, List.getElem?_eq_getElem hlt⟩
      obtain ⟨b, o, x, c, rfl, _, hlb, hc, hI⟩ := rl.at hl
      have hl2 := (HAL.out l (List.mem_of_getElem? hl)).2
      have hw1 : IntKind.i64.wrap ((k : Int) + 1) = ((k + 1 : Nat) : Int) := by rw [IntWalk.i64_in _ (by omega)]; omega
      have hw2 : IntKind.i64.wrap (lensOf (ls.take k) + l.length) = lensOf (ls.take (k + 1)) := by rw [IntWalk.i64_in _ (by omega), lensOf_take hl]
      have hnn : ¬ lensOf (ls.take (k + 1)) < 0 := by rw [lensOf_take hl]; omega
      clear hI hl
      go_wp2_with fail
      go_roundw
      case rel => exact ⟨trivial, k + 1, by omega, by go_num, rfl⟩
      case measure => simp [intOf]; omega
    · obtain rfl : k = ls.length := by omega
      obtain ⟨n, hn⟩ : ∃ n : Nat, lensOf (ls.take ls.length) = n := ⟨_, by rw [List.take_length]; exact lensOf_nat ls⟩
      have hn2 : n ≤ 1000000 := by rw [hn] at hb2; omega
      rw [hn]
      clear hn hb2
      go_wp2_with fail
      refine (GrowI_any n w hn2).mono ?_
      rintro e w1 ⟨v1, rfl, hO1, hb1⟩
      have hz1' := hb1.size
      clear hn2
      go_wp2_with fail
      go_loopw [6, 27] (fun v i wx => ∃ k : Nat, k ≤ ls.length ∧ i = .int .i64 k ∧ Own wx w.heap.size v (ls.take k).flatten ∧ Below w.heap.size w wx  ) (fun _ i _ => ls.length - (intOf i).toNat)
      case atStart => exact ⟨0, Nat.zero_le _, rfl, by simpa using hO1, hb1⟩
      case round =>
        obtain ⟨k, hk, rfl, hO, hb⟩ := hrel
        have hL := rl.below hb
        by_cases hlt : k < ls.length
        · obtain ⟨l, hl⟩ : ∃ l, ls[k]? = some l := ⟨_, List.getElem?_eq_getElem hlt⟩
          obtain ⟨b, o, x, c, rfl, _, hlb, hc, hI⟩ := hL.at hl
          have hl2 := HAL.out l (List.mem_of_getElem? hl)
          obtain ⟨z0, hz0'⟩ : ∃ z0, l[0]? = some z0 := by
            cases l with
            | nil => exact absurd rfl hl2.1
            | cons z r => exact ⟨z, rfl⟩
          obtain ⟨b2, o2, rfl, _, hlb2, _⟩ := hI.at hz0'
          have HC := Lib.hid (Ints.cells hI)
          have hflat := flat_take hl
          have hfl : (ls.take k).flatten.length ≤ 1000000 := by
            have h1 := lensOf_nat (ls.take k)
            have h2 := (lensOf_bd (ls := ls.take k) fun l hl => (HAL.out l (List.mem_of_mem_take hl)).2).2
            rw [List.length_take] at h2
            omega
          have hw1 : IntKind.i64.wrap ((k : Int) + 1) = ((k + 1 : Nat) : Int) := by rw [IntWalk.i64_in _ (by omega)]; omega
          have hzz := hb.size
          clear hI hz0'
          go_wp2_with (at_builtin; go_loud (refine wpList_append_own _ rfl _ _ 22 rfl w.heap.size 3 i _ 1 8 Tryz.underlying22 hi hz0 hz1 hz2 rfl (by decide) _ _ (ics (ls.take k).flatten) rfl hO ⟨b2, o2, none⟩ l.length c (ics l) rfl (by simp [ics]) ?c1 (ints_oneCell .i64 _) (by unfold maxLen; omega) (by omega) (by omega) ?c2))
          case c1 =>
            intro j u hj
            have hjl : j < l.length := by have := (List.getElem?_eq_some_iff.1 hj).1; simpa [ics] using this
            have e : (⟨b2, o2, none⟩ : Addr).add j = ⟨b2, o2 + j, none⟩ := by unfold Addr.add; split <;> simp_all
            rw [e, HC.out j hjl]
            have := ics_getD hjl
            rw [this] at hj
            exact hj
          case c2 =>
            intro v' w' hO' hg' _
            have hbw : Below w.heap.size wr w' := app_below hO hg' (by omega)
            have hO2 : Own w' w.heap.size v' (ls.take (k + 1)).flatten := by
              rw [hflat]
              unfold Own
              rw [List.length_append]
              have e : ics ((ls.take k).flatten ++ l) = ics (ls.take k).flatten ++ ics l := by unfold ics; rw [List.map_append]
              rw [e]
              have hle : (List.take k (List.map List.length ls)).sum = (ls.take k).flatten.length := by rw [List.length_flatten, List.map_take]
              rw [hle] at hO'
              exact hO'
            clear hO' hg' hflat
            go_wp2_with fail
            go_roundw
            case rel => exact ⟨k + 1, by omega, by go_num, hO2, Below.trans hb hbw⟩
            case measure => simp [intOf]; omega
        · obtain rfl : k = ls.length := by omega
          rw [List.take_length] at hO
          go_wp2
          go_ret
          exact ⟨_, rfl, hO, hb⟩
end Go.Proofs.YtgcmlhpocbgkaaaGreatDoor
