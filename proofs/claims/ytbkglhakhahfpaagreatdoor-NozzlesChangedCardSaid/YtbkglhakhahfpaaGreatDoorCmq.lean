/- Contracts: cmp.Or of ints, cmp.Compare, slices.Compare. Conditions: lists of at most a million. -/
import Derived.Test.YtbkglhakhahfpaaGreatDoorCml
import Derived.Test.YtbkglhakhahfpaaGreatDoorDist
import Derived.Test.YtbkglhakhahfpaaGreatDoorLen
import Derived.Test.YtbkglhakhahfpaaGreatDoorOrd
import Derived.Test.YtbkglhakhahfpaaGreatDoorShelf
namespace Go.Proofs.YtbkglhakhahfpaaGreatDoor
open Go.RowKit Go.Sort

theorem OrInt_any (l : List Int) (v : Value) (w : World) (_ : l.length ≤ 1000) (rl : Ints w 0 v l) :
    Calls Tryz.prog 102 #[v] w fun e w' => e = .returned (.int .i64 (orF l)) ∧ w' = w := by
  obtain ⟨a, cap, rfl, hc1, hc2⟩ := Ints.form rl
  go_enter Tryz.func102, Tryz.ntmps102
  go_wp2
  go_loop [8] (fun i => ∃ k : Nat, k ≤ l.length ∧ i = .int .i64 k ∧ Hid (∀ x ∈ l.take k, x = 0)) (fun i => l.length - (intOf i).toNat)
  case atStart => exact ⟨0, Nat.zero_le _, rfl, Lib.hid (by simp)⟩
  case round =>
    obtain ⟨k, hk, rfl, hf⟩ := hrel
    by_cases hlt : k < l.length
    · obtain ⟨x, hx⟩ : ∃ x, l[k]? = some x := ⟨_, List.getElem?_eq_getElem hlt⟩
      obtain ⟨b2, o2, rfl, _, hl2, hx2⟩ := Ints.at rl hx
      by_cases h0 : x = 0
      · subst h0
        have HS := Lib.hid (take_snoc hx)
        clear hx
        go_wp2
        go_round
        case rel => exact ⟨k + 1, by omega, by go_num, Lib.hid (by rw [HS.out]; intro y hy; rcases List.mem_append.1 hy with h | h; exact hf.out y h; simpa using h)⟩
        case measure => simp [intOf]; omega
      · have HX : Hid (orF l = x) := Lib.hid (by
          rw [orF_take hf.out]
          obtain ⟨_, hg⟩ := List.getElem?_eq_some_iff.1 hx
          rw [List.drop_eq_getElem_cons hlt, hg]
          simp [orF, h0])
        have h0' : (x == 0) = false := by simpa using h0
        have h0n : (x != 0) = true := by simpa using h0
        clear hx h0
        go_wp2
        go_ret
        exact ⟨ret_int HX.out.symm, rfl⟩
    · have hk2 : k = l.length := by omega
      subst hk2
      rw [List.take_length] at hf
      have HX : Hid (orF l = 0) := Lib.hid (by
        have := orF_take (l := l) (k := l.length) (by rw [List.take_length]; exact hf.out)
        rw [this]; simp [orF])
      go_wp2
      go_ret
      exact ⟨ret_int HX.out.symm, rfl⟩

theorem cmpInt_any (x y : Int) (w : World) : Calls Tryz.prog 103 #[.int .i64 x, .int .i64 y] w fun e w' => e = .returned (.int .i64 (cmpI x y)) ∧ w = w' :=
  (Tryz.cmp_Compare_int x y w).mono fun e w' ⟨he, hw⟩ => ⟨by rw [he]; rfl, hw.symm⟩

theorem drop_nil' {α : Type} (l : List α) {k : Nat} (h : l.length ≤ k) : l.drop k = [] := List.drop_eq_nil_of_le h
theorem cmpL_step {l m : List Int} {k : Nat} {x y : Int} (hx : l[k]? = some x) (hy : m[k]? = some y) : cmpL (l.drop k) (m.drop k) = if cmpI x y = 0 then cmpL (l.drop (k + 1)) (m.drop (k + 1)) else cmpI x y := by
  obtain ⟨h1, e1⟩ := List.getElem?_eq_some_iff.1 hx
  obtain ⟨h2, e2⟩ := List.getElem?_eq_some_iff.1 hy
  rw [List.drop_eq_getElem_cons h1, List.drop_eq_getElem_cons h2, e1, e2]
  rfl
theorem cmpI_zero {x y : Int} : cmpI x y = 0 ↔ x = y := by unfold cmpI; constructor <;> intro h <;> (repeat' split at *) <;> omega

set_option maxHeartbeats 400000 in
theorem CompareI_any (l m : List Int) (v u : Value) (w : World) (hl : l.length ≤ 1000000) (hm : m.length ≤ 1000000) (rl : Ints w 0 v l) (rm : Ints w 0 u m) :
    Calls Tryz.prog 120 #[v, u] w fun e w' => e = .returned (.int .i64 (cmpL l m)) ∧ w = w' := by
  obtain ⟨a, cap, rfl, hc1, hc2⟩ := Ints.form rl
  obtain ⟨a', cap', rfl, hc1', hc2'⟩ := Ints.form rm
  go_enter Tryz.func120, Tryz.ntmps120
  go_wp2
  go_loop [11] (fun i => ∃ k : Nat, k ≤ l.length ∧ k ≤ m.length ∧ i = .int .i64 k ∧ Hid (cmpL l m = cmpL (l.drop k) (m.drop k))) (fun i => l.length - (intOf i).toNat)
  case atStart => exact ⟨0, Nat.zero_le _, Nat.zero_le _, rfl, Lib.hid rfl⟩
  case round =>
    obtain ⟨k, hk, hkm, rfl, HC⟩ := hrel
    by_cases hlt : k < l.length
    · obtain ⟨x, hx⟩ : ∃ x, l[k]? = some x := ⟨_, List.getElem?_eq_getElem hlt⟩
      obtain ⟨b2, o2, rfl, _, hl2, hx2⟩ := Ints.at rl hx
      by_cases hltm : k < m.length
      · obtain ⟨y, hy⟩ : ∃ y, m[k]? = some y := ⟨_, List.getElem?_eq_getElem hltm⟩
        obtain ⟨b3, o3, rfl, _, hl3, hy2⟩ := Ints.at rm hy
        have HS := Lib.hid (cmpL_step hx hy)
        clear hx hy
        by_cases h0 : cmpI x y = 0
        · have HS' : Hid (cmpL l m = cmpL (l.drop (k + 1)) (m.drop (k + 1))) := Lib.hid (by rw [HC.out, HS.out, if_pos h0])
          have hc : (cmpI x y != 0) = false := by simpa using h0
          clear h0
          go_wp2_with (go_at_call 103; refine (cmpInt_any _ _ _).mono ?_; rintro e w' ⟨rfl, rfl⟩)
          go_round
          case rel => exact ⟨k + 1, by omega, by omega, by go_num, HS'⟩
          case measure => simp [intOf]; omega
        · have HS' : Hid (cmpL l m = cmpI x y) := Lib.hid (by rw [HC.out, HS.out, if_neg h0])
          have hc : (cmpI x y != 0) = true := by simpa using h0
          clear h0
          go_wp2_with (go_at_call 103; refine (cmpInt_any _ _ _).mono ?_; rintro e w' ⟨rfl, rfl⟩)
          go_ret
          exact ⟨ret_int HS'.out.symm, rfl⟩
      · have HS' : Hid (cmpL l m = 1) := Lib.hid (by
          rw [HC.out, drop_nil' m (by omega), List.drop_eq_getElem_cons hlt]; rfl)
        clear hx
        go_wp2
        go_ret
        exact ⟨ret_int HS'.out.symm, rfl⟩
    · by_cases hltm : k < m.length
      · have hlm : l.length < m.length := by omega
        have HS' : Hid (cmpL l m = -1) := Lib.hid (by
          rw [HC.out, drop_nil' l (by omega), List.drop_eq_getElem_cons hltm]; rfl)
        go_wp2
        go_ret
        exact ⟨ret_int HS'.out.symm, rfl⟩
      · have hlm : ¬ l.length < m.length := by omega
        have HS' : Hid (cmpL l m = 0) := Lib.hid (by
          rw [HC.out, drop_nil' l (by omega), drop_nil' m (by omega)]; rfl)
        go_wp2
        go_ret
        exact ⟨ret_int HS'.out.symm, rfl⟩

end Go.Proofs.YtbkglhakhahfpaaGreatDoor
