/- The contracts of the errors of slots, and of a list of slots out of the stream. Conditions: at most 1000 slots; numbers left in the stream. -/
import Derived.Test.YtbkglhakhahfpaaGreatDoorNoz
import Derived.Test.YtbkglhakhahfpaaGreatDoorMake2
namespace Go.Proofs.YtbkglhakhahfpaaGreatDoor
open Go.RowKit Go.Sort

def outB (n : Int) : Bool := !inB 0 n 1000
/-- the error of slots. -/
def slotF (l : List Int) : Int := if l = [] then 8 else if 8 < l.length then 2 else if l.any outB = true then 1 else 0
theorem slotF_zero {l : List Int} (h : slotF l = 0) : l ≠ [] ∧ l.length ≤ 8 ∧ ∀ x ∈ l, 0 ≤ x ∧ x ≤ 1000 := by
  unfold slotF at h
  by_cases h0 : l = []
  · rw [if_pos h0] at h; omega
  · rw [if_neg h0] at h
    by_cases h1 : 8 < l.length
    · rw [if_pos h1] at h; omega
    · rw [if_neg h1] at h
      by_cases h2 : l.any outB = true
      · rw [if_pos h2] at h; omega
      · simp only [Bool.not_eq_true] at h2
        rw [List.any_eq_false] at h2
        refine ⟨h0, by omega, fun x hx => ?_⟩
        have := h2 x hx
        unfold outB inB at this
        simp at this
        exact this
theorem slotF_ok {l : List Int} (h0 : l ≠ []) (h1 : l.length ≤ 8) (h2 : ∀ x ∈ l, 0 ≤ x ∧ x ≤ 1000) : slotF l = 0 := by
  unfold slotF
  rw [if_neg h0, if_neg (by omega)]
  have : l.any outB = false := by
    rw [List.any_eq_false]
    intro x hx
    have := h2 x hx
    unfold outB inB
    simp
    exact this
  rw [this]; rfl
set_option maxHeartbeats 400000 in
theorem out1_any (n : Int) (w : World) : Calls Tryz.prog 210 #[.int .i64 n] w fun e w' => e = .returned (.bool (outB n)) ∧ Below w.heap.size w w' := by
  go_enter Tryz.func210, Tryz.ntmps210
  go_wp2_with (go_at_call 148; refine (Outside_any _ _ _ _).mono ?_; rintro e w' ⟨rfl, rfl⟩)
  go_ret
  exact ⟨rfl, Below.refl _ _⟩
set_option maxHeartbeats 1000000 in
theorem IndexOut_any (l : List Int) (v : Value) (w : World) (_ : l.length ≤ 100000) (rl : Ints w 0 v l) :
    Calls Tryz.prog 272 #[v, .func (.func 210) #[] #[]] w fun e w' => (∃ r : Int, e = .returned (.int .i64 r) ∧ decide (0 ≤ r) = l.any outB) ∧ Below w.heap.size w w' := by
  obtain ⟨a, cap, rfl, hc1, hc2⟩ := Ints.form rl
  go_enter Tryz.func272, Tryz.ntmps272
  go_wp2
  go_loopw [8] (fun i wr => ∃ k : Nat, k ≤ l.length ∧ i = .int .i64 k ∧ Hid ((l.take k).any outB = false) ∧ Below w.heap.size w wr) (fun i _ => l.length - (intOf i).toNat)
  case atStart => exact ⟨0, Nat.zero_le _, rfl, Lib.hid rfl, Below.refl _ _⟩
  case round =>
    obtain ⟨k, hk, rfl, hf, hb⟩ := hrel
    by_cases hlt : k < l.length
    · obtain ⟨t, ht⟩ : ∃ t, l[k]? = some t := ⟨_, List.getElem?_eq_getElem hlt⟩
      have HS : Hid ((l.take (k + 1)).any outB = ((l.take k).any outB || outB t)) := Lib.hid (by rw [take_snoc ht]; simp)
      have HM := Lib.hid (List.mem_of_getElem? ht)
      obtain ⟨b2', o2, rfl, _, hl2, hx2⟩ := rl.at ht
      have y2 := ((bcell hb).1 b2' (o2 + k) hl2).trans hx2
      clear ht hx2
      cases hp : outB t
      all_goals
        have HP := Lib.hid hp
        clear hp
        go_wp2_with (go_at_call 210; refine (out1_any t _).mono ?_; rintro e w2 ⟨rfl, hb2⟩; rw [HP.out])
      · go_roundw
        case rel => exact ⟨k + 1, by omega, by go_num, Lib.hid (by rw [HS.out, hf.out, HP.out]; rfl), hb.trans (hb2.mono hb.size)⟩
        case measure => simp [intOf]; omega
      · go_ret
        refine ⟨⟨_, rfl, ?_⟩, hb.trans (hb2.mono hb.size)⟩
        have : l.any outB = true := List.any_eq_true.2 ⟨_, HM.out, HP.out⟩
        rw [this]; simp
    · have hk2 : k = l.length := by omega
      subst hk2
      rw [List.take_length] at hf
      go_wp2
      go_ret
      exact ⟨⟨_, rfl, by rw [hf.out]; rfl⟩, hb⟩
set_option maxHeartbeats 1000000 in
theorem ContainsOut_any (l : List Int) (v : Value) (w : World) (hlen : l.length ≤ 100000) (rl : Ints w 0 v l) :
    Calls Tryz.prog 209 #[v, .func (.func 210) #[] #[]] w fun e w' => e = .returned (.bool (l.any outB)) ∧ Below w.heap.size w w' := by
  go_enter Tryz.func209, Tryz.ntmps209
  go_wp2_with fail
  refine (IndexOut_any l v _ hlen rl).mono ?_
  rintro e w2 ⟨⟨r, rfl, hr⟩, hb⟩
  have HR := Lib.hid hr
  clear hr
  go_wp2
  go_ret
  exact ⟨ret_bool HR.out, hb⟩
set_option maxHeartbeats 1000000 in
theorem slotsFault_any (l : List Int) (v : Value) (w : World) (hlen : l.length ≤ 1000) (rl : Ints w 0 v l) :
    Calls Tryz.prog 134 #[v] w fun e w' => e = .returned (.int .i64 (slotF l)) ∧ Below w.heap.size w w' := by
  obtain ⟨a, cap, rfl, hc1, hc2⟩ := Ints.form rl
  have HC := Lib.hid (ContainsOut_any l _ w (by omega) rl)
  clear rl
  by_cases h0 : l = []
  · subst h0
    go_enter Tryz.func134, Tryz.ntmps134
    go_wp2
    go_ret
    exact ⟨rfl, Below.refl _ _⟩
  · have e0 : ((l.length : Int) == 0) = false := by
      rw [beq_eq_false_iff_ne]
      have := List.length_pos_iff.2 h0
      omega
    by_cases h1 : 8 < l.length
    · have HV : Hid (slotF l = 2) := Lib.hid (by unfold slotF; rw [if_neg h0, if_pos h1])
      have e1 : (8 : Int) < l.length := by omega
      go_enter Tryz.func134, Tryz.ntmps134
      go_wp2
      go_ret
      exact ⟨ret_int HV.out.symm, Below.refl _ _⟩
    · have e1 : ¬ (8 : Int) < l.length := by omega
      have HV : Hid (slotF l = if l.any outB = true then 1 else 0) := Lib.hid (by unfold slotF; rw [if_neg h0, if_neg h1])
      go_enter Tryz.func134, Tryz.ntmps134
      go_wp2_with fail
      refine HC.out.mono ?_
      rintro e w2 ⟨rfl, hb⟩
      cases hp : l.any outB
      · rw [hp] at HV
        go_wp2
        go_ret
        exact ⟨ret_int HV.out.symm, hb⟩
      · rw [hp] at HV
        go_wp2
        go_ret
        exact ⟨ret_int HV.out.symm, hb⟩
set_option maxHeartbeats 1000000 in
theorem SlotsFault_any (l : List Int) (v : Value) (w : World) (hlen : l.length ≤ 1000) (rl : Ints w 0 v l) :
    Calls Tryz.prog 39 #[v] w fun e w' => e = .returned (.int .i64 (slotF l)) ∧ w = w' := by
  obtain ⟨a, cap, rfl, hc1, hc2⟩ := Ints.form rl
  by_cases h0 : l = []
  · subst h0
    go_enter Tryz.func39, Tryz.ntmps39
    go_wp2
    go_ret
    exact ⟨rfl, rfl⟩
  · have e0 : ((l.length : Int) == 0) = false := by
      rw [beq_eq_false_iff_ne]
      have := List.length_pos_iff.2 h0
      omega
    by_cases h1 : 8 < l.length
    · have HV : Hid (slotF l = 2) := Lib.hid (by unfold slotF; rw [if_neg h0, if_pos h1])
      have e1 : (8 : Int) < l.length := by omega
      go_enter Tryz.func39, Tryz.ntmps39
      go_wp2
      go_ret
      exact ⟨ret_int HV.out.symm, rfl⟩
    · have e1 : ¬ (8 : Int) < l.length := by omega
      have HV : Hid (slotF l = if l.any outB = true then 1 else 0) := Lib.hid (by unfold slotF; rw [if_neg h0, if_neg h1])
      go_enter Tryz.func39, Tryz.ntmps39
      go_wp2
      go_loopw [4, 15] (fun _ i wr => ∃ k : Nat, k ≤ l.length ∧ i = .int .i64 k ∧ Hid ((l.take k).any outB = false) ∧ w = wr) (fun _ i _ => l.length - (intOf i).toNat)
      case atStart => exact ⟨0, Nat.zero_le _, rfl, Lib.hid rfl, rfl⟩
      case round =>
        obtain ⟨k, hk, rfl, hf, rfl⟩ := hrel
        by_cases hlt : k < l.length
        · obtain ⟨t, ht⟩ : ∃ t, l[k]? = some t := ⟨_, List.getElem?_eq_getElem hlt⟩
          have HS : Hid ((l.take (k + 1)).any outB = ((l.take k).any outB || outB t)) := Lib.hid (by rw [take_snoc ht]; simp)
          have HM := Lib.hid (List.mem_of_getElem? ht)
          obtain ⟨b2', o2, rfl, _, hl2, hx2⟩ := rl.at ht
          clear ht
          cases hp : inB 0 t 1000
          all_goals
            have HP := Lib.hid hp
            clear hp
            go_wp2_with (go_at_call 89; refine (in_any _ _ _ _).mono ?_; rintro e w' ⟨rfl, rfl⟩; rw [HP.out])
          · go_ret
            have : l.any outB = true := List.any_eq_true.2 ⟨_, HM.out, by unfold outB; rw [HP.out]; rfl⟩
            rw [this] at HV
            exact ⟨ret_int HV.out.symm, rfl⟩
          · go_roundw
            case rel => exact ⟨k + 1, by omega, by go_num, Lib.hid (by rw [HS.out, hf.out]; unfold outB; rw [HP.out]; rfl), trivial⟩
            case measure => simp [intOf]; omega
        · have hk2 : k = l.length := by omega
          subst hk2
          rw [List.take_length] at hf
          rw [hf.out] at HV
          go_wp2
          go_ret
          exact ⟨ret_int HV.out.symm, rfl⟩
end Go.Proofs.YtbkglhakhahfpaaGreatDoor
