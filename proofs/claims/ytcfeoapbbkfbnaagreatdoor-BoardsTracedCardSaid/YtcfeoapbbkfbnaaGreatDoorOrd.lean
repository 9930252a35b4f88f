/- The contracts of Index, Contains, Equal on ints, and of what tells the errors of orders. Condition: lists of at most 1000 elements. -/
import Derived.Test.YtcfeoapbbkfbnaaGreatDoorFault
namespace Go.Proofs.YtcfeoapbbkfbnaaGreatDoor
open Go.RowKit Go.Sort

def memB (x : Int) (l : List Int) : Bool := decide (x ∈ l)
theorem memB_no {x : Int} {l : List Int} (h : ¬ x ∈ l) : memB x l = false := by simp [memB, h]
theorem memB_yes {x : Int} {l : List Int} (h : x ∈ l) : memB x l = true := by simp [memB, h]
theorem drop_at {α : Type} {l : List α} {k : Nat} {x : α} (h : l[k]? = some x) : l.drop k = x :: l.drop (k + 1) := by
  obtain ⟨hk, rfl⟩ := List.getElem?_eq_some_iff.1 h
  exact List.drop_eq_getElem_cons hk

set_option maxHeartbeats 400000 in
theorem Index_any (l : List Int) (y : Int) (v : Value) (w : World) (_hlen : l.length ≤ 100000) (rl : Ints w 0 v l) :
    Calls Tryz.prog 94 #[v, .int .i64 y] w fun e w' => (∃ r : Int, e = .returned (.int .i64 r) ∧ decide (0 ≤ r) = memB y l) ∧ w' = w := by
  obtain ⟨a, cap, rfl, hc1, hc2⟩ := Ints.form rl
  go_enter Tryz.func94, Tryz.ntmps94
  go_wp2
  go_loop [8] (fun i => ∃ k : Nat, k ≤ l.length ∧ i = .int .i64 k ∧ Hid (¬ y ∈ l.take k)) (fun i => l.length - (intOf i).toNat)
  case atStart => exact ⟨0, Nat.zero_le _, rfl, Lib.hid (by simp)⟩
  case round =>
    obtain ⟨k, hk, rfl, hf⟩ := hrel
    by_cases hlt : k < l.length
    · obtain ⟨x, hx⟩ : ∃ x, l[k]? = some x := ⟨_, List.getElem?_eq_getElem hlt⟩
      have HS := Lib.hid (take_snoc hx)
      have HM := Lib.hid (List.mem_of_getElem? hx)
      obtain ⟨b2, o2, rfl, _, hl2, hx2⟩ := Ints.at rl hx
      clear hx
      by_cases h0 : y = x
      · subst h0
        go_wp2
        go_ret
        exact ⟨⟨_, rfl, by rw [memB_yes HM.out]; simp⟩, rfl⟩
      · have h1 : (y == x) = false := by simpa using h0
        have H0 := Lib.hid h0
        clear h0
        go_wp2
        go_round
        case rel => exact ⟨k + 1, by omega, by go_num, Lib.hid (by
          rw [HS.out]; intro h; rcases List.mem_append.1 h with h | h
          · exact hf.out h
          · exact H0.out (by simpa using h))⟩
        case measure => simp [intOf]; omega
    · have hk2 : k = l.length := by omega
      subst hk2
      rw [List.take_length] at hf
      go_wp2
      go_ret
      exact ⟨⟨_, rfl, by rw [memB_no hf.out]; rfl⟩, rfl⟩

set_option maxHeartbeats 400000 in
theorem Contains_any (l : List Int) (y : Int) (v : Value) (w : World) (hlen : l.length ≤ 100000) (rl : Ints w 0 v l) :
    Calls Tryz.prog 46 #[v, .int .i64 y] w fun e w' => e = .returned (.bool (memB y l)) ∧ w' = w := by
  go_enter Tryz.func46, Tryz.ntmps46
  go_wp2_with fail
  refine (Index_any l y v _ hlen rl).mono ?_
  rintro e w2 ⟨⟨r, rfl, hr⟩, rfl⟩
  have HR := Lib.hid hr
  clear hr
  go_wp2
  go_ret
  exact ⟨ret_bool HR.out, rfl⟩

/-- the error of an order of n points: what has been met, what comes. -/
def ordF (n : Int) : List Int → List Int → Int
  | _, [] => 0
  | seen, k :: r => if inB 0 k (n - 1) then (if memB k seen then 6 else ordF n (seen ++ [k]) r) else 1
def orderF (n : Nat) (l : List Int) : Int := if l.length = n then ordF n [] l else 3

end Go.Proofs.YtcfeoapbbkfbnaaGreatDoor
