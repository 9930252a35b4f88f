/- The contracts of what tells the errors of points and orders. Condition: lists of at most 1000 elements. -/
import Derived.Test.YtcfeoapbbkfbnaaGreatDoorLen
namespace Go.Proofs.YtcfeoapbbkfbnaaGreatDoor
open Go.RowKit Go.Sort

theorem any_take_succ {P : List Pt} {k : Nat} {p : Pt} (h : P[k]? = some p) : (P.take (k + 1)).any farB = ((P.take k).any farB || farB p) := by
  rw [take_snoc h]; simp

def ptF (P : List Pt) : Int := if P.any farB then 1 else 0
theorem ptF_yes {P : List Pt} (h : P.any farB = true) : ptF P = 1 := by unfold ptF; rw [h]; rfl
theorem ptF_no {P : List Pt} (h : P.any farB = false) : ptF P = 0 := by unfold ptF; rw [h]; rfl
/-- the error of points. -/
def ptsF (P : List Pt) (most : Int) : Int := if (P.length : Int) ≤ most then ptF P else 2
/-- the error of a start and points. -/
def tourF (st : Pt) (P : List Pt) (most : Int) : Int := if farB st then 1 else ptsF P most

/-- the first that is not 0. -/
def orF : List Int → Int
  | [] => 0
  | x :: l => if x = 0 then orF l else x
theorem orF_take {l : List Int} {k : Nat} (h : ∀ x ∈ l.take k, x = 0) : orF l = orF (l.drop k) := by
  induction k generalizing l with
  | zero => rfl
  | succ k ih =>
    cases l with
    | nil => rfl
    | cons x l =>
      have hx : x = 0 := h x (by simp)
      subst hx
      simp only [orF, List.drop_succ_cons, if_true]
      exact ih (fun y hy => h y (by simp [hy]))

set_option maxHeartbeats 400000 in
theorem OrErrno_any (l : List Int) (v : Value) (w : World) (_ : l.length ≤ 1000) (rl : Ints w 0 v l) :
    Calls Tryz.prog 21 #[v] w fun e w' => e = .returned (.int .i64 (orF l)) ∧ w' = w := by
  obtain ⟨a, cap, rfl, hc1, hc2⟩ := Ints.form rl
  go_enter Tryz.func21, Tryz.ntmps21
  go_wp2
  go_loop [8] (fun i => ∃ k : Nat, k ≤ l.length ∧ i = .int .i64 k ∧ Hid (∀ x ∈ l.take k, x = 0)) (fun i => l.length - (intOf i).toNat)
  case atStart => exact ⟨0, Nat.zero_le _, rfl, Lib.hid (by simp)⟩
  case round =>
    obtain ⟨k, hk, rfl, hf⟩ := hrel
    by_cases hlt : k < l.length
    · obtain ⟨x, hx⟩ : ∃ x, l[k]? = some x := ⟨_, List.getElem?_eq_getElem hlt⟩
      obtain ⟨b2, o2, rfl, _, hl2, hx2⟩ := Ints.at rl hx
      by_cases h0 : x = 0
      · subst h0
        have HS := Lib.hid (take_snoc hx)
        clear hx
        go_wp2
        go_round
        case rel => exact ⟨k + 1, by omega, by go_num, Lib.hid (by rw [HS.out]; intro y hy; rcases List.mem_append.1 hy with h | h; exact hf.out y h; simpa using h)⟩
        case measure => simp [intOf]; omega
      · have HX : Hid (orF l = x) := Lib.hid (by
          rw [orF_take hf.out]
          obtain ⟨_, hg⟩ := List.getElem?_eq_some_iff.1 hx
          rw [List.drop_eq_getElem_cons hlt, hg]
          simp [orF, h0])
        have h0' : (x == 0) = false := by simpa using h0
        have h0n : (x != 0) = true := by simpa using h0
        clear hx h0
        go_wp2
        go_ret
        exact ⟨ret_int HX.out.symm, rfl⟩
    · have hk2 : k = l.length := by omega
      subst hk2
      rw [List.take_length] at hf
      have HX : Hid (orF l = 0) := Lib.hid (by
        have := orF_take (l := l) (k := l.length) (by rw [List.take_length]; exact hf.out)
        rw [this]; simp [orF])
      go_wp2
      go_ret
      exact ⟨ret_int HX.out.symm, rfl⟩

end Go.Proofs.YtcfeoapbbkfbnaaGreatDoor
