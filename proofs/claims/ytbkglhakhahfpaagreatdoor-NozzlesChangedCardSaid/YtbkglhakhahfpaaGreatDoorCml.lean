/- Comparisons of numbers and of lists, as slices.Compare goes. No conditions. -/
import Derived.Test.YtbkglhakhahfpaaGreatDoorBase
namespace Go.Proofs.YtbkglhakhahfpaaGreatDoor

/-! comparisons of lists -/
def cmpI (x y : Int) : Int := if x < y then -1 else if y < x then 1 else 0
def cmpG {α : Type} (c : α → α → Int) : List α → List α → Int
  | [], [] => 0
  | [], _ :: _ => -1
  | _ :: _, [] => 1
  | x :: l, y :: m => if c x y = 0 then cmpG c l m else c x y
structure Ord {α : Type} (c : α → α → Int) : Prop where
  eq : ∀ x y, c x y = 0 → x = y
  refl : ∀ x, c x x = 0
  anti : ∀ x y, c y x = -c x y
  trans : ∀ x y z, c x y ≤ 0 → c y z ≤ 0 → c x z ≤ 0
theorem ordI : Ord cmpI := by
  refine ⟨fun x y => ?_, fun x => ?_, fun x y => ?_, fun x y z => ?_⟩ <;> unfold cmpI <;> (repeat' split) <;> omega
theorem ordG {α : Type} {c : α → α → Int} (h : Ord c) : Ord (cmpG c) := by
  have heq : ∀ l m : List α, cmpG c l m = 0 → l = m := by
    intro l
    induction l with
    | nil => intro m; cases m <;> simp [cmpG]
    | cons x l ih =>
      intro m
      cases m with
      | nil => simp [cmpG]
      | cons y m =>
        simp only [cmpG]
        split
        · rename_i h0; intro h1; rw [h.eq _ _ h0, ih m h1]
        · rename_i h0; intro h1; exact absurd h1 h0
  refine ⟨heq, fun l => ?_, fun l => ?_, fun l => ?_⟩
  · induction l with
    | nil => rfl
    | cons x l ih => simp [cmpG, h.refl, ih]
  · induction l with
    | nil => intro m; cases m <;> simp [cmpG]
    | cons x l ih =>
      intro m
      cases m with
      | nil => simp [cmpG]
      | cons y m =>
        simp only [cmpG]
        rw [h.anti x y, ih m]
        by_cases h0 : c x y = 0
        · rw [if_pos h0, if_pos (by omega)]
        · rw [if_neg h0, if_neg (by omega)]
  · induction l with
    | nil => intro m n; cases m <;> cases n <;> simp [cmpG]
    | cons x l ih =>
      intro m n
      cases m with
      | nil => simp [cmpG]
      | cons y m =>
        cases n with
        | nil => simp [cmpG]
        | cons z n =>
          simp only [cmpG]
          intro h1 h2
          have k1 : c x y ≤ 0 := by by_cases e : c x y = 0; omega; rw [if_neg e] at h1; exact h1
          have k2 : c y z ≤ 0 := by by_cases e : c y z = 0; omega; rw [if_neg e] at h2; exact h2
          have k3 := h.trans _ _ _ k1 k2
          by_cases e : c x z = 0
          · rw [if_pos e]
            obtain rfl := h.eq _ _ e
            have := h.anti x y
            have e1 : c x y = 0 := by omega
            have e2 : c y x = 0 := by omega
            rw [if_pos e1] at h1
            rw [if_pos e2] at h2
            exact ih m n h1 h2
          · rw [if_neg e]; exact k3
abbrev cmpL : List Int → List Int → Int := cmpG cmpI
abbrev cmpLL : List (List Int) → List (List Int) → Int := cmpG cmpL
theorem ordL : Ord cmpL := ordG ordI
theorem ordLL : Ord cmpLL := ordG ordL

end Go.Proofs.YtbkglhakhahfpaaGreatDoor
