/- Plain law of ExposureGrowsOnTheFloorAlone: from one moment to the next one the exposure grows by at most 1, and only on the floor. No program. -/
import Derived.Test.YtpfichbhhpnioaaGreatDoorLPlain
namespace Go.Proofs.YtpfichbhhpnioaaGreatDoor

/-- the place at a moment. -/
def placeF (t : Int) : Int → List Sty → Int
  | p, [] => p
  | p, x :: r => placeF t (if x.2 ≤ t then x.1 else p) r
theorem placeF_late {t : Int} : ∀ (r : List Sty) (p : Int), AscS r → (∀ x s, r = x :: s → t < x.2) → placeF t p r = p
  | [], p, _, _ => rfl
  | [x], p, _, h => by
    have := h x [] rfl
    simp only [placeF]
    rw [if_neg (by omega)]
  | x :: y :: r, p, ha, h => by
    have hx := h x (y :: r) rfl
    have hxy := ha.2.1
    rw [placeF, if_neg (by omega)]
    exact placeF_late (y :: r) p ha.tail (fun z s he => by injection he with he1 _; subst he1; omega)
theorem stayF_next {lvl bake place e long : Int} (he : 0 ≤ e) (hl : 0 ≤ long) : stayF lvl bake place e (long + 1) ≤ stayF lvl bake place e long + 1 ∧ (place ≠ 2 → stayF lvl bake place e (long + 1) ≤ stayF lvl bake place e long) := by
  unfold stayF
  by_cases h2 : place = 2
  · rw [if_pos h2, if_pos h2]; exact ⟨by omega, fun h => absurd h2 h⟩
  · rw [if_neg h2, if_neg h2]
    by_cases h4 : place = 4
    · rw [if_pos h4, if_pos h4]
      repeat' split
      all_goals (constructor <;> omega)
    · rw [if_neg h4, if_neg h4]
      by_cases h3 : place = 3
      · rw [if_pos h3, if_pos h3]
        repeat' split
        all_goals (constructor <;> omega)
      · rw [if_neg h3, if_neg h3]; constructor <;> omega
theorem grows (lvl bake t : Int) : ∀ (l : List Sty) (n p : Int), AscS l → 0 ≤ n →
    expoF lvl bake (t + 1) n l ≤ expoF lvl bake t n l + 1 ∧ (expoF lvl bake (t + 1) n l ≤ expoF lvl bake t n l ∨ placeF t p l = 2)
  | [], n, p, _, _ => ⟨by simp only [expoF]; omega, .inl (by simp only [expoF]; omega)⟩
  | x :: r, n, p, ha, hn => by
    by_cases hx : t < x.2
    · have e1 : expoF lvl bake t n (x :: r) = n := by rw [expoF, if_pos hx]
      have e2 : expoF lvl bake (t + 1) n (x :: r) ≤ n := by
        by_cases h1 : t + 1 < x.2
        · rw [expoF, if_pos h1]; exact Int.le_refl _
        · rw [show t + 1 = x.2 by omega, expoF_head lvl bake ha]
          rcases stayF_zero (lvl := lvl) (bake := bake) (place := x.1) hn with h | h <;> omega
      rw [e1]
      exact ⟨by omega, .inl e2⟩
    · cases r with
      | nil =>
        have e1 : expoF lvl bake t n [x] = stayF lvl bake x.1 n (t - x.2) := by simp [expoF, endAt, hx]
        have e2 : expoF lvl bake (t + 1) n [x] = stayF lvl bake x.1 n (t - x.2 + 1) := by
          simp only [expoF, endAt]
          rw [if_neg (by omega), show t + 1 - x.2 = t - x.2 + 1 by omega]
        obtain ⟨a, b⟩ := stayF_next (lvl := lvl) (bake := bake) (place := x.1) (e := n) (long := t - x.2) hn (by omega)
        rw [e1, e2]
        refine ⟨a, ?_⟩
        by_cases h2 : x.1 = 2
        · exact .inr (by simp only [placeF]; rw [if_pos (by omega)]; exact h2)
        · exact .inl (b h2)
      | cons y r =>
        have hxy := ha.2.1
        by_cases hy : y.2 ≤ t
        · rw [expoF_step lvl bake n t hxy hy, expoF_step lvl bake n (t + 1) hxy (by omega)]
          have hs := (stayF_bd (lvl := lvl) (bake := bake) (place := x.1) (e := n) (long := y.2 - x.2) hn (by omega)).1
          have := grows lvl bake t (y :: r) (stayF lvl bake x.1 n (y.2 - x.2)) (if x.2 ≤ t then x.1 else p) ha.tail hs
          rw [placeF]
          exact this
        · have e1 := expoF_in lvl bake (x := x) (y := y) (r := r) n t (by omega) (by omega)
          have e2 : expoF lvl bake (t + 1) n (x :: y :: r) ≤ stayF lvl bake x.1 n (t - x.2 + 1) := by
            by_cases h1 : t + 1 < y.2
            · rw [expoF_in lvl bake n (t + 1) (by omega) h1, show t + 1 - x.2 = t - x.2 + 1 by omega]; exact Int.le_refl _
            · rw [expoF_step lvl bake n (t + 1) hxy (by omega), show t + 1 = y.2 by omega, expoF_head lvl bake ha.tail, show y.2 - x.2 = t - x.2 + 1 by omega]
              have hs := (stayF_bd (lvl := lvl) (bake := bake) (place := x.1) (e := n) (long := t - x.2 + 1) hn (by omega)).1
              rcases stayF_zero (lvl := lvl) (bake := bake) (place := y.1) hs with h | h <;> omega
          obtain ⟨a, b⟩ := stayF_next (lvl := lvl) (bake := bake) (place := x.1) (e := n) (long := t - x.2) hn (by omega)
          rw [e1]
          refine ⟨by omega, ?_⟩
          by_cases h2 : x.1 = 2
          · refine .inr ?_
            rw [placeF, if_pos (by omega), placeF_late (y :: r) x.1 ha.tail (fun z s he => by injection he with he1 _; subst he1; omega)]
            exact h2
          · exact .inl (by have := b h2; omega)
end Go.Proofs.YtpfichbhhpnioaaGreatDoor
