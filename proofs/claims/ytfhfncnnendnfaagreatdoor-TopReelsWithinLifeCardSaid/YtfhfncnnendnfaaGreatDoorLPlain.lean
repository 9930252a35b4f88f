/- Plain law of the floor life of parts: exposures, usability, expiry, by the program's way and by the reference's. No program. -/
import Derived.Lib.Hide
namespace Go.Proofs.YtfhfncnnendnfaaGreatDoor

abbrev Sty := Int × Int
def lvN : Int := 345686400000
/-- the exposure behind a stay. -/
def stayF (lvl bake place e long : Int) : Int :=
  if place = 2 then e + long
  else if place = 4 then (if bake ≤ long then 0 else e)
  else if place = 3 then (if lvl ≤ 5 ∧ e ≤ 43200000 ∧ (if lvl = 5 then 10 else 5) * e ≤ long then 0 else e)
  else e
def endAt (t : Int) : List Sty → Int
  | [] => t
  | y :: _ => min t y.2
def expoF (lvl bake t : Int) : Int → List Sty → Int
  | n, [] => n
  | n, x :: r => if t < x.2 then n else expoF lvl bake t (stayF lvl bake x.1 n (endAt t r - x.2)) r
def expo (lvl bake : Int) (l : List Sty) (t : Int) : Int := expoF lvl bake t 0 l
/-- stays in order, each at a moment. -/
def AscS : List Sty → Prop
  | [] => True
  | [x] => 0 ≤ x.2 ∧ x.2 < lvN
  | x :: y :: r => 0 ≤ x.2 ∧ x.2 < y.2 ∧ AscS (y :: r)
theorem AscS.tail {x : Sty} {r : List Sty} (h : AscS (x :: r)) : AscS r := by
  cases r with
  | nil => trivial
  | cons y r => exact h.2.2
theorem AscS.head {x : Sty} {r : List Sty} (h : AscS (x :: r)) : 0 ≤ x.2 ∧ x.2 < lvN := by
  induction r generalizing x with
  | nil => exact h
  | cons y r ih =>
    have h2 := ih h.2.2
    exact ⟨h.1, by have := h.2.1; omega⟩
theorem stayF_bd {lvl bake place e long : Int} (he : 0 ≤ e) (hl : 0 ≤ long) : 0 ≤ stayF lvl bake place e long ∧ stayF lvl bake place e long ≤ e + long := by
  unfold stayF
  repeat' split
  all_goals omega
/-- nothing is added in no time. -/
theorem stayF_zero {lvl bake place e : Int} (he : 0 ≤ e) : stayF lvl bake place e 0 = e ∨ stayF lvl bake place e 0 = 0 := by
  unfold stayF
  repeat' split
  all_goals omega
/-- away from the floor nothing is added; what a while takes away, no time takes away or it was more. -/
theorem stayF_off {lvl bake place e long : Int} (he : 0 ≤ e) (hl : 0 ≤ long) (hp : place ≠ 2) : stayF lvl bake place e long ≤ stayF lvl bake place e 0 ∨ stayF lvl bake place e long = 0 := by
  unfold stayF
  rw [if_neg hp, if_neg hp]
  repeat' split
  all_goals first | omega | (left; omega) | (right; rfl)
theorem expoF_head (lvl bake : Int) {x : Sty} {r : List Sty} (h : AscS (x :: r)) (n : Int) : expoF lvl bake x.2 n (x :: r) = stayF lvl bake x.1 n 0 := by
  simp only [expoF]
  rw [if_neg (by omega)]
  cases r with
  | nil => simp [expoF, endAt]
  | cons y r =>
    have := h.2.1
    simp only [endAt, expoF]
    rw [Int.min_eq_left (by omega), if_pos (by omega), Int.sub_self]
theorem expoF_step (lvl bake : Int) {x y : Sty} {r : List Sty} (n t : Int) (h : x.2 < y.2) (ht : y.2 ≤ t) : expoF lvl bake t n (x :: y :: r) = expoF lvl bake t (stayF lvl bake x.1 n (y.2 - x.2)) (y :: r) := by
  conv => lhs; rw [expoF]
  rw [if_neg (by omega)]
  simp only [endAt]
  rw [Int.min_eq_right ht]
theorem expoF_in (lvl bake : Int) {x y : Sty} {r : List Sty} (n t : Int) (h : x.2 ≤ t) (ht : t < y.2) : expoF lvl bake t n (x :: y :: r) = stayF lvl bake x.1 n (t - x.2) := by
  simp only [expoF, endAt]
  rw [if_neg (by omega), if_pos (by omega), Int.min_eq_left (by omega)]

def endP : List Sty → Int
  | [] => lvN - 1
  | y :: _ => y.2
def endR : List Sty → Int
  | [] => lvN
  | y :: _ => y.2
/-- the first moment at which parts expire, by the program's way and by the reference's. -/
def expiP (most : Int) (X : Int → Int) : List Sty → Option Int
  | [] => none
  | x :: r => if x.1 = 2 ∧ x.2 + max 0 (most - X x.2 + 1) ≤ endP r ∧ most < X (x.2 + max 0 (most - X x.2 + 1)) then some (x.2 + max 0 (most - X x.2 + 1)) else expiP most X r
def expiR (most : Int) (X : Int → Int) : List Sty → Option Int
  | [] => none
  | x :: r => if x.1 = 2 ∧ x.2 + most - X x.2 + 1 ≤ endR r ∧ x.2 + most - X x.2 + 1 < lvN ∧ most < X (x.2 + most - X x.2 + 1) then some (x.2 + most - X x.2 + 1) else expiR most X r
theorem lvN_val : lvN = 345686400000 := rfl
theorem expi_same (lvl bake most : Int) (X : Int → Int) (hm : 0 ≤ most) : ∀ (s : List Sty) (n : Int), AscS s → 0 ≤ n → (∀ x r t, s = x :: r → x.2 ≤ t → X t = expoF lvl bake t n s) → (∀ x r, s = x :: r → X x.2 ≤ most) → expiP most X s = expiR most X s
  | [], _, _, _, _, _ => rfl
  | [x], n, ha, hn, hX, hi => by
    have h1 := hi x [] rfl
    have e1 : endP [] = lvN - 1 := rfl
    have e2 : endR [] = lvN := rfl
    rw [expiP, expiR]
    rw [show x.2 + max 0 (most - X x.2 + 1) = x.2 + most - X x.2 + 1 by omega]
    by_cases hc : x.1 = 2 ∧ x.2 + most - X x.2 + 1 ≤ endP [] ∧ most < X (x.2 + most - X x.2 + 1)
    · rw [if_pos hc, if_pos ⟨hc.1, by omega, by omega, hc.2.2⟩]
    · rw [if_neg hc, if_neg (fun h => hc ⟨h.1, by omega, h.2.2.2⟩)]; rfl
  | x :: y :: r, n, ha, hn, hX, hi => by
    have h1 := hi x (y :: r) rfl
    have hxy := ha.2.1
    have hyE := ha.tail.head.2
    have e1 : endP (y :: r) = y.2 := rfl
    have e2 : endR (y :: r) = y.2 := rfl
    rw [expiP, expiR]
    rw [show x.2 + max 0 (most - X x.2 + 1) = x.2 + most - X x.2 + 1 by omega]
    by_cases hc : x.1 = 2 ∧ x.2 + most - X x.2 + 1 ≤ endP (y :: r) ∧ most < X (x.2 + most - X x.2 + 1)
    · rw [if_pos hc, if_pos ⟨hc.1, by omega, by omega, hc.2.2⟩]
    · rw [if_neg hc, if_neg (fun h => hc ⟨h.1, by have := h.2.1; omega, h.2.2.2⟩)]
      have hx0 : X x.2 = stayF lvl bake x.1 n 0 := by rw [hX x (y :: r) x.2 rfl (by omega), expoF_head lvl bake ha n]
      have hn1 := stayF_bd (lvl := lvl) (bake := bake) (place := x.1) (e := n) (long := y.2 - x.2) hn (by omega)
      refine expi_same lvl bake most X hm (y :: r) (stayF lvl bake x.1 n (y.2 - x.2)) ha.tail hn1.1 (fun x' r' t he ht => ?_) (fun x' r' he => ?_)
      · injection he with he1 he2
        subst he1 he2
        rw [hX x (y :: r) t rfl (by omega), expoF_step lvl bake n t hxy ht]
      · injection he with he1 he2
        subst he1 he2
        have hy : X y.2 = stayF lvl bake y.1 (stayF lvl bake x.1 n (y.2 - x.2)) 0 := by
          rw [hX x (y :: r) y.2 rfl (by omega), expoF_step lvl bake n y.2 hxy (by omega), expoF_head lvl bake ha.tail]
        have hz := stayF_zero (lvl := lvl) (bake := bake) (place := y.1) hn1.1
        by_cases hp : x.1 = 2
        · have e0 : X x.2 = n := by rw [hx0]; unfold stayF; rw [if_pos hp]; omega
          have e1 : stayF lvl bake x.1 n (y.2 - x.2) = n + (y.2 - x.2) := by unfold stayF; rw [if_pos hp]
          apply Classical.byContradiction
          intro hgt
          apply hc
          refine ⟨hp, by omega, ?_⟩
          by_cases hlt : x.2 + most - X x.2 + 1 < y.2
          · rw [hX x (y :: r) _ rfl (by omega), expoF_in lvl bake n _ (by omega) hlt]
            unfold stayF
            rw [if_pos hp]; omega
          · have : x.2 + most - X x.2 + 1 = y.2 := by omega
            rw [this]; omega
        · have hoff := stayF_off (lvl := lvl) (bake := bake) (place := x.1) (e := n) (long := y.2 - x.2) hn (by omega) hp
          omega
theorem expires_same (lvl bake most : Int) (hm : 0 ≤ most) (l : List Sty) (h : AscS l) : expiP most (expo lvl bake l) l = expiR most (expo lvl bake l) l := by
  refine expi_same lvl bake most _ hm l 0 h (Int.le_refl _) (fun _ _ _ _ _ => rfl) (fun x r he => ?_)
  subst he
  unfold expo
  rw [expoF_head lvl bake h 0]
  have := stayF_zero (lvl := lvl) (bake := bake) (place := x.1) (Int.le_refl 0)
  omega

/-- the moments that are looked at. -/
def candF (lo hi : Int) : List Sty → List Int
  | [] => []
  | x :: r => (if lo ≤ x.2 - 1 ∧ x.2 - 1 ≤ hi then [x.2 - 1] else []) ++ (if lo ≤ x.2 ∧ x.2 ≤ hi then [x.2] else []) ++ candF lo hi r
theorem fold_max (X : Int → Int) : ∀ (l : List Int) (m k : Int), (l.foldl (fun m t => max m (X t)) m ≤ k) ↔ m ≤ k ∧ ∀ t ∈ l, X t ≤ k
  | [], m, k => by simp
  | t :: l, m, k => by
    rw [List.foldl_cons, fold_max X l (max m (X t)) k]
    simp only [List.mem_cons, forall_eq_or_imp]
    constructor
    · rintro ⟨h1, h2⟩; exact ⟨by omega, by omega, h2⟩
    · rintro ⟨h1, h2, h3⟩; exact ⟨by omega, h3⟩
end Go.Proofs.YtfhfncnnendnfaaGreatDoor
