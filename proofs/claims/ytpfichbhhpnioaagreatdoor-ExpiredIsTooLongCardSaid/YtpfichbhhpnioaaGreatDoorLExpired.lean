/- Plain law of ExpiredIsTooLong: up to the moment at which parts expire they can be used, and at it they cannot. No program. -/
import Derived.Test.YtpfichbhhpnioaaGreatDoorLPlain
namespace Go.Proofs.YtpfichbhhpnioaaGreatDoor

/-- what is told of the first moment at which parts expire. -/
def TellsF (most : Int) (X : Int → Int) (lo : Int) : Option Int → Prop
  | none => ∀ u, lo ≤ u → u < lvN → X u ≤ most
  | some t => lo ≤ t ∧ t < lvN ∧ most < X t ∧ ∀ u, lo ≤ u → u < t → X u ≤ most
theorem TellsF.down {most : Int} {X : Int → Int} {lo lo' : Int} (hll : lo ≤ lo') (hu : ∀ u, lo ≤ u → u < lo' → X u ≤ most) : ∀ {o : Option Int}, TellsF most X lo' o → TellsF most X lo o
  | none, h => fun u h1 h2 => by
    by_cases hc : u < lo'
    · exact hu u h1 hc
    · exact h u (by omega) h2
  | some t, h => ⟨by have := h.1; omega, h.2.1, h.2.2.1, fun u h1 h2 => by
    by_cases hc : u < lo'
    · exact hu u h1 hc
    · exact h.2.2.2 u (by omega) h2⟩
theorem expi_tells (lvl bake most : Int) (X : Int → Int) (hm : 0 ≤ most) : ∀ (s : List Sty) (n : Int), AscS s → 0 ≤ n → (∀ x r t, s = x :: r → x.2 ≤ t → X t = expoF lvl bake t n s) → (∀ x r, s = x :: r → X x.2 ≤ most) → ∀ x r, s = x :: r → TellsF most X x.2 (expiP most X s)
  | [], _, _, _, _, _, _, _, he => by cases he
  | [x], n, ha, hn, hX, hi, x', r', he => by
    injection he with he1 _
    subst he1
    have h1 := hi x [] rfl
    have hx0 : X x.2 = stayF lvl bake x.1 n 0 := by rw [hX x [] x.2 rfl (by omega), expoF_head lvl bake ha n]
    have hXu : ∀ u, x.2 ≤ u → X u = stayF lvl bake x.1 n (u - x.2) := fun u hu => by
      rw [hX x [] u rfl hu]; simp only [expoF, endAt]; rw [if_neg (by omega)]
    have e1 : endP [] = lvN - 1 := rfl
    rw [expiP, show x.2 + max 0 (most - X x.2 + 1) = x.2 + most - X x.2 + 1 by omega]
    by_cases hp : x.1 = 2
    · have e0 : X x.2 = n := by rw [hx0]; unfold stayF; rw [if_pos hp]; omega
      have hXf : ∀ u, x.2 ≤ u → X u = n + (u - x.2) := fun u hu => by rw [hXu u hu]; unfold stayF; rw [if_pos hp]
      by_cases hc : x.1 = 2 ∧ x.2 + most - X x.2 + 1 ≤ endP [] ∧ most < X (x.2 + most - X x.2 + 1)
      · rw [if_pos hc]
        exact ⟨by omega, by omega, hc.2.2, fun u h1 h2 => by rw [hXf u h1]; omega⟩
      · rw [if_neg hc]
        intro u hu1 hu2
        rw [hXf u hu1]
        apply Classical.byContradiction
        intro hgt
        exact hc ⟨hp, by omega, by rw [hXf _ (by omega)]; omega⟩
    · rw [if_neg (fun h => hp h.1)]
      intro u hu1 hu2
      rw [hXu u hu1]
      have hoff := stayF_off (lvl := lvl) (bake := bake) (place := x.1) (e := n) (long := u - x.2) hn (by omega) hp
      omega
  | x :: y :: r, n, ha, hn, hX, hi, x', r', he => by
    injection he with he1 _
    subst he1
    have h1 := hi x (y :: r) rfl
    have hxy := ha.2.1
    have hyE := ha.tail.head.2
    have e1 : endP (y :: r) = y.2 := rfl
    have hx0 : X x.2 = stayF lvl bake x.1 n 0 := by rw [hX x (y :: r) x.2 rfl (by omega), expoF_head lvl bake ha n]
    have hXu : ∀ u, x.2 ≤ u → u < y.2 → X u = stayF lvl bake x.1 n (u - x.2) := fun u hu hu2 => by
      rw [hX x (y :: r) u rfl hu, expoF_in lvl bake n u hu hu2]
    have hn1 := stayF_bd (lvl := lvl) (bake := bake) (place := x.1) (e := n) (long := y.2 - x.2) hn (by omega)
    have hy : X y.2 = stayF lvl bake y.1 (stayF lvl bake x.1 n (y.2 - x.2)) 0 := by
      rw [hX x (y :: r) y.2 rfl (by omega), expoF_step lvl bake n y.2 hxy (by omega), expoF_head lvl bake ha.tail]
    have hz := stayF_zero (lvl := lvl) (bake := bake) (place := y.1) hn1.1
    have rest : (∀ u, x.2 ≤ u → u < y.2 → X u ≤ most) → X y.2 ≤ most → TellsF most X x.2 (expiP most X (y :: r)) := fun hb hyl => by
      refine TellsF.down (by omega) hb (expi_tells lvl bake most X hm (y :: r) (stayF lvl bake x.1 n (y.2 - x.2)) ha.tail hn1.1 (fun x' r' t he ht => ?_) (fun x' r' he => ?_) y r rfl)
      · injection he with he1 he2
        subst he1 he2
        rw [hX x (y :: r) t rfl (by omega), expoF_step lvl bake n t hxy ht]
      · injection he with he1 he2
        subst he1 he2
        exact hyl
    rw [expiP, show x.2 + max 0 (most - X x.2 + 1) = x.2 + most - X x.2 + 1 by omega]
    by_cases hp : x.1 = 2
    · have e0 : X x.2 = n := by rw [hx0]; unfold stayF; rw [if_pos hp]; omega
      have hXf : ∀ u, x.2 ≤ u → u < y.2 → X u = n + (u - x.2) := fun u hu hu2 => by rw [hXu u hu hu2]; unfold stayF; rw [if_pos hp]
      have e2 : stayF lvl bake x.1 n (y.2 - x.2) = n + (y.2 - x.2) := by unfold stayF; rw [if_pos hp]
      by_cases hc : x.1 = 2 ∧ x.2 + most - X x.2 + 1 ≤ endP (y :: r) ∧ most < X (x.2 + most - X x.2 + 1)
      · rw [if_pos hc]
        exact ⟨by omega, by omega, hc.2.2, fun u h1 h2 => by rw [hXf u h1 (by omega)]; omega⟩
      · rw [if_neg hc]
        have hb : ∀ u, x.2 ≤ u → u < y.2 → X u ≤ most := fun u hu1 hu2 => by
          rw [hXf u hu1 hu2]
          apply Classical.byContradiction
          intro hgt
          exact hc ⟨hp, by omega, by rw [hXf _ (by omega) (by omega)]; omega⟩
        refine rest hb ?_
        apply Classical.byContradiction
        intro hgt
        have hl := hb (y.2 - 1) (by omega) (by omega)
        rw [hXf _ (by omega) (by omega)] at hl
        have : x.2 + most - X x.2 + 1 = y.2 := by omega
        exact hc ⟨hp, by omega, by rw [this]; omega⟩
    · rw [if_neg (fun h => hp h.1)]
      have hoff := stayF_off (lvl := lvl) (bake := bake) (place := x.1) (e := n) (long := y.2 - x.2) hn (by omega) hp
      refine rest (fun u hu1 hu2 => ?_) (by omega)
      rw [hXu u hu1 hu2]
      have hoff := stayF_off (lvl := lvl) (bake := bake) (place := x.1) (e := n) (long := u - x.2) hn (by omega) hp
      omega
/-- before the first stay there is no exposure. -/
theorem expo_before (lvl bake : Int) {x : Sty} {r : List Sty} {u : Int} (h : u < x.2) : expo lvl bake (x :: r) u = 0 := by
  unfold expo; rw [expoF, if_pos h]
theorem expires_tells (lvl bake most : Int) (hm : 0 ≤ most) (l : List Sty) (h : AscS l) : TellsF most (expo lvl bake l) 0 (expiP most (expo lvl bake l) l) := by
  cases l with
  | nil => intro u _ _; unfold expo; simp only [expoF]; exact hm
  | cons x r =>
    refine TellsF.down h.head.1 (fun u _ h2 => by rw [expo_before lvl bake h2]; exact hm) (expi_tells lvl bake most _ hm (x :: r) 0 h (Int.le_refl _) (fun _ _ _ _ _ => rfl) (fun y s he => ?_) x r rfl)
    injection he with he1 he2
    subst he1
    show expoF lvl bake x.2 0 (x :: r) ≤ most
    rw [expoF_head lvl bake h 0]
    have := stayF_zero (lvl := lvl) (bake := bake) (place := x.1) (Int.le_refl 0)
    omega
theorem expires_some {lvl bake most t : Int} (hm : 0 ≤ most) {l : List Sty} (h : AscS l) (he : expiP most (expo lvl bake l) l = some t) :
    1 ≤ t ∧ t < lvN ∧ most < expo lvl bake l t ∧ ∀ u, 0 ≤ u → u < t → expo lvl bake l u ≤ most := by
  have hh := expires_tells lvl bake most hm l h
  rw [he] at hh
  obtain ⟨a, b, c, d⟩ := hh
  refine ⟨?_, b, c, d⟩
  apply Classical.byContradiction
  intro hlt
  have ht : t = 0 := by omega
  subst ht
  cases l with
  | nil => unfold expo at c; simp only [expoF] at c; omega
  | cons x r =>
    by_cases hx : (0 : Int) < x.2
    · rw [expo_before lvl bake hx] at c; omega
    · have hx0 : x.2 = 0 := by have := h.head.1; omega
      have := expoF_head lvl bake h 0
      rw [hx0] at this
      unfold expo at c
      rw [this] at c
      have := stayF_zero (lvl := lvl) (bake := bake) (place := x.1) (Int.le_refl 0)
      omega
theorem expires_none {lvl bake most : Int} (hm : 0 ≤ most) {l : List Sty} (h : AscS l) (he : expiP most (expo lvl bake l) l = none) :
    ∀ u, 0 ≤ u → u < lvN → expo lvl bake l u ≤ most := by
  have hh := expires_tells lvl bake most hm l h
  rw [he] at hh
  exact hh
end Go.Proofs.YtpfichbhhpnioaaGreatDoor
