/- Plain law of TopReelsWithinLife: a part on the floor between two moments, its reel in a feeder between them. No conditions. -/
import Derived.Test.YtfhfncnnendnfaaGreatDoorLUse
import Derived.Test.YtfhfncnnendnfaaGreatDoorRp1
namespace Go.Proofs.YtfhfncnnendnfaaGreatDoor
open Go.RowKit Go.Sort

/-- in a bag, on the floor from a on, in a bag from b on. -/
def stT (a b : Int) : List Sty := [(1, 0), (2, a), (1, b)]
theorem stay1 (lv bk e g : Int) : stayF lv bk 1 e g = e := by unfold stayF; simp
theorem stay2 (lv bk e g : Int) : stayF lv bk 2 e g = e + g := by unfold stayF; simp
theorem expT {lv bk a b t : Int} (_ha : 0 < a) (_hb : a < b) (ht : 0 ≤ t) : expo lv bk (stT a b) t = if t < a then 0 else if t < b then t - a else b - a := by
  unfold expo stT
  rw [expoF, if_neg (show ¬ t < 0 by omega), stay1, expoF]
  by_cases h1 : t < a
  · rw [if_pos h1, if_pos h1]
  · rw [if_neg h1, if_neg h1, stay2, expoF]
    by_cases h2 : t < b
    · rw [if_pos h2, if_pos h2]
      show 0 + (min t b - a) = t - a
      omega
    · rw [if_neg h2, if_neg h2, stay1, expoF]
      show 0 + (min t b - a) = b - a
      omega
theorem stF_T {a b : Int} (ha : 0 < a) (hb : a < b) (h : b ≤ 345686399999) : stF (stT a b) = 0 := by
  have i1 : inB 0 a 345686399999 = true := inB_iff.2 ⟨by omega, by omega⟩
  have i2 : inB 0 b 345686399999 = true := inB_iff.2 ⟨by omega, by omega⟩
  have l1 : late (some 0) a = false := by unfold late; simp; omega
  have l2 : late (some a) b = false := by unfold late; simp; omega
  unfold stF stT
  rw [if_neg (by simp)]
  simp only [stLoop, i1, i2, l1, l2]
  decide
theorem livT {a b lv : Int} (ha : 0 < a) (hb : a < b) (h : b ≤ 345686399999) (hl : 2 ≤ lv ∧ lv ≤ 6) : livF ⟨#[112]⟩ lv (stT a b) = 0 := by
  have hc : catF ⟨#[112]⟩ lv = 0 := by
    unfold catF
    rw [if_pos (by decide +kernel), if_pos (inB_iff.2 ⟨by omega, by omega⟩)]
  unfold livF
  rw [if_pos hc]
  exact stF_T ha hb h
theorem usT {lv bk a b t : Int} (ha : 0 < a) (hb : a < b) (ht : 0 ≤ t) (hl : 2 ≤ lv) : usB lv bk (stT a b) 0 t = decide (expo lv bk (stT a b) t ≤ lifeV lv) := by
  unfold usB
  rw [decide_eq_false (by omega : ¬ lv = 1), Bool.false_or, Bool.eq_iff_iff, List.all_eq_true, decide_eq_true_eq]
  constructor
  · intro h
    have := h t (by simp)
    simpa using this
  · intro h s hs
    have hst : 0 ≤ s ∧ s ≤ t := by
      simp only [List.mem_cons, List.mem_filter] at hs
      rcases hs with rfl | rfl | ⟨_, h2⟩
      · exact ⟨Int.le_refl _, ht⟩
      · exact ⟨ht, Int.le_refl _⟩
      · exact inB_iff.1 h2
    rw [decide_eq_true_eq]
    rw [expT ha hb ht] at h
    rw [expT ha hb hst.1]
    split at h <;> split <;> first | omega | (split at h <;> first | omega | (split <;> omega)) | (split <;> omega)
/-! the reel -/
def rsT : List Rel := [(⟨#[114]⟩, ⟨#[112]⟩, 5)]
def fsT (a b : Int) : List Fed := [(a, 1, ⟨#[102]⟩, ⟨#[114]⟩, 0, ByteArray.empty), (b, 3, ⟨#[102]⟩, ByteArray.empty, 0, ByteArray.empty)]
theorem reelsT : reelsF rsT = 0 := by decide +kernel
theorem hasT : hasB rsT ⟨#[114]⟩ = true := by decide +kernel
theorem feedT1 {a : Int} (p : Option Int) (h : inB 0 a 345686399999 = true) (ho : ordT p a = 0) : feedF rsT p (a, 1, ⟨#[102]⟩, ⟨#[114]⟩, 0, ByteArray.empty) = 0 := by
  have h1 : ¬ inB 0 a 345686399999 = false := by rw [h]; decide
  have h2 : ¬ inB 1 1 5 = false := by decide
  have h3 : ¬ formB (a, 1, ⟨#[102]⟩, ⟨#[114]⟩, 0, ByteArray.empty) = false := by show ¬ formB (0, 1, ⟨#[102]⟩, ⟨#[114]⟩, 0, ByteArray.empty) = false; decide +kernel
  have h4 : ¬ kbB (a, 1, ⟨#[102]⟩, ⟨#[114]⟩, 0, ByteArray.empty) = true := by show ¬ kbB (0, 1, ⟨#[102]⟩, ⟨#[114]⟩, 0, ByteArray.empty) = true; decide +kernel
  have h5 : ¬ (uR 1 && !hasB rsT ⟨#[114]⟩) = true := by decide +kernel
  have h6 : ¬ manyP 1 0 = 1 := by decide
  unfold feedF
  rw [if_neg h1, if_neg h2, if_neg h3, if_neg h4, if_neg h5, if_neg h6]
  exact ho
theorem feedT2 {a : Int} (p : Option Int) (h : inB 0 a 345686399999 = true) (ho : ordT p a = 0) : feedF rsT p (a, 3, ⟨#[102]⟩, ByteArray.empty, 0, ByteArray.empty) = 0 := by
  have h1 : ¬ inB 0 a 345686399999 = false := by rw [h]; decide
  have h2 : ¬ inB 1 3 5 = false := by decide
  have h3 : ¬ formB (a, 3, ⟨#[102]⟩, ByteArray.empty, 0, ByteArray.empty) = false := by show ¬ formB (0, 3, ⟨#[102]⟩, ByteArray.empty, 0, ByteArray.empty) = false; decide +kernel
  have h4 : ¬ kbB (a, 3, ⟨#[102]⟩, ByteArray.empty, 0, ByteArray.empty) = true := by show ¬ kbB (0, 3, ⟨#[102]⟩, ByteArray.empty, 0, ByteArray.empty) = true; decide +kernel
  have h5 : ¬ (uR 3 && !hasB rsT ByteArray.empty) = true := by decide +kernel
  have h6 : ¬ manyP 3 0 = 1 := by decide
  unfold feedF
  rw [if_neg h1, if_neg h2, if_neg h3, if_neg h4, if_neg h5, if_neg h6]
  exact ho
theorem feedsT {a b : Int} (ha : 0 < a) (hb : a < b) (h : b ≤ 345686399999) : feedsF rsT (fsT a b) = 0 := by
  have i1 : inB 0 a 345686399999 = true := by unfold inB; simp; omega
  have i2 : inB 0 b 345686399999 = true := by unfold inB; simp; omega
  have o2 : ordT (some a) b = 0 := by unfold ordT; simp only; rw [if_neg (by omega)]
  unfold feedsF fsT
  rw [if_pos reelsT, if_neg (by simp), feedsF1, if_pos (feedT1 none i1 rfl), feedsF1, if_pos (feedT2 (some a) i2 o2), feedsF1]
theorem refT1 {a : Int} : refM (newM rsT) (a, 1, ⟨#[102]⟩, ⟨#[114]⟩, 0, ByteArray.empty) = 0 := by
  unfold refM
  rw [if_pos (show (1 : Int) = 1 from rfl), if_pos ⟨rfl, rfl⟩]
theorem posT (a b t : Int) (hb : a < b) : (runM t (newM rsT) 0 (fsT a b)).pos ⟨#[114]⟩ = if a ≤ t ∧ t < b then ⟨#[102]⟩ else ByteArray.empty := by
  have e1 : ∀ i : Int, stepM (newM rsT) i (a, 1, ⟨#[102]⟩, ⟨#[114]⟩, 0, ByteArray.empty) = ⟨(newM rsT).left, (newM rsT).part, updR (newM rsT).row ⟨#[102]⟩ ([] ++ [⟨#[114]⟩]), updR (newM rsT).pos ⟨#[114]⟩ ⟨#[102]⟩, []⟩ := fun i => by
    unfold stepM
    rw [if_pos refT1]
    unfold doM
    rw [if_pos (.inl rfl)]
    rfl
  unfold fsT
  rw [runM]
  by_cases h1 : t < a
  · rw [if_pos (show t < Fed.at (a, 1, ⟨#[102]⟩, ⟨#[114]⟩, 0, ByteArray.empty) from h1), runM, if_pos (show t < Fed.at (b, 3, ⟨#[102]⟩, ByteArray.empty, 0, ByteArray.empty) from by show t < b; omega), runM, if_neg (by omega)]
    rfl
  · rw [if_neg (show ¬ t < Fed.at (a, 1, ⟨#[102]⟩, ⟨#[114]⟩, 0, ByteArray.empty) from h1), e1, runM]
    by_cases h2 : t < b
    · rw [if_pos (show t < Fed.at (b, 3, ⟨#[102]⟩, ByteArray.empty, 0, ByteArray.empty) from h2), runM, if_pos (by omega)]
      show updR (newM rsT).pos ⟨#[114]⟩ ⟨#[102]⟩ ⟨#[114]⟩ = _
      exact updR_at _ _ _
    · rw [if_neg (show ¬ t < Fed.at (b, 3, ⟨#[102]⟩, ByteArray.empty, 0, ByteArray.empty) from h2), runM, if_neg (by omega)]
      unfold stepM
      have hr : updR (newM rsT).row ⟨#[102]⟩ ([] ++ [⟨#[114]⟩]) ⟨#[102]⟩ = [⟨#[114]⟩] := updR_at _ _ _
      rw [if_pos (by
        unfold refM
        rw [if_neg (show ¬ (3 : Int) = 1 by decide), if_neg (show ¬ (3 : Int) = 2 by decide), if_pos (show (3 : Int) = 3 from rfl)]
        show (if updR (newM rsT).row ⟨#[102]⟩ ([] ++ [⟨#[114]⟩]) ⟨#[102]⟩ = [] then (8 : Int) else 0) = 0
        rw [hr]
        rfl)]
      unfold doM
      rw [if_neg (show ¬ ((3 : Int) = 1 ∨ (3 : Int) = 2) by decide), if_pos (show (3 : Int) = 3 from rfl)]
      show posU (updR (newM rsT).pos ⟨#[114]⟩ ⟨#[102]⟩) (updR (newM rsT).row ⟨#[102]⟩ ([] ++ [⟨#[114]⟩]) ⟨#[102]⟩) [] ⟨#[114]⟩ = ByteArray.empty
      rw [hr]
      exact posU_gone (by simp) (by simp)
end Go.Proofs.YtfhfncnnendnfaaGreatDoor
