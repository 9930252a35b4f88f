/- The contracts of what tells the errors of points and orders. Condition: lists of at most 1000 elements. -/
import Derived.Test.YtbkglhakhahfpaaGreatDoorLen
namespace Go.Proofs.YtbkglhakhahfpaaGreatDoor
open Go.RowKit Go.Sort

theorem any_take_succ {P : List Pt} {k : Nat} {p : Pt} (h : P[k]? = some p) : (P.take (k + 1)).any farB = ((P.take k).any farB || farB p) := by
  rw [take_snoc h]; simp

set_option maxHeartbeats 400000 in
theorem IndexFar_any (P : List Pt) (vp : Value) (w : World) (_ : P.length ≤ 1000) (rp : Pts w 0 vp P) :
    Calls Tryz.prog 317 #[vp, .func (.func 211) #[] #[]] w fun e w' => (∃ r : Int, e = .returned (.int .i64 r) ∧ decide (0 ≤ r) = P.any farB) ∧ Below w.heap.size w w' := by
  obtain ⟨a, cap, rfl, hc1, hc2⟩ := Pts.form rp
  go_enter Tryz.func317, Tryz.ntmps317
  go_wp2
  go_loopw [8] (fun i wr => ∃ k : Nat, k ≤ P.length ∧ i = .int .i64 k ∧ Hid ((P.take k).any farB = false) ∧ Below w.heap.size w wr) (fun i _ => P.length - (intOf i).toNat)
  case atStart => exact ⟨0, Nat.zero_le _, rfl, Lib.hid rfl, Below.refl _ _⟩
  case round =>
    obtain ⟨k, hk, rfl, hf, hb⟩ := hrel
    by_cases hlt : k < P.length
    · obtain ⟨p, hp⟩ : ∃ p, P[k]? = some p := ⟨_, List.getElem?_eq_getElem hlt⟩
      have HS := Lib.hid (any_take_succ hp)
      have HM := Lib.hid (List.mem_of_getElem? hp)
      obtain ⟨b2, o2, rfl, _, hl2, hx2, hx3⟩ := Pts.at rp hp
      obtain ⟨px, py⟩ := p
      have y2 := ((bcell hb).1 b2 (o2 + k * 2) hl2).trans hx2
      have y3 := ((bcell hb).1 b2 (o2 + k * 2 + 1) hl2).trans hx3
      clear hp hx2 hx3
      cases hF : farB (px, py)
      all_goals
        have HF := Lib.hid hF
        clear hF
        go_wp2_with (go_at_call 211; refine (isFar_any (px, py) _).mono ?_; rintro e w2 ⟨rfl, hb2⟩; rw [HF.out])
      · go_roundw
        case rel => exact ⟨k + 1, by omega, by go_num, Lib.hid (by rw [HS.out, hf.out, HF.out]; rfl), hb.trans (hb2.mono hb.size)⟩
        case measure => simp [intOf]; omega
      · go_ret
        refine ⟨⟨_, rfl, ?_⟩, hb.trans (hb2.mono hb.size)⟩
        have : P.any farB = true := List.any_eq_true.2 ⟨_, HM.out, HF.out⟩
        rw [this]; simp
    · have hk2 : k = P.length := by omega
      subst hk2
      rw [List.take_length] at hf
      go_wp2
      go_ret
      exact ⟨⟨_, rfl, by rw [hf.out]; rfl⟩, hb⟩

set_option maxHeartbeats 400000 in
theorem ContainsFar_any (P : List Pt) (vp : Value) (w : World) (hlen : P.length ≤ 1000) (rp : Pts w 0 vp P) :
    Calls Tryz.prog 274 #[vp, .func (.func 211) #[] #[]] w fun e w' => e = .returned (.bool (P.any farB)) ∧ Below w.heap.size w w' := by
  go_enter Tryz.func274, Tryz.ntmps274
  go_wp2_with fail
  refine (IndexFar_any P vp _ hlen rp).mono ?_
  rintro e w2 ⟨⟨r, rfl, hr⟩, hb⟩
  have HR := Lib.hid hr
  clear hr
  go_wp2
  go_ret
  exact ⟨ret_bool HR.out, hb⟩

def ptF (P : List Pt) : Int := if P.any farB then 1 else 0
theorem ptF_yes {P : List Pt} (h : P.any farB = true) : ptF P = 1 := by unfold ptF; rw [h]; rfl
theorem ptF_no {P : List Pt} (h : P.any farB = false) : ptF P = 0 := by unfold ptF; rw [h]; rfl
/-- the error of points. -/
def ptsF (P : List Pt) (most : Int) : Int := if (P.length : Int) ≤ most then ptF P else 2
/-- the error of a start and points. -/
def tourF (st : Pt) (P : List Pt) (most : Int) : Int := if farB st then 1 else ptsF P most

set_option maxHeartbeats 400000 in
theorem CheckPoints_any (P : List Pt) (most : Int) (vp : Value) (w : World) (hlen : P.length ≤ 1000) (rp : Pts w 0 vp P) :
    Calls Tryz.prog 216 #[vp, .int .i64 most] w fun e w' => e = .returned (.int .i64 (ptsF P most)) ∧ Below w.heap.size w w' := by
  have HP := Lib.hid (show ptsF P most = _ from rfl)
  obtain ⟨a, cap, rfl, hc1, hc2⟩ := Pts.form rp
  by_cases hm : (P.length : Int) ≤ most
  · cases hF : P.any farB
    all_goals
      have HF := Lib.hid hF
      clear hF
      go_enter Tryz.func216, Tryz.ntmps216
      go_wp2_with (go_at_call 274; refine (ContainsFar_any P _ _ hlen rp).mono ?_; rintro e w2 ⟨rfl, hb⟩; rw [HF.out])
      go_ret
      exact ⟨ret_int (by unfold ptsF; rw [if_pos hm]; first | rw [ptF_yes HF.out] | rw [ptF_no HF.out]), hb⟩
  · go_enter Tryz.func216, Tryz.ntmps216
    go_wp2
    go_ret
    exact ⟨ret_int (by unfold ptsF; rw [if_neg (by omega)]), Below.refl _ _⟩

set_option maxHeartbeats 400000 in
theorem pointsFault_any (st : Pt) (P : List Pt) (most : Int) (vp : Value) (w : World) (hlen : P.length ≤ 1000) (rp : Pts w 0 vp P) :
    Calls Tryz.prog 142 #[ptv st, vp, .int .i64 most] w fun e w' => e = .returned (.int .i64 (tourF st P most)) ∧ Below w.heap.size w w' := by
  cases hF : farB st
  all_goals
    have HF := Lib.hid hF
    clear hF
    obtain ⟨sx, sy⟩ := st
    unfold ptv
    go_enter Tryz.func142, Tryz.ntmps142
    go_wp2_with (go_at_call 211; refine (isFar_any (sx, sy) _).mono ?_; rintro e w2 ⟨rfl, hb⟩; rw [HF.out])
  · have hb1 := ((Below.refl w.heap.size w).alloc (Nat.le_refl _) _).trans (hb.mono (by simp))
    refine (CheckPoints_any P most _ _ hlen (rp.below hb1)).mono ?_
    rintro e w3 ⟨rfl, hb3⟩
    go_wp2
    go_ret
    exact ⟨ret_int (by unfold tourF; rw [HF.out]; rfl), hb1.trans (hb3.mono hb1.size)⟩
  · have hb1 := ((Below.refl w.heap.size w).alloc (Nat.le_refl _) _).trans (hb.mono (by simp))
    go_ret
    exact ⟨ret_int (by unfold tourF; rw [HF.out]; rfl), hb1⟩

set_option maxHeartbeats 400000 in
theorem PointFault_any (P : List Pt) (vp : Value) (w : World) (hlen : P.length ≤ 1000) (rp : Pts w 0 vp P) :
    Calls Tryz.prog 214 #[vp] w fun e w' => e = .returned (.int .i64 (ptF P)) ∧ Below w.heap.size w w' := by
  obtain ⟨a, cap, rfl, hc1, hc2⟩ := Pts.form rp
  go_enter Tryz.func214, Tryz.ntmps214
  go_wp2
  go_loopw [7] (fun i wr => ∃ k : Nat, k ≤ P.length ∧ i = .int .i64 k ∧ Hid ((P.take k).any farB = false) ∧ Below w.heap.size w wr) (fun i _ => P.length - (intOf i).toNat)
  case atStart => exact ⟨0, Nat.zero_le _, rfl, Lib.hid rfl, Below.refl _ _⟩
  case round =>
    obtain ⟨k, hk, rfl, hf, hb⟩ := hrel
    by_cases hlt : k < P.length
    · obtain ⟨p, hp⟩ : ∃ p, P[k]? = some p := ⟨_, List.getElem?_eq_getElem hlt⟩
      have HS := Lib.hid (any_take_succ hp)
      have HM := Lib.hid (List.mem_of_getElem? hp)
      obtain ⟨b2, o2, rfl, _, hl2, hx2, hx3⟩ := Pts.at rp hp
      obtain ⟨px, py⟩ := p
      have y2 := ((bcell hb).1 b2 (o2 + k * 2) hl2).trans hx2
      have y3 := ((bcell hb).1 b2 (o2 + k * 2 + 1) hl2).trans hx3
      clear hp hx2 hx3
      cases hF1 : inB (-500000) px 500000 <;> cases hF2 : inB (-500000) py 500000
      all_goals
        have HF : Hid (farB (px, py) = _) := Lib.hid (by simp only [farB, hF1, hF2]; rfl)
        go_wp2_with (go_at_call 89; refine (in_any _ _ _ _).mono ?_; rintro e w2 ⟨rfl, rfl⟩)
      case roundEnd =>
        go_roundw
        case rel => exact ⟨k + 1, by omega, by go_num, Lib.hid (by rw [HS.out, hf.out, HF.out]; rfl), hb.alloc hb.size _⟩
        case measure => simp [intOf]; omega
      all_goals
        go_ret
        exact ⟨ret_int (ptF_yes (List.any_eq_true.2 ⟨_, HM.out, HF.out⟩)).symm, hb.alloc hb.size _⟩
    · have hk2 : k = P.length := by omega
      subst hk2
      rw [List.take_length] at hf
      go_wp2
      go_ret
      exact ⟨ret_int (ptF_no hf.out).symm, hb⟩

set_option maxHeartbeats 400000 in
theorem PointsFault_any (P : List Pt) (most : Int) (vp : Value) (w : World) (hlen : P.length ≤ 1000) (rp : Pts w 0 vp P) :
    Calls Tryz.prog 215 #[vp, .int .i64 most] w fun e w' => e = .returned (.int .i64 (ptsF P most)) ∧ Below w.heap.size w w' := by
  obtain ⟨a, cap, rfl, hc1, hc2⟩ := Pts.form rp
  by_cases hm : (P.length : Int) ≤ most
  · go_enter Tryz.func215, Tryz.ntmps215
    go_wp2_with (go_at_call 214; refine (PointFault_any P _ _ hlen rp).mono ?_; rintro e w2 ⟨rfl, hb⟩)
    go_ret
    exact ⟨ret_int (by unfold ptsF; rw [if_pos hm]), hb⟩
  · go_enter Tryz.func215, Tryz.ntmps215
    go_wp2
    go_ret
    exact ⟨ret_int (by unfold ptsF; rw [if_neg (by omega)]), Below.refl _ _⟩

/-- the first that is not 0. -/
def orF : List Int → Int
  | [] => 0
  | x :: l => if x = 0 then orF l else x
theorem orF_take {l : List Int} {k : Nat} (h : ∀ x ∈ l.take k, x = 0) : orF l = orF (l.drop k) := by
  induction k generalizing l with
  | zero => rfl
  | succ k ih =>
    cases l with
    | nil => rfl
    | cons x l =>
      have hx : x = 0 := h x (by simp)
      subst hx
      simp only [orF, List.drop_succ_cons, if_true]
      exact ih (fun y hy => h y (by simp [hy]))

set_option maxHeartbeats 400000 in
theorem OrErrno_any (l : List Int) (v : Value) (w : World) (_ : l.length ≤ 1000) (rl : Ints w 0 v l) :
    Calls Tryz.prog 11 #[v] w fun e w' => e = .returned (.int .i64 (orF l)) ∧ w' = w := by
  obtain ⟨a, cap, rfl, hc1, hc2⟩ := Ints.form rl
  go_enter Tryz.func11, Tryz.ntmps11
  go_wp2
  go_loop [8] (fun i => ∃ k : Nat, k ≤ l.length ∧ i = .int .i64 k ∧ Hid (∀ x ∈ l.take k, x = 0)) (fun i => l.length - (intOf i).toNat)
  case atStart => exact ⟨0, Nat.zero_le _, rfl, Lib.hid (by simp)⟩
  case round =>
    obtain ⟨k, hk, rfl, hf⟩ := hrel
    by_cases hlt : k < l.length
    · obtain ⟨x, hx⟩ : ∃ x, l[k]? = some x := ⟨_, List.getElem?_eq_getElem hlt⟩
      obtain ⟨b2, o2, rfl, _, hl2, hx2⟩ := Ints.at rl hx
      by_cases h0 : x = 0
      · subst h0
        have HS := Lib.hid (take_snoc hx)
        clear hx
        go_wp2
        go_round
        case rel => exact ⟨k + 1, by omega, by go_num, Lib.hid (by rw [HS.out]; intro y hy; rcases List.mem_append.1 hy with h | h; exact hf.out y h; simpa using h)⟩
        case measure => simp [intOf]; omega
      · have HX : Hid (orF l = x) := Lib.hid (by
          rw [orF_take hf.out]
          obtain ⟨_, hg⟩ := List.getElem?_eq_some_iff.1 hx
          rw [List.drop_eq_getElem_cons hlt, hg]
          simp [orF, h0])
        have h0' : (x == 0) = false := by simpa using h0
        have h0n : (x != 0) = true := by simpa using h0
        clear hx h0
        go_wp2
        go_ret
        exact ⟨ret_int HX.out.symm, rfl⟩
    · have hk2 : k = l.length := by omega
      subst hk2
      rw [List.take_length] at hf
      have HX : Hid (orF l = 0) := Lib.hid (by
        have := orF_take (l := l) (k := l.length) (by rw [List.take_length]; exact hf.out)
        rw [this]; simp [orF])
      go_wp2
      go_ret
      exact ⟨ret_int HX.out.symm, rfl⟩

set_option maxHeartbeats 400000 in
theorem TourFault_any (st : Pt) (P : List Pt) (most : Int) (vp : Value) (w : World) (hlen : P.length ≤ 1000) (rp : Pts w 0 vp P) :
    Calls Tryz.prog 141 #[ptv st, vp, .int .i64 most] w fun e w' => e = .returned (.int .i64 (tourF st P most)) ∧ Below w.heap.size w w' := by
  obtain ⟨sx, sy⟩ := st
  unfold ptv
  have h1 : Hid (tourF (sx, sy) P most = orF [ptF [(sx, sy)], ptsF P most]) := Lib.hid (by
    unfold tourF; cases hF : farB (sx, sy) <;> simp [orF, hF, ptF])
  go_enter Tryz.func141, Tryz.ntmps141
  go_wp2_with fail
  refine (PointFault_any [(sx, sy)] _ _ (by simp) (Pts.of_blk (blk_new' _ _ (by simp)) rfl rfl (by simp) (by omega) (Nat.zero_le _))).mono ?_
  rintro e w2 ⟨rfl, hb⟩
  have hb1 : Below w.heap.size w w2 := (((Below.refl w.heap.size w).alloc (Nat.le_refl _) _).alloc (by simp) _).trans (hb.mono (by simp; omega))
  clear hb
  generalize ptF [(sx, sy)] = r1 at *
  go_wp2_with fail
  refine (PointsFault_any P most _ _ hlen (rp.below hb1)).mono ?_
  rintro e w3 ⟨rfl, hb3⟩
  have hb2 := hb1.trans (hb3.mono hb1.size)
  clear hb1 hb3
  generalize ptsF P most = r2 at *
  go_wp2_with fail
  refine (OrErrno_any [r1, r2] _ _ (by simp) (Ints.of_blk (blk_new' _ _ (by simp)) rfl rfl (by simp) (by omega) (Nat.zero_le _))).mono ?_
  rintro e w4 ⟨rfl, rfl⟩
  go_wp2
  go_ret
  exact ⟨ret_int h1.out.symm, hb2.alloc hb2.size _⟩
end Go.Proofs.YtbkglhakhahfpaaGreatDoor
