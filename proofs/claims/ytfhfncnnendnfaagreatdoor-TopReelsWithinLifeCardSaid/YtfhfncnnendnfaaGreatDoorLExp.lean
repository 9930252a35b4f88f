/- The contracts of exposed and ExposedOf, CheckStays and StaysFault. Conditions: at most 500 stays, in order; a moment from 0 on. -/
import Derived.Test.YtfhfncnnendnfaaGreatDoorLSp
import Derived.Test.YtfhfncnnendnfaaGreatDoorLStays
import Derived.BigQuiet
import Derived.Lib.QuietBelow
namespace Go.Proofs.YtfhfncnnendnfaaGreatDoor
open Go.RowKit Go.Sort

theorem drop_two {α : Type} {l : List α} {k : Nat} {x y : α} (h : l[k]? = some x) (h2 : l[k + 1]? = some y) : l.drop k = x :: y :: l.drop (k + 2) := by
  rw [drop_at h, drop_at h2]
theorem drop_one {α : Type} {l : List α} {k : Nat} {x : α} (h : l[k]? = some x) (h2 : ¬k + 1 < l.length) : l.drop k = [x] := by
  rw [drop_at h, List.drop_eq_nil_of_le (by omega)]
/-- not behind the moment before. -/
def late : Option Int → Int → Bool
  | none, _ => false
  | some q, x => decide (x ≤ q)
/-- the error of stays, behind one at a moment. -/
def stLoop : Option Int → List Sty → Int
  | _, [] => 0
  | p, x :: r => if inB 1 x.1 4 = true then (if inB 0 x.2 345686399999 = true then (if late p x.2 = true then 7 else stLoop (some x.2) r) else 1) else 4
def stF (l : List Sty) : Int := if l = [] then 8 else stLoop none l
theorem stLoop_asc : ∀ (l : List Sty) (p : Option Int), stLoop p l = 0 → AscS l ∧ (∀ x r, l = x :: r → 0 ≤ x.2 ∧ ∀ q, p = some q → q < x.2)
  | [], _, _ => ⟨trivial, by simp⟩
  | x :: r, p, h => by
    unfold stLoop at h
    by_cases h1 : inB 1 x.1 4 = true
    · rw [if_pos h1] at h
      by_cases h2 : inB 0 x.2 345686399999 = true
      · rw [if_pos h2] at h
        by_cases h3 : late p x.2 = true
        · rw [if_pos h3] at h; omega
        · rw [if_neg h3] at h
          obtain ⟨a, b⟩ := stLoop_asc r (some x.2) h
          have hx : 0 ≤ x.2 ∧ x.2 ≤ 345686399999 := by unfold inB at h2; simpa using h2
          refine ⟨?_, fun x' r' he => ?_⟩
          · cases r with
            | nil => exact ⟨hx.1, by rw [lvN_val]; omega⟩
            | cons y r => exact ⟨hx.1, (b y r rfl).2 x.2 rfl, a⟩
          · injection he with he1 he2
            subst he1
            refine ⟨hx.1, fun q hq => ?_⟩
            subst hq
            simp only [late, decide_eq_true_eq] at h3
            omega
      · rw [if_neg h2] at h; omega
    · rw [if_neg h1] at h; omega
theorem stF_asc {l : List Sty} (h : stF l = 0) : AscS l ∧ l ≠ [] := by
  unfold stF at h
  by_cases h0 : l = []
  · rw [if_pos h0] at h; omega
  · rw [if_neg h0] at h
    exact ⟨(stLoop_asc l none h).1, h0⟩
set_option maxHeartbeats 8000000 in
set_option maxRecDepth 100000 in
theorem exposed_any (key pkg : ByteArray) (lv bk t : Int) (l : List Sty) (v : Value) (w : World) (hl : l.length ≤ 500) (ha : AscS l) (h0 : 0 ≤ t) (h1 : t ≤ 345686400000) (rl : RecR TY w 0 v l) :
    Calls Tryz.prog 16 #[partV key pkg lv bk, v, .int .i64 t] w fun e w' => e = .returned (.int .i64 (expo lv bk l t)) ∧ Below w.heap.size w w' := by
  obtain ⟨a, cap, rfl, hc1, hc2⟩ := RecR.form rl
  have hb0 := Bl.alloc (Below.refl w.heap.size w) (.cells #[.string key, .string pkg, .int .i64 lv, .int .i64 bk] 29)
  have hP0 := blk_new w (.cells #[.string key, .string pkg, .int .i64 lv, .int .i64 bk] 29)
  have rl0 := rl.alloc (.cells #[.string key, .string pkg, .int .i64 lv, .int .i64 bk] 29)
  have HA := Lib.hid ha
  clear ha rl
  unfold partV
  go_enter Tryz.func16, Tryz.ntmps16
  go_wp2
  generalize w.alloc (.cells #[.string key, .string pkg, .int .i64 lv, .int .i64 bk] 29) = w1 at *
  have lP := blk_lt hP0
  go_loopw [7, 13] (fun n i wr => ∃ (k : Nat) (m : Int), k ≤ l.length ∧ i = .int .i64 k ∧ n = .int .i64 m ∧ 0 ≤ m ∧ Hid (AscS (l.drop k)) ∧ Hid (expo lv bk l t = expoF lv bk t m (l.drop k)) ∧ Hid (∀ y r, l.drop k = y :: r → m ≤ y.2) ∧ Below w1.heap.size w1 wr) (fun _ i _ => l.length - (intOf i).toNat)
  case atStart => exact ⟨0, 0, Nat.zero_le _, rfl, rfl, Int.le_refl _, HA, Lib.hid rfl, Lib.hid (fun y r h => by
      have := HA.out
      rw [show l = y :: r from h] at this
      exact this.head.1), Below.refl _ _⟩
  case round =>
    obtain ⟨k, m, hk, rfl, rfl, hm, hA, hE, hM, hb⟩ := hrel
    by_cases hlt : k < l.length
    · obtain ⟨⟨x1, x2⟩, hx⟩ : ∃ x, l[k]? = some x := ⟨_, List.getElem?_eq_getElem hlt⟩
      have rlr := rl0.below hb
      obtain ⟨b, o, rfl, _, hlb, hc⟩ := rlr.at TY.ok.len hx TY.ok.pos
      have c0 : wr.cell? ⟨b, o + k * 2, none⟩ = some (.int .i64 x1) := hc 0 _ rfl
      have c1 : wr.cell? ⟨b, o + k * 2 + 1, none⟩ = some (.int .i64 x2) := hc 1 _ rfl
      have hPr := blk_below hP0 hb
      have p0 : wr.cell? ⟨w.heap.size, 0, none⟩ = some (.string key) := blk_cell hPr 0
      have p1 : wr.cell? ⟨w.heap.size, 1, none⟩ = some (.string pkg) := blk_cell hPr 1
      have p2 : wr.cell? ⟨w.heap.size, 2, none⟩ = some (.int .i64 lv) := blk_cell hPr 2
      have p3 : wr.cell? ⟨w.heap.size, 3, none⟩ = some (.int .i64 bk) := blk_cell hPr 3
      have lPr := blk_lt hPr
      have hd := drop_at hx
      have hmx : m ≤ x2 := hM.out _ _ hd
      have hx2 : 0 ≤ x2 ∧ x2 < lvN := by
        have := hA.out
        rw [hd] at this
        exact this.head
      rw [lvN_val] at hx2
      have hbr := Bl.alloc hb (.cells #[.int .i64 x1, .int .i64 x2] 32)
      by_cases hgt : t < x2
      · have HV : Hid (expo lv bk l t = m) := Lib.hid (by rw [hE.out, hd, expoF, if_pos hgt])
        clear hc hx hd hA hE hM HA rl0 rlr
        go_wp2
        go_ret
        exact ⟨ret_int HV.out.symm, Bl.trans hb0 hbr⟩
      · by_cases h2 : k + 1 < l.length
        · obtain ⟨⟨y1, y2⟩, hy⟩ : ∃ y, l[k + 1]? = some y := ⟨_, List.getElem?_eq_getElem h2⟩
          obtain ⟨b', o', hab, _, _, hcy⟩ := rlr.at TY.ok.len hy TY.ok.pos
          injection hab with hab
          injection hab with e1 e2 _
          subst e1 e2
          have d1 : wr.cell? ⟨b, o + (k + 1) * 2 + 1, none⟩ = some (.int .i64 y2) := hcy 1 _ rfl
          have hdd := drop_two hx hy
          have hxy : x2 < y2 := by
            have := hA.out
            rw [hdd] at this
            exact this.2.1
          have hA' : Hid (AscS (l.drop (k + 1))) := Lib.hid (by have := hA.out; rw [hd] at this; exact this.tail)
          have hEn : Hid (expo lv bk l t = expoF lv bk t (stayF lv bk x1 m (min t y2 - x2)) (l.drop (k + 1))) := Lib.hid (by rw [hE.out, hd, expoF, if_neg hgt, drop_at hy]; rfl)
          have hsb := stayF_bd (lvl := lv) (bake := bk) (place := x1) (e := m) (long := min t y2 - x2) hm (by omega)
          have hMn : Hid (∀ z r, l.drop (k + 1) = z :: r → stayF lv bk x1 m (min t y2 - x2) ≤ z.2) := Lib.hid (fun z r he => by
            rw [drop_at hy] at he
            injection he with he1 _
            subst he1
            simp only; omega)
          have hw1 : IntKind.i64.wrap ((k : Int) + 1) = ((k + 1 : Nat) : Int) := by rw [IntWalk.i64_in _ (by omega)]; omega
          have hw2 : IntKind.i64.wrap (min t y2 - x2) = min t y2 - x2 := IntWalk.i64_in _ (by omega)
          clear hc hcy hx hy hd hdd hA hE hM HA rlr
          go_wp2_with fail
          refine (stayed_any key pkg lv bk x1 m (min t y2 - x2) _ hm (by omega) (by omega) (by omega)).mono ?_
          rintro e w3 ⟨rfl, hb3⟩
          have hbn := Bl.trans hbr hb3
          go_wp2
          go_roundw
          case rel => exact ⟨k + 1, _, by omega, by go_num, rfl, hsb.1, hA', hEn, hMn, hbn⟩
          case measure => simp [intOf]; omega
        · have hd1 := drop_one hx h2
          have hEn : Hid (expo lv bk l t = expoF lv bk t (stayF lv bk x1 m (t - x2)) (l.drop (k + 1))) := Lib.hid (by rw [hE.out, hd, expoF, if_neg hgt, List.drop_eq_nil_of_le (by omega)]; rfl)
          have hsb := stayF_bd (lvl := lv) (bake := bk) (place := x1) (e := m) (long := t - x2) hm (by omega)
          have hA' : Hid (AscS (l.drop (k + 1))) := Lib.hid (by rw [List.drop_eq_nil_of_le (by omega)]; trivial)
          have hMn : Hid (∀ z r, l.drop (k + 1) = z :: r → stayF lv bk x1 m (t - x2) ≤ z.2) := Lib.hid (fun z r he => by rw [List.drop_eq_nil_of_le (by omega)] at he; cases he)
          have hw1 : IntKind.i64.wrap ((k : Int) + 1) = ((k + 1 : Nat) : Int) := by rw [IntWalk.i64_in _ (by omega)]; omega
          have hw2 : IntKind.i64.wrap (t - x2) = t - x2 := IntWalk.i64_in _ (by omega)
          clear hc hx hd hd1 hA hE hM HA rlr
          go_wp2_with fail
          refine (stayed_any key pkg lv bk x1 m (t - x2) _ hm (by omega) (by omega) (by omega)).mono ?_
          rintro e w3 ⟨rfl, hb3⟩
          have hbn := Bl.trans hbr hb3
          go_wp2
          go_roundw
          case rel => exact ⟨k + 1, _, by omega, by go_num, rfl, hsb.1, hA', hEn, hMn, hbn⟩
          case measure => simp [intOf]; omega
    · have hk2 : k = l.length := by omega
      have HV : Hid (expo lv bk l t = m) := Lib.hid (by rw [hE.out, hk2, List.drop_length]; rfl)
      clear hA hE hM HA rl0
      go_wp2
      go_ret
      exact ⟨ret_int HV.out.symm, Bl.trans hb0 hb⟩
end Go.Proofs.YtfhfncnnendnfaaGreatDoor
