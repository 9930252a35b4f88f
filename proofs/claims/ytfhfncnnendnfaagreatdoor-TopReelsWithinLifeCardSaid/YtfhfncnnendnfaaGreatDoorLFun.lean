/- The contracts of Life, LifeOf, the errors of parts with stays, Exposed, Left and LeftOf. Conditions: a short key, a bake time in its range, at most 500 stays. -/
import Derived.Test.YtfhfncnnendnfaaGreatDoorLCat
import Derived.Deep.RegionWith
namespace Go.Proofs.YtfhfncnnendnfaaGreatDoor
open Go.RowKit Go.Sort

def lifeV (lv : Int) : Int := if lv = 2 then 31536000000 else if lv = 3 then 604800000 else if lv = 4 then 259200000 else if lv = 5 then 86400000 else if lv = 6 then 21600000 else 0
theorem lifeV_bd (lv : Int) : 0 ≤ lifeV lv ∧ lifeV lv ≤ 31536000000 := by unfold lifeV; repeat' split <;> omega
theorem six {lv : Int} (h : 1 ≤ lv ∧ lv ≤ 6) : lv = 1 ∨ lv = 2 ∨ lv = 3 ∨ lv = 4 ∨ lv = 5 ∨ lv = 6 := by omega
theorem inB_iff {l n h : Int} : inB l n h = true ↔ l ≤ n ∧ n ≤ h := by unfold inB; simp
set_option maxHeartbeats 2000000 in
theorem life_any (lv : Int) (w : World) (h : 1 ≤ lv ∧ lv ≤ 6) : Calls Tryz.prog 20 #[.int .i64 lv] w fun e w' => e = .returned (.int .i64 (lifeV lv)) ∧ w = w' := by
  rcases six h with rfl | rfl | rfl | rfl | rfl | rfl
  all_goals (
    go_enter Tryz.func20, Tryz.ntmps20
    go_wp2
    go_ret
    exact ⟨ret_int (by decide), rfl⟩)
def lifR (lv : Int) : Int × Bool × Int := if inB 1 lv 6 = true then (lifeV lv, decide (lv ≠ 1), 0) else (0, false, 1)
set_option maxHeartbeats 2000000 in
theorem Life_any (lv : Int) (w : World) : Calls Tryz.prog 10 #[.int .i64 lv] w fun e w' => e = .returned (.tuple #[.int .i64 (lifR lv).1, .bool (lifR lv).2.1, .int .i64 (lifR lv).2.2]) ∧ w = w' := by
  cases h : inB 1 lv 6
  · have HR : Hid (lifR lv = (0, false, 1)) := Lib.hid (by unfold lifR; rw [h]; rfl)
    go_enter Tryz.func10, Tryz.ntmps10
    go_wp2_with (go_at_call 18; refine (Outside_any _ _ _ _).mono ?_; rintro e w' ⟨rfl, rfl⟩; rw [h])
    go_ret3
    exact ⟨by rw [HR.out] <;> rfl, rfl⟩
  · have HR : Hid (lifR lv = (lifeV lv, decide (lv ≠ 1), 0)) := Lib.hid (by unfold lifR; rw [h]; rfl)
    have hlv := inB_iff.1 h
    have HL := Lib.hid (life_any lv w hlv)
    have hd : (lv != 1) = decide (lv ≠ 1) := by rw [Bool.eq_iff_iff]; simp
    have HD := Lib.hid hd
    clear hd
    go_enter Tryz.func10, Tryz.ntmps10
    go_wp2_with (first | (go_at_call 18; refine (Outside_any _ _ _ _).mono ?_; rintro e w' ⟨rfl, rfl⟩; rw [h]) | (go_at_call 20; refine HL.out.mono ?_; rintro e w' ⟨rfl, rfl⟩))
    go_ret3
    exact ⟨by
      rw [HR.out]
      show Ending.returned (.tuple #[.int .i64 (lifeV lv), .bool (lv != 1), .int .i64 0]) = _
      rw [HD.out], rfl⟩
def livF (key : ByteArray) (lv : Int) (l : List Sty) : Int := if catF key lv = 0 then stF l else catF key lv
theorem livF_zero {key : ByteArray} {lv : Int} {l : List Sty} (h : livF key lv l = 0) : catF key lv = 0 ∧ stF l = 0 := by
  unfold livF at h
  by_cases h0 : catF key lv = 0
  · rw [if_pos h0] at h; exact ⟨h0, h⟩
  · rw [if_neg h0] at h; exact absurd h h0
theorem catF_zero {key : ByteArray} {lv : Int} (h : catF key lv = 0) : 1 ≤ lv ∧ lv ≤ 6 := by
  unfold catF at h
  split at h
  · split at h
    · exact inB_iff.1 (by assumption)
    · omega
  · omega
set_option maxHeartbeats 4000000 in
set_option maxRecDepth 100000 in
theorem partStaysFault_any (key : ByteArray) (lv bk : Int) (l : List Sty) (v : Value) (w : World) (hk : key.size ≤ 1000) (hbk : 0 ≤ bk ∧ bk ≤ 720000000) (hl : l.length ≤ 500) (rl : RecR TY w 0 v l) :
    Calls Tryz.prog 17 #[partV key ⟨#[113]⟩ lv bk, v] w fun e w' => e = .returned (.int .i64 (livF key lv l)) ∧ Below w.heap.size w w' := by
  have hb0 := Bl.alloc (Bl.alloc (Below.refl w.heap.size w) (.cells #[.string key, .string ⟨#[113]⟩, .int .i64 lv, .int .i64 bk] 29)) (.cells #[.string key, .string ⟨#[113]⟩, .int .i64 lv, .int .i64 bk] 29)
  have hP : PartAt _ (w.heap.size + 1) key lv bk := blk_new' (w.alloc (.cells #[.string key, .string ⟨#[113]⟩, .int .i64 lv, .int .i64 bk] 29)) (.cells #[.string key, .string ⟨#[113]⟩, .int .i64 lv, .int .i64 bk] 29) (by simp)
  have HC := Lib.hid (CheckCatalogue_one (w.heap.size + 1) key lv bk _ hk hbk hP)
  clear hP
  unfold partV
  go_enter Tryz.func17, Tryz.ntmps17
  go_wp2_with fail
  refine HC.out.mono ?_
  rintro e w2 ⟨rfl, hb2⟩
  have hb02 := Bl.trans hb0 hb2
  have rl2 := rl.below hb02
  clear hb0 hb2 HC rl
  by_cases h0 : catF key lv = 0
  · have HV : Hid (livF key lv l = stF l) := Lib.hid (by unfold livF; rw [if_pos h0])
    rw [h0]
    go_wp2_with fail
    refine (CheckStays_any l v w2 hl rl2).mono ?_
    rintro e w3 ⟨rfl, hb3⟩
    go_wp2
    go_ret
    exact ⟨ret_int HV.out.symm, Bl.trans hb02 hb3⟩
  · have HV : Hid (livF key lv l = catF key lv) := Lib.hid (by unfold livF; rw [if_neg h0])
    have hne : (catF key lv != 0) = true := by simpa using h0
    clear h0
    go_wp2
    go_ret
    exact ⟨ret_int HV.out.symm, hb02⟩
def momF (key : ByteArray) (lv : Int) (l : List Sty) (t : Int) : Int := if livF key lv l = 0 then (if inB 0 t 345686399999 = true then 0 else 1) else livF key lv l
theorem momF_zero {key : ByteArray} {lv : Int} {l : List Sty} {t : Int} (h : momF key lv l t = 0) : livF key lv l = 0 ∧ 0 ≤ t ∧ t ≤ 345686399999 := by
  unfold momF at h
  by_cases h0 : livF key lv l = 0
  · rw [if_pos h0] at h
    by_cases h1 : inB 0 t 345686399999 = true
    · exact ⟨h0, inB_iff.1 h1⟩
    · rw [if_neg h1] at h; omega
  · rw [if_neg h0] at h; exact absurd h h0
set_option maxHeartbeats 4000000 in
theorem momentFault_any (key : ByteArray) (lv bk t : Int) (l : List Sty) (v : Value) (w : World) (hk : key.size ≤ 1000) (hbk : 0 ≤ bk ∧ bk ≤ 720000000) (hl : l.length ≤ 500) (rl : RecR TY w 0 v l) :
    Calls Tryz.prog 15 #[partV key ⟨#[113]⟩ lv bk, v, .int .i64 t] w fun e w' => e = .returned (.int .i64 (momF key lv l t)) ∧ Below w.heap.size w w' := by
  have hb0 := Bl.alloc (Below.refl w.heap.size w) (.cells #[.string key, .string ⟨#[113]⟩, .int .i64 lv, .int .i64 bk] 29)
  have HP := Lib.hid (partStaysFault_any key lv bk l v _ hk hbk hl (rl.alloc (.cells #[.string key, .string ⟨#[113]⟩, .int .i64 lv, .int .i64 bk] 29)))
  unfold partV at HP ⊢
  clear rl
  go_enter Tryz.func15, Tryz.ntmps15
  go_wp2_with fail
  refine HP.out.mono ?_
  rintro e w2 ⟨rfl, hb2⟩
  have hb02 := Bl.trans hb0 hb2
  by_cases h0 : livF key lv l = 0
  · cases h1 : inB 0 t 345686399999
    · have HV : Hid (momF key lv l t = 1) := Lib.hid (by unfold momF; rw [if_pos h0, h1]; rfl)
      rw [h0]
      clear h0 HP
      go_wp2_with (go_at_call 19; refine (IsMoment_any _ _).mono ?_; rintro e w' ⟨rfl, rfl⟩; rw [h1])
      go_ret
      exact ⟨ret_int HV.out.symm, hb02⟩
    · have HV : Hid (momF key lv l t = 0) := Lib.hid (by unfold momF; rw [if_pos h0, h1]; rfl)
      rw [h0]
      clear h0 HP
      go_wp2_with (go_at_call 19; refine (IsMoment_any _ _).mono ?_; rintro e w' ⟨rfl, rfl⟩; rw [h1])
      go_ret
      exact ⟨ret_int HV.out.symm, hb02⟩
  · have HV : Hid (momF key lv l t = livF key lv l) := Lib.hid (by unfold momF; rw [if_neg h0])
    have hne : (livF key lv l != 0) = true := by simpa using h0
    clear h0 HP
    go_wp2
    go_ret
    exact ⟨ret_int HV.out.symm, hb02⟩
def exV (key : ByteArray) (lv bk : Int) (l : List Sty) (t : Int) : Int := if momF key lv l t = 0 then expo lv bk l t else 0
set_option maxHeartbeats 4000000 in
theorem Exposed_any (key : ByteArray) (lv bk t : Int) (l : List Sty) (v : Value) (w : World) (hk : key.size ≤ 1000) (hbk : 0 ≤ bk ∧ bk ≤ 720000000) (hl : l.length ≤ 500) (rl : RecR TY w 0 v l) :
    Calls Tryz.prog 8 #[partV key ⟨#[113]⟩ lv bk, v, .int .i64 t] w fun e w' => e = .returned (.tuple #[.int .i64 (exV key lv bk l t), .int .i64 (momF key lv l t)]) ∧ Below w.heap.size w w' := by
  have hb0 := Bl.alloc (Below.refl w.heap.size w) (.cells #[.string key, .string ⟨#[113]⟩, .int .i64 lv, .int .i64 bk] 29)
  have hP0 := blk_new w (.cells #[.string key, .string ⟨#[113]⟩, .int .i64 lv, .int .i64 bk] 29)
  have HP := Lib.hid (momentFault_any key lv bk t l v _ hk hbk hl (rl.alloc (.cells #[.string key, .string ⟨#[113]⟩, .int .i64 lv, .int .i64 bk] 29)))
  unfold partV at HP ⊢
  go_enter Tryz.func8, Tryz.ntmps8
  go_wp2_with fail
  refine HP.out.mono ?_
  rintro e w2 ⟨rfl, hb2⟩
  have hb02 := Bl.trans hb0 hb2
  have hP2 := blk_below hP0 hb2
  have rl2 := rl.below hb02
  clear HP rl hP0 hb0 hb2
  by_cases h0 : momF key lv l t = 0
  · have H0 := Lib.hid h0
    have HV : Hid (exV key lv bk l t = expo lv bk l t) := Lib.hid (by unfold exV; rw [if_pos h0])
    obtain ⟨hl0, ht1, ht2⟩ := momF_zero h0
    have hasc := (stF_asc (livF_zero hl0).2).1
    have HE := Lib.hid (exposed_any key ⟨#[113]⟩ lv bk t l v w2 hl hasc ht1 (by omega) rl2)
    unfold partV at HE
    have p0 : w2.cell? ⟨w.heap.size, 0, none⟩ = some (.string key) := blk_cell hP2 0
    have p1 : w2.cell? ⟨w.heap.size, 1, none⟩ = some (.string ⟨#[113]⟩) := blk_cell hP2 1
    have p2 : w2.cell? ⟨w.heap.size, 2, none⟩ = some (.int .i64 lv) := blk_cell hP2 2
    have p3 : w2.cell? ⟨w.heap.size, 3, none⟩ = some (.int .i64 bk) := blk_cell hP2 3
    rw [h0]
    clear h0 hl0 hasc rl2
    go_wp2_with fail
    refine HE.out.mono ?_
    rintro e w3 ⟨rfl, hb3⟩
    go_wp2
    go_ret2
    exact ⟨by rw [HV.out, H0.out] <;> rfl, Bl.trans hb02 hb3⟩
  · have HV : Hid (exV key lv bk l t = 0) := Lib.hid (by unfold exV; rw [if_neg h0])
    have hne : (momF key lv l t != 0) = true := by simpa using h0
    clear h0 rl2
    go_wp2
    go_ret2
    exact ⟨by rw [HV.out] <;> rfl, hb02⟩
def leO (lv bk : Int) (l : List Sty) (t : Int) : Int × Bool := if lv = 1 then (0, false) else (max 0 (lifeV lv - expo lv bk l t), true)
theorem expo_bd {lv bk : Int} {l : List Sty} (h : AscS l) {t : Int} (h0 : 0 ≤ t) : 0 ≤ expo lv bk l t ∧ expo lv bk l t ≤ t := by
  have key : ∀ (l : List Sty) (n : Int), AscS l → 0 ≤ n → (∀ x r, l = x :: r → n ≤ x.2) → n ≤ t → 0 ≤ expoF lv bk t n l ∧ expoF lv bk t n l ≤ t := by
    intro l
    induction l with
    | nil => intro n _ hn _ hnt; exact ⟨hn, hnt⟩
    | cons x r ih =>
      intro n ha hn hx hnt
      rw [expoF]
      by_cases hgt : t < x.2
      · rw [if_pos hgt]; exact ⟨hn, hnt⟩
      · rw [if_neg hgt]
        have hnx := hx x r rfl
        cases r with
        | nil =>
          have := stayF_bd (lvl := lv) (bake := bk) (place := x.1) (e := n) (long := endAt t [] - x.2) hn (by simp only [endAt]; omega)
          simp only [endAt] at this ⊢
          exact ih _ trivial this.1 (by simp) (by omega)
        | cons y r =>
          have hxy := ha.2.1
          have := stayF_bd (lvl := lv) (bake := bk) (place := x.1) (e := n) (long := endAt t (y :: r) - x.2) hn (by simp only [endAt]; omega)
          simp only [endAt] at this ⊢
          exact ih _ ha.tail this.1 (fun z r' he => by injection he with he1 _; subst he1; omega) (by omega)
  exact key l 0 h (Int.le_refl 0) (fun x r he => by subst he; exact h.head.1) h0
def leV (key : ByteArray) (lv bk : Int) (l : List Sty) (t : Int) : Int × Bool := if momF key lv l t = 0 then leO lv bk l t else (0, false)
end Go.Proofs.YtfhfncnnendnfaaGreatDoor
