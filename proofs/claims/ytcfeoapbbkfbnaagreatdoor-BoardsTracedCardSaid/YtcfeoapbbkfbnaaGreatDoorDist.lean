/- The contracts of in, Outside, abs, distance, Apart, isFar: what each computes. Condition: coordinates within 2^41. -/
import Derived.Test.YtcfeoapbbkfbnaaGreatDoorBase
namespace Go.Proofs.YtcfeoapbbkfbnaaGreatDoor
open Go.RowKit Go.Sort

def iabs (n : Int) : Int := max n (-n)
def dist (a b : Pt) : Int := max (iabs (a.1 - b.1)) (iabs (a.2 - b.2))
def inB (l n h : Int) : Bool := decide (l ≤ n) && decide (n ≤ h)
def farB (p : Pt) : Bool := !inB (-500000) p.1 500000 || !inB (-500000) p.2 500000
def Bd (p : Pt) : Prop := -2199023255552 ≤ p.1 ∧ p.1 ≤ 2199023255552 ∧ -2199023255552 ≤ p.2 ∧ p.2 ≤ 2199023255552
theorem inB_true {l n h : Int} (a : l ≤ n) (b : n ≤ h) : inB l n h = true := by simp [inB, a, b]
theorem inB_lt {l n h : Int} (a : n < l) : inB l n h = false := by simp [inB]; omega
theorem inB_gt {l n h : Int} (a : h < n) : inB l n h = false := by simp [inB]; omega

set_option maxHeartbeats 400000 in
theorem abs_any (n : Int) (w : World) (h1 : -9223372036854775807 ≤ n) (h2 : n ≤ 9223372036854775807) : Calls Tryz.prog 159 #[.int .i64 n] w fun e w' => e = .returned (.int .i64 (iabs n)) ∧ w' = w := by
  go_enter Tryz.func159, Tryz.ntmps159
  go_wp2
  all_goals go_ret
  all_goals exact ⟨ret_int (by unfold iabs; omega), rfl⟩

set_option maxHeartbeats 400000 in
theorem in_any (n l h : Int) (w : World) : Calls Tryz.prog 68 #[.int .i64 n, .int .i64 l, .int .i64 h] w fun e w' => e = .returned (.bool (inB l n h)) ∧ w = w' := by
  by_cases h1 : l ≤ n
  · by_cases h2 : n ≤ h
    · have e := inB_true h1 h2
      have E := Lib.hid e
      clear e
      go_enter Tryz.func68, Tryz.ntmps68
      go_wp2
      go_ret
      exact ⟨ret_bool E.out.symm, rfl⟩
    · have e := inB_gt (l := l) (show h < n by omega)
      have E := Lib.hid e
      clear e
      go_enter Tryz.func68, Tryz.ntmps68
      go_wp2
      go_ret
      exact ⟨ret_bool E.out.symm, rfl⟩
  · have e := inB_lt (h := h) (show n < l by omega)
    have E := Lib.hid e
    clear e
    go_enter Tryz.func68, Tryz.ntmps68
    go_wp2
    go_ret
    exact ⟨ret_bool E.out.symm, rfl⟩

set_option maxHeartbeats 400000 in
theorem Outside_any (n l h : Int) (w : World) : Calls Tryz.prog 76 #[.int .i64 n, .int .i64 l, .int .i64 h] w fun e w' => e = .returned (.bool (!inB l n h)) ∧ w = w' := by
  by_cases h1 : l ≤ n
  · by_cases h2 : n ≤ h
    · have e := inB_true h1 h2
      have E := Lib.hid e
      clear e
      go_enter Tryz.func76, Tryz.ntmps76
      go_wp2
      go_ret
      exact ⟨ret_bool (by rw [E.out]; first | rfl | (simp; omega)), rfl⟩
    · have e := inB_gt (l := l) (show h < n by omega)
      have E := Lib.hid e
      clear e
      go_enter Tryz.func76, Tryz.ntmps76
      go_wp2
      go_ret
      exact ⟨ret_bool (by rw [E.out]; first | rfl | (simp; omega)), rfl⟩
  · have e := inB_lt (h := h) (show n < l by omega)
    have E := Lib.hid e
    clear e
    go_enter Tryz.func76, Tryz.ntmps76
    go_wp2
    go_ret
    exact ⟨ret_bool (by rw [E.out]; first | rfl | (simp; omega)), rfl⟩

set_option maxHeartbeats 400000 in
theorem distance_any (a b : Pt) (w : World) (ha : Bd a) (hb : Bd b) :
    Calls Tryz.prog 123 #[ptv a, ptv b] w fun e w' => e = .returned (.int .i64 (dist a b)) ∧ Below w.heap.size w w' := by
  obtain ⟨a1, a2⟩ := a
  obtain ⟨b1, b2⟩ := b
  obtain ⟨ha1, ha2, ha3, ha4⟩ := ha
  obtain ⟨hb1, hb2, hb3, hb4⟩ := hb
  simp only at *
  unfold ptv
  go_enter Tryz.func123, Tryz.ntmps123
  go_wp2
  go_quiet ((go_at_call 159; exact Calls.quiet_of_same (abs_any _ _ (by omega) (by omega))))
  go_wp2
  go_ret
  exact ⟨ret_int (by simp only [dist]), Bl.drewN (((Below.refl _ _).alloc (Nat.le_refl _) _).alloc (by simp) _) _⟩

set_option maxHeartbeats 400000 in
theorem isFar_any (a : Pt) (w : World) :
    Calls Tryz.prog 122 #[ptv a] w fun e w' => e = .returned (.bool (farB a)) ∧ Below w.heap.size w w' := by
  obtain ⟨a1, a2⟩ := a
  unfold ptv
  cases h1 : inB (-500000) a1 500000 <;> cases h2 : inB (-500000) a2 500000
  all_goals
    have E : Hid (farB (a1, a2) = _) := Lib.hid (by simp only [farB, h1, h2]; rfl)
    go_enter Tryz.func122, Tryz.ntmps122
    go_wp2_with (go_at_call 76; refine (Outside_any _ _ _ _).mono ?_; rintro e w' ⟨rfl, rfl⟩)
    go_ret
    exact ⟨ret_bool E.out.symm, ((Below.refl _ _).alloc (Nat.le_refl _) _)⟩
set_option maxHeartbeats 400000 in
theorem IsMoment_any (n : Int) (w : World) : Calls Tryz.prog 114 #[.int .i64 n] w fun e w' => e = .returned (.bool (inB 0 n 345686399999)) ∧ w = w' := by
  have e : (!(!inB 0 n 345686399999)) = inB 0 n 345686399999 := by simp
  have E := Lib.hid e
  clear e
  go_enter Tryz.func114, Tryz.ntmps114
  go_wp2_with (go_at_call 76; refine (Outside_any _ _ _ _).mono ?_; rintro e w' ⟨rfl, rfl⟩)
  go_ret
  exact ⟨ret_bool (by first | exact E.out | simp), rfl⟩
set_option maxHeartbeats 400000 in
theorem Moment_any (n : Int) (w : World) : Calls Tryz.prog 67 #[.int .i64 n] w fun e w' => e = .returned (.bool (inB 0 n 345686399999)) ∧ w = w' := by
  go_enter Tryz.func67, Tryz.ntmps67
  go_wp2_with (go_at_call 68; refine (in_any _ _ _ _).mono ?_; rintro e w' ⟨rfl, rfl⟩)
  go_ret
  exact ⟨rfl, rfl⟩
end Go.Proofs.YtcfeoapbbkfbnaaGreatDoor
