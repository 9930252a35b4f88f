/- The contracts of in, Outside, abs, distance, Apart, isFar: what each computes. Condition: coordinates within 2^41. -/
import Derived.Test.YtfhfncnnendnfaaGreatDoorBase
namespace Go.Proofs.YtfhfncnnendnfaaGreatDoor
open Go.RowKit Go.Sort

def iabs (n : Int) : Int := max n (-n)
def dist (a b : Pt) : Int := max (iabs (a.1 - b.1)) (iabs (a.2 - b.2))
def inB (l n h : Int) : Bool := decide (l ≤ n) && decide (n ≤ h)
def farB (p : Pt) : Bool := !inB (-500000) p.1 500000 || !inB (-500000) p.2 500000
def Bd (p : Pt) : Prop := -2199023255552 ≤ p.1 ∧ p.1 ≤ 2199023255552 ∧ -2199023255552 ≤ p.2 ∧ p.2 ≤ 2199023255552
theorem inB_true {l n h : Int} (a : l ≤ n) (b : n ≤ h) : inB l n h = true := by simp [inB, a, b]
theorem inB_lt {l n h : Int} (a : n < l) : inB l n h = false := by simp [inB]; omega
theorem inB_gt {l n h : Int} (a : h < n) : inB l n h = false := by simp [inB]; omega

set_option maxHeartbeats 400000 in
theorem Outside_any (n l h : Int) (w : World) : Calls Tryz.prog 18 #[.int .i64 n, .int .i64 l, .int .i64 h] w fun e w' => e = .returned (.bool (!inB l n h)) ∧ w = w' := by
  by_cases h1 : l ≤ n
  · by_cases h2 : n ≤ h
    · have e := inB_true h1 h2
      have E := Lib.hid e
      clear e
      go_enter Tryz.func18, Tryz.ntmps18
      go_wp2
      go_ret
      exact ⟨ret_bool (by rw [E.out]; first | rfl | (simp; omega)), rfl⟩
    · have e := inB_gt (l := l) (show h < n by omega)
      have E := Lib.hid e
      clear e
      go_enter Tryz.func18, Tryz.ntmps18
      go_wp2
      go_ret
      exact ⟨ret_bool (by rw [E.out]; first | rfl | (simp; omega)), rfl⟩
  · have e := inB_lt (h := h) (show n < l by omega)
    have E := Lib.hid e
    clear e
    go_enter Tryz.func18, Tryz.ntmps18
    go_wp2
    go_ret
    exact ⟨ret_bool (by rw [E.out]; first | rfl | (simp; omega)), rfl⟩

set_option maxHeartbeats 400000 in
theorem IsMoment_any (n : Int) (w : World) : Calls Tryz.prog 19 #[.int .i64 n] w fun e w' => e = .returned (.bool (inB 0 n 345686399999)) ∧ w = w' := by
  have e : (!(!inB 0 n 345686399999)) = inB 0 n 345686399999 := by simp
  have E := Lib.hid e
  clear e
  go_enter Tryz.func19, Tryz.ntmps19
  go_wp2_with (go_at_call 18; refine (Outside_any _ _ _ _).mono ?_; rintro e w' ⟨rfl, rfl⟩)
  go_ret
  exact ⟨ret_bool (by first | exact E.out | simp), rfl⟩
end Go.Proofs.YtfhfncnnendnfaaGreatDoor
