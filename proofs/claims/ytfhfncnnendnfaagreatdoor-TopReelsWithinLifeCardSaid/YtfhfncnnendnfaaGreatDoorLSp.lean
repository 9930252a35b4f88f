/- The contracts of IsMoment, Moment, stayed and spent: the exposure behind a stay. Conditions: exposures and times that are not below 0 and not above 10^13. -/
import Derived.Test.YtfhfncnnendnfaaGreatDoorStrs
import Derived.Test.YtfhfncnnendnfaaGreatDoorLPlain
namespace Go.Proofs.YtfhfncnnendnfaaGreatDoor
open Go.RowKit Go.Sort

set_option maxHeartbeats 4000000 in
theorem stayed_any (key pkg : ByteArray) (lv bk place e long : Int) (w : World) (he : 0 ≤ e) (he2 : e ≤ 10000000000000) (hl : 0 ≤ long) (hl2 : long ≤ 10000000000000) :
    Calls Tryz.prog 27 #[partV key pkg lv bk, .int .i64 place, .int .i64 e, .int .i64 long] w fun e' w' => e' = .returned (.int .i64 (stayF lv bk place e long)) ∧ Below w.heap.size w w' := by
  have hb0 := Bl.alloc (Below.refl w.heap.size w) (.cells #[.string key, .string pkg, .int .i64 lv, .int .i64 bk] 29)
  unfold partV
  by_cases h2 : place = 2
  · subst h2
    have E : Hid (stayF lv bk 2 e long = e + long) := Lib.hid (by unfold stayF; (try simp only [*, if_true, if_false]) <;> (first | rfl | omega | simp [*] | ((repeat' split) <;> omega)))
    have hw : IntKind.i64.wrap (e + long) = e + long := IntWalk.i64_in _ (by omega)
    go_enter Tryz.func27, Tryz.ntmps27
    go_wp2
    all_goals go_ret
    all_goals exact ⟨ret_int E.out.symm, hb0⟩
  by_cases h4 : place = 4
  · subst h4
    by_cases hb : bk ≤ long
    · skip
      have E : Hid (stayF lv bk 4 e long = 0) := Lib.hid (by unfold stayF; (try simp only [*, if_true, if_false]) <;> (first | rfl | omega | simp [*] | ((repeat' split) <;> omega)))
      go_enter Tryz.func27, Tryz.ntmps27
      go_wp2
      all_goals go_ret
      all_goals exact ⟨ret_int E.out.symm, hb0⟩
    · skip
      have E : Hid (stayF lv bk 4 e long = e) := Lib.hid (by unfold stayF; (try simp only [*, if_true, if_false]) <;> (first | rfl | omega | simp [*] | ((repeat' split) <;> omega)))
      go_enter Tryz.func27, Tryz.ntmps27
      go_wp2
      all_goals go_ret
      all_goals exact ⟨ret_int E.out.symm, hb0⟩
  by_cases h3 : place = 3
  · subst h3
    have hw1 : IntKind.i64.wrap (5 * e) = 5 * e := IntWalk.i64_in _ (by omega)
    have hw2 : IntKind.i64.wrap (10 * e) = 10 * e := IntWalk.i64_in _ (by omega)
    by_cases c1 : lv ≤ 5
    · by_cases c2 : e ≤ 43200000
      · by_cases c5 : lv = 5
        · by_cases c3 : 10 * e ≤ long
          · subst c5
            have E : Hid (stayF 5 bk 3 e long = 0) := Lib.hid (by unfold stayF; (try simp only [*, if_true, if_false]) <;> (first | rfl | omega | simp [*] | ((repeat' split) <;> omega)))
            go_enter Tryz.func27, Tryz.ntmps27
            go_wp2
            all_goals go_ret
            all_goals exact ⟨ret_int E.out.symm, hb0⟩
          · subst c5
            have E : Hid (stayF 5 bk 3 e long = e) := Lib.hid (by unfold stayF; (try simp only [*, if_true, if_false]) <;> (first | rfl | omega | simp [*] | ((repeat' split) <;> omega)))
            go_enter Tryz.func27, Tryz.ntmps27
            go_wp2
            all_goals go_ret
            all_goals exact ⟨ret_int E.out.symm, hb0⟩
        · have c6 : (lv == 5) = false := by simpa using c5
          by_cases c3 : 5 * e ≤ long
          · skip
            have E : Hid (stayF lv bk 3 e long = 0) := Lib.hid (by unfold stayF; (try simp only [*, if_true, if_false]) <;> (first | rfl | omega | simp [*] | ((repeat' split) <;> omega)))
            go_enter Tryz.func27, Tryz.ntmps27
            go_wp2
            all_goals go_ret
            all_goals exact ⟨ret_int E.out.symm, hb0⟩
          · skip
            have E : Hid (stayF lv bk 3 e long = e) := Lib.hid (by unfold stayF; (try simp only [*, if_true, if_false]) <;> (first | rfl | omega | simp [*] | ((repeat' split) <;> omega)))
            go_enter Tryz.func27, Tryz.ntmps27
            go_wp2
            all_goals go_ret
            all_goals exact ⟨ret_int E.out.symm, hb0⟩
      · by_cases c5 : lv = 5
        · subst c5
          have E : Hid (stayF 5 bk 3 e long = e) := Lib.hid (by unfold stayF; (try simp only [*, if_true, if_false]) <;> (first | rfl | omega | simp [*] | ((repeat' split) <;> omega)))
          go_enter Tryz.func27, Tryz.ntmps27
          go_wp2
          all_goals go_ret
          all_goals exact ⟨ret_int E.out.symm, hb0⟩
        · have c6 : (lv == 5) = false := by simpa using c5
          have E : Hid (stayF lv bk 3 e long = e) := Lib.hid (by unfold stayF; (try simp only [*, if_true, if_false]) <;> (first | rfl | omega | simp [*] | ((repeat' split) <;> omega)))
          go_enter Tryz.func27, Tryz.ntmps27
          go_wp2
          all_goals go_ret
          all_goals exact ⟨ret_int E.out.symm, hb0⟩
    · by_cases c5 : lv = 5
      · omega
      · have c6 : (lv == 5) = false := by simpa using c5
        have E : Hid (stayF lv bk 3 e long = e) := Lib.hid (by unfold stayF; (try simp only [*, if_true, if_false]) <;> (first | rfl | omega | simp [*] | ((repeat' split) <;> omega)))
        go_enter Tryz.func27, Tryz.ntmps27
        go_wp2
        all_goals go_ret
        all_goals exact ⟨ret_int E.out.symm, hb0⟩
  · have g2 : (place == 2) = false := by simpa using h2
    have g3 : (place == 3) = false := by simpa using h3
    have g4 : (place == 4) = false := by simpa using h4
    have E : Hid (stayF lv bk place e long = e) := Lib.hid (by unfold stayF; (try simp only [*, if_true, if_false]) <;> (first | rfl | omega | simp [*] | ((repeat' split) <;> omega)))
    go_enter Tryz.func27, Tryz.ntmps27
    go_wp2
    all_goals go_ret
    all_goals exact ⟨ret_int E.out.symm, hb0⟩
end Go.Proofs.YtfhfncnnendnfaaGreatDoor
