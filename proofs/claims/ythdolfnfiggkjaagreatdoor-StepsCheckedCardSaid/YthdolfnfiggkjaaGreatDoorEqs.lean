/- slices.Clone and Equal of Steps. Conditions: at most 10^6 of them. -/
import Derived.Test.YthdolfnfiggkjaaGreatDoorStl
import Derived.Test.YthdolfnfiggkjaaGreatDoorRec
import Derived.Test.YthdolfnfiggkjaaGreatDoorStrs
import Derived.Test.YthdolfnfiggkjaaGreatDoorSl
namespace Go.Proofs.YthdolfnfiggkjaaGreatDoor
open Go.RowKit Go.Sort

end Go.Proofs.YthdolfnfiggkjaaGreatDoor
namespace Go.Proofs.YthdolfnfiggkjaaGreatDoor
open Go.RowKit Go.Sort

theorem neqSt_no (x1 x2 x3 x4 : _) (W : World) : (binOp .neq 50 (.agg #[.int .i64 x1, .string x2, .int .i64 x3, .string x4]) (.agg #[.int .i64 x1, .string x2, .int .i64 x3, .string x4])).run Tryz.prog W = .ok (.bool false) W := by
  go_simp
theorem neqSt_yes {x1 x2 x3 x4 y1 y2 y3 y4 : _} (hxy : ((x1, x2, x3, x4) : Int × ByteArray × Int × ByteArray) ≠ (y1, y2, y3, y4)) (W : World) : (binOp .neq 50 (.agg #[.int .i64 x1, .string x2, .int .i64 x3, .string x4]) (.agg #[.int .i64 y1, .string y2, .int .i64 y3, .string y4])).run Tryz.prog W = .ok (.bool true) W := by
  go_simp
  intro e1 e2 e3 e4
  first
    | (exact hxy (by subst e1; subst e2; subst e3; subst e4; rfl))
    | (have e2 := ba_inj e2; have e4 := ba_inj e4; exact hxy (by subst e1; subst e2; subst e3; subst e4; rfl))
set_option maxHeartbeats 4000000 in
set_option maxRecDepth 100000 in
theorem EqualSt_any (l m : List (Int × ByteArray × Int × ByteArray)) (v u : Value) (w : World) (hl : l.length ≤ 1000000) (hm : m.length ≤ 1000000) (rl : RecR TSt w 0 v l) (rm : RecR TSt w 0 u m) :
    Calls Tryz.prog 22 #[v, u] w fun e w' => e = .returned (.bool (decide (l = m))) ∧ Below w.heap.size w w' := by
  obtain ⟨a, ca, rfl, _, _⟩ := rl.form
  obtain ⟨b, cb, rfl, _, _⟩ := rm.form
  have RL := Lib.hid rl
  have RM := Lib.hid rm
  clear rl rm
  by_cases hlm : l.length = m.length
  · have HLM := Lib.hid hlm
    have hmk : ∀ k, k < l.length → k < m.length := fun k h => by omega
    rw [← hlm]
    clear hlm
    go_enter Tryz.func22, Tryz.ntmps22
    go_wp2_with fail
    go_loopw [13] (fun i wr => ∃ k : Nat, k ≤ l.length ∧ i = .int .i64 k ∧ Hid (l.take k = m.take k) ∧ Below w.heap.size w wr) (fun i _ => l.length - (intOf i).toNat)
    case atStart => exact ⟨0, Nat.zero_le _, rfl, Lib.hid (by simp), Below.refl _ _⟩
    case round =>
      obtain ⟨k, hk, rfl, hT, hB⟩ := hrel
      by_cases hlt : k < l.length
      · obtain ⟨x, hx⟩ : ∃ x, l[k]? = some x := ⟨_, List.getElem?_eq_getElem hlt⟩
        obtain ⟨y, hy⟩ : ∃ y, m[k]? = some y := ⟨_, List.getElem?_eq_getElem (hmk k hlt)⟩
        obtain ⟨b1, o1, rfl, _, _, hc1⟩ := (RL.out.below hB).at TSt.ok.len hx TSt.ok.pos
        obtain ⟨b2, o2, rfl, _, _, hc2⟩ := (RM.out.below hB).at TSt.ok.len hy TSt.ok.pos
        have HX := Lib.hid hx
        have HY := Lib.hid hy
        obtain ⟨x1, x2, x3, x4⟩ := x
        obtain ⟨y1, y2, y3, y4⟩ := y
        have cx0 : wr.cell? ⟨b1, o1 + k * 4, none⟩ = some (.int .i64 x1) := hc1 0 _ rfl
        have cx1 : wr.cell? ⟨b1, o1 + k * 4 + 1, none⟩ = some (.string x2) := hc1 1 _ rfl
        have cx2 : wr.cell? ⟨b1, o1 + k * 4 + 2, none⟩ = some (.int .i64 x3) := hc1 2 _ rfl
        have cx3 : wr.cell? ⟨b1, o1 + k * 4 + 3, none⟩ = some (.string x4) := hc1 3 _ rfl
        have cy0 : wr.cell? ⟨b2, o2 + k * 4, none⟩ = some (.int .i64 y1) := hc2 0 _ rfl
        have cy1 : wr.cell? ⟨b2, o2 + k * 4 + 1, none⟩ = some (.string y2) := hc2 1 _ rfl
        have cy2 : wr.cell? ⟨b2, o2 + k * 4 + 2, none⟩ = some (.int .i64 y3) := hc2 2 _ rfl
        have cy3 : wr.cell? ⟨b2, o2 + k * 4 + 3, none⟩ = some (.string y4) := hc2 3 _ rfl
        have hw1 : IntKind.i64.wrap ((k : Int) + 1) = ((k + 1 : Nat) : Int) := by rw [IntWalk.i64_in _ (by omega)]; omega
        clear hc1 hc2 hx hy
        by_cases hxy : ((x1, x2, x3, x4) : Int × ByteArray × Int × ByteArray) = (y1, y2, y3, y4)
        · have HT2 : Hid (l.take (k + 1) = m.take (k + 1)) := Lib.hid (by rw [List.take_add_one, List.take_add_one, hT.out, HX.out, HY.out, hxy])
          obtain ⟨e1, hxy⟩ := Prod.mk.inj hxy; obtain ⟨e2, hxy⟩ := Prod.mk.inj hxy; obtain ⟨e3, hxy⟩ := Prod.mk.inj hxy
          have e4 := hxy
          clear hxy
          subst e1; subst e2; subst e3; subst e4
          have hne := neqSt_no x1 x2 x3 x4
          go_wp2_with fail
          go_region
          all_goals (
            go_wp2
            go_roundw
            case rel => exact ⟨k + 1, by omega, by go_num, HT2, Below.drew hB⟩
            case measure => simp [intOf]; omega)
        · have HR : Hid (decide (l = m) = false) := Lib.hid (by
            rw [decide_eq_false_iff_not]
            rintro rfl
            have := HX.out.symm.trans HY.out
            injection this with this
            exact hxy this)
          have hne := neqSt_yes hxy
          clear hxy
          go_wp2_with fail
          go_region
          all_goals (
            go_wp2
            go_ret
            exact ⟨ret_bool HR.out.symm, Below.drew hB⟩)
      · obtain rfl : k = l.length := by omega
        have HR : Hid (decide (l = m) = true) := Lib.hid (by
          rw [decide_eq_true_eq]
          have := hT.out
          rw [List.take_length, HLM.out, List.take_length] at this
          exact this)
        go_wp2
        go_ret
        exact ⟨ret_bool HR.out.symm, hB⟩
  · have hi : ¬ ((l.length : Nat) : Int) = ((m.length : Nat) : Int) := by omega
    have HR : Hid (decide (l = m) = false) := Lib.hid (by
      rw [decide_eq_false_iff_not]
      intro h
      exact hlm (congrArg List.length h))
    go_enter Tryz.func22, Tryz.ntmps22
    go_wp2
    go_ret
    exact ⟨ret_bool HR.out.symm, Below.refl _ _⟩
end Go.Proofs.YthdolfnfiggkjaaGreatDoor
