/- slices.Clone of Steps. Conditions: at most 10^6 of them. · slices.Clone of Works. Conditions: at most 10^6 of them. · slices.Equal of Steps. Conditions: at most 10^6 of them. · slices.Equal of Works. Conditions: at most 10^6 of them. · The exact faults of works: ChooseFault, worksFault; Choose where something is wrong. Conditions: at most 100 works, names of at most 1000 bytes. · spoilNames and spoilInts: what the call owns is written over, nothing else turns. Conditions: at most 100000 elements. -/
import Derived.Test.YtnmimagninhkkaaGreatDoorStl
import Derived.Test.YtnmimagninhkkaaGreatDoorRec
import Derived.Test.YtnmimagninhkkaaGreatDoorCh1
import Derived.Test.YtnmimagninhkkaaGreatDoorStrs
import Derived.Test.YtnmimagninhkkaaGreatDoorCh2
import Derived.Test.YtnmimagninhkkaaGreatDoorInvS
import Derived.Test.YtnmimagninhkkaaGreatDoorBd
import Derived.Test.YtnmimagninhkkaaGreatDoorSl
namespace Go.Proofs.YtnmimagninhkkaaGreatDoor
open Go.RowKit Go.Sort

set_option maxHeartbeats 1000000 in
set_option maxRecDepth 100000 in
theorem CloneSt_any {l : List _} (v : Value) (w : World) (hlen : l.length ≤ 1000000) (rl : RecR TSt w 0 v l) :
    Calls Tryz.prog 27 #[v] w fun e w' => ∃ v', e = .returned v' ∧ OwnR TSt w' w.heap.size v' l ∧ Below w.heap.size w w' := by
  have q51 : ∀ (w : World) (a : Option Addr) (n c n' c' : Nat), (binOp .eql 29 (.slice a n c) (.slice none n' c')).run Tryz.prog w = .ok (.bool a.isNone) w := fun w a n c n' c' => Lib.run_eql_slice_nil w _ _ a n c n' c' Tryz.underlying29
  obtain ⟨a, cap, rfl, h1, h2⟩ := rl.form
  cases a with
  | none =>
    have hn : l = [] := by
      cases l with
      | nil => rfl
      | cons x r =>
        obtain ⟨b, o, e, _⟩ := rl.at TSt.ok.len (i := 0) (x := x) rfl TSt.ok.pos
        cases e
    subst hn
    clear rl
    go_enter Tryz.func27, Tryz.ntmps27
    go_wp2
    go_ret
    exact ⟨_, rfl, OwnR.nil _ _, Below.refl _ _⟩
  | some ad =>
    obtain ⟨_, _, hv, _, _, h3⟩ := rl
    obtain ⟨rfl, _, _⟩ := Value.slice.inj hv
    have HC : Hid (∀ j u, (l.flatMap TSt.f)[j]? = some u → (w.alloc (.cells #[] TSt.e)).cell? (ad.add j) = some u) := Lib.hid (by
      intro j u hj
      obtain ⟨b', o', e, _, hb, hcell⟩ := h3 j u hj
      injection e with e
      subst e
      have : (⟨b', o', none⟩ : Addr).add j = ⟨b', o' + j, none⟩ := by unfold Addr.add; split <;> simp_all
      rw [this]
      exact (World.cell?_alloc_past _ _ _ hb).trans hcell)
    obtain ⟨i, hi, hz0, hz1, hz2⟩ := info_parts TSt.ok.info
    have HL := Lib.hid hlen
    have HF := Lib.hid (flat_len TSt.ok.len l)
    have HO := Lib.hid (fun u (hu : u ∈ l.flatMap TSt.f) => by
      obtain ⟨x, _, hx⟩ := List.mem_flatMap.1 hu
      exact TSt.ok.one x u hx)
    have HB := Lib.hid (Nat.mul_le_mul (show l.length ≤ 1000000 from hlen) TSt.ok.small)
    clear hv h3 hlen
    go_enter Tryz.func27, Tryz.ntmps27
    go_wp2_with (at_builtin; refine wpList_append_own _ rfl _ _ TSt.S rfl w.heap.size TSt.e i _ TSt.k TSt.b TSt.ok.sl hi hz0 hz1 hz2 TSt.ok.zs TSt.ok.pos _ 0 [] rfl (World.ownsRow_made w #[] 0 (Nat.le_refl _) (by decide) rfl) ad l.length cap (l.flatMap TSt.f) rfl HF.out HC.out HO.out (by unfold maxLen; have := HL.out; omega) (by have := HB.out; rw [Nat.zero_add]; omega) (by simp) ?c2)
    case c2 =>
      intro v' w' h4 h5 _
      have hbw : Below w.heap.size w w' := by
        have hg := h5
        refine ⟨hg.os, hg.tape, hg.output, Nat.le_trans (by simp) hg.size, fun k hk => ?_⟩
        rw [hg.block k (by simp; omega) (by simp [Value.ownBlock]; omega)]
        exact heap_alloc_old w _ hk
      go_wp2
      go_ret
      exact ⟨_, rfl, by unfold OwnR; simpa using h4, hbw⟩
end Go.Proofs.YtnmimagninhkkaaGreatDoor
namespace Go.Proofs.YtnmimagninhkkaaGreatDoor
open Go.RowKit Go.Sort

set_option maxHeartbeats 1000000 in
set_option maxRecDepth 100000 in
theorem CloneWk_any {l : List _} (v : Value) (w : World) (hlen : l.length ≤ 1000000) (rl : RecR TW w 0 v l) :
    Calls Tryz.prog 50 #[v] w fun e w' => ∃ v', e = .returned v' ∧ OwnR TW w' w.heap.size v' l ∧ Below w.heap.size w w' := by
  have q51 : ∀ (w : World) (a : Option Addr) (n c n' c' : Nat), (binOp .eql 70 (.slice a n c) (.slice none n' c')).run Tryz.prog w = .ok (.bool a.isNone) w := fun w a n c n' c' => Lib.run_eql_slice_nil w _ _ a n c n' c' Tryz.underlying70
  obtain ⟨a, cap, rfl, h1, h2⟩ := rl.form
  cases a with
  | none =>
    have hn : l = [] := by
      cases l with
      | nil => rfl
      | cons x r =>
        obtain ⟨b, o, e, _⟩ := rl.at TW.ok.len (i := 0) (x := x) rfl TW.ok.pos
        cases e
    subst hn
    clear rl
    go_enter Tryz.func50, Tryz.ntmps50
    go_wp2
    go_ret
    exact ⟨_, rfl, OwnR.nil _ _, Below.refl _ _⟩
  | some ad =>
    obtain ⟨_, _, hv, _, _, h3⟩ := rl
    obtain ⟨rfl, _, _⟩ := Value.slice.inj hv
    have HC : Hid (∀ j u, (l.flatMap TW.f)[j]? = some u → (w.alloc (.cells #[] TW.e)).cell? (ad.add j) = some u) := Lib.hid (by
      intro j u hj
      obtain ⟨b', o', e, _, hb, hcell⟩ := h3 j u hj
      injection e with e
      subst e
      have : (⟨b', o', none⟩ : Addr).add j = ⟨b', o' + j, none⟩ := by unfold Addr.add; split <;> simp_all
      rw [this]
      exact (World.cell?_alloc_past _ _ _ hb).trans hcell)
    obtain ⟨i, hi, hz0, hz1, hz2⟩ := info_parts TW.ok.info
    have HL := Lib.hid hlen
    have HF := Lib.hid (flat_len TW.ok.len l)
    have HO := Lib.hid (fun u (hu : u ∈ l.flatMap TW.f) => by
      obtain ⟨x, _, hx⟩ := List.mem_flatMap.1 hu
      exact TW.ok.one x u hx)
    have HB := Lib.hid (Nat.mul_le_mul (show l.length ≤ 1000000 from hlen) TW.ok.small)
    clear hv h3 hlen
    go_enter Tryz.func50, Tryz.ntmps50
    go_wp2_with (at_builtin; refine wpList_append_own _ rfl _ _ TW.S rfl w.heap.size TW.e i _ TW.k TW.b TW.ok.sl hi hz0 hz1 hz2 TW.ok.zs TW.ok.pos _ 0 [] rfl (World.ownsRow_made w #[] 0 (Nat.le_refl _) (by decide) rfl) ad l.length cap (l.flatMap TW.f) rfl HF.out HC.out HO.out (by unfold maxLen; have := HL.out; omega) (by have := HB.out; rw [Nat.zero_add]; omega) (by simp) ?c2)
    case c2 =>
      intro v' w' h4 h5 _
      have hbw : Below w.heap.size w w' := by
        have hg := h5
        refine ⟨hg.os, hg.tape, hg.output, Nat.le_trans (by simp) hg.size, fun k hk => ?_⟩
        rw [hg.block k (by simp; omega) (by simp [Value.ownBlock]; omega)]
        exact heap_alloc_old w _ hk
      go_wp2
      go_ret
      exact ⟨_, rfl, by unfold OwnR; simpa using h4, hbw⟩
end Go.Proofs.YtnmimagninhkkaaGreatDoor
namespace Go.Proofs.YtnmimagninhkkaaGreatDoor
open Go.RowKit Go.Sort

theorem neqSt_no (x1 x2 x3 x4 : _) (W : World) : (binOp .neq 34 (.agg #[.int .i64 x1, .string x2, .int .i64 x3, .string x4]) (.agg #[.int .i64 x1, .string x2, .int .i64 x3, .string x4])).run Tryz.prog W = .ok (.bool false) W := by
  go_simp
theorem neqSt_yes {x1 x2 x3 x4 y1 y2 y3 y4 : _} (hxy : ((x1, x2, x3, x4) : Int × ByteArray × Int × ByteArray) ≠ (y1, y2, y3, y4)) (W : World) : (binOp .neq 34 (.agg #[.int .i64 x1, .string x2, .int .i64 x3, .string x4]) (.agg #[.int .i64 y1, .string y2, .int .i64 y3, .string y4])).run Tryz.prog W = .ok (.bool true) W := by
  go_simp
  intro e1 e2 e3 e4
  first
    | (exact hxy (by subst e1; subst e2; subst e3; subst e4; rfl))
    | (have e2 := ba_inj e2; have e4 := ba_inj e4; exact hxy (by subst e1; subst e2; subst e3; subst e4; rfl))
set_option maxHeartbeats 4000000 in
set_option maxRecDepth 100000 in
theorem EqualSt_any (l m : List (Int × ByteArray × Int × ByteArray)) (v u : Value) (w : World) (hl : l.length ≤ 1000000) (hm : m.length ≤ 1000000) (rl : RecR TSt w 0 v l) (rm : RecR TSt w 0 u m) :
    Calls Tryz.prog 55 #[v, u] w fun e w' => e = .returned (.bool (decide (l = m))) ∧ Below w.heap.size w w' := by
  obtain ⟨a, ca, rfl, _, _⟩ := rl.form
  obtain ⟨b, cb, rfl, _, _⟩ := rm.form
  have RL := Lib.hid rl
  have RM := Lib.hid rm
  clear rl rm
  by_cases hlm : l.length = m.length
  · have HLM := Lib.hid hlm
    have hmk : ∀ k, k < l.length → k < m.length := fun k h => by omega
    rw [← hlm]
    clear hlm
    go_enter Tryz.func55, Tryz.ntmps55
    go_wp2_with fail
    go_loopw [13] (fun i wr => ∃ k : Nat, k ≤ l.length ∧ i = .int .i64 k ∧ Hid (l.take k = m.take k) ∧ Below w.heap.size w wr) (fun i _ => l.length - (intOf i).toNat)
    case atStart => exact ⟨0, Nat.zero_le _, rfl, Lib.hid (by simp), Below.refl _ _⟩
    case round =>
      obtain ⟨k, hk, rfl, hT, hB⟩ := hrel
      by_cases hlt : k < l.length
      · obtain ⟨x, hx⟩ : ∃ x, l[k]? = some x := ⟨_, List.getElem?_eq_getElem hlt⟩
        obtain ⟨y, hy⟩ : ∃ y, m[k]? = some y := ⟨_, List.getElem?_eq_getElem (hmk k hlt)⟩
        obtain ⟨b1, o1, rfl, _, _, hc1⟩ := (RL.out.below hB).at TSt.ok.len hx TSt.ok.pos
        obtain ⟨b2, o2, rfl, _, _, hc2⟩ := (RM.out.below hB).at TSt.ok.len hy TSt.ok.pos
        have HX := Lib.hid hx
        have HY := Lib.hid hy
        obtain ⟨x1, x2, x3, x4⟩ := x
        obtain ⟨y1, y2, y3, y4⟩ := y
        have cx0 : wr.cell? ⟨b1, o1 + k * 4, none⟩ = some (.int .i64 x1) := hc1 0 _ rfl
        have cx1 : wr.cell? ⟨b1, o1 + k * 4 + 1, none⟩ = some (.string x2) := hc1 1 _ rfl
        have cx2 : wr.cell? ⟨b1, o1 + k * 4 + 2, none⟩ = some (.int .i64 x3) := hc1 2 _ rfl
        have cx3 : wr.cell? ⟨b1, o1 + k * 4 + 3, none⟩ = some (.string x4) := hc1 3 _ rfl
        have cy0 : wr.cell? ⟨b2, o2 + k * 4, none⟩ = some (.int .i64 y1) := hc2 0 _ rfl
        have cy1 : wr.cell? ⟨b2, o2 + k * 4 + 1, none⟩ = some (.string y2) := hc2 1 _ rfl
        have cy2 : wr.cell? ⟨b2, o2 + k * 4 + 2, none⟩ = some (.int .i64 y3) := hc2 2 _ rfl
        have cy3 : wr.cell? ⟨b2, o2 + k * 4 + 3, none⟩ = some (.string y4) := hc2 3 _ rfl
        have hw1 : IntKind.i64.wrap ((k : Int) + 1) = ((k + 1 : Nat) : Int) := by rw [IntWalk.i64_in _ (by omega)]; omega
        clear hc1 hc2 hx hy
        by_cases hxy : ((x1, x2, x3, x4) : Int × ByteArray × Int × ByteArray) = (y1, y2, y3, y4)
        · have HT2 : Hid (l.take (k + 1) = m.take (k + 1)) := Lib.hid (by rw [List.take_add_one, List.take_add_one, hT.out, HX.out, HY.out, hxy])
          obtain ⟨e1, hxy⟩ := Prod.mk.inj hxy; obtain ⟨e2, hxy⟩ := Prod.mk.inj hxy; obtain ⟨e3, hxy⟩ := Prod.mk.inj hxy
          have e4 := hxy
          clear hxy
          subst e1; subst e2; subst e3; subst e4
          have hne := neqSt_no x1 x2 x3 x4
          go_wp2_with fail
          go_region
          all_goals (
            go_wp2
            go_roundw
            case rel => exact ⟨k + 1, by omega, by go_num, HT2, Below.drew hB⟩
            case measure => simp [intOf]; omega)
        · have HR : Hid (decide (l = m) = false) := Lib.hid (by
            rw [decide_eq_false_iff_not]
            rintro rfl
            have := HX.out.symm.trans HY.out
            injection this with this
            exact hxy this)
          have hne := neqSt_yes hxy
          clear hxy
          go_wp2_with fail
          go_region
          all_goals (
            go_wp2
            go_ret
            exact ⟨ret_bool HR.out.symm, Below.drew hB⟩)
      · obtain rfl : k = l.length := by omega
        have HR : Hid (decide (l = m) = true) := Lib.hid (by
          rw [decide_eq_true_eq]
          have := hT.out
          rw [List.take_length, HLM.out, List.take_length] at this
          exact this)
        go_wp2
        go_ret
        exact ⟨ret_bool HR.out.symm, hB⟩
  · have hi : ¬ ((l.length : Nat) : Int) = ((m.length : Nat) : Int) := by omega
    have HR : Hid (decide (l = m) = false) := Lib.hid (by
      rw [decide_eq_false_iff_not]
      intro h
      exact hlm (congrArg List.length h))
    go_enter Tryz.func55, Tryz.ntmps55
    go_wp2
    go_ret
    exact ⟨ret_bool HR.out.symm, Below.refl _ _⟩
end Go.Proofs.YtnmimagninhkkaaGreatDoor
namespace Go.Proofs.YtnmimagninhkkaaGreatDoor
open Go.RowKit Go.Sort

theorem neqWk_no (x1 x2 x3 : _) (W : World) : (binOp .neq 74 (.agg #[.string x1, .int .i64 x2, .int .i64 x3]) (.agg #[.string x1, .int .i64 x2, .int .i64 x3])).run Tryz.prog W = .ok (.bool false) W := by
  go_simp
theorem neqWk_yes {x1 x2 x3 y1 y2 y3 : _} (hxy : ((x1, x2, x3) : ByteArray × Int × Int) ≠ (y1, y2, y3)) (W : World) : (binOp .neq 74 (.agg #[.string x1, .int .i64 x2, .int .i64 x3]) (.agg #[.string y1, .int .i64 y2, .int .i64 y3])).run Tryz.prog W = .ok (.bool true) W := by
  go_simp
  intro e1 e2 e3
  first
    | (exact hxy (by subst e1; subst e2; subst e3; rfl))
    | (have e1 := ba_inj e1; exact hxy (by subst e1; subst e2; subst e3; rfl))
set_option maxHeartbeats 4000000 in
set_option maxRecDepth 100000 in
theorem EqualWk_any (l m : List (ByteArray × Int × Int)) (v u : Value) (w : World) (hl : l.length ≤ 1000000) (hm : m.length ≤ 1000000) (rl : RecR TW w 0 v l) (rm : RecR TW w 0 u m) :
    Calls Tryz.prog 56 #[v, u] w fun e w' => e = .returned (.bool (decide (l = m))) ∧ Below w.heap.size w w' := by
  obtain ⟨a, ca, rfl, _, _⟩ := rl.form
  obtain ⟨b, cb, rfl, _, _⟩ := rm.form
  have RL := Lib.hid rl
  have RM := Lib.hid rm
  clear rl rm
  by_cases hlm : l.length = m.length
  · have HLM := Lib.hid hlm
    have hmk : ∀ k, k < l.length → k < m.length := fun k h => by omega
    rw [← hlm]
    clear hlm
    go_enter Tryz.func56, Tryz.ntmps56
    go_wp2_with fail
    go_loopw [13] (fun i wr => ∃ k : Nat, k ≤ l.length ∧ i = .int .i64 k ∧ Hid (l.take k = m.take k) ∧ Below w.heap.size w wr) (fun i _ => l.length - (intOf i).toNat)
    case atStart => exact ⟨0, Nat.zero_le _, rfl, Lib.hid (by simp), Below.refl _ _⟩
    case round =>
      obtain ⟨k, hk, rfl, hT, hB⟩ := hrel
      by_cases hlt : k < l.length
      · obtain ⟨x, hx⟩ : ∃ x, l[k]? = some x := ⟨_, List.getElem?_eq_getElem hlt⟩
        obtain ⟨y, hy⟩ : ∃ y, m[k]? = some y := ⟨_, List.getElem?_eq_getElem (hmk k hlt)⟩
        obtain ⟨b1, o1, rfl, _, _, hc1⟩ := (RL.out.below hB).at TW.ok.len hx TW.ok.pos
        obtain ⟨b2, o2, rfl, _, _, hc2⟩ := (RM.out.below hB).at TW.ok.len hy TW.ok.pos
        have HX := Lib.hid hx
        have HY := Lib.hid hy
        obtain ⟨x1, x2, x3⟩ := x
        obtain ⟨y1, y2, y3⟩ := y
        have cx0 : wr.cell? ⟨b1, o1 + k * 3, none⟩ = some (.string x1) := hc1 0 _ rfl
        have cx1 : wr.cell? ⟨b1, o1 + k * 3 + 1, none⟩ = some (.int .i64 x2) := hc1 1 _ rfl
        have cx2 : wr.cell? ⟨b1, o1 + k * 3 + 2, none⟩ = some (.int .i64 x3) := hc1 2 _ rfl
        have cy0 : wr.cell? ⟨b2, o2 + k * 3, none⟩ = some (.string y1) := hc2 0 _ rfl
        have cy1 : wr.cell? ⟨b2, o2 + k * 3 + 1, none⟩ = some (.int .i64 y2) := hc2 1 _ rfl
        have cy2 : wr.cell? ⟨b2, o2 + k * 3 + 2, none⟩ = some (.int .i64 y3) := hc2 2 _ rfl
        have hw1 : IntKind.i64.wrap ((k : Int) + 1) = ((k + 1 : Nat) : Int) := by rw [IntWalk.i64_in _ (by omega)]; omega
        clear hc1 hc2 hx hy
        by_cases hxy : ((x1, x2, x3) : ByteArray × Int × Int) = (y1, y2, y3)
        · have HT2 : Hid (l.take (k + 1) = m.take (k + 1)) := Lib.hid (by rw [List.take_add_one, List.take_add_one, hT.out, HX.out, HY.out, hxy])
          obtain ⟨e1, hxy⟩ := Prod.mk.inj hxy; obtain ⟨e2, hxy⟩ := Prod.mk.inj hxy
          have e3 := hxy
          clear hxy
          subst e1; subst e2; subst e3
          have hne := neqWk_no x1 x2 x3
          go_wp2_with fail
          go_region
          all_goals (
            go_wp2
            go_roundw
            case rel => exact ⟨k + 1, by omega, by go_num, HT2, Below.drew hB⟩
            case measure => simp [intOf]; omega)
        · have HR : Hid (decide (l = m) = false) := Lib.hid (by
            rw [decide_eq_false_iff_not]
            rintro rfl
            have := HX.out.symm.trans HY.out
            injection this with this
            exact hxy this)
          have hne := neqWk_yes hxy
          clear hxy
          go_wp2_with fail
          go_region
          all_goals (
            go_wp2
            go_ret
            exact ⟨ret_bool HR.out.symm, Below.drew hB⟩)
      · obtain rfl : k = l.length := by omega
        have HR : Hid (decide (l = m) = true) := Lib.hid (by
          rw [decide_eq_true_eq]
          have := hT.out
          rw [List.take_length, HLM.out, List.take_length] at this
          exact this)
        go_wp2
        go_ret
        exact ⟨ret_bool HR.out.symm, hB⟩
  · have hi : ¬ ((l.length : Nat) : Int) = ((m.length : Nat) : Int) := by omega
    have HR : Hid (decide (l = m) = false) := Lib.hid (by
      rw [decide_eq_false_iff_not]
      intro h
      exact hlm (congrArg List.length h))
    go_enter Tryz.func56, Tryz.ntmps56
    go_wp2
    go_ret
    exact ⟨ret_bool HR.out.symm, Below.refl _ _⟩
end Go.Proofs.YtnmimagninhkkaaGreatDoor
namespace Go.Proofs.YtnmimagninhkkaaGreatDoor
open Go.RowKit Go.Sort

def wkG (m : Int) : List Wk → List Wk → Int
  | _, [] => if inB 0 m 10000 = true then 0 else 1
  | pre, x :: r => if keyB x.1 = false then 5 else if inB 0 x.2.1 10000 = false then 1 else if inB 0 x.2.2 1000000000 = false then 1 else if (pre.any fun y => y.1.toList == x.1.toList) = true then 6 else wkG m (pre ++ [x]) r
/-- what is wrong with works and minutes. -/
def wkF (ws : List Wk) (m : Int) : Int := if 14 < ws.length then 2 else wkG m [] ws
theorem wkG_go {m : Int} {ws : List Wk} {k : Nat} {x : Wk} (hx : ws[k]? = some x) : wkG m (ws.take k) (ws.drop k) = if keyB x.1 = false then 5 else if inB 0 x.2.1 10000 = false then 1 else if inB 0 x.2.2 1000000000 = false then 1 else if ((ws.take k).any fun y => y.1.toList == x.1.toList) = true then 6 else wkG m (ws.take (k + 1)) (ws.drop (k + 1)) := by
  obtain ⟨hk, he⟩ := List.getElem?_eq_some_iff.1 hx
  rw [List.drop_eq_getElem_cons hk, he, wkG, take_snoc hx]
theorem wkG_end {m : Int} {ws : List Wk} : wkG m (ws.take ws.length) (ws.drop ws.length) = if inB 0 m 10000 = true then 0 else 1 := by rw [List.drop_length]; rfl
theorem wkG_good {m : Int} : ∀ (r pre : List Wk), GoodW keyB pre → (pre ++ r).length ≤ 14 → wkG m pre r = 0 → GoodW keyB (pre ++ r) ∧ 0 ≤ m ∧ m ≤ 10000
  | [], pre, h, _, h0 => by
    rw [List.append_nil]
    refine ⟨h, ?_⟩
    unfold wkG at h0
    split at h0
    · rename_i hm; unfold inB at hm; simpa using hm
    · cases h0
  | x :: r, pre, h, hl, h0 => by
    rw [wkG] at h0
    split at h0
    · cases h0
    rename_i h1
    split at h0
    · cases h0
    rename_i h2
    split at h0
    · cases h0
    rename_i h3
    split at h0
    · cases h0
    rename_i h4
    have hg := GoodW.snoc (key := keyB) (ws := pre ++ x :: r) (k := pre.length) (x := x) (by rw [List.take_left']; exact h; rfl) (by simp) (by simpa using h1) (by unfold inB at h2; simpa using h2) (by unfold inB at h3; simpa using h3) (by simp at hl; omega) (by rw [List.take_left' rfl]; simpa using h4)
    have e : (pre ++ x :: r).take (pre.length + 1) = pre ++ [x] := by
      rw [List.take_append, List.take_of_length_le (by omega)]; simp
    rw [e] at hg
    have := wkG_good r (pre ++ [x]) hg (by simpa using hl) h0
    simpa using this
theorem wkF_good {ws : List Wk} {m : Int} (h : wkF ws m = 0) : GoodW keyB ws ∧ 0 ≤ m ∧ m ≤ 10000 := by
  unfold wkF at h
  split at h
  · cases h
  · exact wkG_good ws [] ⟨by simp, by simp, fun i j x y _ h => by simp at h⟩ (by simp; omega) h
set_option maxHeartbeats 8000000 in
set_option maxRecDepth 100000 in
theorem ChooseF_any (ws : List Wk) (m : Int) (vw : Value) (w : World) (hlen : ws.length ≤ 100) (hsz : ∀ x ∈ ws, x.1.size ≤ 1000) (rl : RecR TW w 0 vw ws) :
    Calls Tryz.prog 52 #[vw, .int .i64 m] w fun e w' => e = .returned (.int .i64 (wkF ws m)) ∧ Below w.heap.size w w' := by
  obtain ⟨a, cap, rfl, hc1, hc2⟩ := rl.form
  have hmf : ∀ (fn : Fn) (first cap : Array Value) (w : World), (Instr.makeFunc fn first cap).run Tryz.prog w = .ok (.func fn first cap) w := fun _ _ _ _ => rfl
  have HSZ := Lib.hid hsz
  clear hsz
  by_cases h14 : 14 < ws.length
  · have e1 : (14 : Int) < ws.length := by omega
    have HV : Hid (wkF ws m = 2) := Lib.hid (if_pos h14)
    go_enter Tryz.func52, Tryz.ntmps52
    go_wp2
    go_ret
    exact ⟨ret_int HV.out.symm, Below.refl _ _⟩
  · have e1 : ¬ (14 : Int) < ws.length := by omega
    have HV0 : Hid (wkF ws m = wkG m [] ws) := Lib.hid (if_neg h14)
    go_enter Tryz.func52, Tryz.ntmps52
    go_wp2
    go_loopw [12] (fun i wr => ∃ k : Nat, k ≤ ws.length ∧ i = .int .i64 k ∧ Hid (wkF ws m = wkG m (ws.take k) (ws.drop k)) ∧ Below w.heap.size w wr) (fun i _ => ws.length - (intOf i).toNat)
    case atStart => exact ⟨0, Nat.zero_le _, rfl, HV0, Below.refl _ _⟩
    case round =>
      obtain ⟨k, hk, rfl, hg, hb⟩ := hrel
      by_cases hlt : k < ws.length
      · obtain ⟨x, hx⟩ : ∃ x, ws[k]? = some x := ⟨_, List.getElem?_eq_getElem hlt⟩
        obtain ⟨b2, o2, hae, _, hl2, y1, y2, y3⟩ := works_at (rl.below hb) hx
        subst hae
        have hbn := Bl.alloc hb (.cells #[.string x.1, .int .i64 x.2.1, .int .i64 x.2.2] 74)
        have hnb := blk_new wr (.cells #[.string x.1, .int .i64 x.2.1, .int .i64 x.2.2] 74)
        have HK := Lib.hid (fun W => Key_any x.1 W (by have := HSZ.out x (List.mem_of_getElem? hx); omega))
        have HCT := Lib.hid (fun (W : World) (h1 : Below w.heap.size w W) (h2 : W.cell? ⟨wr.heap.size, 0, none⟩ = some (.string x.1)) => ContainsWR_any (ws.take k) (.slice (some ⟨b2, o2, none⟩) k cap) x.1 wr.heap.size W (by simp; omega) (rec_take (rl.below h1) (by omega)) h2)
        have HN := Lib.hid (hg.out.trans (wkG_go hx))
        clear hx
        obtain ⟨xb, xm, xv⟩ := x
        simp only at y1 y2 y3 hbn hnb HK HCT HN
        cases hkb : keyB xb
        · have HV : Hid (wkF ws m = 5) := Lib.hid (by rw [HN.out, if_pos hkb])
          rw [hkb] at HK
          clear hkb HN
          go_wp2_with fail
          refine (HK.out _).mono ?_
          rintro e w2 ⟨rfl, hb2⟩
          go_wp2
          go_ret
          exact ⟨ret_int HV.out.symm, Bl.trans hbn hb2⟩
        · have HKB := Lib.hid hkb
          rw [hkb] at HK
          clear hkb
          have HO1 := fun W => in_any xm 0 10000 W
          have HO2 := fun W => in_any xv 0 1000000000 W
          cases hm1 : inB 0 xm 10000
          · have HV : Hid (wkF ws m = 1) := Lib.hid (by rw [HN.out, if_neg (by rw [HKB.out]; decide), if_pos hm1])
            rw [hm1] at HO1
            have HO1 := Lib.hid HO1
            clear hm1 HO2
            go_wp2_with fail
            refine (HK.out _).mono ?_
            rintro e w2 ⟨rfl, hb2⟩
            have hn2 := blk_below hnb hb2
            have z1 := blk_cell hn2 1
            go_wp2_with fail
            refine (HO1.out _).mono ?_
            rintro e w' ⟨rfl, rfl⟩
            go_wp2
            go_ret
            exact ⟨ret_int HV.out.symm, Bl.trans hbn hb2⟩
          · have HM1 := Lib.hid hm1
            rw [hm1] at HO1
            have HO1 := Lib.hid HO1
            clear hm1
            cases hv1 : inB 0 xv 1000000000
            · have HV : Hid (wkF ws m = 1) := Lib.hid (by rw [HN.out, if_neg (by rw [HKB.out]; decide), if_neg (by rw [HM1.out]; decide), if_pos hv1])
              rw [hv1] at HO2
              have HO2 := Lib.hid HO2
              clear hv1
              go_wp2_with fail
              refine (HK.out _).mono ?_
              rintro e w2 ⟨rfl, hb2⟩
              have hn2 := blk_below hnb hb2
              have z1 := blk_cell hn2 1
              have z2 := blk_cell hn2 2
              go_wp2_with fail
              refine (HO1.out _).mono ?_
              rintro e w' ⟨rfl, rfl⟩
              go_wp2_with fail
              refine (HO2.out _).mono ?_
              rintro e w' ⟨rfl, rfl⟩
              go_wp2
              go_ret
              exact ⟨ret_int HV.out.symm, Bl.trans hbn hb2⟩
            · have HN2 : Hid (wkF ws m = if ((ws.take k).any fun y => y.1.toList == xb.toList) = true then 6 else wkG m (ws.take (k + 1)) (ws.drop (k + 1))) := Lib.hid (by rw [HN.out, if_neg (by rw [HKB.out]; decide), if_neg (by rw [HM1.out]; decide), if_neg (by rw [hv1]; decide)])
              rw [hv1] at HO2
              have HO2 := Lib.hid HO2
              clear hv1 HN
              generalize hany : ((ws.take k).any fun y => y.1.toList == xb.toList) = an at *
              clear hany
              cases an
              all_goals
                go_wp2_with fail
                refine (HK.out _).mono ?_
                rintro e w2 ⟨rfl, hb2⟩
                have hn2 := blk_below hnb hb2
                have z0 := blk_cell hn2 0
                have z1 := blk_cell hn2 1
                have z2 := blk_cell hn2 2
                have hb02 := Bl.trans hbn hb2
                go_wp2_with fail
                refine (HO1.out _).mono ?_
                rintro e w' ⟨rfl, rfl⟩
                go_wp2_with fail
                refine (HO2.out _).mono ?_
                rintro e w' ⟨rfl, rfl⟩
                go_wp2_with fail
                refine (HCT.out w2 hb02 z0).mono ?_
                rintro e w3 ⟨rfl, hb3⟩
                go_wp2
              · go_roundw
                case rel => exact ⟨k + 1, by omega, by go_num, Lib.hid (HN2.out.trans (by simp)), Bl.trans hb02 hb3⟩
                case measure => simp [intOf]; omega
              · go_ret
                exact ⟨ret_int (by rw [HN2.out]; simp), Bl.trans hb02 hb3⟩
      · have hk2 : k = ws.length := by omega
        subst hk2
        have HE := Lib.hid (hg.out.trans wkG_end)
        have HSP : Hid (spanF m 0 10000 = wkF ws m) := Lib.hid (by
          rw [HE.out]; unfold spanF inB
          by_cases hc : 0 ≤ m ∧ m ≤ 10000
          · rw [if_pos hc, if_pos (by simp; omega)]
          · rw [if_neg hc, if_neg (by simp; omega)])
        go_wp2_with fail
        refine (SpanFault_any m 0 10000 _).mono ?_
        rintro e w' ⟨rfl, rfl⟩
        go_wp2
        go_ret
        exact ⟨ret_int HSP.out, hb⟩
set_option maxHeartbeats 8000000 in
set_option maxRecDepth 100000 in
theorem worksF_any (ws : List Wk) (m : Int) (vw : Value) (w : World) (hlen : ws.length ≤ 100) (hsz : ∀ x ∈ ws, x.1.size ≤ 1000) (rl : RecR TW w 0 vw ws) :
    Calls Tryz.prog 120 #[vw, .int .i64 m] w fun e w' => e = .returned (.int .i64 (wkF ws m)) ∧ Below w.heap.size w w' := by
  obtain ⟨a, cap, rfl, hc1, hc2⟩ := rl.form
  have hmf : ∀ (fn : Fn) (first cap : Array Value) (w : World), (Instr.makeFunc fn first cap).run Tryz.prog w = .ok (.func fn first cap) w := fun _ _ _ _ => rfl
  have HSZ := Lib.hid hsz
  clear hsz
  by_cases h14 : 14 < ws.length
  · have e1 : (14 : Int) < ws.length := by omega
    have HV : Hid (wkF ws m = 2) := Lib.hid (if_pos h14)
    go_enter Tryz.func120, Tryz.ntmps120
    go_wp2
    go_ret
    exact ⟨ret_int HV.out.symm, Below.refl _ _⟩
  · have e1 : ¬ (14 : Int) < ws.length := by omega
    have HV0 : Hid (wkF ws m = wkG m [] ws) := Lib.hid (if_neg h14)
    go_enter Tryz.func120, Tryz.ntmps120
    go_wp2
    go_loopw [12] (fun i wr => ∃ k : Nat, k ≤ ws.length ∧ i = .int .i64 k ∧ Hid (wkF ws m = wkG m (ws.take k) (ws.drop k)) ∧ Below w.heap.size w wr) (fun i _ => ws.length - (intOf i).toNat)
    case atStart => exact ⟨0, Nat.zero_le _, rfl, HV0, Below.refl _ _⟩
    case round =>
      obtain ⟨k, hk, rfl, hg, hb⟩ := hrel
      by_cases hlt : k < ws.length
      · obtain ⟨x, hx⟩ : ∃ x, ws[k]? = some x := ⟨_, List.getElem?_eq_getElem hlt⟩
        obtain ⟨b2, o2, hae, _, hl2, y1, y2, y3⟩ := works_at (rl.below hb) hx
        subst hae
        have hbn := Bl.alloc hb (.cells #[.string x.1, .int .i64 x.2.1, .int .i64 x.2.2] 74)
        have hnb := blk_new wr (.cells #[.string x.1, .int .i64 x.2.1, .int .i64 x.2.2] 74)
        have HK := Lib.hid (fun W => IsKey_any x.1 W (by have := HSZ.out x (List.mem_of_getElem? hx); omega))
        have HCT := Lib.hid (fun (W : World) (h1 : Below w.heap.size w W) (h2 : W.cell? ⟨wr.heap.size, 0, none⟩ = some (.string x.1)) => ContainsWP_any (ws.take k) (.slice (some ⟨b2, o2, none⟩) k cap) x.1 wr.heap.size W (by simp; omega) (rec_take (rl.below h1) (by omega)) h2)
        have HN := Lib.hid (hg.out.trans (wkG_go hx))
        clear hx
        obtain ⟨xb, xm, xv⟩ := x
        simp only at y1 y2 y3 hbn hnb HK HCT HN
        cases hkb : keyB xb
        · have HV : Hid (wkF ws m = 5) := Lib.hid (by rw [HN.out, if_pos hkb])
          rw [hkb] at HK
          clear hkb HN
          go_wp2_with fail
          refine (HK.out _).mono ?_
          rintro e w2 ⟨rfl, hb2⟩
          go_wp2
          go_ret
          exact ⟨ret_int HV.out.symm, Bl.trans hbn hb2⟩
        · have HKB := Lib.hid hkb
          rw [hkb] at HK
          clear hkb
          have HO1 := fun W => Outside_any xm 0 10000 W
          have HO2 := fun W => Outside_any xv 0 1000000000 W
          cases hm1 : inB 0 xm 10000
          · have HV : Hid (wkF ws m = 1) := Lib.hid (by rw [HN.out, if_neg (by rw [HKB.out]; decide), if_pos hm1])
            rw [hm1] at HO1
            have HO1 := Lib.hid HO1
            clear hm1 HO2
            go_wp2_with fail
            refine (HK.out _).mono ?_
            rintro e w2 ⟨rfl, hb2⟩
            have hn2 := blk_below hnb hb2
            have z1 := blk_cell hn2 1
            go_wp2_with fail
            refine (HO1.out _).mono ?_
            rintro e w' ⟨rfl, rfl⟩
            go_wp2
            go_ret
            exact ⟨ret_int HV.out.symm, Bl.trans hbn hb2⟩
          · have HM1 := Lib.hid hm1
            rw [hm1] at HO1
            have HO1 := Lib.hid HO1
            clear hm1
            cases hv1 : inB 0 xv 1000000000
            · have HV : Hid (wkF ws m = 1) := Lib.hid (by rw [HN.out, if_neg (by rw [HKB.out]; decide), if_neg (by rw [HM1.out]; decide), if_pos hv1])
              rw [hv1] at HO2
              have HO2 := Lib.hid HO2
              clear hv1
              go_wp2_with fail
              refine (HK.out _).mono ?_
              rintro e w2 ⟨rfl, hb2⟩
              have hn2 := blk_below hnb hb2
              have z1 := blk_cell hn2 1
              have z2 := blk_cell hn2 2
              go_wp2_with fail
              refine (HO1.out _).mono ?_
              rintro e w' ⟨rfl, rfl⟩
              go_wp2_with fail
              refine (HO2.out _).mono ?_
              rintro e w' ⟨rfl, rfl⟩
              go_wp2
              go_ret
              exact ⟨ret_int HV.out.symm, Bl.trans hbn hb2⟩
            · have HN2 : Hid (wkF ws m = if ((ws.take k).any fun y => y.1.toList == xb.toList) = true then 6 else wkG m (ws.take (k + 1)) (ws.drop (k + 1))) := Lib.hid (by rw [HN.out, if_neg (by rw [HKB.out]; decide), if_neg (by rw [HM1.out]; decide), if_neg (by rw [hv1]; decide)])
              rw [hv1] at HO2
              have HO2 := Lib.hid HO2
              clear hv1 HN
              generalize hany : ((ws.take k).any fun y => y.1.toList == xb.toList) = an at *
              clear hany
              cases an
              all_goals
                go_wp2_with fail
                refine (HK.out _).mono ?_
                rintro e w2 ⟨rfl, hb2⟩
                have hn2 := blk_below hnb hb2
                have z0 := blk_cell hn2 0
                have z1 := blk_cell hn2 1
                have z2 := blk_cell hn2 2
                have hb02 := Bl.trans hbn hb2
                go_wp2_with fail
                refine (HO1.out _).mono ?_
                rintro e w' ⟨rfl, rfl⟩
                go_wp2_with fail
                refine (HO2.out _).mono ?_
                rintro e w' ⟨rfl, rfl⟩
                go_wp2_with fail
                refine (HCT.out w2 hb02 z0).mono ?_
                rintro e w3 ⟨rfl, hb3⟩
                go_wp2
              · go_roundw
                case rel => exact ⟨k + 1, by omega, by go_num, Lib.hid (HN2.out.trans (by simp)), Bl.trans hb02 hb3⟩
                case measure => simp [intOf]; omega
              · go_ret
                exact ⟨ret_int (by rw [HN2.out]; simp), Bl.trans hb02 hb3⟩
      · have hk2 : k = ws.length := by omega
        subst hk2
        have HE := Lib.hid (hg.out.trans wkG_end)
        have HO := fun W => Outside_any m 0 10000 W
        cases hmm : inB 0 m 10000
        all_goals (
          have HV := HE.out
          rw [hmm] at HO HV
          have HO := Lib.hid HO
          have HV := Lib.hid HV
          clear hmm
          go_wp2_with fail
          refine (HO.out _).mono ?_
          rintro e w' ⟨rfl, rfl⟩
          go_wp2
          go_ret
          exact ⟨ret_int (by rw [HV.out]; simp), hb⟩)
set_option maxHeartbeats 1000000 in
theorem ChooseBad_any (ws : List Wk) (m : Int) (vw : Value) (w : World) (hlen : ws.length ≤ 100) (hsz : ∀ x ∈ ws, x.1.size ≤ 1000) (rl : RecR TW w 0 vw ws) (h0 : wkF ws m ≠ 0) :
    Calls Tryz.prog 51 #[vw, .int .i64 m] w fun e w' => e = .returned (.tuple #[.slice none 0 0, .int .i64 0, .int .i64 (wkF ws m)]) ∧ Below w.heap.size w w' := by
  have HW := Lib.hid (worksF_any ws m vw w hlen hsz rl)
  obtain ⟨a, cap, rfl, hc1, hc2⟩ := rl.form
  generalize wkF ws m = F at *
  clear hsz rl
  go_enter Tryz.func51, Tryz.ntmps51
  go_wp2_with fail
  refine HW.out.mono ?_
  rintro e w1 ⟨rfl, hb1⟩
  go_wp2
  go_ret3
  exact ⟨rfl, hb1⟩
end Go.Proofs.YtnmimagninhkkaaGreatDoor
namespace Go.Proofs.YtnmimagninhkkaaGreatDoor
open Go.RowKit Go.Sort

def TIn : Rty Int := { e := 3, S := 22, k := 1, b := 8, z := .int .i64 0, f := fun x => [.int .i64 x] }
theorem TIn.ok : TIn.Ok := ⟨by kernel_rfl, Tryz.underlying22, rfl, by decide, fun _ => rfl, fun x u hu => by simp [TIn] at hu; subst hu; rfl, by decide⟩
theorem flat_int (l : List Int) : l.flatMap TIn.f = ics l := by
  induction l with
  | nil => rfl
  | cons a l ih => rw [List.flatMap_cons, ih]; rfl
theorem Own.rec {w : World} {B : Nat} {v : Value} {l : List Int} (h : Own w B v l) : OwnR TIn w B v l := by
  unfold OwnR
  rw [flat_int]; exact h
set_option maxHeartbeats 2000000 in
theorem spoilS_any (l : List ByteArray) (v : Value) (w : World) (B C : Nat) (hlen : l.length ≤ 100000) (hO : OwnR TS w B v l) (hC : ∀ g, v.ownBlock = some g → g < C) :
    Calls Tryz.prog 53 #[v] w fun e w' => e = .returned (.tuple #[]) ∧ Kp w w' (fun i => B ≤ i ∧ i < C) := by
  obtain ⟨a, n, cap, hv, hn⟩ : ∃ a n cap, v = .slice a n cap ∧ n = l.length := by obtain ⟨a, cap, hv, _, _⟩ := hO.form; exact ⟨a, _, cap, hv, rfl⟩
  subst hv
  have hn2 : n ≤ 100000 := by omega
  have HN := Lib.hid hn
  have HO := Lib.hid hO
  clear hO hn hlen
  go_enter Tryz.func53, Tryz.ntmps53
  go_wp2_with fail
  go_loopw [5] (fun i wr => ∃ (k : Nat) (l' : List ByteArray), k ≤ n ∧ i = .int .i64 k ∧ Hid (l'.length = n ∧ OwnR TS wr B (.slice a n cap) l') ∧ Kp w wr (fun i => B ≤ i ∧ i < C)) (fun i _ => n - (intOf i).toNat)
  case atStart => exact ⟨0, l, Nat.zero_le _, rfl, Lib.hid ⟨HN.out.symm, HO.out⟩, Kp.refl _ _⟩
  case round =>
    obtain ⟨k, l', hk, rfl, HI, hK⟩ := hrel
    by_cases hlt : k < n
    · obtain ⟨x, hx⟩ : ∃ x, l'[k]? = some x := ⟨_, List.getElem?_eq_getElem (by rw [HI.out.1]; exact hlt)⟩
      obtain ⟨g, cap2, cur, hv2, hB, hb2, _⟩ := HI.out.2.blk (by intro e; have := HI.out.1; rw [e] at this; simp at this; omega)
      obtain ⟨rfl, _, _⟩ := Value.slice.inj hv2
      have hgC : g < C := hC g rfl
      obtain ⟨c1, f1⟩ := HI.out.2.cellf (fo := 0) (v := .string x) TS.ok HI.out.1.symm hx rfl
      simp only [TS, Nat.mul_one, Nat.add_zero] at c1 f1
      have hs := HI.out.2.setf (fo := 0) (x' := ⟨#[115, 112, 111, 105, 108, 116]⟩) (v := .string ⟨#[115, 112, 111, 105, 108, 116]⟩) TS.ok HI.out.1.symm hx (by decide) rfl
      simp only [TS, Nat.mul_one, Nat.add_zero] at hs
      have HS := Lib.hid hs
      have hlb := blk_lt hb2
      have hK2 : Kp w (wr.setCell ⟨g, k, none⟩ (.string ⟨#[115, 112, 111, 105, 108, 116]⟩)) (fun i => B ≤ i ∧ i < C) := hK.trans ⟨rfl, rfl, rfl, by simp [World.setCell], fun i hi hx => Below.heap_setCell wr ⟨g, k, none⟩ _ i (by rintro rfl; exact hx ⟨hB, hgC⟩)⟩
      have hw1 : IntKind.i64.wrap ((k : Int) + 1) = ((k + 1 : Nat) : Int) := by rw [IntWalk.i64_in _ (by omega)]; omega
      have HL : Hid ((l'.set k ⟨#[115, 112, 111, 105, 108, 116]⟩).length = n) := Lib.hid (by rw [List.length_set]; exact HI.out.1)
      clear hs hx hb2 hK hv2
      go_wp2
      go_roundw
      case rel => exact ⟨k + 1, _, by omega, by go_num, Lib.hid ⟨HL.out, HS.out⟩, hK2⟩
      case measure => simp [intOf]; omega
    · go_wp2
      go_end0
      exact ⟨rfl, hK⟩
set_option maxHeartbeats 2000000 in
theorem spoilI_any (l : List Int) (v : Value) (w : World) (B C : Nat) (hlen : l.length ≤ 100000) (hO : OwnR TIn w B v l) (hC : ∀ g, v.ownBlock = some g → g < C) :
    Calls Tryz.prog 54 #[v] w fun e w' => e = .returned (.tuple #[]) ∧ Kp w w' (fun i => B ≤ i ∧ i < C) := by
  obtain ⟨a, n, cap, hv, hn⟩ : ∃ a n cap, v = .slice a n cap ∧ n = l.length := by obtain ⟨a, cap, hv, _, _⟩ := hO.form; exact ⟨a, _, cap, hv, rfl⟩
  subst hv
  have hn2 : n ≤ 100000 := by omega
  have HN := Lib.hid hn
  have HO := Lib.hid hO
  clear hO hn hlen
  go_enter Tryz.func54, Tryz.ntmps54
  go_wp2_with fail
  go_loopw [5] (fun i wr => ∃ (k : Nat) (l' : List Int), k ≤ n ∧ i = .int .i64 k ∧ Hid (l'.length = n ∧ OwnR TIn wr B (.slice a n cap) l') ∧ Kp w wr (fun i => B ≤ i ∧ i < C)) (fun i _ => n - (intOf i).toNat)
  case atStart => exact ⟨0, l, Nat.zero_le _, rfl, Lib.hid ⟨HN.out.symm, HO.out⟩, Kp.refl _ _⟩
  case round =>
    obtain ⟨k, l', hk, rfl, HI, hK⟩ := hrel
    by_cases hlt : k < n
    · obtain ⟨x, hx⟩ : ∃ x, l'[k]? = some x := ⟨_, List.getElem?_eq_getElem (by rw [HI.out.1]; exact hlt)⟩
      obtain ⟨g, cap2, cur, hv2, hB, hb2, _⟩ := HI.out.2.blk (by intro e; have := HI.out.1; rw [e] at this; simp at this; omega)
      obtain ⟨rfl, _, _⟩ := Value.slice.inj hv2
      have hgC : g < C := hC g rfl
      obtain ⟨c1, f1⟩ := HI.out.2.cellf (fo := 0) (v := .int .i64 x) TIn.ok HI.out.1.symm hx rfl
      simp only [TIn, Nat.mul_one, Nat.add_zero] at c1 f1
      have hs := HI.out.2.setf (fo := 0) (x' := 777) (v := .int .i64 777) TIn.ok HI.out.1.symm hx (by decide) rfl
      simp only [TIn, Nat.mul_one, Nat.add_zero] at hs
      have HS := Lib.hid hs
      have hlb := blk_lt hb2
      have hK2 : Kp w (wr.setCell ⟨g, k, none⟩ (.int .i64 777)) (fun i => B ≤ i ∧ i < C) := hK.trans ⟨rfl, rfl, rfl, by simp [World.setCell], fun i hi hx => Below.heap_setCell wr ⟨g, k, none⟩ _ i (by rintro rfl; exact hx ⟨hB, hgC⟩)⟩
      have hw1 : IntKind.i64.wrap ((k : Int) + 1) = ((k + 1 : Nat) : Int) := by rw [IntWalk.i64_in _ (by omega)]; omega
      have HL : Hid ((l'.set k 777).length = n) := Lib.hid (by rw [List.length_set]; exact HI.out.1)
      clear hs hx hb2 hK hv2
      go_wp2
      go_roundw
      case rel => exact ⟨k + 1, _, by omega, by go_num, Lib.hid ⟨HL.out, HS.out⟩, hK2⟩
      case measure => simp [intOf]; omega
    · go_wp2
      go_end0
      exact ⟨rfl, hK⟩
end Go.Proofs.YtnmimagninhkkaaGreatDoor
