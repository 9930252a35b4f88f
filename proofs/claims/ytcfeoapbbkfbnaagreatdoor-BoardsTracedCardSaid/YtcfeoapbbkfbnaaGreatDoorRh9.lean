/- slices.Clone and slices.Equal of reels, of events, of origins and of what lies in a feeder. Conditions: at most 10^6 of them. · Trace of package reel: what a board is made of, as the model tells. Conditions: at most 900 events. · slices.DeleteFunc of events by the closure of ComponentsAddUp: counts are taken out. Conditions: at most 1000 events, in memory of the caller's own. · Boards of package reel: which boards have components of a reel, as the model tells. Conditions: at most 900 events. · Plain law of ComponentsAddUp: what the walk meets. No conditions. -/
import Derived.Test.YtcfeoapbbkfbnaaGreatDoorReK
import Derived.Test.YtcfeoapbbkfbnaaGreatDoorRec
import Derived.Test.YtcfeoapbbkfbnaaGreatDoorStrs
import Derived.Test.YtcfeoapbbkfbnaaGreatDoorRp1
import Derived.Test.YtcfeoapbbkfbnaaGreatDoorRe3
import Derived.Test.YtcfeoapbbkfbnaaGreatDoorInvS
import Derived.Lib.SliceRun
import Derived.Laws.IdiomCopy
import Derived.Test.YtcfeoapbbkfbnaaGreatDoorCond
import Derived.Test.YtcfeoapbbkfbnaaGreatDoorSk
import Derived.Test.YtcfeoapbbkfbnaaGreatDoorRh2
import Derived.Test.YtcfeoapbbkfbnaaGreatDoorReA
namespace Go.Proofs.YtcfeoapbbkfbnaaGreatDoor
open Go.RowKit Go.Sort

set_option maxHeartbeats 1000000 in
set_option maxRecDepth 100000 in
theorem CloneRe_any {l : List _} (v : Value) (w : World) (hlen : l.length ≤ 1000000) (rl : RecR TRe w 0 v l) :
    Calls Tryz.prog 38 #[v] w fun e w' => ∃ v', e = .returned v' ∧ OwnR TRe w' w.heap.size v' l ∧ Below w.heap.size w w' := by
  have q51 : ∀ (w : World) (a : Option Addr) (n c n' c' : Nat), (binOp .eql 26 (.slice a n c) (.slice none n' c')).run Tryz.prog w = .ok (.bool a.isNone) w := fun w a n c n' c' => Lib.run_eql_slice_nil w _ _ a n c n' c' Tryz.underlying26
  obtain ⟨a, cap, rfl, h1, h2⟩ := rl.form
  cases a with
  | none =>
    have hn : l = [] := by
      cases l with
      | nil => rfl
      | cons x r =>
        obtain ⟨b, o, e, _⟩ := rl.at TRe.ok.len (i := 0) (x := x) rfl TRe.ok.pos
        cases e
    subst hn
    clear rl
    go_enter Tryz.func38, Tryz.ntmps38
    go_wp2
    go_ret
    exact ⟨_, rfl, OwnR.nil _ _, Below.refl _ _⟩
  | some ad =>
    obtain ⟨_, _, hv, _, _, h3⟩ := rl
    obtain ⟨rfl, _, _⟩ := Value.slice.inj hv
    have HC : Hid (∀ j u, (l.flatMap TRe.f)[j]? = some u → (w.alloc (.cells #[] TRe.e)).cell? (ad.add j) = some u) := Lib.hid (by
      intro j u hj
      obtain ⟨b', o', e, _, hb, hcell⟩ := h3 j u hj
      injection e with e
      subst e
      have : (⟨b', o', none⟩ : Addr).add j = ⟨b', o' + j, none⟩ := by unfold Addr.add; split <;> simp_all
      rw [this]
      exact (World.cell?_alloc_past _ _ _ hb).trans hcell)
    obtain ⟨i, hi, hz0, hz1, hz2⟩ := info_parts TRe.ok.info
    have HL := Lib.hid hlen
    have HF := Lib.hid (flat_len TRe.ok.len l)
    have HO := Lib.hid (fun u (hu : u ∈ l.flatMap TRe.f) => by
      obtain ⟨x, _, hx⟩ := List.mem_flatMap.1 hu
      exact TRe.ok.one x u hx)
    have HB := Lib.hid (Nat.mul_le_mul (show l.length ≤ 1000000 from hlen) TRe.ok.small)
    clear hv h3 hlen
    go_enter Tryz.func38, Tryz.ntmps38
    go_wp2_with (at_builtin; refine wpList_append_own _ rfl _ _ TRe.S rfl w.heap.size TRe.e i _ TRe.k TRe.b TRe.ok.sl hi hz0 hz1 hz2 TRe.ok.zs TRe.ok.pos _ 0 [] rfl (World.ownsRow_made w #[] 0 (Nat.le_refl _) (by decide) rfl) ad l.length cap (l.flatMap TRe.f) rfl HF.out HC.out HO.out (by unfold maxLen; have := HL.out; omega) (by have := HB.out; rw [Nat.zero_add]; omega) (by simp) ?c2)
    case c2 =>
      intro v' w' h4 h5 _
      have hbw : Below w.heap.size w w' := by
        have hg := h5
        refine ⟨hg.os, hg.tape, hg.output, Nat.le_trans (by simp) hg.size, fun k hk => ?_⟩
        rw [hg.block k (by simp; omega) (by simp [Value.ownBlock]; omega)]
        exact heap_alloc_old w _ hk
      go_wp2
      go_ret
      exact ⟨_, rfl, by unfold OwnR; simpa using h4, hbw⟩
theorem neqRe_no (x1 x2 x3 : _) (W : World) : (binOp .neq 73 (.agg #[.string x1, .string x2, .int .i64 x3]) (.agg #[.string x1, .string x2, .int .i64 x3])).run Tryz.prog W = .ok (.bool false) W := by
  go_simp
theorem neqRe_yes {x1 x2 x3 y1 y2 y3 : _} (hxy : ((x1, x2, x3) : ByteArray × ByteArray × Int) ≠ (y1, y2, y3)) (W : World) : (binOp .neq 73 (.agg #[.string x1, .string x2, .int .i64 x3]) (.agg #[.string y1, .string y2, .int .i64 y3])).run Tryz.prog W = .ok (.bool true) W := by
  go_simp
  intro e1 e2 e3
  first
    | (exact hxy (by subst e1; subst e2; subst e3; rfl))
    | (have e1 := ba_inj e1; have e2 := ba_inj e2; exact hxy (by subst e1; subst e2; subst e3; rfl))
set_option maxHeartbeats 4000000 in
set_option maxRecDepth 100000 in
theorem EqualRe_any (l m : List (ByteArray × ByteArray × Int)) (v u : Value) (w : World) (_hl : l.length ≤ 1000000) (hm : m.length ≤ 1000000) (rl : RecR TRe w 0 v l) (rm : RecR TRe w 0 u m) :
    Calls Tryz.prog 42 #[v, u] w fun e w' => e = .returned (.bool (decide (l = m))) ∧ Below w.heap.size w w' := by
  obtain ⟨a, ca, rfl, _, _⟩ := rl.form
  obtain ⟨b, cb, rfl, _, _⟩ := rm.form
  have RL := Lib.hid rl
  have RM := Lib.hid rm
  clear rl rm
  by_cases hlm : l.length = m.length
  · have HLM := Lib.hid hlm
    have hmk : ∀ k, k < l.length → k < m.length := fun k h => by omega
    rw [← hlm]
    clear hlm
    go_enter Tryz.func42, Tryz.ntmps42
    go_wp2_with fail
    go_loopw [13] (fun i wr => ∃ k : Nat, k ≤ l.length ∧ i = .int .i64 k ∧ Hid (l.take k = m.take k) ∧ Below w.heap.size w wr) (fun i _ => l.length - (intOf i).toNat)
    case atStart => exact ⟨0, Nat.zero_le _, rfl, Lib.hid (by simp), Below.refl _ _⟩
    case round =>
      obtain ⟨k, hk, rfl, hT, hB⟩ := hrel
      by_cases hlt : k < l.length
      · obtain ⟨x, hx⟩ : ∃ x, l[k]? = some x := ⟨_, List.getElem?_eq_getElem hlt⟩
        obtain ⟨y, hy⟩ : ∃ y, m[k]? = some y := ⟨_, List.getElem?_eq_getElem (hmk k hlt)⟩
        obtain ⟨b1, o1, rfl, _, _, hc1⟩ := (RL.out.below hB).at TRe.ok.len hx TRe.ok.pos
        obtain ⟨b2, o2, rfl, _, _, hc2⟩ := (RM.out.below hB).at TRe.ok.len hy TRe.ok.pos
        have HX := Lib.hid hx
        have HY := Lib.hid hy
        obtain ⟨x1, x2, x3⟩ := x
        obtain ⟨y1, y2, y3⟩ := y
        have cx0 : wr.cell? ⟨b1, o1 + k * 3, none⟩ = some (.string x1) := hc1 0 _ rfl
        have cx1 : wr.cell? ⟨b1, o1 + k * 3 + 1, none⟩ = some (.string x2) := hc1 1 _ rfl
        have cx2 : wr.cell? ⟨b1, o1 + k * 3 + 2, none⟩ = some (.int .i64 x3) := hc1 2 _ rfl
        have cy0 : wr.cell? ⟨b2, o2 + k * 3, none⟩ = some (.string y1) := hc2 0 _ rfl
        have cy1 : wr.cell? ⟨b2, o2 + k * 3 + 1, none⟩ = some (.string y2) := hc2 1 _ rfl
        have cy2 : wr.cell? ⟨b2, o2 + k * 3 + 2, none⟩ = some (.int .i64 y3) := hc2 2 _ rfl
        have hw1 : IntKind.i64.wrap ((k : Int) + 1) = ((k + 1 : Nat) : Int) := by rw [IntWalk.i64_in _ (by omega)]; omega
        clear hc1 hc2 hx hy
        by_cases hxy : ((x1, x2, x3) : ByteArray × ByteArray × Int) = (y1, y2, y3)
        · have HT2 : Hid (l.take (k + 1) = m.take (k + 1)) := Lib.hid (by rw [List.take_add_one, List.take_add_one, hT.out, HX.out, HY.out, hxy])
          obtain ⟨e1, hxy⟩ := Prod.mk.inj hxy; obtain ⟨e2, hxy⟩ := Prod.mk.inj hxy
          have e3 := hxy
          clear hxy
          subst e1; subst e2; subst e3
          have hne := neqRe_no x1 x2 x3
          go_wp2_with fail
          go_region
          all_goals (
            go_wp2
            go_roundw
            case rel => exact ⟨k + 1, by omega, by go_num, HT2, Below.drew hB⟩
            case measure => simp [intOf]; omega)
        · have HR : Hid (decide (l = m) = false) := Lib.hid (by
            rw [decide_eq_false_iff_not]
            rintro rfl
            have := HX.out.symm.trans HY.out
            injection this with this
            exact hxy this)
          have hne := neqRe_yes hxy
          clear hxy
          go_wp2_with fail
          go_region
          all_goals (
            go_wp2
            go_ret
            exact ⟨ret_bool HR.out.symm, Below.drew hB⟩)
      · obtain rfl : k = l.length := by omega
        have HR : Hid (decide (l = m) = true) := Lib.hid (by
          rw [decide_eq_true_eq]
          have := hT.out
          rw [List.take_length, HLM.out, List.take_length] at this
          exact this)
        go_wp2
        go_ret
        exact ⟨ret_bool HR.out.symm, hB⟩
  · have hi : ¬ ((l.length : Nat) : Int) = ((m.length : Nat) : Int) := by omega
    have HR : Hid (decide (l = m) = false) := Lib.hid (by
      rw [decide_eq_false_iff_not]
      intro h
      exact hlm (congrArg List.length h))
    go_enter Tryz.func42, Tryz.ntmps42
    go_wp2
    go_ret
    exact ⟨ret_bool HR.out.symm, Below.refl _ _⟩
set_option maxHeartbeats 1000000 in
set_option maxRecDepth 100000 in
theorem CloneFe_any {l : List _} (v : Value) (w : World) (hlen : l.length ≤ 1000000) (rl : RecR TFe w 0 v l) :
    Calls Tryz.prog 39 #[v] w fun e w' => ∃ v', e = .returned v' ∧ OwnR TFe w' w.heap.size v' l ∧ Below w.heap.size w w' := by
  have q51 : ∀ (w : World) (a : Option Addr) (n c n' c' : Nat), (binOp .eql 28 (.slice a n c) (.slice none n' c')).run Tryz.prog w = .ok (.bool a.isNone) w := fun w a n c n' c' => Lib.run_eql_slice_nil w _ _ a n c n' c' Tryz.underlying28
  obtain ⟨a, cap, rfl, h1, h2⟩ := rl.form
  cases a with
  | none =>
    have hn : l = [] := by
      cases l with
      | nil => rfl
      | cons x r =>
        obtain ⟨b, o, e, _⟩ := rl.at TFe.ok.len (i := 0) (x := x) rfl TFe.ok.pos
        cases e
    subst hn
    clear rl
    go_enter Tryz.func39, Tryz.ntmps39
    go_wp2
    go_ret
    exact ⟨_, rfl, OwnR.nil _ _, Below.refl _ _⟩
  | some ad =>
    obtain ⟨_, _, hv, _, _, h3⟩ := rl
    obtain ⟨rfl, _, _⟩ := Value.slice.inj hv
    have HC : Hid (∀ j u, (l.flatMap TFe.f)[j]? = some u → (w.alloc (.cells #[] TFe.e)).cell? (ad.add j) = some u) := Lib.hid (by
      intro j u hj
      obtain ⟨b', o', e, _, hb, hcell⟩ := h3 j u hj
      injection e with e
      subst e
      have : (⟨b', o', none⟩ : Addr).add j = ⟨b', o' + j, none⟩ := by unfold Addr.add; split <;> simp_all
      rw [this]
      exact (World.cell?_alloc_past _ _ _ hb).trans hcell)
    obtain ⟨i, hi, hz0, hz1, hz2⟩ := info_parts TFe.ok.info
    have HL := Lib.hid hlen
    have HF := Lib.hid (flat_len TFe.ok.len l)
    have HO := Lib.hid (fun u (hu : u ∈ l.flatMap TFe.f) => by
      obtain ⟨x, _, hx⟩ := List.mem_flatMap.1 hu
      exact TFe.ok.one x u hx)
    have HB := Lib.hid (Nat.mul_le_mul (show l.length ≤ 1000000 from hlen) TFe.ok.small)
    clear hv h3 hlen
    go_enter Tryz.func39, Tryz.ntmps39
    go_wp2_with (at_builtin; refine wpList_append_own _ rfl _ _ TFe.S rfl w.heap.size TFe.e i _ TFe.k TFe.b TFe.ok.sl hi hz0 hz1 hz2 TFe.ok.zs TFe.ok.pos _ 0 [] rfl (World.ownsRow_made w #[] 0 (Nat.le_refl _) (by decide) rfl) ad l.length cap (l.flatMap TFe.f) rfl HF.out HC.out HO.out (by unfold maxLen; have := HL.out; omega) (by have := HB.out; rw [Nat.zero_add]; omega) (by simp) ?c2)
    case c2 =>
      intro v' w' h4 h5 _
      have hbw : Below w.heap.size w w' := by
        have hg := h5
        refine ⟨hg.os, hg.tape, hg.output, Nat.le_trans (by simp) hg.size, fun k hk => ?_⟩
        rw [hg.block k (by simp; omega) (by simp [Value.ownBlock]; omega)]
        exact heap_alloc_old w _ hk
      go_wp2
      go_ret
      exact ⟨_, rfl, by unfold OwnR; simpa using h4, hbw⟩
theorem neqFe_no (x1 x2 x3 x4 x5 x6 : _) (W : World) : (binOp .neq 76 (.agg #[.int .i64 x1, .int .i64 x2, .string x3, .string x4, .int .i64 x5, .string x6]) (.agg #[.int .i64 x1, .int .i64 x2, .string x3, .string x4, .int .i64 x5, .string x6])).run Tryz.prog W = .ok (.bool false) W := by
  go_simp
theorem neqFe_yes {x1 x2 x3 x4 x5 x6 y1 y2 y3 y4 y5 y6 : _} (hxy : ((x1, x2, x3, x4, x5, x6) : Int × Int × ByteArray × ByteArray × Int × ByteArray) ≠ (y1, y2, y3, y4, y5, y6)) (W : World) : (binOp .neq 76 (.agg #[.int .i64 x1, .int .i64 x2, .string x3, .string x4, .int .i64 x5, .string x6]) (.agg #[.int .i64 y1, .int .i64 y2, .string y3, .string y4, .int .i64 y5, .string y6])).run Tryz.prog W = .ok (.bool true) W := by
  go_simp
  intro e1 e2 e3 e4 e5 e6
  first
    | (exact hxy (by subst e1; subst e2; subst e3; subst e4; subst e5; subst e6; rfl))
    | (have e3 := ba_inj e3; have e4 := ba_inj e4; have e6 := ba_inj e6; exact hxy (by subst e1; subst e2; subst e3; subst e4; subst e5; subst e6; rfl))
set_option maxHeartbeats 4000000 in
set_option maxRecDepth 100000 in
theorem EqualFe_any (l m : List (Int × Int × ByteArray × ByteArray × Int × ByteArray)) (v u : Value) (w : World) (_hl : l.length ≤ 1000000) (hm : m.length ≤ 1000000) (rl : RecR TFe w 0 v l) (rm : RecR TFe w 0 u m) :
    Calls Tryz.prog 43 #[v, u] w fun e w' => e = .returned (.bool (decide (l = m))) ∧ Below w.heap.size w w' := by
  obtain ⟨a, ca, rfl, _, _⟩ := rl.form
  obtain ⟨b, cb, rfl, _, _⟩ := rm.form
  have RL := Lib.hid rl
  have RM := Lib.hid rm
  clear rl rm
  by_cases hlm : l.length = m.length
  · have HLM := Lib.hid hlm
    have hmk : ∀ k, k < l.length → k < m.length := fun k h => by omega
    rw [← hlm]
    clear hlm
    go_enter Tryz.func43, Tryz.ntmps43
    go_wp2_with fail
    go_loopw [13] (fun i wr => ∃ k : Nat, k ≤ l.length ∧ i = .int .i64 k ∧ Hid (l.take k = m.take k) ∧ Below w.heap.size w wr) (fun i _ => l.length - (intOf i).toNat)
    case atStart => exact ⟨0, Nat.zero_le _, rfl, Lib.hid (by simp), Below.refl _ _⟩
    case round =>
      obtain ⟨k, hk, rfl, hT, hB⟩ := hrel
      by_cases hlt : k < l.length
      · obtain ⟨x, hx⟩ : ∃ x, l[k]? = some x := ⟨_, List.getElem?_eq_getElem hlt⟩
        obtain ⟨y, hy⟩ : ∃ y, m[k]? = some y := ⟨_, List.getElem?_eq_getElem (hmk k hlt)⟩
        obtain ⟨b1, o1, rfl, _, _, hc1⟩ := (RL.out.below hB).at TFe.ok.len hx TFe.ok.pos
        obtain ⟨b2, o2, rfl, _, _, hc2⟩ := (RM.out.below hB).at TFe.ok.len hy TFe.ok.pos
        have HX := Lib.hid hx
        have HY := Lib.hid hy
        obtain ⟨x1, x2, x3, x4, x5, x6⟩ := x
        obtain ⟨y1, y2, y3, y4, y5, y6⟩ := y
        have cx0 : wr.cell? ⟨b1, o1 + k * 6, none⟩ = some (.int .i64 x1) := hc1 0 _ rfl
        have cx1 : wr.cell? ⟨b1, o1 + k * 6 + 1, none⟩ = some (.int .i64 x2) := hc1 1 _ rfl
        have cx2 : wr.cell? ⟨b1, o1 + k * 6 + 2, none⟩ = some (.string x3) := hc1 2 _ rfl
        have cx3 : wr.cell? ⟨b1, o1 + k * 6 + 3, none⟩ = some (.string x4) := hc1 3 _ rfl
        have cx4 : wr.cell? ⟨b1, o1 + k * 6 + 4, none⟩ = some (.int .i64 x5) := hc1 4 _ rfl
        have cx5 : wr.cell? ⟨b1, o1 + k * 6 + 5, none⟩ = some (.string x6) := hc1 5 _ rfl
        have cy0 : wr.cell? ⟨b2, o2 + k * 6, none⟩ = some (.int .i64 y1) := hc2 0 _ rfl
        have cy1 : wr.cell? ⟨b2, o2 + k * 6 + 1, none⟩ = some (.int .i64 y2) := hc2 1 _ rfl
        have cy2 : wr.cell? ⟨b2, o2 + k * 6 + 2, none⟩ = some (.string y3) := hc2 2 _ rfl
        have cy3 : wr.cell? ⟨b2, o2 + k * 6 + 3, none⟩ = some (.string y4) := hc2 3 _ rfl
        have cy4 : wr.cell? ⟨b2, o2 + k * 6 + 4, none⟩ = some (.int .i64 y5) := hc2 4 _ rfl
        have cy5 : wr.cell? ⟨b2, o2 + k * 6 + 5, none⟩ = some (.string y6) := hc2 5 _ rfl
        have hw1 : IntKind.i64.wrap ((k : Int) + 1) = ((k + 1 : Nat) : Int) := by rw [IntWalk.i64_in _ (by omega)]; omega
        clear hc1 hc2 hx hy
        by_cases hxy : ((x1, x2, x3, x4, x5, x6) : Int × Int × ByteArray × ByteArray × Int × ByteArray) = (y1, y2, y3, y4, y5, y6)
        · have HT2 : Hid (l.take (k + 1) = m.take (k + 1)) := Lib.hid (by rw [List.take_add_one, List.take_add_one, hT.out, HX.out, HY.out, hxy])
          obtain ⟨e1, hxy⟩ := Prod.mk.inj hxy; obtain ⟨e2, hxy⟩ := Prod.mk.inj hxy; obtain ⟨e3, hxy⟩ := Prod.mk.inj hxy; obtain ⟨e4, hxy⟩ := Prod.mk.inj hxy; obtain ⟨e5, hxy⟩ := Prod.mk.inj hxy
          have e6 := hxy
          clear hxy
          subst e1; subst e2; subst e3; subst e4; subst e5; subst e6
          have hne := neqFe_no x1 x2 x3 x4 x5 x6
          go_wp2_with fail
          go_region
          all_goals (
            go_wp2
            go_roundw
            case rel => exact ⟨k + 1, by omega, by go_num, HT2, Below.drew hB⟩
            case measure => simp [intOf]; omega)
        · have HR : Hid (decide (l = m) = false) := Lib.hid (by
            rw [decide_eq_false_iff_not]
            rintro rfl
            have := HX.out.symm.trans HY.out
            injection this with this
            exact hxy this)
          have hne := neqFe_yes hxy
          clear hxy
          go_wp2_with fail
          go_region
          all_goals (
            go_wp2
            go_ret
            exact ⟨ret_bool HR.out.symm, Below.drew hB⟩)
      · obtain rfl : k = l.length := by omega
        have HR : Hid (decide (l = m) = true) := Lib.hid (by
          rw [decide_eq_true_eq]
          have := hT.out
          rw [List.take_length, HLM.out, List.take_length] at this
          exact this)
        go_wp2
        go_ret
        exact ⟨ret_bool HR.out.symm, hB⟩
  · have hi : ¬ ((l.length : Nat) : Int) = ((m.length : Nat) : Int) := by omega
    have HR : Hid (decide (l = m) = false) := Lib.hid (by
      rw [decide_eq_false_iff_not]
      intro h
      exact hlm (congrArg List.length h))
    go_enter Tryz.func43, Tryz.ntmps43
    go_wp2
    go_ret
    exact ⟨ret_bool HR.out.symm, Below.refl _ _⟩
set_option maxHeartbeats 1000000 in
set_option maxRecDepth 100000 in
theorem CloneOr_any {l : List _} (v : Value) (w : World) (hlen : l.length ≤ 1000000) (rl : RecR TOr w 0 v l) :
    Calls Tryz.prog 120 #[v] w fun e w' => ∃ v', e = .returned v' ∧ OwnR TOr w' w.heap.size v' l ∧ Below w.heap.size w w' := by
  have q51 : ∀ (w : World) (a : Option Addr) (n c n' c' : Nat), (binOp .eql 77 (.slice a n c) (.slice none n' c')).run Tryz.prog w = .ok (.bool a.isNone) w := fun w a n c n' c' => Lib.run_eql_slice_nil w _ _ a n c n' c' Tryz.underlying77
  obtain ⟨a, cap, rfl, h1, h2⟩ := rl.form
  cases a with
  | none =>
    have hn : l = [] := by
      cases l with
      | nil => rfl
      | cons x r =>
        obtain ⟨b, o, e, _⟩ := rl.at TOr.ok.len (i := 0) (x := x) rfl TOr.ok.pos
        cases e
    subst hn
    clear rl
    go_enter Tryz.func120, Tryz.ntmps120
    go_wp2
    go_ret
    exact ⟨_, rfl, OwnR.nil _ _, Below.refl _ _⟩
  | some ad =>
    obtain ⟨_, _, hv, _, _, h3⟩ := rl
    obtain ⟨rfl, _, _⟩ := Value.slice.inj hv
    have HC : Hid (∀ j u, (l.flatMap TOr.f)[j]? = some u → (w.alloc (.cells #[] TOr.e)).cell? (ad.add j) = some u) := Lib.hid (by
      intro j u hj
      obtain ⟨b', o', e, _, hb, hcell⟩ := h3 j u hj
      injection e with e
      subst e
      have : (⟨b', o', none⟩ : Addr).add j = ⟨b', o' + j, none⟩ := by unfold Addr.add; split <;> simp_all
      rw [this]
      exact (World.cell?_alloc_past _ _ _ hb).trans hcell)
    obtain ⟨i, hi, hz0, hz1, hz2⟩ := info_parts TOr.ok.info
    have HL := Lib.hid hlen
    have HF := Lib.hid (flat_len TOr.ok.len l)
    have HO := Lib.hid (fun u (hu : u ∈ l.flatMap TOr.f) => by
      obtain ⟨x, _, hx⟩ := List.mem_flatMap.1 hu
      exact TOr.ok.one x u hx)
    have HB := Lib.hid (Nat.mul_le_mul (show l.length ≤ 1000000 from hlen) TOr.ok.small)
    clear hv h3 hlen
    go_enter Tryz.func120, Tryz.ntmps120
    go_wp2_with (at_builtin; refine wpList_append_own _ rfl _ _ TOr.S rfl w.heap.size TOr.e i _ TOr.k TOr.b TOr.ok.sl hi hz0 hz1 hz2 TOr.ok.zs TOr.ok.pos _ 0 [] rfl (World.ownsRow_made w #[] 0 (Nat.le_refl _) (by decide) rfl) ad l.length cap (l.flatMap TOr.f) rfl HF.out HC.out HO.out (by unfold maxLen; have := HL.out; omega) (by have := HB.out; rw [Nat.zero_add]; omega) (by simp) ?c2)
    case c2 =>
      intro v' w' h4 h5 _
      have hbw : Below w.heap.size w w' := by
        have hg := h5
        refine ⟨hg.os, hg.tape, hg.output, Nat.le_trans (by simp) hg.size, fun k hk => ?_⟩
        rw [hg.block k (by simp; omega) (by simp [Value.ownBlock]; omega)]
        exact heap_alloc_old w _ hk
      go_wp2
      go_ret
      exact ⟨_, rfl, by unfold OwnR; simpa using h4, hbw⟩
theorem neqOr_no (x1 x2 x3 : _) (W : World) : (binOp .neq 81 (.agg #[.string x1, .string x2, .int .i64 x3]) (.agg #[.string x1, .string x2, .int .i64 x3])).run Tryz.prog W = .ok (.bool false) W := by
  go_simp
theorem neqOr_yes {x1 x2 x3 y1 y2 y3 : _} (hxy : ((x1, x2, x3) : ByteArray × ByteArray × Int) ≠ (y1, y2, y3)) (W : World) : (binOp .neq 81 (.agg #[.string x1, .string x2, .int .i64 x3]) (.agg #[.string y1, .string y2, .int .i64 y3])).run Tryz.prog W = .ok (.bool true) W := by
  go_simp
  intro e1 e2 e3
  first
    | (exact hxy (by subst e1; subst e2; subst e3; rfl))
    | (have e1 := ba_inj e1; have e2 := ba_inj e2; exact hxy (by subst e1; subst e2; subst e3; rfl))
set_option maxHeartbeats 4000000 in
set_option maxRecDepth 100000 in
theorem EqualOr_any (l m : List (ByteArray × ByteArray × Int)) (v u : Value) (w : World) (_hl : l.length ≤ 1000000) (hm : m.length ≤ 1000000) (rl : RecR TOr w 0 v l) (rm : RecR TOr w 0 u m) :
    Calls Tryz.prog 47 #[v, u] w fun e w' => e = .returned (.bool (decide (l = m))) ∧ Below w.heap.size w w' := by
  obtain ⟨a, ca, rfl, _, _⟩ := rl.form
  obtain ⟨b, cb, rfl, _, _⟩ := rm.form
  have RL := Lib.hid rl
  have RM := Lib.hid rm
  clear rl rm
  by_cases hlm : l.length = m.length
  · have HLM := Lib.hid hlm
    have hmk : ∀ k, k < l.length → k < m.length := fun k h => by omega
    rw [← hlm]
    clear hlm
    go_enter Tryz.func47, Tryz.ntmps47
    go_wp2_with fail
    go_loopw [13] (fun i wr => ∃ k : Nat, k ≤ l.length ∧ i = .int .i64 k ∧ Hid (l.take k = m.take k) ∧ Below w.heap.size w wr) (fun i _ => l.length - (intOf i).toNat)
    case atStart => exact ⟨0, Nat.zero_le _, rfl, Lib.hid (by simp), Below.refl _ _⟩
    case round =>
      obtain ⟨k, hk, rfl, hT, hB⟩ := hrel
      by_cases hlt : k < l.length
      · obtain ⟨x, hx⟩ : ∃ x, l[k]? = some x := ⟨_, List.getElem?_eq_getElem hlt⟩
        obtain ⟨y, hy⟩ : ∃ y, m[k]? = some y := ⟨_, List.getElem?_eq_getElem (hmk k hlt)⟩
        obtain ⟨b1, o1, rfl, _, _, hc1⟩ := (RL.out.below hB).at TOr.ok.len hx TOr.ok.pos
        obtain ⟨b2, o2, rfl, _, _, hc2⟩ := (RM.out.below hB).at TOr.ok.len hy TOr.ok.pos
        have HX := Lib.hid hx
        have HY := Lib.hid hy
        obtain ⟨x1, x2, x3⟩ := x
        obtain ⟨y1, y2, y3⟩ := y
        have cx0 : wr.cell? ⟨b1, o1 + k * 3, none⟩ = some (.string x1) := hc1 0 _ rfl
        have cx1 : wr.cell? ⟨b1, o1 + k * 3 + 1, none⟩ = some (.string x2) := hc1 1 _ rfl
        have cx2 : wr.cell? ⟨b1, o1 + k * 3 + 2, none⟩ = some (.int .i64 x3) := hc1 2 _ rfl
        have cy0 : wr.cell? ⟨b2, o2 + k * 3, none⟩ = some (.string y1) := hc2 0 _ rfl
        have cy1 : wr.cell? ⟨b2, o2 + k * 3 + 1, none⟩ = some (.string y2) := hc2 1 _ rfl
        have cy2 : wr.cell? ⟨b2, o2 + k * 3 + 2, none⟩ = some (.int .i64 y3) := hc2 2 _ rfl
        have hw1 : IntKind.i64.wrap ((k : Int) + 1) = ((k + 1 : Nat) : Int) := by rw [IntWalk.i64_in _ (by omega)]; omega
        clear hc1 hc2 hx hy
        by_cases hxy : ((x1, x2, x3) : ByteArray × ByteArray × Int) = (y1, y2, y3)
        · have HT2 : Hid (l.take (k + 1) = m.take (k + 1)) := Lib.hid (by rw [List.take_add_one, List.take_add_one, hT.out, HX.out, HY.out, hxy])
          obtain ⟨e1, hxy⟩ := Prod.mk.inj hxy; obtain ⟨e2, hxy⟩ := Prod.mk.inj hxy
          have e3 := hxy
          clear hxy
          subst e1; subst e2; subst e3
          have hne := neqOr_no x1 x2 x3
          go_wp2_with fail
          go_region
          all_goals (
            go_wp2
            go_roundw
            case rel => exact ⟨k + 1, by omega, by go_num, HT2, Below.drew hB⟩
            case measure => simp [intOf]; omega)
        · have HR : Hid (decide (l = m) = false) := Lib.hid (by
            rw [decide_eq_false_iff_not]
            rintro rfl
            have := HX.out.symm.trans HY.out
            injection this with this
            exact hxy this)
          have hne := neqOr_yes hxy
          clear hxy
          go_wp2_with fail
          go_region
          all_goals (
            go_wp2
            go_ret
            exact ⟨ret_bool HR.out.symm, Below.drew hB⟩)
      · obtain rfl : k = l.length := by omega
        have HR : Hid (decide (l = m) = true) := Lib.hid (by
          rw [decide_eq_true_eq]
          have := hT.out
          rw [List.take_length, HLM.out, List.take_length] at this
          exact this)
        go_wp2
        go_ret
        exact ⟨ret_bool HR.out.symm, hB⟩
  · have hi : ¬ ((l.length : Nat) : Int) = ((m.length : Nat) : Int) := by omega
    have HR : Hid (decide (l = m) = false) := Lib.hid (by
      rw [decide_eq_false_iff_not]
      intro h
      exact hlm (congrArg List.length h))
    go_enter Tryz.func47, Tryz.ntmps47
    go_wp2
    go_ret
    exact ⟨ret_bool HR.out.symm, Below.refl _ _⟩
theorem neqLo_no (x1 x2 : _) (W : World) : (binOp .neq 65 (.agg #[.string x1, .int .i64 x2]) (.agg #[.string x1, .int .i64 x2])).run Tryz.prog W = .ok (.bool false) W := by
  go_simp
theorem neqLo_yes {x1 x2 y1 y2 : _} (hxy : ((x1, x2) : ByteArray × Int) ≠ (y1, y2)) (W : World) : (binOp .neq 65 (.agg #[.string x1, .int .i64 x2]) (.agg #[.string y1, .int .i64 y2])).run Tryz.prog W = .ok (.bool true) W := by
  go_simp
  intro e1 e2
  first
    | (exact hxy (by subst e1; subst e2; rfl))
    | (have e1 := ba_inj e1; exact hxy (by subst e1; subst e2; rfl))
set_option maxHeartbeats 4000000 in
set_option maxRecDepth 100000 in
theorem EqualLo_any (l m : List (ByteArray × Int)) (v u : Value) (w : World) (_hl : l.length ≤ 1000000) (hm : m.length ≤ 1000000) (rl : RecR TLo w 0 v l) (rm : RecR TLo w 0 u m) :
    Calls Tryz.prog 34 #[v, u] w fun e w' => e = .returned (.bool (decide (l = m))) ∧ Below w.heap.size w w' := by
  obtain ⟨a, ca, rfl, _, _⟩ := rl.form
  obtain ⟨b, cb, rfl, _, _⟩ := rm.form
  have RL := Lib.hid rl
  have RM := Lib.hid rm
  clear rl rm
  by_cases hlm : l.length = m.length
  · have HLM := Lib.hid hlm
    have hmk : ∀ k, k < l.length → k < m.length := fun k h => by omega
    rw [← hlm]
    clear hlm
    go_enter Tryz.func34, Tryz.ntmps34
    go_wp2_with fail
    go_loopw [13] (fun i wr => ∃ k : Nat, k ≤ l.length ∧ i = .int .i64 k ∧ Hid (l.take k = m.take k) ∧ Below w.heap.size w wr) (fun i _ => l.length - (intOf i).toNat)
    case atStart => exact ⟨0, Nat.zero_le _, rfl, Lib.hid (by simp), Below.refl _ _⟩
    case round =>
      obtain ⟨k, hk, rfl, hT, hB⟩ := hrel
      by_cases hlt : k < l.length
      · obtain ⟨x, hx⟩ : ∃ x, l[k]? = some x := ⟨_, List.getElem?_eq_getElem hlt⟩
        obtain ⟨y, hy⟩ : ∃ y, m[k]? = some y := ⟨_, List.getElem?_eq_getElem (hmk k hlt)⟩
        obtain ⟨b1, o1, rfl, _, _, hc1⟩ := (RL.out.below hB).at TLo.ok.len hx TLo.ok.pos
        obtain ⟨b2, o2, rfl, _, _, hc2⟩ := (RM.out.below hB).at TLo.ok.len hy TLo.ok.pos
        have HX := Lib.hid hx
        have HY := Lib.hid hy
        obtain ⟨x1, x2⟩ := x
        obtain ⟨y1, y2⟩ := y
        have cx0 : wr.cell? ⟨b1, o1 + k * 2, none⟩ = some (.string x1) := hc1 0 _ rfl
        have cx1 : wr.cell? ⟨b1, o1 + k * 2 + 1, none⟩ = some (.int .i64 x2) := hc1 1 _ rfl
        have cy0 : wr.cell? ⟨b2, o2 + k * 2, none⟩ = some (.string y1) := hc2 0 _ rfl
        have cy1 : wr.cell? ⟨b2, o2 + k * 2 + 1, none⟩ = some (.int .i64 y2) := hc2 1 _ rfl
        have hw1 : IntKind.i64.wrap ((k : Int) + 1) = ((k + 1 : Nat) : Int) := by rw [IntWalk.i64_in _ (by omega)]; omega
        clear hc1 hc2 hx hy
        by_cases hxy : ((x1, x2) : ByteArray × Int) = (y1, y2)
        · have HT2 : Hid (l.take (k + 1) = m.take (k + 1)) := Lib.hid (by rw [List.take_add_one, List.take_add_one, hT.out, HX.out, HY.out, hxy])
          obtain ⟨e1, hxy⟩ := Prod.mk.inj hxy
          have e2 := hxy
          clear hxy
          subst e1; subst e2
          have hne := neqLo_no x1 x2
          go_wp2_with fail
          go_region
          all_goals (
            go_wp2
            go_roundw
            case rel => exact ⟨k + 1, by omega, by go_num, HT2, Below.drew hB⟩
            case measure => simp [intOf]; omega)
        · have HR : Hid (decide (l = m) = false) := Lib.hid (by
            rw [decide_eq_false_iff_not]
            rintro rfl
            have := HX.out.symm.trans HY.out
            injection this with this
            exact hxy this)
          have hne := neqLo_yes hxy
          clear hxy
          go_wp2_with fail
          go_region
          all_goals (
            go_wp2
            go_ret
            exact ⟨ret_bool HR.out.symm, Below.drew hB⟩)
      · obtain rfl : k = l.length := by omega
        have HR : Hid (decide (l = m) = true) := Lib.hid (by
          rw [decide_eq_true_eq]
          have := hT.out
          rw [List.take_length, HLM.out, List.take_length] at this
          exact this)
        go_wp2
        go_ret
        exact ⟨ret_bool HR.out.symm, hB⟩
  · have hi : ¬ ((l.length : Nat) : Int) = ((m.length : Nat) : Int) := by omega
    have HR : Hid (decide (l = m) = false) := Lib.hid (by
      rw [decide_eq_false_iff_not]
      intro h
      exact hlm (congrArg List.length h))
    go_enter Tryz.func34, Tryz.ntmps34
    go_wp2
    go_ret
    exact ⟨ret_bool HR.out.symm, Below.refl _ _⟩
end Go.Proofs.YtcfeoapbbkfbnaaGreatDoor
namespace Go.Proofs.YtcfeoapbbkfbnaaGreatDoor
open Go.RowKit Go.Sort Go.Maps

set_option maxHeartbeats 4000000 in
set_option maxRecDepth 100000 in
theorem STrace_any (L : Loc) (s : Sts) (N : Nat) (b : ByteArray) (w : World) (h : StM w L s N) (hb : b.size ≤ maxLen) (hn : (rowOr s.O b).length ≤ 1000000) :
    Calls Tryz.prog 87 #[.pointer (some ⟨L.S, 0, none⟩), .string b] w fun e w' => (∃ v, e = .returned v ∧ OwnR TOr w' w.heap.size v (rowOr s.O b)) ∧ Below w.heap.size w w' := by
  obtain ⟨hd, hlk, hO, _⟩ := h.rowOr b hb
  have c3 := h.cells.2.2.2.1
  obtain ⟨a, cap, hv, _, _⟩ := hO.form
  rw [hv] at hlk hO
  have HC := Lib.hid (CloneOr_any _ w hn hO.rec0)
  obtain ⟨M, hM⟩ : ∃ M, M = rowOr s.O b := ⟨_, rfl⟩
  rw [← hM] at hlk HC ⊢
  have hlt := h.lt.1
  clear h hO hv hM hn
  go_enter Tryz.func87, Tryz.ntmps87
  go_wp2_with fail
  refine HC.out.mono ?_
  rintro e w2 ⟨v, rfl, hO2, hb2⟩
  have HF := Lib.hid (And.intro hO2 hb2)
  clear hO2 hb2 HC
  go_wp2
  go_ret
  exact ⟨⟨_, rfl, HF.out.1⟩, HF.out.2⟩
/-- what a board is made of, as the model tells. -/
def traceM (rs : List Rel) (l : List Fed) (b : ByteArray) : List Org := orgL (runM 345686400000 (newM rs) 0 l).log b
theorem traceM_few {rs : List Rel} {l : List Fed} {b : ByteArray} (h : InvM (runM 345686400000 (newM rs) 0 l) l.length) (hl : l.length ≤ 900) : (traceM rs l b).length ≤ 1000000 := by
  have h1 := orgL_len (runM 345686400000 (newM rs) 0 l).log b
  have h2 := h.ll
  have h3 : l.length * l.length ≤ 900 * 900 := Nat.mul_le_mul hl hl
  unfold traceM
  omega
set_option maxHeartbeats 4000000 in
set_option maxRecDepth 100000 in
theorem Trace_any (rs : List Rel) (l : List Fed) (f : ByteArray) (vr vl : Value) (w : World) (hlr : rs.length ≤ 1000000) (hl : l.length ≤ 900) (rr : RecR TRe w 0 vr rs) (rl : RecR TFe w 0 vl l) (hzr : RelZ rs) (hz : FedZ l) (hk : f.size ≤ 140737488355328) :
    Calls Tryz.prog 40 #[vr, vl, .string f] w fun e w' => (∃ v, e = .returned (.tuple #[v, .int .i64 (askF (feedsF rs l) (keyB f) true 5)]) ∧ OwnR TOr w' w.heap.size v (if askF (feedsF rs l) (keyB f) true 5 = 0 then traceM rs l f else [])) ∧ Below w.heap.size w w' := by
  have HFA := Lib.hid (feederFault_any rs l f 0 vr vl w hlr (by omega) rr rl hzr hz hk)
  rw [show inB 0 0 345686399999 = true by decide] at HFA
  have RR := Lib.hid rr
  have RL := Lib.hid rl
  obtain ⟨ra, rc, rfl, _, _⟩ := rr.form
  obtain ⟨la, lc, rfl, _, _⟩ := rl.form
  obtain ⟨E, hE⟩ : ∃ E, E = askF (feedsF rs l) (keyB f) true 5 := ⟨_, rfl⟩
  rw [← hE] at HFA ⊢
  by_cases h0 : E = 0
  case neg =>
    have hb : (E == 0) = false := by simp [h0]
    have HV : Hid (∀ W, OwnR TOr W w.heap.size (.slice none 0 0) (if E = 0 then traceM rs l f else [])) := Lib.hid fun W => by rw [if_neg h0]; exact OwnR.nil _ _
    clear rr rl hE
    go_enter Tryz.func40, Tryz.ntmps40
    go_wp2_with fail
    refine HFA.out.mono ?_
    rintro e w2 ⟨rfl, hb2⟩
    have HB := Lib.hid hb2
    clear hb2
    go_wp2
    go_ret2
    exact ⟨⟨_, rfl, (by first | exact HV.out _ | exact OwnR.nil _ _)⟩, HB.out⟩
  case pos =>
    rw [hE] at h0
    have hok := feedsF_right (askF_zero h0 (by decide)).1
    rw [← hE] at h0
    have hkf := keyB_few (askF_zero (hE ▸ h0) (by decide)).2.1
    have HOK := Lib.hid hok
    have HKF := Lib.hid hkf
    have HLN := Lib.hid hl
    subst h0
    have HV : Hid (∀ W v, OwnR TOr W w.heap.size v (traceM rs l f) → OwnR TOr W w.heap.size v (if (0 : Int) = 0 then traceM rs l f else [])) := Lib.hid fun W v h => by rw [if_pos rfl]; exact h
    clear rr rl hE hok hkf
    go_enter Tryz.func40, Tryz.ntmps40
    go_wp2_with fail
    refine HFA.out.mono ?_
    rintro e w2 ⟨rfl, hb2⟩
    have HB2 := Lib.hid hb2
    have HAT := Lib.hid (storeAt_any rs l 345686400000 _ _ w2 (RR.out.below hb2) (RL.out.below hb2) HOK.out HLN.out)
    clear hb2
    go_wp2_with fail
    refine HAT.out.mono ?_
    rintro e w3 ⟨L, rfl, h3⟩
    obtain ⟨s, N, hS, hR⟩ := h3.st
    have hfew := traceM_few (b := f) h3.inv HLN.out
    have hor : rowOr s.O f = traceM rs l f := hR.org f
    have HLO := Lib.hid (STrace_any L s N f w3 hS (Nat.le_trans HKF.out.2 (by unfold maxLen; omega)) (by rw [hor]; exact hfew))
    rw [hor] at HLO
    have HB3 := Lib.hid (Bl.trans HB2.out h3.bel)
    clear h3 hS hR hor hfew HAT
    go_wp2_with fail
    refine HLO.out.mono ?_
    rintro e w4 ⟨⟨v, rfl, hO⟩, hb4⟩
    have HF := Lib.hid (And.intro (HV.out _ v (hO.base HB3.out.size)) (Bl.trans HB3.out hb4))
    clear hO hb4 HLO
    go_wp2
    go_ret2
    exact ⟨⟨_, rfl, HF.out.1⟩, HF.out.2⟩
end Go.Proofs.YtcfeoapbbkfbnaaGreatDoor
namespace Go.Proofs.YtcfeoapbbkfbnaaGreatDoor
open Go.RowKit Go.Sort

section
variable {α : Type} {T : Rty α}
/-- the first records of a row. -/
def TopR (T : Rty α) (w : World) (B g n cap : Nat) (l : List α) : Prop := B ≤ g ∧ n ≤ cap ∧ cap ≤ maxLen ∧ l.length = n ∧ ∃ cur, w.heap[g]? = some (.cells cur T.e (0, 0)) ∧ cur.size = cap * T.k ∧ cur.toList.take (n * T.k) = l.flatMap T.f
theorem TopR.own (hT : T.Ok) {w : World} {B g n cap : Nat} {l : List α} (h : TopR T w B g n cap l) : OwnR T w B (.slice (some ⟨g, 0, none⟩) n cap) l := by
  obtain ⟨h1, h2, h3, h4, cur, h5, h6, h7⟩ := h
  refine ⟨flat_len hT.len l, .inr ⟨g, cap, cur, by rw [h4], h1, h5, by omega, h3, h6, ?_⟩⟩
  rw [h4]; exact h7
theorem TopR.set {w : World} {B g n cap : Nat} {l : List α} (h : TopR T w B g n cap l) {o : Nat} (ho : n * T.k ≤ o) (v : Value) : TopR T (w.setCell ⟨g, o, none⟩ v) B g n cap l := by
  obtain ⟨h1, h2, h3, h4, cur, h5, h6, h7⟩ := h
  exact ⟨h1, h2, h3, h4, _, blk_set h5 o v, by simp [h6], by rw [Array.toList_setIfInBounds, List.take_set_of_le ho]; exact h7⟩
theorem TopR.sets {B g n cap : Nat} {l : List α} : ∀ (vs : List Value) (o : Nat) {w : World}, TopR T w B g n cap l → n * T.k ≤ o → TopR T (w.setCells g o vs) B g n cap l
  | [], _, _, h, _ => h
  | v :: r, o, _, h, ho => TopR.sets r (o + 1) (h.set ho v) (by omega)
theorem BlR.sets {B g : Nat} {a : World} (hg : B ≤ g) : ∀ (vs : List Value) (o : Nat) {w : World}, Below B a w → Below B a (w.setCells g o vs)
  | [], _, _, h => h
  | v :: r, o, _, h => BlR.sets hg r (o + 1) (Bl.set h g o hg v)
theorem flat_take {f : α → List Value} {k : Nat} (h : ∀ x, (f x).length = k) : ∀ (l : List α) (n : Nat), (l.take n).flatMap f = (l.flatMap f).take (n * k)
  | [], n => by simp
  | x :: l, 0 => by simp
  | x :: l, n + 1 => by
    rw [List.take_succ_cons, List.flatMap_cons, List.flatMap_cons, flat_take h l n, Nat.succ_mul, Nat.add_comm (n * k) k, ← h x, List.take_length_add_append]
theorem top_ofR (hT : T.Ok) {w : World} {B g n N cap : Nat} {l' l : List α} (h : OwnR T w B (.slice (some ⟨g, 0, none⟩) N cap) l') (hN : l'.length = N) (h0 : 0 < N) (hn : n ≤ N) (hl : l'.take n = l) : TopR T w B g n cap l := by
  obtain ⟨g', cap', cur, hv, hB, hb, h1, h2, h3, h4⟩ := h.blk (by intro e; rw [e] at hN; simp at hN; omega)
  injection hv with e1 e2 e3
  injection e1 with e1
  injection e1 with e1
  subst e1 e3
  refine ⟨hB, by omega, h2, by rw [← hl, List.length_take]; omega, cur, hb, h3, ?_⟩
  rw [← hl, flat_take hT.len, ← h4, List.take_take]
  congr 1
  rw [hN, Nat.min_eq_left (Nat.mul_le_mul_right _ hn)]
/-- 'clear(s)' of records: cells behind the place that s begins at turn, nothing else. -/
theorem run_clear_rec {P : Program} (w : World) (t e : TypeId) (z : Value) (ht : P.underlying t = some (.slice e)) (hv : ∀ w, (zeroValue e).run P w = .ok z w) (h1 : ∀ v ∈ z.cells.toList, v.oneCell' = true) (hz : 0 < z.cells.size) (b o n c : Nat) (hn : 0 < n)
    (hc : ∀ j, j < n * z.cells.size → (w.cell? ⟨b, o + j, none⟩).isSome = true) (hf : ∀ j, j < n * z.cells.size → w.frozen? ⟨b, o + j, none⟩ = false) :
    ∃ vs, ∀ ty, (Builtin.clear_ #[t] ty #[.slice (some ⟨b, o, none⟩) n c]).run P w = .ok (.tuple #[]) (w.setCells b o vs) := by
  obtain ⟨vs, hvs⟩ : ∃ vs, vs = (Builtin.zeroCells z.cells n).toList := ⟨_, rfl⟩
  refine ⟨vs, fun ty => ?_⟩
  have hlen : vs.length = n * z.cells.size := by rw [hvs]; simp [Builtin.zeroCells]
  have hone : ∀ v ∈ vs, v.oneCell' = true := fun v hv' => by
    rw [hvs] at hv'
    simp only [Builtin.zeroCells, Array.toList_map, List.mem_map] at hv'
    obtain ⟨i, _, rfl⟩ := hv'
    have hi : i % z.cells.size < z.cells.size := Nat.mod_lt _ hz
    rw [getElem!_pos z.cells _ hi]
    exact h1 _ (by simp)
  have hst := run_storeCells_cells (P := P) b o vs 0 w (by rw [hlen]; simpa using hc) (by rw [hlen]; simpa using hf) hone
  simp only [Nat.add_zero] at hst
  obtain ⟨m, rfl⟩ : ∃ m, n = m + 1 := ⟨n - 1, by omega⟩
  rw [hvs] at hst ⊢
  simp [Builtin.clear_, run_underlying ht, hv, hst]
end
def cntB (e : Fed) : Bool := e.2.1 == 5
abbrev cntV : Value := .func (.func 49) #[] #[]
theorem cnt_any (e : Fed) (W : World) : Calls Tryz.prog 49 #[fedV e] W fun r w' => r = .returned (.bool (cntB e)) ∧ Below W.heap.size W w' := by
  obtain ⟨t, kd, fd, rk, mn, bd⟩ := e
  obtain ⟨r, hr⟩ : ∃ r, r = cntB (t, kd, fd, rk, mn, bd) := ⟨_, rfl⟩
  have hv : (kd == 5) = r := hr.symm
  have hX := blk_new W (.cells #[.int .i64 t, .int .i64 kd, .string fd, .string rk, .int .i64 mn, .string bd] 76)
  have hb := Bl.alloc (Below.refl W.heap.size W) (.cells #[.int .i64 t, .int .i64 kd, .string fd, .string rk, .int .i64 mn, .string bd] 76)
  have c1 := blk_cell hX 1
  simp at c1
  rw [← hr]
  clear hr hX
  unfold fedV
  go_enter Tryz.func49, Tryz.ntmps49
  go_wp2
  go_ret
  exact ⟨rfl, hb⟩
def noCnt (l : List Fed) : List Fed := l.filter fun e => !cntB e
set_option maxHeartbeats 2000000 in
theorem IndexCnt_any (l : List Fed) (v : Value) (w : World) (_hlen : l.length ≤ 1000) (rl : RecR TFe w 0 v l) :
    Calls Tryz.prog 95 #[v, cntV] w fun e w' => (∃ r : Int, e = .returned (.int .i64 r) ∧ ((r = -1 ∧ noCnt l = l) ∨ ∃ i : Nat, r = i ∧ i < l.length ∧ noCnt (l.take (i + 1)) = l.take i)) ∧ Below w.heap.size w w' := by
  obtain ⟨a, cap, rfl, _, _⟩ := rl.form
  have RL := Lib.hid rl
  clear rl
  go_enter Tryz.func95, Tryz.ntmps95
  go_wp2
  go_loopw [8] (fun i wr => ∃ k : Nat, k ≤ l.length ∧ i = .int .i64 k ∧ Hid (noCnt (l.take k) = l.take k) ∧ Below w.heap.size w wr) (fun i _ => l.length - (intOf i).toNat)
  case atStart => exact ⟨0, Nat.zero_le _, rfl, Lib.hid rfl, Below.refl _ _⟩
  case round =>
    obtain ⟨k, hk, rfl, hf, hb⟩ := hrel
    by_cases hlt : k < l.length
    · obtain ⟨x, hx⟩ : ∃ t, l[k]? = some t := ⟨_, List.getElem?_eq_getElem hlt⟩
      have HS : Hid (l.take (k + 1) = l.take k ++ [x]) := Lib.hid (by rw [List.take_add_one, hx]; rfl)
      have HC := Lib.hid (cnt_any x wr)
      obtain ⟨q, hq⟩ : ∃ q, q = cntB x := ⟨_, rfl⟩
      rw [← hq] at HC
      obtain ⟨b1, o1, hae, _, hb1, hc1⟩ := (RL.out.below hb).at TFe.ok.len hx TFe.ok.pos
      subst hae
      obtain ⟨t, kd, fd, rk, mn, bd⟩ := x
      have c0 : wr.cell? ⟨b1, o1 + k * 6, none⟩ = some (.int .i64 t) := hc1 0 _ rfl
      have c1 : wr.cell? ⟨b1, o1 + k * 6 + 1, none⟩ = some (.int .i64 kd) := hc1 1 _ rfl
      have c2 : wr.cell? ⟨b1, o1 + k * 6 + 2, none⟩ = some (.string fd) := hc1 2 _ rfl
      have c3 : wr.cell? ⟨b1, o1 + k * 6 + 3, none⟩ = some (.string rk) := hc1 3 _ rfl
      have c4 : wr.cell? ⟨b1, o1 + k * 6 + 4, none⟩ = some (.int .i64 mn) := hc1 4 _ rfl
      have c5 : wr.cell? ⟨b1, o1 + k * 6 + 5, none⟩ = some (.string bd) := hc1 5 _ rfl
      have hw1 : IntKind.i64.wrap ((k : Int) + 1) = ((k + 1 : Nat) : Int) := by rw [IntWalk.i64_in _ (by omega)]; omega
      unfold fedV at HC
      have HQ := Lib.hid hq
      clear hx hc1 hq
      cases q
      · have HN : Hid (noCnt (l.take (k + 1)) = l.take (k + 1)) := Lib.hid (by rw [HS.out]; unfold noCnt at hf ⊢; rw [List.filter_append, hf.out]; simp [← HQ.out])
        go_wp2_with (go_at_call 49; refine HC.out.mono ?_; rintro e w2 ⟨rfl, hb2⟩)
        go_roundw
        case rel => exact ⟨k + 1, by omega, by go_num, HN, hb.trans (hb2.mono hb.size)⟩
        case measure => simp [intOf]; omega
      · have HN : Hid (noCnt (l.take (k + 1)) = l.take k) := Lib.hid (by rw [HS.out]; unfold noCnt at hf ⊢; rw [List.filter_append, hf.out]; simp [← HQ.out])
        go_wp2_with (go_at_call 49; refine HC.out.mono ?_; rintro e w2 ⟨rfl, hb2⟩)
        go_ret
        exact ⟨⟨_, rfl, .inr ⟨k, rfl, hlt, HN.out⟩⟩, hb.trans (hb2.mono hb.size)⟩
    · have hk2 : k = l.length := by omega
      subst hk2
      have hff := hf.out
      rw [List.take_length] at hff
      go_wp2
      go_ret
      exact ⟨⟨_, rfl, .inl ⟨rfl, hff⟩⟩, hb⟩
/-- where DeleteFunc stands: the first n are what is kept of the first j. -/
structure DelC (B g N cap n j : Nat) (l : List Fed) (wr : World) (l' : List Fed) : Prop where
  len : l'.length = N
  own : OwnR TFe wr B (.slice (some ⟨g, 0, none⟩) N cap) l'
  top : l'.take n = noCnt (l.take j)
  rest : ∀ x, j ≤ x → l'[x]? = l[x]?
theorem DelC.skip {B g N cap n j : Nat} {l : List Fed} {wr w' : World} {l' : List Fed} (h : DelC B g N cap n j l wr l') {t : Fed} (ht : l[j]? = some t) (hq : cntB t = true) (hb : Below wr.heap.size wr w') : DelC B g N cap n (j + 1) l w' l' := by
  refine ⟨h.len, h.own.below hb, ?_, fun x hx => h.rest x (by omega)⟩
  rw [h.top, List.take_add_one, ht]
  unfold noCnt
  simp [hq]
theorem DelC.keep {B g N cap n j : Nat} {l : List Fed} {wr w' : World} {l' : List Fed} (h : DelC B g N cap n j l wr l') {t : Fed} (ht : l[j]? = some t) (hq : cntB t = false) (hO : OwnR TFe w' B (.slice (some ⟨g, 0, none⟩) N cap) (l'.set n t)) (hnj : n < j) (hjN : j < N) : DelC B g N cap (n + 1) (j + 1) l w' (l'.set n t) := by
  have hnl : n < l'.length := by rw [h.len]; omega
  refine ⟨by rw [List.length_set, h.len], hO, ?_, fun x hx => ?_⟩
  · rw [List.take_add_one, List.take_set_of_le (Nat.le_refl n), h.top, List.take_add_one, ht]
    unfold noCnt
    simp [hq, hnl]
  · rw [List.getElem?_set_ne (by omega)]; exact h.rest x (by omega)
/-- a record written over another one. -/
theorem OwnR.over {w : World} {B g n cap i : Nat} {l : List Fed} (h : OwnR TFe w B (.slice (some ⟨g, 0, none⟩) n cap) l) (hn : n = l.length) (hi : i < n) (t kd : Int) (fd rk : ByteArray) (mn : Int) (bd : ByteArray) :
    OwnR TFe ((((((w.setCell ⟨g, i * 6, none⟩ (.int .i64 t)).setCell ⟨g, i * 6 + 1, none⟩ (.int .i64 kd)).setCell ⟨g, i * 6 + 2, none⟩ (.string fd)).setCell ⟨g, i * 6 + 3, none⟩ (.string rk)).setCell ⟨g, i * 6 + 4, none⟩ (.int .i64 mn)).setCell ⟨g, i * 6 + 5, none⟩ (.string bd)) B (.slice (some ⟨g, 0, none⟩) n cap) (l.set i (t, kd, fd, rk, mn, bd)) := by
  subst hn
  obtain ⟨⟨x0, x1, x2, x3, x4, x5⟩, hx⟩ : ∃ x, l[i]? = some x := ⟨_, List.getElem?_eq_getElem hi⟩
  have s0 := h.setf (fo := 0) (x' := (t, x1, x2, x3, x4, x5)) (v := .int .i64 t) TFe.ok rfl hx (by decide) rfl
  have s1 := s0.setf (fo := 1) (x := (t, x1, x2, x3, x4, x5)) (x' := (t, kd, x2, x3, x4, x5)) (v := .int .i64 kd) TFe.ok (by rw [List.length_set]) (List.getElem?_set_self hi) (by decide) rfl
  rw [List.set_set] at s1
  have s2 := s1.setf (fo := 2) (x := (t, kd, x2, x3, x4, x5)) (x' := (t, kd, fd, x3, x4, x5)) (v := .string fd) TFe.ok (by rw [List.length_set]) (List.getElem?_set_self hi) (by decide) rfl
  rw [List.set_set] at s2
  have s3 := s2.setf (fo := 3) (x := (t, kd, fd, x3, x4, x5)) (x' := (t, kd, fd, rk, x4, x5)) (v := .string rk) TFe.ok (by rw [List.length_set]) (List.getElem?_set_self hi) (by decide) rfl
  rw [List.set_set] at s3
  have s4 := s3.setf (fo := 4) (x := (t, kd, fd, rk, x4, x5)) (x' := (t, kd, fd, rk, mn, x5)) (v := .int .i64 mn) TFe.ok (by rw [List.length_set]) (List.getElem?_set_self hi) (by decide) rfl
  rw [List.set_set] at s4
  have s5 := s4.setf (fo := 5) (x := (t, kd, fd, rk, mn, x5)) (x' := (t, kd, fd, rk, mn, bd)) (v := .string bd) TFe.ok (by rw [List.length_set]) (List.getElem?_set_self hi) (by decide) rfl
  rw [List.set_set] at s5
  exact s5
set_option maxHeartbeats 8000000 in
set_option maxRecDepth 100000 in
theorem DeleteCnt_any (l : List Fed) (v : Value) (w : World) (B : Nat) (hB : B ≤ w.heap.size) (hlen : l.length ≤ 1000) (hO : OwnR TFe w B v l) :
    Calls Tryz.prog 48 #[v, cntV] w fun e w' => (∃ v', e = .returned v' ∧ OwnR TFe w' B v' (noCnt l)) ∧ Below B w w' := by
  have HI := Lib.hid (IndexCnt_any l v w hlen hO.rec0)
  obtain ⟨a, n, cap, hv, hn⟩ : ∃ a n cap, v = .slice a n cap ∧ n = l.length := by obtain ⟨a, cap, hv, _, _⟩ := hO.form; exact ⟨a, _, cap, hv, rfl⟩
  subst hv
  have HO := Lib.hid hO
  have HN := Lib.hid hn
  have hn5 : n ≤ 1000 := by omega
  clear hO hn hlen
  go_enter Tryz.func48, Tryz.ntmps48
  go_wp2_with fail
  refine HI.out.mono ?_
  rintro e w1 ⟨⟨r, rfl, hr⟩, hb1⟩
  rcases hr with ⟨rfl, hall⟩ | ⟨i, rfl, hi, h2⟩
  · have HR := Lib.hid (show OwnR TFe w1 B (.slice a n cap) (noCnt l) by rw [hall]; exact HO.out.below hb1)
    clear hall
    go_wp2
    go_ret
    exact ⟨⟨_, rfl, HR.out⟩, hb1.mono hB⟩
  · obtain ⟨g, cap', cur, hv2, hBg, hgb, hn1, hn2, _⟩ := HO.out.blk (by intro e; rw [e] at hi; simp at hi)
    obtain ⟨rfl, hxx, rfl⟩ := Value.slice.inj hv2
    clear hxx
    rw [← HN.out] at hn1
    have hin : i < n := by have := HN.out; omega
    have hne : ((i : Int) == -1) = false := by simp
    have hw0 : IntKind.i64.wrap ((i : Int) + 1) = ((i + 1 : Nat) : Int) := by rw [IntWalk.i64_in _ (by omega)]; omega
    have HD0 : Hid (DelC B g n cap i (i + 1) l w1 l) := Lib.hid ⟨HN.out.symm, HO.out.below hb1, h2.symm, fun _ _ => rfl⟩
    have hcap : cap ≤ 9223372036854775807 := by unfold maxLen at hn2; omega
    clear h2 hgb hv2 hi
    go_wp2_with fail
    go_loopw [5, 6] (fun a b wr => ∃ (m j : Nat) (l' : List Fed), a = .int .i64 m ∧ b = .int .i64 j ∧ m < j ∧ j ≤ n ∧ Hid (DelC B g n cap m j l wr l') ∧ Below B w wr) (fun _ b _ => n - (intOf b).toNat)
    case atStart => exact ⟨i, i + 1, _, rfl, by go_num, by omega, by omega, HD0, hb1.mono hB⟩
    case round =>
      obtain ⟨m, j, l', rfl, rfl, hmj, hjn, HD, hbr⟩ := hrel
      have hwj : IntKind.i64.wrap ((j : Int) + 1) = ((j + 1 : Nat) : Int) := by rw [IntWalk.i64_in _ (by omega)]; omega
      have hwm : IntKind.i64.wrap ((m : Int) + 1) = ((m + 1 : Nat) : Int) := by rw [IntWalk.i64_in _ (by omega)]; omega
      by_cases hlt : j < n
      · obtain ⟨x, ht⟩ : ∃ t, l[j]? = some t := ⟨_, List.getElem?_eq_getElem (by rw [← HN.out]; exact hlt)⟩
        have HT := Lib.hid ht
        obtain ⟨t, kd, fd, rk, mn, bd⟩ := x
        have hlj : l'[j]? = some (t, kd, fd, rk, mn, bd) := by rw [HD.out.rest j (Nat.le_refl _)]; exact ht
        have c0 : wr.cell? ⟨g, j * 6, none⟩ = some (.int .i64 t) := (HD.out.own.cellf (fo := 0) (i := j) TFe.ok HD.out.len.symm hlj rfl).1
        have c1 : wr.cell? ⟨g, j * 6 + 1, none⟩ = some (.int .i64 kd) := (HD.out.own.cellf (fo := 1) (i := j) TFe.ok HD.out.len.symm hlj rfl).1
        have c2 : wr.cell? ⟨g, j * 6 + 2, none⟩ = some (.string fd) := (HD.out.own.cellf (fo := 2) (i := j) TFe.ok HD.out.len.symm hlj rfl).1
        have c3 : wr.cell? ⟨g, j * 6 + 3, none⟩ = some (.string rk) := (HD.out.own.cellf (fo := 3) (i := j) TFe.ok HD.out.len.symm hlj rfl).1
        have c4 : wr.cell? ⟨g, j * 6 + 4, none⟩ = some (.int .i64 mn) := (HD.out.own.cellf (fo := 4) (i := j) TFe.ok HD.out.len.symm hlj rfl).1
        have c5 : wr.cell? ⟨g, j * 6 + 5, none⟩ = some (.string bd) := (HD.out.own.cellf (fo := 5) (i := j) TFe.ok HD.out.len.symm hlj rfl).1
        obtain ⟨w5, hw5⟩ : ∃ w5, w5 = wr.alloc (.cells #[.int .i64 t, .int .i64 kd, .string fd, .string rk, .int .i64 mn, .string bd] 76) := ⟨_, rfl⟩
        have hb5 : Below wr.heap.size wr w5 := by rw [hw5]; exact Bl.alloc (Below.refl _ _) _
        have hX5 : w5.heap[wr.heap.size]? = some (.cells #[.int .i64 t, .int .i64 kd, .string fd, .string rk, .int .i64 mn, .string bd] 76 (0, 0)) := by rw [hw5]; exact blk_new wr _
        have hzr := hbr.size
        have hgl := (World.ownsRow.lt HD.out.own g rfl).2
        obtain ⟨q, hq⟩ : ∃ q, q = cntB (t, kd, fd, rk, mn, bd) := ⟨_, rfl⟩
        have HC := Lib.hid (cnt_any (t, kd, fd, rk, mn, bd) w5)
        rw [← hq] at HC
        have HQ := Lib.hid hq
        unfold fedV at HC
        have HX5 := Lib.hid hX5
        have HB5 := Lib.hid hb5
        clear ht hlj hq hX5 hb5
        cases q
        · go_wp2_with fail
          rw [← hw5]
          clear hw5
          refine HC.out.mono ?_
          rintro e w2 ⟨rfl, hb2⟩
          have hX2 := blk_below HX5.out hb2
          have y0 := blk_cell hX2 0
          have y1 := blk_cell hX2 1
          have y2 := blk_cell hX2 2
          have y3 := blk_cell hX2 3
          have y4 := blk_cell hX2 4
          have y5 := blk_cell hX2 5
          simp at y0 y1 y2 y3 y4 y5
          have hb52 := HB5.out.trans (hb2.mono HB5.out.size)
          have hml : m < l'.length := by rw [HD.out.len]; omega
          obtain ⟨⟨x0, x1, x2, x3, x4, x5⟩, hx⟩ : ∃ x, l'[m]? = some x := ⟨_, List.getElem?_eq_getElem hml⟩
          have hO2 := HD.out.own.below hb52
          obtain ⟨d0, f0⟩ := hO2.cellf (fo := 0) (i := m) TFe.ok HD.out.len.symm hx rfl
          obtain ⟨d1, f1⟩ := hO2.cellf (fo := 1) (i := m) TFe.ok HD.out.len.symm hx rfl
          obtain ⟨d2, f2⟩ := hO2.cellf (fo := 2) (i := m) TFe.ok HD.out.len.symm hx rfl
          obtain ⟨d3, f3⟩ := hO2.cellf (fo := 3) (i := m) TFe.ok HD.out.len.symm hx rfl
          obtain ⟨d4, f4⟩ := hO2.cellf (fo := 4) (i := m) TFe.ok HD.out.len.symm hx rfl
          obtain ⟨d5, f5⟩ := hO2.cellf (fo := 5) (i := m) TFe.ok HD.out.len.symm hx rfl
          replace d0 : w2.cell? ⟨g, m * 6, none⟩ = some (.int .i64 x0) := d0
          replace d1 : w2.cell? ⟨g, m * 6 + 1, none⟩ = some (.int .i64 x1) := d1
          replace d2 : w2.cell? ⟨g, m * 6 + 2, none⟩ = some (.string x2) := d2
          replace d3 : w2.cell? ⟨g, m * 6 + 3, none⟩ = some (.string x3) := d3
          replace d4 : w2.cell? ⟨g, m * 6 + 4, none⟩ = some (.int .i64 x4) := d4
          replace d5 : w2.cell? ⟨g, m * 6 + 5, none⟩ = some (.string x5) := d5
          replace f0 : w2.frozen? ⟨g, m * 6, none⟩ = false := f0
          replace f1 : w2.frozen? ⟨g, m * 6 + 1, none⟩ = false := f1
          replace f2 : w2.frozen? ⟨g, m * 6 + 2, none⟩ = false := f2
          replace f3 : w2.frozen? ⟨g, m * 6 + 3, none⟩ = false := f3
          replace f4 : w2.frozen? ⟨g, m * 6 + 4, none⟩ = false := f4
          replace f5 : w2.frozen? ⟨g, m * 6 + 5, none⟩ = false := f5
          have hover := OwnR.over hO2 HD.out.len.symm (by omega : m < n) t kd fd rk mn bd
          have HK := Lib.hid (HD.out.keep HT.out HQ.out.symm hover hmj hlt)
          have hb3 := Lib.hid (Bl.set (Bl.set (Bl.set (Bl.set (Bl.set (Bl.set (hbr.trans (hb52.mono (Nat.le_trans hB hzr))) g (m * 6) hBg (.int .i64 t)) g (m * 6 + 1) hBg (.int .i64 kd)) g (m * 6 + 2) hBg (.string fd)) g (m * 6 + 3) hBg (.string rk)) g (m * 6 + 4) hBg (.int .i64 mn)) g (m * 6 + 5) hBg (.string bd))
          have hmn : m < n := by omega
          have lt2 := blk_lt hX2
          clear hx hb2 hb52 hO2 hover hX2 HX5 HB5 c0 c1 c2 c3 c4 c5
          go_wp2
          go_roundw
          case rel => exact ⟨m + 1, j + 1, _, by go_num, by go_num, by omega, by omega, HK, hb3.out⟩
          case measure => simp [intOf]; omega
        · go_wp2_with fail
          rw [← hw5]
          clear hw5
          refine HC.out.mono ?_
          rintro e w2 ⟨rfl, hb2⟩
          have hb52 := HB5.out.trans (hb2.mono HB5.out.size)
          have HK := Lib.hid (HD.out.skip HT.out HQ.out.symm hb52)
          have hb3 := hbr.trans (hb52.mono (Nat.le_trans hB hzr))
          clear hb2 hb52
          go_wp2
          go_roundw
          case rel => exact ⟨m, j + 1, _, rfl, by go_num, by omega, by omega, HK, hb3⟩
          case measure => simp [intOf]; omega
      · obtain rfl : j = n := by omega
        have hcells : ∀ t, t < j * 6 → (wr.cell? ⟨g, t, none⟩).isSome = true ∧ wr.frozen? ⟨g, t, none⟩ = false := fun t ht => by
          obtain ⟨y, hy⟩ : ∃ y, l'[t / 6]? = some y := ⟨_, List.getElem?_eq_getElem (by rw [HD.out.len]; omega)⟩
          obtain ⟨u, hu⟩ : ∃ u, (TFe.f y)[t % 6]? = some u := ⟨_, List.getElem?_eq_getElem (by rw [TFe.ok.len]; exact Nat.mod_lt _ (by decide))⟩
          obtain ⟨d1, f1⟩ := HD.out.own.cellf (fo := t % 6) (i := t / 6) (x := y) TFe.ok HD.out.len.symm hy hu
          rw [show t / 6 * TFe.k + t % 6 = t by show t / 6 * 6 + t % 6 = t; omega] at d1 f1
          exact ⟨by rw [d1]; rfl, f1⟩
        obtain ⟨vs, hvs⟩ : ∃ vs, ∀ ty, (Builtin.clear_ #[28] ty #[.slice (some ⟨g, m * 6, none⟩) (j - m) (cap - m)]).run Tryz.prog wr = .ok (.tuple #[]) (wr.setCells g (m * 6) vs) :=
          run_clear_rec (P := Tryz.prog) wr 28 76 TFe.z Tryz.underlying28 Tryz.zeroValue76 (by intro v hv; simp [TFe, Value.cells] at hv; rcases hv with rfl | rfl | rfl | rfl | rfl | rfl <;> rfl) (by simp [TFe, Value.cells]) g (m * 6) (j - m) (cap - m) (by omega)
            (fun t ht => (hcells (m * 6 + t) (by have : TFe.z.cells.size = 6 := rfl; rw [this] at ht; omega)).1) (fun t ht => (hcells (m * 6 + t) (by have : TFe.z.cells.size = 6 := rfl; rw [this] at ht; omega)).2)
        have HT := Lib.hid (TopR.own TFe.ok (TopR.sets vs (m * 6) (top_ofR TFe.ok HD.out.own HD.out.len (by omega) (by omega) (by rw [HD.out.top, HN.out, List.take_length]) : TopR TFe wr B g m cap (noCnt l)) (Nat.le_refl _)))
        have hb4 := BlR.sets hBg vs (m * 6) hbr
        clear hcells
        go_wp2
        go_ret
        exact ⟨⟨_, rfl, HT.out⟩, hb4⟩
end Go.Proofs.YtcfeoapbbkfbnaaGreatDoor
namespace Go.Proofs.YtcfeoapbbkfbnaaGreatDoor
open Go.RowKit Go.Sort Go.Maps Go.Shelf Go.Lib

def hasO (l : List Org) (key : ByteArray) : Bool := l.any fun x => x.2.1.toList == key.toList
set_option maxHeartbeats 1000000 in
theorem hasO1_any (x : Org) (key : ByteArray) (B : Nat) (w : World) (hB : w.heap[B]? = some (.cells #[.string key] 9 (0, 0))) :
    Calls Tryz.prog 134 #[.agg #[.string x.1, .string x.2.1, .int .i64 x.2.2], .pointer (some ⟨B, 0, none⟩)] w fun e w' => e = .returned (.bool (x.2.1.toList == key.toList)) ∧ Below w.heap.size w w' := by
  obtain ⟨k, p, m⟩ := x
  have hX := blk_new w (.cells #[.string k, .string p, .int .i64 m] 81)
  have hb := Bl.alloc (Below.refl w.heap.size w) (.cells #[.string k, .string p, .int .i64 m] 81)
  have c0 : (w.alloc (.cells #[.string k, .string p, .int .i64 m] 81)).cell? ⟨w.heap.size, 1, none⟩ = some (.string p) := blk_cell hX 1
  have c1 : (w.alloc (.cells #[.string k, .string p, .int .i64 m] 81)).cell? ⟨B, 0, none⟩ = some (.string key) := blk_cell (blk_old hB _) 0
  clear hX hB
  go_enter Tryz.func134, Tryz.ntmps134
  go_wp2
  go_ret
  exact ⟨rfl, hb⟩
set_option maxHeartbeats 2000000 in
theorem IndexOr_any (l : List Org) (key : ByteArray) (B : Nat) (v : Value) (w : World) (_hl : l.length ≤ 1000000) (hB : w.heap[B]? = some (.cells #[.string key] 9 (0, 0))) (rl : RecR TOr w 0 v l) :
    Calls Tryz.prog 173 #[v, .func (.func 134) #[] #[.pointer (some ⟨B, 0, none⟩)]] w fun e w' => (∃ r : Int, e = .returned (.int .i64 r) ∧ decide (0 ≤ r) = hasO l key) ∧ Below w.heap.size w w' := by
  obtain ⟨a, cap, rfl, hc1, hc2⟩ := rl.form
  have HB0 := Lib.hid hB
  have RL := Lib.hid rl
  clear hB rl
  go_enter Tryz.func173, Tryz.ntmps173
  go_wp2
  go_loopw [8] (fun i wr => ∃ k : Nat, k ≤ l.length ∧ i = .int .i64 k ∧ Hid (hasO (l.take k) key = false) ∧ Below w.heap.size w wr) (fun i _ => l.length - (intOf i).toNat)
  case atStart => exact ⟨0, Nat.zero_le _, rfl, Lib.hid rfl, Below.refl _ _⟩
  case round =>
    obtain ⟨k, hk, rfl, hf, hb⟩ := hrel
    by_cases hlt : k < l.length
    · obtain ⟨t, ht⟩ : ∃ t, l[k]? = some t := ⟨_, List.getElem?_eq_getElem hlt⟩
      have HS : Hid (hasO (l.take (k + 1)) key = (hasO (l.take k) key || t.2.1.toList == key.toList)) := Lib.hid (by unfold hasO; rw [List.take_add_one, ht]; simp)
      have HM := Lib.hid (List.mem_of_getElem? ht)
      have HC := Lib.hid (hasO1_any t key B wr (blk_below HB0.out hb))
      obtain ⟨b2', o2, rfl, _, hl2, hx2⟩ := (RL.out.below hb).at TOr.ok.len ht TOr.ok.pos
      obtain ⟨ky, pt, mn⟩ := t
      have c0 : wr.cell? ⟨b2', o2 + k * 3, none⟩ = some (.string ky) := hx2 0 _ rfl
      have c1 : wr.cell? ⟨b2', o2 + k * 3 + 1, none⟩ = some (.string pt) := hx2 1 _ rfl
      have c2 : wr.cell? ⟨b2', o2 + k * 3 + 2, none⟩ = some (.int .i64 mn) := hx2 2 _ rfl
      have hw1 : IntKind.i64.wrap ((k : Int) + 1) = ((k + 1 : Nat) : Int) := by rw [IntWalk.i64_in _ (by omega)]; omega
      clear ht hx2
      obtain ⟨q, hq⟩ : ∃ q, q = (pt.toList == key.toList) := ⟨_, rfl⟩
      simp only [← hq] at HC HS
      have HQ := Lib.hid hq
      clear hq
      go_wp2_with fail
      refine HC.out.mono ?_
      rintro e w2 ⟨rfl, hb2⟩
      have hb02 := Bl.trans hb hb2
      clear hb2
      cases q
      · go_wp2
        go_roundw
        case rel => exact ⟨k + 1, by omega, by go_num, Lib.hid (by rw [HS.out, hf.out]; rfl), hb02⟩
        case measure => simp [intOf]; omega
      · go_wp2
        go_ret
        refine ⟨⟨_, rfl, ?_⟩, hb02⟩
        have : hasO l key = true := List.any_eq_true.2 ⟨_, HM.out, HQ.out.symm⟩
        rw [this]; simp
    · obtain rfl : k = l.length := by omega
      rw [List.take_length] at hf
      go_wp2
      go_ret
      exact ⟨⟨_, rfl, by rw [hf.out]; rfl⟩, hb⟩
theorem ContainsOr_any (l : List Org) (key : ByteArray) (B : Nat) (v : Value) (w : World) (hl : l.length ≤ 1000000) (hB : w.heap[B]? = some (.cells #[.string key] 9 (0, 0))) (rl : RecR TOr w 0 v l) :
    Calls Tryz.prog 133 #[v, .func (.func 134) #[] #[.pointer (some ⟨B, 0, none⟩)]] w fun e w' => e = .returned (.bool (hasO l key)) ∧ Below w.heap.size w w' := by
  obtain ⟨a, cap, rfl, _, _⟩ := rl.form
  have HI := Lib.hid (IndexOr_any l key B _ w hl hB rl)
  clear rl
  go_enter Tryz.func133, Tryz.ntmps133
  go_wp2_with fail
  refine HI.out.mono ?_
  rintro e w2 ⟨⟨r, rfl, hr⟩, hb⟩
  have HR := Lib.hid hr
  clear hr
  go_wp2
  go_ret
  exact ⟨ret_bool HR.out, hb⟩
abbrev keyOfO : Value := .func (.func 172) #[] #[]
theorem keysO_any (gm : Nat) (W : World) : Calls Tryz.prog 132 #[.map (some gm)] W fun e w' => e = .returned (.func (.func 172) #[] #[.pointer (some ⟨W.heap.size, 0, none⟩)]) ∧ w' = W.alloc (.cells #[.map (some gm)] 127) :=
  callsIn_wide.1 (Tryz.maps_Keys_132 (some gm) W)
theorem sortedO_any (b : Nat) (m : Sm Hdr) (w : World) (hown : MapS TMo w b m) (hmax : m.length ≤ 1000000) :
    Calls Tryz.prog 101 #[.func (.func 172) #[] #[.pointer (some ⟨w.heap.size, 0, none⟩)]] (w.alloc (.cells #[.map (some b)] 127)) fun e w' => ∃ (v : Value), e = .returned v ∧ OwnR TS w' w.heap.size v (m.keys.map baOf) ∧ Below w.heap.size w w' := by
  have hsz : Maps.size (DataW.map (smD TMo m)) ≤ 1000000 := by show (smD TMo m).length ≤ _; unfold smD; rw [List.length_map]; exact hmax
  refine (callsIn_wide.1 (Tryz.slices_Sorted_keys_101_132 b _ _ _ w hown.2 (by unfold maxLen; omega) (by omega))).mono ?_
  rintro e w' ⟨v, ss, rfl, hS, hrow, hnil, hb⟩
  rw [smD_keys] at hS
  exact ⟨v, rfl, own_keys hown.1 hS (ownsRow_base_a hrow (by simp)), ((Below.refl _ w).alloc (Nat.le_refl _) _).trans (hb.mono (by simp))⟩
theorem okO_of {O : Ods} (h : Sm.Ok (hdS O)) : Sm.Ok O := List.pairwise_map.1 h
/-- the boards with components of a reel, by their names. -/
def boardsO (O : Ods) (key : ByteArray) : List Bs := (O.filter fun p => hasO p.2.2 key).map (·.1)
theorem boardsO_take {O : Ods} {k : Nat} {p : Bs × (Hdr × List Org)} (hp : O[k]? = some p) (key : ByteArray) : boardsO (O.take (k + 1)) key = boardsO (O.take k) key ++ if hasO p.2.2 key = true then [p.1] else [] := by
  have : O.take (k + 1) = O.take k ++ [p] := by rw [List.take_add_one, hp]; rfl
  rw [this]
  unfold boardsO
  rw [List.filter_append, List.map_append]
  by_cases h : hasO p.2.2 key = true
  · rw [if_pos h]; simp [h]
  · rw [if_neg h]; simp [h]
theorem keysH_at {O : Ods} {k : Nat} {p : Bs × (Hdr × List Org)} (h : O[k]? = some p) : ((hdS O).keys.map baOf)[k]? = some (baOf p.1) := by
  unfold Sm.keys hdS
  simp [h]
set_option maxHeartbeats 4000000 in
set_option maxRecDepth 100000 in
theorem SBoards_any (L : Loc) (s : Sts) (N : Nat) (key : ByteArray) (w : World) (h : StM w L s N) (hm : s.O.length ≤ 1000000) (hn : ∀ p ∈ s.O, p.1.length ≤ 1000 ∧ p.2.2.length ≤ 1000000) :
    Calls Tryz.prog 96 #[.pointer (some ⟨L.S, 0, none⟩), .string key] w fun e w' => (∃ v, e = .returned v ∧ OwnR TS w' w.heap.size v ((boardsO s.O key).map baOf)) ∧ Below w.heap.size w w' := by
  have hlt := h.lt.1
  have c3 := h.cells.2.2.2.1
  have hmf : ∀ (fn : Fn) (first cap : Array Value) (w : World), (Instr.makeFunc fn first cap).run Tryz.prog w = .ok (.func fn first cap) w := fun _ _ _ _ => rfl
  obtain ⟨w1, hw1⟩ : ∃ w1, w1 = w.alloc (.cells #[.string key] 9) := ⟨_, rfl⟩
  have hb1 : Below w.heap.size w w1 := by rw [hw1]; exact Bl.alloc (Below.refl _ _) _
  have hK1 : w1.heap[w.heap.size]? = some (.cells #[.string key] 9 (0, 0)) := by rw [hw1]; exact blk_new w _
  have h1 := h.low hb1
  have c3 := h1.cells.2.2.2.1
  have hlt1 := h1.lt.1
  have HSO := Lib.hid (sortedO_any L.m3 _ w1 h1.sb.mO (by rw [hdS_len]; exact hm))
  have H1 := Lib.hid h1
  have HK1 := Lib.hid hK1
  have HB1 := Lib.hid hb1
  have HNM := Lib.hid hn
  have HM := Lib.hid hm
  clear h hb1 hK1 h1 hn
  go_enter Tryz.func96, Tryz.ntmps96
  go_wp2_with fail
  rw [← hw1]
  clear hw1
  refine (keysO_any L.m3 w1).mono ?_
  rintro e w' ⟨rfl, rfl⟩
  go_wp2_with fail
  refine HSO.out.mono ?_
  rintro e w2 ⟨v, rfl, hO, hb2⟩
  obtain ⟨va, vc, rfl, _, _⟩ := hO.form
  have hlk : ((Sm.keys (hdS s.O)).map baOf).length = s.O.length := by rw [List.length_map, keys_len, hdS_len]
  have HO := Lib.hid hO
  rw [hlk]
  have HLK := Lib.hid hlk
  have HB2 := Lib.hid hb2
  clear hO hlk hb2 c3 HSO
  go_wp2_with fail
  go_loopw [5, 15] (fun ov i wr => ∃ (k : Nat), k ≤ s.O.length ∧ i = .int .i64 k ∧ Hid (OwnR TS wr w2.heap.size ov ((boardsO (s.O.take k) key).map baOf)) ∧ Hid (Below w2.heap.size w2 wr)) (fun _ i _ => s.O.length - (intOf i).toNat)
  case atStart => exact ⟨0, Nat.zero_le _, rfl, Lib.hid (OwnR.nil _ _), Lib.hid (Below.refl _ _)⟩
  case round =>
    obtain ⟨k, hk, rfl, HOV, HB⟩ := hrel
    have HBr := Lib.hid (Bl.trans HB2.out HB.out)
    by_cases hlt : k < s.O.length
    case pos =>
      obtain ⟨⟨ks, hd, row⟩, hp⟩ : ∃ p, s.O[k]? = some p := ⟨_, List.getElem?_eq_getElem hlt⟩
      have hpm := List.mem_of_getElem? hp
      have hnm : (baOf ks).size ≤ maxLen := by
        have := (HNM.out _ hpm).1
        have e : (baOf ks).size = ks.length := by show ks.toArray.size = _; simp
        rw [e]; unfold maxLen; simp only at this; omega
      have HIS := Lib.hid (boardsO_take hp key)
      have hSr := H1.out.low HBr.out
      obtain ⟨b1, o1, hae, _, hl1, hx1⟩ := str_at (HO.out.rec0.below HB.out) (keysH_at hp)
      simp only at hx1
      subst hae
      have d3 := hSr.cells.2.2.2.1
      have hget : s.O.get (baOf ks).data.toList = some (hd, row) := by
        rw [show (baOf ks).data.toList = ks from bsOf_baOf ks]
        exact Sm.get_of_mem (okO_of hSr.sb.mO.1) hpm
      obtain ⟨hd2, hlk, hOR, _⟩ := hSr.rowOr (baOf ks) hnm
      have hrow : rowOr s.O (baOf ks) = row := by unfold rowOr; rw [hget]
      rw [hrow] at hOR
      obtain ⟨xa, xc, hxv, _, _⟩ := hOR.form
      rw [hxv] at hlk hOR
      have hrl := (HNM.out _ hpm).2
      have HCO := Lib.hid (ContainsOr_any row key w.heap.size _ wr hrl (blk_below HK1.out HBr.out) hOR.rec0)
      have hw1 : IntKind.i64.wrap ((k : Int) + 1) = ((k + 1 : Nat) : Int) := by have := HM.out; rw [IntWalk.i64_in _ (by omega)]; omega
      have lt1 := hSr.lt.1
      have hal : (boardsO (s.O.take k) key).length ≤ 1000000 := by
        have h1 : (boardsO (s.O.take k) key).length ≤ (s.O.take k).length := by unfold boardsO; rw [List.length_map]; exact List.length_filter_le _ _
        have h2 := HM.out
        rw [List.length_take] at h1
        omega
      have hsz := HB.out.size
      obtain ⟨oa, oc, hov, _, _⟩ := HOV.out.form
      rw [List.length_map] at hov
      subst hov
      obtain ⟨q, hq⟩ : ∃ q, q = hasO row key := ⟨_, rfl⟩
      rw [← hq] at HCO
      simp only [← hq] at HIS
      clear hp hpm hSr hget hOR hrow hrl hq hxv
      cases q
      case false =>
        rw [if_neg (by decide), List.append_nil] at HIS
        go_wp2_with fail
        refine HCO.out.mono ?_
        rintro e w5 ⟨rfl, hb5⟩
        have HO5 := Lib.hid (And.intro (HOV.out.below hb5) (Bl.trans HB.out hb5))
        clear hb5 HCO
        go_wp2
        go_roundw
        case rel => exact ⟨k + 1, by omega, by go_num, Lib.hid (by rw [HIS.out]; exact HO5.out.1), Lib.hid HO5.out.2⟩
        case measure => simp [intOf]; omega
      case true =>
        rw [if_pos rfl] at HIS
        go_wp2_with fail
        refine HCO.out.mono ?_
        rintro e w5 ⟨rfl, hb5⟩
        have HO5 := Lib.hid (And.intro (HOV.out.below hb5) (Bl.trans HB.out hb5))
        have hz5 := hb5.size
        clear hb5 HCO
        go_wp2_with (at_builtin; refine wp_app_rec TS.ok rfl _ _ rfl w2.heap.size _ ((boardsO (s.O.take k) key).map baOf) rfl (HO5.out.1.alloc _) w5.heap.size 1 (baOf ks) rfl (blk_new w5 _) rfl (by rw [List.length_map]; exact hal) (by simp; omega) ?_)
        intro v9 w9 hO9 hA9 hb9
        have HO9 := Lib.hid hO9
        have HB9 := Lib.hid ((Bl.alloc HO5.out.2 _).trans hb9)
        clear hO9 hA9 hb9
        go_wp2
        go_roundw
        case rel => exact ⟨k + 1, by omega, by go_num, Lib.hid (by rw [HIS.out, List.map_append]; exact HO9.out), HB9⟩
        case measure => simp [intOf]; omega
    case neg =>
      obtain rfl : k = s.O.length := by omega
      rw [List.take_length] at HOV
      have HF := Lib.hid (Bl.trans HB1.out HBr.out)
      go_wp2
      go_ret
      exact ⟨⟨_, rfl, HOV.out.base (by have := HB1.out.size; have := HB2.out.size; omega)⟩, HF.out⟩
theorem boardsO_mem {O : Ods} (hok : Sm.Ok O) (key b : ByteArray) : b ∈ (boardsO O key).map baOf ↔ hasO (rowOr O b) key = true := by
  unfold boardsO
  constructor
  · intro h
    obtain ⟨k, hk, rfl⟩ := List.mem_map.1 h
    obtain ⟨p, hp, rfl⟩ := List.mem_map.1 hk
    obtain ⟨hp1, hp2⟩ := List.mem_filter.1 hp
    obtain ⟨ks, v⟩ := p
    unfold rowOr
    rw [show (baOf ks).data.toList = ks from bsOf_baOf ks, Sm.get_of_mem hok hp1]
    exact hp2
  · intro h
    unfold rowOr at h
    cases hg : O.get b.data.toList with
    | none => rw [hg] at h; simp [hasO] at h
    | some p =>
      rw [hg] at h
      exact List.mem_map.2 ⟨b.data.toList, List.mem_map.2 ⟨(b.data.toList, p), List.mem_filter.2 ⟨Sm.get_mem hg, h⟩, rfl⟩, by unfold baOf; simp⟩
theorem boardsO_sorted {O : Ods} (hok : Sm.Ok O) (key : ByteArray) : (boardsO O key).Pairwise fun a b => bytesBefore a b = true := by
  unfold boardsO
  exact List.pairwise_map.2 (List.Pairwise.filter _ hok)
/-- the boards with components of a reel: sorted, and just those of the log. -/
structure BrdL (rs : List Rel) (l : List Fed) (key : ByteArray) (M : List ByteArray) : Prop where
  mem : ∀ b, b ∈ M ↔ hasO (traceM rs l b) key = true
  sorted : (M.map bsOf).Pairwise fun a b => bytesBefore a b = true
  few : M.length ≤ l.length * l.length
set_option maxHeartbeats 4000000 in
set_option maxRecDepth 100000 in
theorem BrdsR_any (rs : List Rel) (l : List Fed) (f : ByteArray) (vr vl : Value) (w : World) (hlr : rs.length ≤ 1000000) (hl : l.length ≤ 900) (rr : RecR TRe w 0 vr rs) (rl : RecR TFe w 0 vl l) (hzr : RelZ rs) (hz : FedZ l) :
    Calls Tryz.prog 50 #[vr, vl, .string f] w fun e w' => (∃ v M, e = .returned (.tuple #[v, .int .i64 (askF (feedsF rs l) (hasB rs f) true 8)]) ∧ OwnR TS w' w.heap.size v M ∧ (askF (feedsF rs l) (hasB rs f) true 8 = 0 → BrdL rs l f M) ∧ (askF (feedsF rs l) (hasB rs f) true 8 ≠ 0 → M = [])) ∧ Below w.heap.size w w' := by
  have HFA := Lib.hid (reelFault_any rs l f 0 vr vl w hlr (by omega) rr rl hzr hz)
  rw [show inB 0 0 345686399999 = true by decide] at HFA
  have RR := Lib.hid rr
  have RL := Lib.hid rl
  obtain ⟨ra, rc, rfl, _, _⟩ := rr.form
  obtain ⟨la, lc, rfl, _, _⟩ := rl.form
  obtain ⟨E, hE⟩ : ∃ E, E = askF (feedsF rs l) (hasB rs f) true 8 := ⟨_, rfl⟩
  rw [← hE] at HFA ⊢
  by_cases h0 : E = 0
  case neg =>
    have hb : (E == 0) = false := by simp [h0]
    have HNE := Lib.hid h0
    clear rr rl hE
    go_enter Tryz.func50, Tryz.ntmps50
    go_wp2_with fail
    refine HFA.out.mono ?_
    rintro e w2 ⟨rfl, hb2⟩
    have HB := Lib.hid hb2
    clear hb2
    go_wp2
    go_ret2
    exact ⟨⟨_, [], rfl, OwnR.nil _ _, fun h => absurd h HNE.out, fun _ => rfl⟩, HB.out⟩
  case pos =>
    rw [hE] at h0
    have hok := feedsF_right (askF_zero h0 (by decide)).1
    rw [← hE] at h0
    have HOK := Lib.hid hok
    have HLN := Lib.hid hl
    subst h0
    clear rr rl hE hok
    go_enter Tryz.func50, Tryz.ntmps50
    go_wp2_with fail
    refine HFA.out.mono ?_
    rintro e w2 ⟨rfl, hb2⟩
    have HB2 := Lib.hid hb2
    have HAT := Lib.hid (storeAt_any rs l 345686400000 _ _ w2 (RR.out.below hb2) (RL.out.below hb2) HOK.out HLN.out)
    clear hb2
    go_wp2_with fail
    refine HAT.out.mono ?_
    rintro e w3 ⟨L, rfl, h3⟩
    obtain ⟨s, N, hS, hR⟩ := h3.st
    have hOk := okO_of hS.sb.mO.1
    have hrow : ∀ p ∈ s.O, p.2.2 = traceM rs l (baOf p.1) := fun p hp => by
      have := hR.org (baOf p.1)
      unfold rowOr at this
      rw [show (baOf p.1).data.toList = p.1 from bsOf_baOf p.1, Sm.get_of_mem hOk (show (p.1, p.2) ∈ s.O from hp)] at this
      exact this
    have hOL : s.O.length ≤ l.length * l.length := Nat.le_trans hR.fw h3.inv.ll
    have hON : s.O.length ≤ 1000000 := by
      have h4 : l.length * l.length ≤ 900 * 900 := Nat.mul_le_mul HLN.out HLN.out
      omega
    have HLO := Lib.hid (SBoards_any L s N f w3 hS hON (fun p hp => ⟨hR.nm p hp, by rw [hrow p hp]; exact traceM_few h3.inv HLN.out⟩))
    have HBL : Hid (BrdL rs l f ((boardsO s.O f).map baOf)) := Lib.hid ⟨fun b => by rw [boardsO_mem hOk, hR.org]; exact Iff.rfl, by
      have := boardsO_sorted hOk f
      rw [List.map_map, show (bsOf ∘ baOf) = id from funext bsOf_baOf, List.map_id]
      exact this, by rw [List.length_map]; unfold boardsO; rw [List.length_map]; exact Nat.le_trans (List.length_filter_le _ _) hOL⟩
    have HB3 := Lib.hid (Bl.trans HB2.out h3.bel)
    clear h3 hS hR hOk hrow hON HAT
    obtain ⟨M, hM⟩ : ∃ M, M = (boardsO s.O f).map baOf := ⟨_, rfl⟩
    rw [← hM] at HLO HBL
    clear hM
    go_wp2_with fail
    refine HLO.out.mono ?_
    rintro e w4 ⟨⟨v, rfl, hO⟩, hb4⟩
    have HF := Lib.hid (And.intro (hO.base HB3.out.size) (Bl.trans HB3.out hb4))
    clear hO hb4 HLO
    go_wp2
    go_ret2
    exact ⟨⟨_, M, rfl, HF.out.1, fun _ => HBL.out, fun h => absurd rfl h⟩, HF.out.2⟩
end Go.Proofs.YtcfeoapbbkfbnaaGreatDoor
namespace Go.Proofs.YtcfeoapbbkfbnaaGreatDoor
open Go.RowKit Go.Sort

def U3 : List ByteArray := [⟨#[117, 49]⟩, ⟨#[117, 50]⟩, ⟨#[117, 51]⟩]
def F2 : List ByteArray := [⟨#[102, 49]⟩, ⟨#[102, 50]⟩]
theorem hasB_key {rs : List Rel} {k : ByteArray} : hasB rs k = true ↔ k ∈ keysR rs := by
  unfold hasB keysR
  rw [List.any_eq_true, List.mem_map]
  constructor
  · rintro ⟨x, hx, h⟩; exact ⟨x, hx, ba_inj (by simpa using h)⟩
  · rintro ⟨x, hx, rfl⟩; exact ⟨x, hx, by simp⟩
theorem feedF_more {rs : List Rel} {p : Option Int} {e : Fed} (h : feedF rs p e = 0) : ((uR e.kd && !hasB rs e.rl) = false) ∧ kbB e = false := by
  unfold feedF at h
  split at h
  · cases h
  split at h
  · cases h
  split at h
  · cases h
  split at h
  · cases h
  rename_i h4
  split at h
  · cases h
  rename_i h5
  exact ⟨by simpa using h5, by simpa using h4⟩
theorem noCnt_sub (l : List Fed) : (noCnt l).Sublist l := List.filter_sublist
/-- what the walk of ComponentsAddUp rests on. -/
structure CaF (rs : List Rel) (g : List Fed) (A : Mdl) : Prop where
  f0 : feedsF rs g = 0
  e1 : runM 345686399999 (newM rs) 0 g = A
  e2 : runM 345686400000 (newM rs) 0 g = A
  inv : InvM A g.length
  c : InvC U3 rs A
  nd : (keysR rs).Nodup
  rz : ∀ x ∈ rs, 0 ≤ x.2.2 ∧ x.2.2 ≤ 100000
theorem caF {rs : List Rel} {fs : List Fed} (h : feedsF rs fs = 0) (hk : ∀ x ∈ fs, FedOk x) : CaF rs (noCnt fs) (runM 345686400000 (newM rs) 0 (noCnt fs)) := by
  have h0 := feedsF_sub (noCnt_sub fs) h
  have hok := feedsF_right h0
  have hR := feedsF_reels h0
  have hat : ∀ e ∈ noCnt fs, ¬ (345686400000 : Int) < e.at := fun e he => by have := hok.t e he; omega
  have hat2 : ∀ e ∈ noCnt fs, ¬ (345686399999 : Int) < e.at := fun e he => by have := hok.t e he; omega
  have hnd : (keysR rs).Nodup := sortR_nodup (reelsF_sorted hR).1
  have hf1 : feedsF1 rs none (noCnt fs) = 0 := by
    have := h0
    unfold feedsF at this
    rw [if_pos hR] at this
    split at this
    · cases this
    · exact this
  have hinv := runM_inv (at' := 345686400000) (noCnt fs) (newM rs) 0 0 (newM_inv fun r hr => (hok.rz r hr).2) hok.lz
  rw [Nat.zero_add] at hinv
  refine ⟨h0, runM_same _ _ _ hat2 hat, rfl, hinv, InvC.run hnd _ _ 0 (InvC.new _ _) fun e he => ?_, hnd, fun x hx => (hok.rz x hx).2⟩
  obtain ⟨m1, m2⟩ := feedF_more (((feedsF1_iff rs _ none).1 hf1).1 e he).1
  have hr := hok.lz e he
  refine ⟨?_, ⟨hr.k1, hr.k5⟩, fun h12 => ?_, fun h4 => ?_⟩
  · have := (List.mem_filter.1 he).2
    unfold cntB at this
    intro e5
    have e5' : e.2.1 = 5 := e5
    rw [e5'] at this
    cases this
  · have hu : uR e.kd = true := by unfold uR; rcases h12 with h | h <;> rw [h] <;> decide
    rw [hu, Bool.true_and] at m1
    exact hasB_key.1 (by simpa using m1)
  · have hkb : keyB e.bd = true := by
      unfold kbB at m2
      rw [Bool.or_eq_false_iff] at m2
      have hu : uB e.2.1 = true := by show uB e.kd = true; unfold uB; rw [h4]; decide
      have := m2.2
      rw [hu, Bool.true_and] at this
      simpa using this
    have hb := (hk e ((noCnt_sub fs).subset he)).2.2.2.2.2
    have hb' : BdOk e.bd := hb
    rcases hb' with hb | hb | hb | hb
    · rw [hb] at hkb; exact absurd hkb (by decide)
    · rw [hb]; simp [U3]
    · rw [hb]; simp [U3]
    · rw [hb]; simp [U3]
theorem orgL_mem {log : List Tkn} {b : ByteArray} {o : Org} (h : o ∈ orgL log b) : ∃ t ∈ log, t.2.2.1 = b ∧ o = (t.2.2.2.1, t.2.2.2.2.1, t.2.2.2.2.2) := by
  unfold orgL at h
  obtain ⟨t, ht, rfl⟩ := List.mem_map.1 h
  obtain ⟨h1, h2⟩ := List.mem_filter.1 ht
  exact ⟨t, h1, of_decide_eq_true h2, rfl⟩
theorem orgS_app : ∀ a b : List Org, orgS (a ++ b) = orgS a + orgS b
  | [], b => by show orgS b = 0 + orgS b; omega
  | x :: a, b => by
    have := orgS_app a b
    show x.2.2 + orgS (a ++ b) = x.2.2 + orgS a + orgS b
    omega
theorem orgS_nn : ∀ l : List Org, (∀ o ∈ l, 1 ≤ o.2.2) → 0 ≤ orgS l
  | [], _ => Int.le_refl _
  | x :: l, h => by
    have h1 := h x (List.mem_cons_self ..)
    have h2 := orgS_nn l fun o ho => h o (List.mem_cons_of_mem _ ho)
    show 0 ≤ x.2.2 + orgS l
    omega
theorem tookU_app (log : List Tkn) : ∀ a b : List ByteArray, tookU log (a ++ b) = tookU log a + tookU log b
  | [], b => by show tookU log b = 0 + tookU log b; omega
  | x :: a, b => by
    have := tookU_app log a b
    show orgS (orgL log x) + tookU log (a ++ b) = orgS (orgL log x) + tookU log a + tookU log b
    omega
theorem manyS_app : ∀ a b : List Rel, manyS (a ++ b) = manyS a + manyS b
  | [], b => by show manyS b = 0 + manyS b; omega
  | x :: a, b => by
    have := manyS_app a b
    show x.2.2 + manyS (a ++ b) = x.2.2 + manyS a + manyS b
    omega
theorem manyS_le : ∀ l : List Rel, (∀ x ∈ l, 0 ≤ x.2.2 ∧ x.2.2 ≤ 100000) → 0 ≤ manyS l ∧ manyS l ≤ 100000 * l.length
  | [], _ => ⟨Int.le_refl _, by simp [manyS]⟩
  | x :: l, h => by
    have h1 := h x (List.mem_cons_self ..)
    have h2 := manyS_le l fun o ho => h o (List.mem_cons_of_mem _ ho)
    show 0 ≤ x.2.2 + manyS l ∧ x.2.2 + manyS l ≤ _
    rw [List.length_cons]
    omega
theorem sumL_app (left : Lf) : ∀ a b : List ByteArray, sumL left (a ++ b) = sumL left a + sumL left b
  | [], b => by show sumL left b = 0 + sumL left b; omega
  | x :: a, b => by
    have := sumL_app left a b
    show left x + sumL left (a ++ b) = left x + sumL left a + sumL left b
    omega
theorem sumL_bd {left : Lf} (h : ∀ x, 0 ≤ left x ∧ left x ≤ 100000) : ∀ l : List ByteArray, 0 ≤ sumL left l ∧ sumL left l ≤ 100000 * l.length
  | [] => ⟨Int.le_refl _, by simp [sumL]⟩
  | x :: l => by
    have h1 := h x
    have h2 := sumL_bd h l
    show 0 ≤ left x + sumL left l ∧ left x + sumL left l ≤ _
    rw [List.length_cons]
    omega
section
variable {rs : List Rel} {g : List Fed} {A : Mdl}
theorem CaF.one (h : CaF rs g A) {b : ByteArray} {o : Org} (ho : o ∈ orgL A.log b) : 1 ≤ o.2.2 ∧ o.2.1 ∈ keysR rs := by
  obtain ⟨t, ht, _, rfl⟩ := orgL_mem ho
  exact ⟨(h.c.one t ht).1, (h.c.one t ht).2.1⟩
theorem CaF.nn (h : CaF rs g A) (b : ByteArray) : 0 ≤ orgS (orgL A.log b) := orgS_nn _ fun _ ho => (h.one ho).1
theorem CaF.nnU (h : CaF rs g A) : ∀ U : List ByteArray, 0 ≤ tookU A.log U
  | [] => Int.le_refl _
  | b :: U => by
    have h1 := h.nn b
    have h2 := h.nnU U
    show 0 ≤ orgS _ + tookU A.log U
    omega
theorem u3_nodup : U3.Nodup := by unfold U3; decide
theorem CaF.sum (h : CaF rs g A) : manyS rs = sumL A.left (keysR rs) + tookU A.log U3 := adds_up u3_nodup h.nd h.c
theorem CaF.took (h : CaF rs g A) (hr : rs.length ≤ 4) {k j : Nat} {b : ByteArray} (hb : U3[k]? = some b) : 0 ≤ tookU A.log (U3.take k) + orgS ((orgL A.log b).take j) ∧ tookU A.log (U3.take k) + orgS ((orgL A.log b).take j) ≤ 400000 := by
  obtain ⟨hk, e⟩ := List.getElem?_eq_some_iff.1 hb
  have h1 : U3 = U3.take k ++ (b :: U3.drop (k + 1)) := by
    rw [← e, ← List.drop_eq_getElem_cons hk, List.take_append_drop]
  have h2 : tookU A.log U3 = tookU A.log (U3.take k) + (orgS (orgL A.log b) + tookU A.log (U3.drop (k + 1))) := by
    have := tookU_app A.log (U3.take k) (b :: U3.drop (k + 1))
    rw [← h1] at this
    exact this
  have h3 : orgS (orgL A.log b) = orgS ((orgL A.log b).take j) + orgS ((orgL A.log b).drop j) := by
    rw [← orgS_app, List.take_append_drop]
  have h4 := orgS_nn ((orgL A.log b).take j) fun o ho => (h.one (List.mem_of_mem_take ho)).1
  have h5 := orgS_nn ((orgL A.log b).drop j) fun o ho => (h.one (List.mem_of_mem_drop ho)).1
  have h6 := h.nnU (U3.take k)
  have h7 := h.nnU (U3.drop (k + 1))
  have h8 := h.sum
  have h9 := (sumL_bd h.inv.lf (keysR rs)).1
  have h10 := (manyS_le rs h.rz).2
  omega
theorem CaF.tookAll (h : CaF rs g A) (hr : rs.length ≤ 4) (k : Nat) : 0 ≤ tookU A.log (U3.take k) ∧ tookU A.log (U3.take k) ≤ 400000 := by
  have h1 : tookU A.log U3 = tookU A.log (U3.take k) + tookU A.log (U3.drop k) := by
    rw [← tookU_app, List.take_append_drop]
  have h6 := h.nnU (U3.take k)
  have h7 := h.nnU (U3.drop k)
  have h8 := h.sum
  have h9 := (sumL_bd h.inv.lf (keysR rs)).1
  have h10 := (manyS_le rs h.rz).2
  omega
/-- what a board has in its trace it has of a reel. -/
theorem hasO_mem {l : List Org} {o : Org} (h : o ∈ l) : hasO l o.2.1 = true := List.any_eq_true.2 ⟨o, h, by simp⟩
theorem CaF.left (h : CaF rs g A) {x : Rel} (hx : x ∈ rs) : 0 ≤ A.left x.1 ∧ A.left x.1 ≤ x.2.2 := by
  have h1 := h.c.le x.1
  rw [newM_left h.nd hx] at h1
  exact ⟨(h.inv.lf _).1, h1⟩
/-- the reels that were met before. -/
def metR (A : Mdl) (k : Nat) (f : ByteArray) (j : Nat) : List ByteArray := ((F2.take k).map A.row).flatten ++ (A.row f).take j
theorem CaF.fresh (h : CaF rs g A) {k j : Nat} {f x : ByteArray} (hf : F2[k]? = some f) (hx : (A.row f)[j]? = some x) : x ∉ metR A k f j := by
  intro hm
  unfold metR at hm
  have hxm := List.mem_of_getElem? hx
  rcases List.mem_append.1 hm with hm | hm
  · obtain ⟨r, hr, hxr⟩ := List.mem_flatten.1 hm
    obtain ⟨f', hf', rfl⟩ := List.mem_map.1 hr
    have e1 := h.inv.in1 f' x hxr
    have e2 := h.inv.in1 f x hxm
    rw [e1] at e2
    subst e2
    obtain ⟨i, hi⟩ := List.getElem?_of_mem hf'
    rw [List.getElem?_take] at hi
    split at hi
    · rename_i hik
      have h1 := (List.getElem?_eq_some_iff.1 hi)
      have h2 := (List.getElem?_eq_some_iff.1 hf)
      obtain ⟨a1, b1⟩ := h1
      obtain ⟨a2, b2⟩ := h2
      have hnd : F2.Nodup := by unfold F2; decide
      have := (List.pairwise_iff_getElem.1 hnd) i k a1 a2 hik
      rw [b1, b2] at this
      exact this rfl
    · cases hi
  · obtain ⟨i, hi⟩ := List.getElem?_of_mem hm
    rw [List.getElem?_take] at hi
    split at hi
    · rename_i hij
      obtain ⟨a1, b1⟩ := List.getElem?_eq_some_iff.1 hi
      obtain ⟨a2, b2⟩ := List.getElem?_eq_some_iff.1 hx
      have := (List.pairwise_iff_getElem.1 (h.inv.nd f)) i j a1 a2 hij
      rw [b1, b2] at this
      exact this rfl
    · cases hi
theorem metR_snoc (A : Mdl) (k : Nat) {f x : ByteArray} {j : Nat} (hx : (A.row f)[j]? = some x) : metR A k f (j + 1) = metR A k f j ++ [x] := by
  unfold metR
  rw [List.take_add_one, hx, Option.toList_some, List.append_assoc]
theorem metR_next (A : Mdl) {k : Nat} {f : ByteArray} (hf : F2[k]? = some f) (f' : ByteArray) : metR A k f (A.row f).length = metR A (k + 1) f' 0 := by
  unfold metR
  rw [List.take_length, List.take_add_one, hf, Option.toList_some, List.map_append, List.flatten_append]
  simp
theorem metR_few (h : CaF rs g A) (hg : g.length ≤ 15) (k : Nat) (f : ByteArray) (j : Nat) : (metR A k f j).length ≤ 1000 := by
  have hl := fun f => h.inv.ln f
  unfold metR
  rw [List.length_append, List.length_take]
  have h1 := hl f
  have h2 : (((F2.take k).map A.row).flatten).length ≤ 100 := by
    have e1 := hl ⟨#[102, 49]⟩
    have e2 := hl ⟨#[102, 50]⟩
    have : k = 0 ∨ k = 1 ∨ 2 ≤ k := by omega
    rcases this with rfl | rfl | hk
    · simp
    · simp [F2]; omega
    · rw [List.take_of_length_le (by simpa [F2] using hk)]; simp [F2]; omega
  omega
end
end Go.Proofs.YtcfeoapbbkfbnaaGreatDoor
