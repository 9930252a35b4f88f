/- slices.Clone and slices.Equal of reels, of events, of origins and of what lies in a feeder. Conditions: at most 10^6 of them. · Trace of package reel: what a board is made of, as the model tells. Conditions: at most 900 events. -/
import Derived.Test.YtcfeoapbbkfbnaaGreatDoorReK
import Derived.Test.YtcfeoapbbkfbnaaGreatDoorRec
import Derived.Test.YtcfeoapbbkfbnaaGreatDoorStrs
import Derived.Test.YtcfeoapbbkfbnaaGreatDoorRp1
namespace Go.Proofs.YtcfeoapbbkfbnaaGreatDoor
open Go.RowKit Go.Sort

set_option maxHeartbeats 1000000 in
set_option maxRecDepth 100000 in
theorem CloneRe_any {l : List _} (v : Value) (w : World) (hlen : l.length ≤ 1000000) (rl : RecR TRe w 0 v l) :
    Calls Tryz.prog 38 #[v] w fun e w' => ∃ v', e = .returned v' ∧ OwnR TRe w' w.heap.size v' l ∧ Below w.heap.size w w' := by
  have q51 : ∀ (w : World) (a : Option Addr) (n c n' c' : Nat), (binOp .eql 26 (.slice a n c) (.slice none n' c')).run Tryz.prog w = .ok (.bool a.isNone) w := fun w a n c n' c' => Lib.run_eql_slice_nil w _ _ a n c n' c' Tryz.underlying26
  obtain ⟨a, cap, rfl, h1, h2⟩ := rl.form
  cases a with
  | none =>
    have hn : l = [] := by
      cases l with
      | nil => rfl
      | cons x r =>
        obtain ⟨b, o, e, _⟩ := rl.at TRe.ok.len (i := 0) (x := x) rfl TRe.ok.pos
        cases e
    subst hn
    clear rl
    go_enter Tryz.func38, Tryz.ntmps38
    go_wp2
    go_ret
    exact ⟨_, rfl, OwnR.nil _ _, Below.refl _ _⟩
  | some ad =>
    obtain ⟨_, _, hv, _, _, h3⟩ := rl
    obtain ⟨rfl, _, _⟩ := Value.slice.inj hv
    have HC : Hid (∀ j u, (l.flatMap TRe.f)[j]? = some u → (w.alloc (.cells #[] TRe.e)).cell? (ad.add j) = some u) := Lib.hid (by
      intro j u hj
      obtain ⟨b', o', e, _, hb, hcell⟩ := h3 j u hj
      injection e with e
      subst e
      have : (⟨b', o', none⟩ : Addr).add j = ⟨b', o' + j, none⟩ := by unfold Addr.add; split <;> simp_all
      rw [this]
      exact (World.cell?_alloc_past _ _ _ hb).trans hcell)
    obtain ⟨i, hi, hz0, hz1, hz2⟩ := info_parts TRe.ok.info
    have HL := Lib.hid hlen
    have HF := Lib.hid (flat_len TRe.ok.len l)
    have HO := Lib.hid (fun u (hu : u ∈ l.flatMap TRe.f) => by
      obtain ⟨x, _, hx⟩ := List.mem_flatMap.1 hu
      exact TRe.ok.one x u hx)
    have HB := Lib.hid (Nat.mul_le_mul (show l.length ≤ 1000000 from hlen) TRe.ok.small)
    clear hv h3 hlen
    go_enter Tryz.func38, Tryz.ntmps38
    go_wp2_with (at_builtin; refine wpList_append_own _ rfl _ _ TRe.S rfl w.heap.size TRe.e i _ TRe.k TRe.b TRe.ok.sl hi hz0 hz1 hz2 TRe.ok.zs TRe.ok.pos _ 0 [] rfl (World.ownsRow_made w #[] 0 (Nat.le_refl _) (by decide) rfl) ad l.length cap (l.flatMap TRe.f) rfl HF.out HC.out HO.out (by unfold maxLen; have := HL.out; omega) (by have := HB.out; rw [Nat.zero_add]; omega) (by simp) ?c2)
    case c2 =>
      intro v' w' h4 h5 _
      have hbw : Below w.heap.size w w' := by
        have hg := h5
        refine ⟨hg.os, hg.tape, hg.output, Nat.le_trans (by simp) hg.size, fun k hk => ?_⟩
        rw [hg.block k (by simp; omega) (by simp [Value.ownBlock]; omega)]
        exact heap_alloc_old w _ hk
      go_wp2
      go_ret
      exact ⟨_, rfl, by unfold OwnR; simpa using h4, hbw⟩
theorem neqRe_no (x1 x2 x3 : _) (W : World) : (binOp .neq 73 (.agg #[.string x1, .string x2, .int .i64 x3]) (.agg #[.string x1, .string x2, .int .i64 x3])).run Tryz.prog W = .ok (.bool false) W := by
  go_simp
theorem neqRe_yes {x1 x2 x3 y1 y2 y3 : _} (hxy : ((x1, x2, x3) : ByteArray × ByteArray × Int) ≠ (y1, y2, y3)) (W : World) : (binOp .neq 73 (.agg #[.string x1, .string x2, .int .i64 x3]) (.agg #[.string y1, .string y2, .int .i64 y3])).run Tryz.prog W = .ok (.bool true) W := by
  go_simp
  intro e1 e2 e3
  first
    | (exact hxy (by subst e1; subst e2; subst e3; rfl))
    | (have e1 := ba_inj e1; have e2 := ba_inj e2; exact hxy (by subst e1; subst e2; subst e3; rfl))
set_option maxHeartbeats 4000000 in
set_option maxRecDepth 100000 in
theorem EqualRe_any (l m : List (ByteArray × ByteArray × Int)) (v u : Value) (w : World) (_hl : l.length ≤ 1000000) (hm : m.length ≤ 1000000) (rl : RecR TRe w 0 v l) (rm : RecR TRe w 0 u m) :
    Calls Tryz.prog 42 #[v, u] w fun e w' => e = .returned (.bool (decide (l = m))) ∧ Below w.heap.size w w' := by
  obtain ⟨a, ca, rfl, _, _⟩ := rl.form
  obtain ⟨b, cb, rfl, _, _⟩ := rm.form
  have RL := Lib.hid rl
  have RM := Lib.hid rm
  clear rl rm
  by_cases hlm : l.length = m.length
  · have HLM := Lib.hid hlm
    have hmk : ∀ k, k < l.length → k < m.length := fun k h => by omega
    rw [← hlm]
    clear hlm
    go_enter Tryz.func42, Tryz.ntmps42
    go_wp2_with fail
    go_loopw [13] (fun i wr => ∃ k : Nat, k ≤ l.length ∧ i = .int .i64 k ∧ Hid (l.take k = m.take k) ∧ Below w.heap.size w wr) (fun i _ => l.length - (intOf i).toNat)
    case atStart => exact ⟨0, Nat.zero_le _, rfl, Lib.hid (by simp), Below.refl _ _⟩
    case round =>
      obtain ⟨k, hk, rfl, hT, hB⟩ := hrel
      by_cases hlt : k < l.length
      · obtain ⟨x, hx⟩ : ∃ x, l[k]? = some x := ⟨_, List.getElem?_eq_getElem hlt⟩
        obtain ⟨y, hy⟩ : ∃ y, m[k]? = some y := ⟨_, List.getElem?_eq_getElem (hmk k hlt)⟩
        obtain ⟨b1, o1, rfl, _, _, hc1⟩ := (RL.out.below hB).at TRe.ok.len hx TRe.ok.pos
        obtain ⟨b2, o2, rfl, _, _, hc2⟩ := (RM.out.below hB).at TRe.ok.len hy TRe.ok.pos
        have HX := Lib.hid hx
        have HY := Lib.hid hy
        obtain ⟨x1, x2, x3⟩ := x
        obtain ⟨y1, y2, y3⟩ := y
        have cx0 : wr.cell? ⟨b1, o1 + k * 3, none⟩ = some (.string x1) := hc1 0 _ rfl
        have cx1 : wr.cell? ⟨b1, o1 + k * 3 + 1, none⟩ = some (.string x2) := hc1 1 _ rfl
        have cx2 : wr.cell? ⟨b1, o1 + k * 3 + 2, none⟩ = some (.int .i64 x3) := hc1 2 _ rfl
        have cy0 : wr.cell? ⟨b2, o2 + k * 3, none⟩ = some (.string y1) := hc2 0 _ rfl
        have cy1 : wr.cell? ⟨b2, o2 + k * 3 + 1, none⟩ = some (.string y2) := hc2 1 _ rfl
        have cy2 : wr.cell? ⟨b2, o2 + k * 3 + 2, none⟩ = some (.int .i64 y3) := hc2 2 _ rfl
        have hw1 : IntKind.i64.wrap ((k : Int) + 1) = ((k + 1 : Nat) : Int) := by rw [IntWalk.i64_in _ (by omega)]; omega
        clear hc1 hc2 hx hy
        by_cases hxy : ((x1, x2, x3) : ByteArray × ByteArray × Int) = (y1, y2, y3)
        · have HT2 : Hid (l.take (k + 1) = m.take (k + 1)) := Lib.hid (by rw [List.take_add_one, List.take_add_one, hT.out, HX.out, HY.out, hxy])
          obtain ⟨e1, hxy⟩ := Prod.mk.inj hxy; obtain ⟨e2, hxy⟩ := Prod.mk.inj hxy
          have e3 := hxy
          clear hxy
          subst e1; subst e2; subst e3
          have hne := neqRe_no x1 x2 x3
          go_wp2_with fail
          go_region
          all_goals (
            go_wp2
            go_roundw
            case rel => exact ⟨k + 1, by omega, by go_num, HT2, Below.drew hB⟩
            case measure => simp [intOf]; omega)
        · have HR : Hid (decide (l = m) = false) := Lib.hid (by
            rw [decide_eq_false_iff_not]
            rintro rfl
            have := HX.out.symm.trans HY.out
            injection this with this
            exact hxy this)
          have hne := neqRe_yes hxy
          clear hxy
          go_wp2_with fail
          go_region
          all_goals (
            go_wp2
            go_ret
            exact ⟨ret_bool HR.out.symm, Below.drew hB⟩)
      · obtain rfl : k = l.length := by omega
        have HR : Hid (decide (l = m) = true) := Lib.hid (by
          rw [decide_eq_true_eq]
          have := hT.out
          rw [List.take_length, HLM.out, List.take_length] at this
          exact this)
        go_wp2
        go_ret
        exact ⟨ret_bool HR.out.symm, hB⟩
  · have hi : ¬ ((l.length : Nat) : Int) = ((m.length : Nat) : Int) := by omega
    have HR : Hid (decide (l = m) = false) := Lib.hid (by
      rw [decide_eq_false_iff_not]
      intro h
      exact hlm (congrArg List.length h))
    go_enter Tryz.func42, Tryz.ntmps42
    go_wp2
    go_ret
    exact ⟨ret_bool HR.out.symm, Below.refl _ _⟩
set_option maxHeartbeats 1000000 in
set_option maxRecDepth 100000 in
theorem CloneFe_any {l : List _} (v : Value) (w : World) (hlen : l.length ≤ 1000000) (rl : RecR TFe w 0 v l) :
    Calls Tryz.prog 39 #[v] w fun e w' => ∃ v', e = .returned v' ∧ OwnR TFe w' w.heap.size v' l ∧ Below w.heap.size w w' := by
  have q51 : ∀ (w : World) (a : Option Addr) (n c n' c' : Nat), (binOp .eql 28 (.slice a n c) (.slice none n' c')).run Tryz.prog w = .ok (.bool a.isNone) w := fun w a n c n' c' => Lib.run_eql_slice_nil w _ _ a n c n' c' Tryz.underlying28
  obtain ⟨a, cap, rfl, h1, h2⟩ := rl.form
  cases a with
  | none =>
    have hn : l = [] := by
      cases l with
      | nil => rfl
      | cons x r =>
        obtain ⟨b, o, e, _⟩ := rl.at TFe.ok.len (i := 0) (x := x) rfl TFe.ok.pos
        cases e
    subst hn
    clear rl
    go_enter Tryz.func39, Tryz.ntmps39
    go_wp2
    go_ret
    exact ⟨_, rfl, OwnR.nil _ _, Below.refl _ _⟩
  | some ad =>
    obtain ⟨_, _, hv, _, _, h3⟩ := rl
    obtain ⟨rfl, _, _⟩ := Value.slice.inj hv
    have HC : Hid (∀ j u, (l.flatMap TFe.f)[j]? = some u → (w.alloc (.cells #[] TFe.e)).cell? (ad.add j) = some u) := Lib.hid (by
      intro j u hj
      obtain ⟨b', o', e, _, hb, hcell⟩ := h3 j u hj
      injection e with e
      subst e
      have : (⟨b', o', none⟩ : Addr).add j = ⟨b', o' + j, none⟩ := by unfold Addr.add; split <;> simp_all
      rw [this]
      exact (World.cell?_alloc_past _ _ _ hb).trans hcell)
    obtain ⟨i, hi, hz0, hz1, hz2⟩ := info_parts TFe.ok.info
    have HL := Lib.hid hlen
    have HF := Lib.hid (flat_len TFe.ok.len l)
    have HO := Lib.hid (fun u (hu : u ∈ l.flatMap TFe.f) => by
      obtain ⟨x, _, hx⟩ := List.mem_flatMap.1 hu
      exact TFe.ok.one x u hx)
    have HB := Lib.hid (Nat.mul_le_mul (show l.length ≤ 1000000 from hlen) TFe.ok.small)
    clear hv h3 hlen
    go_enter Tryz.func39, Tryz.ntmps39
    go_wp2_with (at_builtin; refine wpList_append_own _ rfl _ _ TFe.S rfl w.heap.size TFe.e i _ TFe.k TFe.b TFe.ok.sl hi hz0 hz1 hz2 TFe.ok.zs TFe.ok.pos _ 0 [] rfl (World.ownsRow_made w #[] 0 (Nat.le_refl _) (by decide) rfl) ad l.length cap (l.flatMap TFe.f) rfl HF.out HC.out HO.out (by unfold maxLen; have := HL.out; omega) (by have := HB.out; rw [Nat.zero_add]; omega) (by simp) ?c2)
    case c2 =>
      intro v' w' h4 h5 _
      have hbw : Below w.heap.size w w' := by
        have hg := h5
        refine ⟨hg.os, hg.tape, hg.output, Nat.le_trans (by simp) hg.size, fun k hk => ?_⟩
        rw [hg.block k (by simp; omega) (by simp [Value.ownBlock]; omega)]
        exact heap_alloc_old w _ hk
      go_wp2
      go_ret
      exact ⟨_, rfl, by unfold OwnR; simpa using h4, hbw⟩
theorem neqFe_no (x1 x2 x3 x4 x5 x6 : _) (W : World) : (binOp .neq 76 (.agg #[.int .i64 x1, .int .i64 x2, .string x3, .string x4, .int .i64 x5, .string x6]) (.agg #[.int .i64 x1, .int .i64 x2, .string x3, .string x4, .int .i64 x5, .string x6])).run Tryz.prog W = .ok (.bool false) W := by
  go_simp
theorem neqFe_yes {x1 x2 x3 x4 x5 x6 y1 y2 y3 y4 y5 y6 : _} (hxy : ((x1, x2, x3, x4, x5, x6) : Int × Int × ByteArray × ByteArray × Int × ByteArray) ≠ (y1, y2, y3, y4, y5, y6)) (W : World) : (binOp .neq 76 (.agg #[.int .i64 x1, .int .i64 x2, .string x3, .string x4, .int .i64 x5, .string x6]) (.agg #[.int .i64 y1, .int .i64 y2, .string y3, .string y4, .int .i64 y5, .string y6])).run Tryz.prog W = .ok (.bool true) W := by
  go_simp
  intro e1 e2 e3 e4 e5 e6
  first
    | (exact hxy (by subst e1; subst e2; subst e3; subst e4; subst e5; subst e6; rfl))
    | (have e3 := ba_inj e3; have e4 := ba_inj e4; have e6 := ba_inj e6; exact hxy (by subst e1; subst e2; subst e3; subst e4; subst e5; subst e6; rfl))
set_option maxHeartbeats 4000000 in
set_option maxRecDepth 100000 in
theorem EqualFe_any (l m : List (Int × Int × ByteArray × ByteArray × Int × ByteArray)) (v u : Value) (w : World) (_hl : l.length ≤ 1000000) (hm : m.length ≤ 1000000) (rl : RecR TFe w 0 v l) (rm : RecR TFe w 0 u m) :
    Calls Tryz.prog 43 #[v, u] w fun e w' => e = .returned (.bool (decide (l = m))) ∧ Below w.heap.size w w' := by
  obtain ⟨a, ca, rfl, _, _⟩ := rl.form
  obtain ⟨b, cb, rfl, _, _⟩ := rm.form
  have RL := Lib.hid rl
  have RM := Lib.hid rm
  clear rl rm
  by_cases hlm : l.length = m.length
  · have HLM := Lib.hid hlm
    have hmk : ∀ k, k < l.length → k < m.length := fun k h => by omega
    rw [← hlm]
    clear hlm
    go_enter Tryz.func43, Tryz.ntmps43
    go_wp2_with fail
    go_loopw [13] (fun i wr => ∃ k : Nat, k ≤ l.length ∧ i = .int .i64 k ∧ Hid (l.take k = m.take k) ∧ Below w.heap.size w wr) (fun i _ => l.length - (intOf i).toNat)
    case atStart => exact ⟨0, Nat.zero_le _, rfl, Lib.hid (by simp), Below.refl _ _⟩
    case round =>
      obtain ⟨k, hk, rfl, hT, hB⟩ := hrel
      by_cases hlt : k < l.length
      · obtain ⟨x, hx⟩ : ∃ x, l[k]? = some x := ⟨_, List.getElem?_eq_getElem hlt⟩
        obtain ⟨y, hy⟩ : ∃ y, m[k]? = some y := ⟨_, List.getElem?_eq_getElem (hmk k hlt)⟩
        obtain ⟨b1, o1, rfl, _, _, hc1⟩ := (RL.out.below hB).at TFe.ok.len hx TFe.ok.pos
        obtain ⟨b2, o2, rfl, _, _, hc2⟩ := (RM.out.below hB).at TFe.ok.len hy TFe.ok.pos
        have HX := Lib.hid hx
        have HY := Lib.hid hy
        obtain ⟨x1, x2, x3, x4, x5, x6⟩ := x
        obtain ⟨y1, y2, y3, y4, y5, y6⟩ := y
        have cx0 : wr.cell? ⟨b1, o1 + k * 6, none⟩ = some (.int .i64 x1) := hc1 0 _ rfl
        have cx1 : wr.cell? ⟨b1, o1 + k * 6 + 1, none⟩ = some (.int .i64 x2) := hc1 1 _ rfl
        have cx2 : wr.cell? ⟨b1, o1 + k * 6 + 2, none⟩ = some (.string x3) := hc1 2 _ rfl
        have cx3 : wr.cell? ⟨b1, o1 + k * 6 + 3, none⟩ = some (.string x4) := hc1 3 _ rfl
        have cx4 : wr.cell? ⟨b1, o1 + k * 6 + 4, none⟩ = some (.int .i64 x5) := hc1 4 _ rfl
        have cx5 : wr.cell? ⟨b1, o1 + k * 6 + 5, none⟩ = some (.string x6) := hc1 5 _ rfl
        have cy0 : wr.cell? ⟨b2, o2 + k * 6, none⟩ = some (.int .i64 y1) := hc2 0 _ rfl
        have cy1 : wr.cell? ⟨b2, o2 + k * 6 + 1, none⟩ = some (.int .i64 y2) := hc2 1 _ rfl
        have cy2 : wr.cell? ⟨b2, o2 + k * 6 + 2, none⟩ = some (.string y3) := hc2 2 _ rfl
        have cy3 : wr.cell? ⟨b2, o2 + k * 6 + 3, none⟩ = some (.string y4) := hc2 3 _ rfl
        have cy4 : wr.cell? ⟨b2, o2 + k * 6 + 4, none⟩ = some (.int .i64 y5) := hc2 4 _ rfl
        have cy5 : wr.cell? ⟨b2, o2 + k * 6 + 5, none⟩ = some (.string y6) := hc2 5 _ rfl
        have hw1 : IntKind.i64.wrap ((k : Int) + 1) = ((k + 1 : Nat) : Int) := by rw [IntWalk.i64_in _ (by omega)]; omega
        clear hc1 hc2 hx hy
        by_cases hxy : ((x1, x2, x3, x4, x5, x6) : Int × Int × ByteArray × ByteArray × Int × ByteArray) = (y1, y2, y3, y4, y5, y6)
        · have HT2 : Hid (l.take (k + 1) = m.take (k + 1)) := Lib.hid (by rw [List.take_add_one, List.take_add_one, hT.out, HX.out, HY.out, hxy])
          obtain ⟨e1, hxy⟩ := Prod.mk.inj hxy; obtain ⟨e2, hxy⟩ := Prod.mk.inj hxy; obtain ⟨e3, hxy⟩ := Prod.mk.inj hxy; obtain ⟨e4, hxy⟩ := Prod.mk.inj hxy; obtain ⟨e5, hxy⟩ := Prod.mk.inj hxy
          have e6 := hxy
          clear hxy
          subst e1; subst e2; subst e3; subst e4; subst e5; subst e6
          have hne := neqFe_no x1 x2 x3 x4 x5 x6
          go_wp2_with fail
          go_region
          all_goals (
            go_wp2
            go_roundw
            case rel => exact ⟨k + 1, by omega, by go_num, HT2, Below.drew hB⟩
            case measure => simp [intOf]; omega)
        · have HR : Hid (decide (l = m) = false) := Lib.hid (by
            rw [decide_eq_false_iff_not]
            rintro rfl
            have := HX.out.symm.trans HY.out
            injection this with this
            exact hxy this)
          have hne := neqFe_yes hxy
          clear hxy
          go_wp2_with fail
          go_region
          all_goals (
            go_wp2
            go_ret
            exact ⟨ret_bool HR.out.symm, Below.drew hB⟩)
      · obtain rfl : k = l.length := by omega
        have HR : Hid (decide (l = m) = true) := Lib.hid (by
          rw [decide_eq_true_eq]
          have := hT.out
          rw [List.take_length, HLM.out, List.take_length] at this
          exact this)
        go_wp2
        go_ret
        exact ⟨ret_bool HR.out.symm, hB⟩
  · have hi : ¬ ((l.length : Nat) : Int) = ((m.length : Nat) : Int) := by omega
    have HR : Hid (decide (l = m) = false) := Lib.hid (by
      rw [decide_eq_false_iff_not]
      intro h
      exact hlm (congrArg List.length h))
    go_enter Tryz.func43, Tryz.ntmps43
    go_wp2
    go_ret
    exact ⟨ret_bool HR.out.symm, Below.refl _ _⟩
set_option maxHeartbeats 1000000 in
set_option maxRecDepth 100000 in
theorem CloneOr_any {l : List _} (v : Value) (w : World) (hlen : l.length ≤ 1000000) (rl : RecR TOr w 0 v l) :
    Calls Tryz.prog 120 #[v] w fun e w' => ∃ v', e = .returned v' ∧ OwnR TOr w' w.heap.size v' l ∧ Below w.heap.size w w' := by
  have q51 : ∀ (w : World) (a : Option Addr) (n c n' c' : Nat), (binOp .eql 77 (.slice a n c) (.slice none n' c')).run Tryz.prog w = .ok (.bool a.isNone) w := fun w a n c n' c' => Lib.run_eql_slice_nil w _ _ a n c n' c' Tryz.underlying77
  obtain ⟨a, cap, rfl, h1, h2⟩ := rl.form
  cases a with
  | none =>
    have hn : l = [] := by
      cases l with
      | nil => rfl
      | cons x r =>
        obtain ⟨b, o, e, _⟩ := rl.at TOr.ok.len (i := 0) (x := x) rfl TOr.ok.pos
        cases e
    subst hn
    clear rl
    go_enter Tryz.func120, Tryz.ntmps120
    go_wp2
    go_ret
    exact ⟨_, rfl, OwnR.nil _ _, Below.refl _ _⟩
  | some ad =>
    obtain ⟨_, _, hv, _, _, h3⟩ := rl
    obtain ⟨rfl, _, _⟩ := Value.slice.inj hv
    have HC : Hid (∀ j u, (l.flatMap TOr.f)[j]? = some u → (w.alloc (.cells #[] TOr.e)).cell? (ad.add j) = some u) := Lib.hid (by
      intro j u hj
      obtain ⟨b', o', e, _, hb, hcell⟩ := h3 j u hj
      injection e with e
      subst e
      have : (⟨b', o', none⟩ : Addr).add j = ⟨b', o' + j, none⟩ := by unfold Addr.add; split <;> simp_all
      rw [this]
      exact (World.cell?_alloc_past _ _ _ hb).trans hcell)
    obtain ⟨i, hi, hz0, hz1, hz2⟩ := info_parts TOr.ok.info
    have HL := Lib.hid hlen
    have HF := Lib.hid (flat_len TOr.ok.len l)
    have HO := Lib.hid (fun u (hu : u ∈ l.flatMap TOr.f) => by
      obtain ⟨x, _, hx⟩ := List.mem_flatMap.1 hu
      exact TOr.ok.one x u hx)
    have HB := Lib.hid (Nat.mul_le_mul (show l.length ≤ 1000000 from hlen) TOr.ok.small)
    clear hv h3 hlen
    go_enter Tryz.func120, Tryz.ntmps120
    go_wp2_with (at_builtin; refine wpList_append_own _ rfl _ _ TOr.S rfl w.heap.size TOr.e i _ TOr.k TOr.b TOr.ok.sl hi hz0 hz1 hz2 TOr.ok.zs TOr.ok.pos _ 0 [] rfl (World.ownsRow_made w #[] 0 (Nat.le_refl _) (by decide) rfl) ad l.length cap (l.flatMap TOr.f) rfl HF.out HC.out HO.out (by unfold maxLen; have := HL.out; omega) (by have := HB.out; rw [Nat.zero_add]; omega) (by simp) ?c2)
    case c2 =>
      intro v' w' h4 h5 _
      have hbw : Below w.heap.size w w' := by
        have hg := h5
        refine ⟨hg.os, hg.tape, hg.output, Nat.le_trans (by simp) hg.size, fun k hk => ?_⟩
        rw [hg.block k (by simp; omega) (by simp [Value.ownBlock]; omega)]
        exact heap_alloc_old w _ hk
      go_wp2
      go_ret
      exact ⟨_, rfl, by unfold OwnR; simpa using h4, hbw⟩
theorem neqOr_no (x1 x2 x3 : _) (W : World) : (binOp .neq 81 (.agg #[.string x1, .string x2, .int .i64 x3]) (.agg #[.string x1, .string x2, .int .i64 x3])).run Tryz.prog W = .ok (.bool false) W := by
  go_simp
theorem neqOr_yes {x1 x2 x3 y1 y2 y3 : _} (hxy : ((x1, x2, x3) : ByteArray × ByteArray × Int) ≠ (y1, y2, y3)) (W : World) : (binOp .neq 81 (.agg #[.string x1, .string x2, .int .i64 x3]) (.agg #[.string y1, .string y2, .int .i64 y3])).run Tryz.prog W = .ok (.bool true) W := by
  go_simp
  intro e1 e2 e3
  first
    | (exact hxy (by subst e1; subst e2; subst e3; rfl))
    | (have e1 := ba_inj e1; have e2 := ba_inj e2; exact hxy (by subst e1; subst e2; subst e3; rfl))
set_option maxHeartbeats 4000000 in
set_option maxRecDepth 100000 in
theorem EqualOr_any (l m : List (ByteArray × ByteArray × Int)) (v u : Value) (w : World) (_hl : l.length ≤ 1000000) (hm : m.length ≤ 1000000) (rl : RecR TOr w 0 v l) (rm : RecR TOr w 0 u m) :
    Calls Tryz.prog 47 #[v, u] w fun e w' => e = .returned (.bool (decide (l = m))) ∧ Below w.heap.size w w' := by
  obtain ⟨a, ca, rfl, _, _⟩ := rl.form
  obtain ⟨b, cb, rfl, _, _⟩ := rm.form
  have RL := Lib.hid rl
  have RM := Lib.hid rm
  clear rl rm
  by_cases hlm : l.length = m.length
  · have HLM := Lib.hid hlm
    have hmk : ∀ k, k < l.length → k < m.length := fun k h => by omega
    rw [← hlm]
    clear hlm
    go_enter Tryz.func47, Tryz.ntmps47
    go_wp2_with fail
    go_loopw [13] (fun i wr => ∃ k : Nat, k ≤ l.length ∧ i = .int .i64 k ∧ Hid (l.take k = m.take k) ∧ Below w.heap.size w wr) (fun i _ => l.length - (intOf i).toNat)
    case atStart => exact ⟨0, Nat.zero_le _, rfl, Lib.hid (by simp), Below.refl _ _⟩
    case round =>
      obtain ⟨k, hk, rfl, hT, hB⟩ := hrel
      by_cases hlt : k < l.length
      · obtain ⟨x, hx⟩ : ∃ x, l[k]? = some x := ⟨_, List.getElem?_eq_getElem hlt⟩
        obtain ⟨y, hy⟩ : ∃ y, m[k]? = some y := ⟨_, List.getElem?_eq_getElem (hmk k hlt)⟩
        obtain ⟨b1, o1, rfl, _, _, hc1⟩ := (RL.out.below hB).at TOr.ok.len hx TOr.ok.pos
        obtain ⟨b2, o2, rfl, _, _, hc2⟩ := (RM.out.below hB).at TOr.ok.len hy TOr.ok.pos
        have HX := Lib.hid hx
        have HY := Lib.hid hy
        obtain ⟨x1, x2, x3⟩ := x
        obtain ⟨y1, y2, y3⟩ := y
        have cx0 : wr.cell? ⟨b1, o1 + k * 3, none⟩ = some (.string x1) := hc1 0 _ rfl
        have cx1 : wr.cell? ⟨b1, o1 + k * 3 + 1, none⟩ = some (.string x2) := hc1 1 _ rfl
        have cx2 : wr.cell? ⟨b1, o1 + k * 3 + 2, none⟩ = some (.int .i64 x3) := hc1 2 _ rfl
        have cy0 : wr.cell? ⟨b2, o2 + k * 3, none⟩ = some (.string y1) := hc2 0 _ rfl
        have cy1 : wr.cell? ⟨b2, o2 + k * 3 + 1, none⟩ = some (.string y2) := hc2 1 _ rfl
        have cy2 : wr.cell? ⟨b2, o2 + k * 3 + 2, none⟩ = some (.int .i64 y3) := hc2 2 _ rfl
        have hw1 : IntKind.i64.wrap ((k : Int) + 1) = ((k + 1 : Nat) : Int) := by rw [IntWalk.i64_in _ (by omega)]; omega
        clear hc1 hc2 hx hy
        by_cases hxy : ((x1, x2, x3) : ByteArray × ByteArray × Int) = (y1, y2, y3)
        · have HT2 : Hid (l.take (k + 1) = m.take (k + 1)) := Lib.hid (by rw [List.take_add_one, List.take_add_one, hT.out, HX.out, HY.out, hxy])
          obtain ⟨e1, hxy⟩ := Prod.mk.inj hxy; obtain ⟨e2, hxy⟩ := Prod.mk.inj hxy
          have e3 := hxy
          clear hxy
          subst e1; subst e2; subst e3
          have hne := neqOr_no x1 x2 x3
          go_wp2_with fail
          go_region
          all_goals (
            go_wp2
            go_roundw
            case rel => exact ⟨k + 1, by omega, by go_num, HT2, Below.drew hB⟩
            case measure => simp [intOf]; omega)
        · have HR : Hid (decide (l = m) = false) := Lib.hid (by
            rw [decide_eq_false_iff_not]
            rintro rfl
            have := HX.out.symm.trans HY.out
            injection this with this
            exact hxy this)
          have hne := neqOr_yes hxy
          clear hxy
          go_wp2_with fail
          go_region
          all_goals (
            go_wp2
            go_ret
            exact ⟨ret_bool HR.out.symm, Below.drew hB⟩)
      · obtain rfl : k = l.length := by omega
        have HR : Hid (decide (l = m) = true) := Lib.hid (by
          rw [decide_eq_true_eq]
          have := hT.out
          rw [List.take_length, HLM.out, List.take_length] at this
          exact this)
        go_wp2
        go_ret
        exact ⟨ret_bool HR.out.symm, hB⟩
  · have hi : ¬ ((l.length : Nat) : Int) = ((m.length : Nat) : Int) := by omega
    have HR : Hid (decide (l = m) = false) := Lib.hid (by
      rw [decide_eq_false_iff_not]
      intro h
      exact hlm (congrArg List.length h))
    go_enter Tryz.func47, Tryz.ntmps47
    go_wp2
    go_ret
    exact ⟨ret_bool HR.out.symm, Below.refl _ _⟩
theorem neqLo_no (x1 x2 : _) (W : World) : (binOp .neq 65 (.agg #[.string x1, .int .i64 x2]) (.agg #[.string x1, .int .i64 x2])).run Tryz.prog W = .ok (.bool false) W := by
  go_simp
theorem neqLo_yes {x1 x2 y1 y2 : _} (hxy : ((x1, x2) : ByteArray × Int) ≠ (y1, y2)) (W : World) : (binOp .neq 65 (.agg #[.string x1, .int .i64 x2]) (.agg #[.string y1, .int .i64 y2])).run Tryz.prog W = .ok (.bool true) W := by
  go_simp
  intro e1 e2
  first
    | (exact hxy (by subst e1; subst e2; rfl))
    | (have e1 := ba_inj e1; exact hxy (by subst e1; subst e2; rfl))
set_option maxHeartbeats 4000000 in
set_option maxRecDepth 100000 in
theorem EqualLo_any (l m : List (ByteArray × Int)) (v u : Value) (w : World) (hl : l.length ≤ 1000000) (hm : m.length ≤ 1000000) (rl : RecR TLo w 0 v l) (rm : RecR TLo w 0 u m) :
    Calls Tryz.prog 34 #[v, u] w fun e w' => e = .returned (.bool (decide (l = m))) ∧ Below w.heap.size w w' := by
  obtain ⟨a, ca, rfl, _, _⟩ := rl.form
  obtain ⟨b, cb, rfl, _, _⟩ := rm.form
  have RL := Lib.hid rl
  have RM := Lib.hid rm
  clear rl rm
  by_cases hlm : l.length = m.length
  · have HLM := Lib.hid hlm
    have hmk : ∀ k, k < l.length → k < m.length := fun k h => by omega
    rw [← hlm]
    clear hlm
    go_enter Tryz.func34, Tryz.ntmps34
    go_wp2_with fail
    go_loopw [13] (fun i wr => ∃ k : Nat, k ≤ l.length ∧ i = .int .i64 k ∧ Hid (l.take k = m.take k) ∧ Below w.heap.size w wr) (fun i _ => l.length - (intOf i).toNat)
    case atStart => exact ⟨0, Nat.zero_le _, rfl, Lib.hid (by simp), Below.refl _ _⟩
    case round =>
      obtain ⟨k, hk, rfl, hT, hB⟩ := hrel
      by_cases hlt : k < l.length
      · obtain ⟨x, hx⟩ : ∃ x, l[k]? = some x := ⟨_, List.getElem?_eq_getElem hlt⟩
        obtain ⟨y, hy⟩ : ∃ y, m[k]? = some y := ⟨_, List.getElem?_eq_getElem (hmk k hlt)⟩
        obtain ⟨b1, o1, rfl, _, _, hc1⟩ := (RL.out.below hB).at TLo.ok.len hx TLo.ok.pos
        obtain ⟨b2, o2, rfl, _, _, hc2⟩ := (RM.out.below hB).at TLo.ok.len hy TLo.ok.pos
        have HX := Lib.hid hx
        have HY := Lib.hid hy
        obtain ⟨x1, x2⟩ := x
        obtain ⟨y1, y2⟩ := y
        have cx0 : wr.cell? ⟨b1, o1 + k * 2, none⟩ = some (.string x1) := hc1 0 _ rfl
        have cx1 : wr.cell? ⟨b1, o1 + k * 2 + 1, none⟩ = some (.int .i64 x2) := hc1 1 _ rfl
        have cy0 : wr.cell? ⟨b2, o2 + k * 2, none⟩ = some (.string y1) := hc2 0 _ rfl
        have cy1 : wr.cell? ⟨b2, o2 + k * 2 + 1, none⟩ = some (.int .i64 y2) := hc2 1 _ rfl
        have hw1 : IntKind.i64.wrap ((k : Int) + 1) = ((k + 1 : Nat) : Int) := by rw [IntWalk.i64_in _ (by omega)]; omega
        clear hc1 hc2 hx hy
        by_cases hxy : ((x1, x2) : ByteArray × Int) = (y1, y2)
        · have HT2 : Hid (l.take (k + 1) = m.take (k + 1)) := Lib.hid (by rw [List.take_add_one, List.take_add_one, hT.out, HX.out, HY.out, hxy])
          obtain ⟨e1, hxy⟩ := Prod.mk.inj hxy
          have e2 := hxy
          clear hxy
          subst e1; subst e2
          have hne := neqLo_no x1 x2
          go_wp2_with fail
          go_region
          all_goals (
            go_wp2
            go_roundw
            case rel => exact ⟨k + 1, by omega, by go_num, HT2, Below.drew hB⟩
            case measure => simp [intOf]; omega)
        · have HR : Hid (decide (l = m) = false) := Lib.hid (by
            rw [decide_eq_false_iff_not]
            rintro rfl
            have := HX.out.symm.trans HY.out
            injection this with this
            exact hxy this)
          have hne := neqLo_yes hxy
          clear hxy
          go_wp2_with fail
          go_region
          all_goals (
            go_wp2
            go_ret
            exact ⟨ret_bool HR.out.symm, Below.drew hB⟩)
      · obtain rfl : k = l.length := by omega
        have HR : Hid (decide (l = m) = true) := Lib.hid (by
          rw [decide_eq_true_eq]
          have := hT.out
          rw [List.take_length, HLM.out, List.take_length] at this
          exact this)
        go_wp2
        go_ret
        exact ⟨ret_bool HR.out.symm, hB⟩
  · have hi : ¬ ((l.length : Nat) : Int) = ((m.length : Nat) : Int) := by omega
    have HR : Hid (decide (l = m) = false) := Lib.hid (by
      rw [decide_eq_false_iff_not]
      intro h
      exact hlm (congrArg List.length h))
    go_enter Tryz.func34, Tryz.ntmps34
    go_wp2
    go_ret
    exact ⟨ret_bool HR.out.symm, Below.refl _ _⟩
end Go.Proofs.YtcfeoapbbkfbnaaGreatDoor
namespace Go.Proofs.YtcfeoapbbkfbnaaGreatDoor
open Go.RowKit Go.Sort Go.Maps

set_option maxHeartbeats 4000000 in
set_option maxRecDepth 100000 in
theorem STrace_any (L : Loc) (s : Sts) (N : Nat) (b : ByteArray) (w : World) (h : StM w L s N) (hb : b.size ≤ maxLen) (hn : (rowOr s.O b).length ≤ 1000000) :
    Calls Tryz.prog 87 #[.pointer (some ⟨L.S, 0, none⟩), .string b] w fun e w' => (∃ v, e = .returned v ∧ OwnR TOr w' w.heap.size v (rowOr s.O b)) ∧ Below w.heap.size w w' := by
  obtain ⟨hd, hlk, hO, _⟩ := h.rowOr b hb
  have c3 := h.cells.2.2.2.1
  obtain ⟨a, cap, hv, _, _⟩ := hO.form
  rw [hv] at hlk hO
  have HC := Lib.hid (CloneOr_any _ w hn hO.rec0)
  obtain ⟨M, hM⟩ : ∃ M, M = rowOr s.O b := ⟨_, rfl⟩
  rw [← hM] at hlk HC ⊢
  have hlt := h.lt.1
  clear h hO hv hM hn
  go_enter Tryz.func87, Tryz.ntmps87
  go_wp2_with fail
  refine HC.out.mono ?_
  rintro e w2 ⟨v, rfl, hO2, hb2⟩
  have HF := Lib.hid (And.intro hO2 hb2)
  clear hO2 hb2 HC
  go_wp2
  go_ret
  exact ⟨⟨_, rfl, HF.out.1⟩, HF.out.2⟩
/-- what a board is made of, as the model tells. -/
def traceM (rs : List Rel) (l : List Fed) (b : ByteArray) : List Org := orgL (runM 345686400000 (newM rs) 0 l).log b
theorem traceM_few {rs : List Rel} {l : List Fed} {b : ByteArray} (h : InvM (runM 345686400000 (newM rs) 0 l) l.length) (hl : l.length ≤ 900) : (traceM rs l b).length ≤ 1000000 := by
  have h1 := orgL_len (runM 345686400000 (newM rs) 0 l).log b
  have h2 := h.ll
  have h3 : l.length * l.length ≤ 900 * 900 := Nat.mul_le_mul hl hl
  unfold traceM
  omega
set_option maxHeartbeats 4000000 in
set_option maxRecDepth 100000 in
theorem Trace_any (rs : List Rel) (l : List Fed) (f : ByteArray) (vr vl : Value) (w : World) (hlr : rs.length ≤ 1000000) (hl : l.length ≤ 900) (rr : RecR TRe w 0 vr rs) (rl : RecR TFe w 0 vl l) (hzr : RelZ rs) (hz : FedZ l) (hk : f.size ≤ 140737488355328) :
    Calls Tryz.prog 40 #[vr, vl, .string f] w fun e w' => (∃ v, e = .returned (.tuple #[v, .int .i64 (askF (feedsF rs l) (keyB f) true 5)]) ∧ OwnR TOr w' w.heap.size v (if askF (feedsF rs l) (keyB f) true 5 = 0 then traceM rs l f else [])) ∧ Below w.heap.size w w' := by
  have HFA := Lib.hid (feederFault_any rs l f 0 vr vl w hlr (by omega) rr rl hzr hz hk)
  rw [show inB 0 0 345686399999 = true by decide] at HFA
  have RR := Lib.hid rr
  have RL := Lib.hid rl
  obtain ⟨ra, rc, rfl, _, _⟩ := rr.form
  obtain ⟨la, lc, rfl, _, _⟩ := rl.form
  obtain ⟨E, hE⟩ : ∃ E, E = askF (feedsF rs l) (keyB f) true 5 := ⟨_, rfl⟩
  rw [← hE] at HFA ⊢
  by_cases h0 : E = 0
  case neg =>
    have hb : (E == 0) = false := by simp [h0]
    have HV : Hid (∀ W, OwnR TOr W w.heap.size (.slice none 0 0) (if E = 0 then traceM rs l f else [])) := Lib.hid fun W => by rw [if_neg h0]; exact OwnR.nil _ _
    clear rr rl hE
    go_enter Tryz.func40, Tryz.ntmps40
    go_wp2_with fail
    refine HFA.out.mono ?_
    rintro e w2 ⟨rfl, hb2⟩
    have HB := Lib.hid hb2
    clear hb2
    go_wp2
    go_ret2
    exact ⟨⟨_, rfl, (by first | exact HV.out _ | exact OwnR.nil _ _)⟩, HB.out⟩
  case pos =>
    rw [hE] at h0
    have hok := feedsF_right (askF_zero h0 (by decide)).1
    rw [← hE] at h0
    have hkf := keyB_few (askF_zero (hE ▸ h0) (by decide)).2.1
    have HOK := Lib.hid hok
    have HKF := Lib.hid hkf
    have HLN := Lib.hid hl
    subst h0
    have HV : Hid (∀ W v, OwnR TOr W w.heap.size v (traceM rs l f) → OwnR TOr W w.heap.size v (if (0 : Int) = 0 then traceM rs l f else [])) := Lib.hid fun W v h => by rw [if_pos rfl]; exact h
    clear rr rl hE hok hkf
    go_enter Tryz.func40, Tryz.ntmps40
    go_wp2_with fail
    refine HFA.out.mono ?_
    rintro e w2 ⟨rfl, hb2⟩
    have HB2 := Lib.hid hb2
    have HAT := Lib.hid (storeAt_any rs l 345686400000 _ _ w2 (RR.out.below hb2) (RL.out.below hb2) HOK.out HLN.out)
    clear hb2
    go_wp2_with fail
    refine HAT.out.mono ?_
    rintro e w3 ⟨L, rfl, h3⟩
    obtain ⟨s, N, hS, hR⟩ := h3.st
    have hfew := traceM_few (b := f) h3.inv HLN.out
    have hor : rowOr s.O f = traceM rs l f := hR.org f
    have HLO := Lib.hid (STrace_any L s N f w3 hS (Nat.le_trans HKF.out.2 (by unfold maxLen; omega)) (by rw [hor]; exact hfew))
    rw [hor] at HLO
    have HB3 := Lib.hid (Bl.trans HB2.out h3.bel)
    clear h3 hS hR hor hfew HAT
    go_wp2_with fail
    refine HLO.out.mono ?_
    rintro e w4 ⟨⟨v, rfl, hO⟩, hb4⟩
    have HF := Lib.hid (And.intro (HV.out _ v (hO.base HB3.out.size)) (Bl.trans HB3.out hb4))
    clear hO hb4 HLO
    go_wp2
    go_ret2
    exact ⟨⟨_, rfl, HF.out.1⟩, HF.out.2⟩
end Go.Proofs.YtcfeoapbbkfbnaaGreatDoor
