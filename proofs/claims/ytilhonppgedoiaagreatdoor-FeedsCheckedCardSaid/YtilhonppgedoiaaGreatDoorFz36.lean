/- Texts of the proof of a law, put together, part 36 of 46. Conditions: none beyond those that each theorem names. -/
import Derived.Test.YtilhonppgedoiaaGreatDoorFz4
import Derived.Test.YtilhonppgedoiaaGreatDoorFz5
import Derived.Test.YtilhonppgedoiaaGreatDoorFz7
import Derived.Test.YtilhonppgedoiaaGreatDoorFz10
import Derived.Test.YtilhonppgedoiaaGreatDoorFz23
import Derived.Test.YtilhonppgedoiaaGreatDoorFz24
import Derived.Test.YtilhonppgedoiaaGreatDoorFz28
import Derived.Test.YtilhonppgedoiaaGreatDoorFz31
import Derived.Test.YtilhonppgedoiaaGreatDoorFz32
import Derived.Test.YtilhonppgedoiaaGreatDoorFz35
import Derived.Lib.SliceRun
import Derived.Laws.IdiomCopy
namespace Go.Proofs.YtilhonppgedoiaaGreatDoor
open Go.RowKit Go.Sort
theorem neqFe_no (x1 x2 x3 x4 x5 x6 : _) (W : World) : (binOp .neq 37 (.agg #[.int .i64 x1, .int .i64 x2, .string x3, .string x4, .int .i64 x5, .string x6]) (.agg #[.int .i64 x1, .int .i64 x2, .string x3, .string x4, .int .i64 x5, .string x6])).run Tryz.prog W = .ok (.bool false) W := by
  go_simp
theorem neqFe_yes {x1 x2 x3 x4 x5 x6 y1 y2 y3 y4 y5 y6 : _} (hxy : ((x1, x2, x3, x4, x5, x6) : Int × Int × ByteArray × ByteArray × Int × ByteArray) ≠ (y1, y2, y3, y4, y5, y6)) (W : World) : (binOp .neq 37 (.agg #[.int .i64 x1, .int .i64 x2, .string x3, .string x4, .int .i64 x5, .string x6]) (.agg #[.int .i64 y1, .int .i64 y2, .string y3, .string y4, .int .i64 y5, .string y6])).run Tryz.prog W = .ok (.bool true) W := by
  go_simp
  intro e1 e2 e3 e4 e5 e6
  first
    | (exact hxy (by subst e1; subst e2; subst e3; subst e4; subst e5; subst e6; rfl))
    | (have e3 := ba_inj e3; have e4 := ba_inj e4; have e6 := ba_inj e6; exact hxy (by subst e1; subst e2; subst e3; subst e4; subst e5; subst e6; rfl))
set_option maxHeartbeats 4000000 in
set_option maxRecDepth 100000 in
theorem EqualFe_any (l m : List (Int × Int × ByteArray × ByteArray × Int × ByteArray)) (v u : Value) (w : World) (_hl : l.length ≤ 1000000) (hm : m.length ≤ 1000000) (rl : RecR TFe w 0 v l) (rm : RecR TFe w 0 u m) :
    Calls Tryz.prog 8 #[v, u] w fun e w' => e = .returned (.bool (decide (l = m))) ∧ Below w.heap.size w w' := by
  obtain ⟨a, ca, rfl, _, _⟩ := rl.form
  obtain ⟨b, cb, rfl, _, _⟩ := rm.form
  have RL := Lib.hid rl
  have RM := Lib.hid rm
  clear rl rm
  by_cases hlm : l.length = m.length
  · have HLM := Lib.hid hlm
    have hmk : ∀ k, k < l.length → k < m.length := fun k h => by omega
    rw [← hlm]
    clear hlm
    go_enter Tryz.func8, Tryz.ntmps8
    go_wp2_with fail
    go_loopw [13] (fun i wr => ∃ k : Nat, k ≤ l.length ∧ i = .int .i64 k ∧ Hid (l.take k = m.take k) ∧ Below w.heap.size w wr) (fun i _ => l.length - (intOf i).toNat)
    case atStart => exact ⟨0, Nat.zero_le _, rfl, Lib.hid (by simp), Below.refl _ _⟩
    case round =>
      obtain ⟨k, hk, rfl, hT, hB⟩ := hrel
      by_cases hlt : k < l.length
      · obtain ⟨x, hx⟩ : ∃ x, l[k]? = some x := ⟨_, List.getElem?_eq_getElem hlt⟩
        obtain ⟨y, hy⟩ : ∃ y, m[k]? = some y := ⟨_, List.getElem?_eq_getElem (hmk k hlt)⟩
        obtain ⟨b1, o1, rfl, _, _, hc1⟩ := (RL.out.below hB).at TFe.ok.len hx TFe.ok.pos
        obtain ⟨b2, o2, rfl, _, _, hc2⟩ := (RM.out.below hB).at TFe.ok.len hy TFe.ok.pos
        have HX := Lib.hid hx
        have HY := Lib.hid hy
        obtain ⟨x1, x2, x3, x4, x5, x6⟩ := x
        obtain ⟨y1, y2, y3, y4, y5, y6⟩ := y
        have cx0 : wr.cell? ⟨b1, o1 + k * 6, none⟩ = some (.int .i64 x1) := hc1 0 _ rfl
        have cx1 : wr.cell? ⟨b1, o1 + k * 6 + 1, none⟩ = some (.int .i64 x2) := hc1 1 _ rfl
        have cx2 : wr.cell? ⟨b1, o1 + k * 6 + 2, none⟩ = some (.string x3) := hc1 2 _ rfl
        have cx3 : wr.cell? ⟨b1, o1 + k * 6 + 3, none⟩ = some (.string x4) := hc1 3 _ rfl
        have cx4 : wr.cell? ⟨b1, o1 + k * 6 + 4, none⟩ = some (.int .i64 x5) := hc1 4 _ rfl
        have cx5 : wr.cell? ⟨b1, o1 + k * 6 + 5, none⟩ = some (.string x6) := hc1 5 _ rfl
        have cy0 : wr.cell? ⟨b2, o2 + k * 6, none⟩ = some (.int .i64 y1) := hc2 0 _ rfl
        have cy1 : wr.cell? ⟨b2, o2 + k * 6 + 1, none⟩ = some (.int .i64 y2) := hc2 1 _ rfl
        have cy2 : wr.cell? ⟨b2, o2 + k * 6 + 2, none⟩ = some (.string y3) := hc2 2 _ rfl
        have cy3 : wr.cell? ⟨b2, o2 + k * 6 + 3, none⟩ = some (.string y4) := hc2 3 _ rfl
        have cy4 : wr.cell? ⟨b2, o2 + k * 6 + 4, none⟩ = some (.int .i64 y5) := hc2 4 _ rfl
        have cy5 : wr.cell? ⟨b2, o2 + k * 6 + 5, none⟩ = some (.string y6) := hc2 5 _ rfl
        have hw1 : IntKind.i64.wrap ((k : Int) + 1) = ((k + 1 : Nat) : Int) := by rw [IntWalk.i64_in _ (by omega)]; omega
        clear hc1 hc2 hx hy
        by_cases hxy : ((x1, x2, x3, x4, x5, x6) : Int × Int × ByteArray × ByteArray × Int × ByteArray) = (y1, y2, y3, y4, y5, y6)
        · have HT2 : Hid (l.take (k + 1) = m.take (k + 1)) := Lib.hid (by rw [List.take_add_one, List.take_add_one, hT.out, HX.out, HY.out, hxy])
          obtain ⟨e1, hxy⟩ := Prod.mk.inj hxy; obtain ⟨e2, hxy⟩ := Prod.mk.inj hxy; obtain ⟨e3, hxy⟩ := Prod.mk.inj hxy; obtain ⟨e4, hxy⟩ := Prod.mk.inj hxy; obtain ⟨e5, hxy⟩ := Prod.mk.inj hxy
          have e6 := hxy
          clear hxy
          subst e1; subst e2; subst e3; subst e4; subst e5; subst e6
          have hne := neqFe_no x1 x2 x3 x4 x5 x6
          go_wp2_with fail
          go_region
          all_goals (
            go_wp2
            go_roundw
            case rel => exact ⟨k + 1, by omega, by go_num, HT2, Below.drew hB⟩
            case measure => simp [intOf]; omega)
        · have HR : Hid (decide (l = m) = false) := Lib.hid (by
            rw [decide_eq_false_iff_not]
            rintro rfl
            have := HX.out.symm.trans HY.out
            injection this with this
            exact hxy this)
          have hne := neqFe_yes hxy
          clear hxy
          go_wp2_with fail
          go_region
          all_goals (
            go_wp2
            go_ret
            exact ⟨ret_bool HR.out.symm, Below.drew hB⟩)
      · obtain rfl : k = l.length := by omega
        have HR : Hid (decide (l = m) = true) := Lib.hid (by
          rw [decide_eq_true_eq]
          have := hT.out
          rw [List.take_length, HLM.out, List.take_length] at this
          exact this)
        go_wp2
        go_ret
        exact ⟨ret_bool HR.out.symm, hB⟩
  · have hi : ¬ ((l.length : Nat) : Int) = ((m.length : Nat) : Int) := by omega
    have HR : Hid (decide (l = m) = false) := Lib.hid (by
      rw [decide_eq_false_iff_not]
      intro h
      exact hlm (congrArg List.length h))
    go_enter Tryz.func8, Tryz.ntmps8
    go_wp2
    go_ret
    exact ⟨ret_bool HR.out.symm, Below.refl _ _⟩
theorem neqLo_no (x1 x2 : _) (W : World) : (binOp .neq 119 (.agg #[.string x1, .int .i64 x2]) (.agg #[.string x1, .int .i64 x2])).run Tryz.prog W = .ok (.bool false) W := by
  go_simp
theorem neqLo_yes {x1 x2 y1 y2 : _} (hxy : ((x1, x2) : ByteArray × Int) ≠ (y1, y2)) (W : World) : (binOp .neq 119 (.agg #[.string x1, .int .i64 x2]) (.agg #[.string y1, .int .i64 y2])).run Tryz.prog W = .ok (.bool true) W := by
  go_simp
  intro e1 e2
  first
    | (exact hxy (by subst e1; subst e2; rfl))
    | (have e1 := ba_inj e1; exact hxy (by subst e1; subst e2; rfl))
set_option maxHeartbeats 4000000 in
set_option maxRecDepth 100000 in
theorem EqualLo_any (l m : List (ByteArray × Int)) (v u : Value) (w : World) (_hl : l.length ≤ 1000000) (hm : m.length ≤ 1000000) (rl : RecR TLo w 0 v l) (rm : RecR TLo w 0 u m) :
    Calls Tryz.prog 67 #[v, u] w fun e w' => e = .returned (.bool (decide (l = m))) ∧ Below w.heap.size w w' := by
  obtain ⟨a, ca, rfl, _, _⟩ := rl.form
  obtain ⟨b, cb, rfl, _, _⟩ := rm.form
  have RL := Lib.hid rl
  have RM := Lib.hid rm
  clear rl rm
  by_cases hlm : l.length = m.length
  · have HLM := Lib.hid hlm
    have hmk : ∀ k, k < l.length → k < m.length := fun k h => by omega
    rw [← hlm]
    clear hlm
    go_enter Tryz.func67, Tryz.ntmps67
    go_wp2_with fail
    go_loopw [13] (fun i wr => ∃ k : Nat, k ≤ l.length ∧ i = .int .i64 k ∧ Hid (l.take k = m.take k) ∧ Below w.heap.size w wr) (fun i _ => l.length - (intOf i).toNat)
    case atStart => exact ⟨0, Nat.zero_le _, rfl, Lib.hid (by simp), Below.refl _ _⟩
    case round =>
      obtain ⟨k, hk, rfl, hT, hB⟩ := hrel
      by_cases hlt : k < l.length
      · obtain ⟨x, hx⟩ : ∃ x, l[k]? = some x := ⟨_, List.getElem?_eq_getElem hlt⟩
        obtain ⟨y, hy⟩ : ∃ y, m[k]? = some y := ⟨_, List.getElem?_eq_getElem (hmk k hlt)⟩
        obtain ⟨b1, o1, rfl, _, _, hc1⟩ := (RL.out.below hB).at TLo.ok.len hx TLo.ok.pos
        obtain ⟨b2, o2, rfl, _, _, hc2⟩ := (RM.out.below hB).at TLo.ok.len hy TLo.ok.pos
        have HX := Lib.hid hx
        have HY := Lib.hid hy
        obtain ⟨x1, x2⟩ := x
        obtain ⟨y1, y2⟩ := y
        have cx0 : wr.cell? ⟨b1, o1 + k * 2, none⟩ = some (.string x1) := hc1 0 _ rfl
        have cx1 : wr.cell? ⟨b1, o1 + k * 2 + 1, none⟩ = some (.int .i64 x2) := hc1 1 _ rfl
        have cy0 : wr.cell? ⟨b2, o2 + k * 2, none⟩ = some (.string y1) := hc2 0 _ rfl
        have cy1 : wr.cell? ⟨b2, o2 + k * 2 + 1, none⟩ = some (.int .i64 y2) := hc2 1 _ rfl
        have hw1 : IntKind.i64.wrap ((k : Int) + 1) = ((k + 1 : Nat) : Int) := by rw [IntWalk.i64_in _ (by omega)]; omega
        clear hc1 hc2 hx hy
        by_cases hxy : ((x1, x2) : ByteArray × Int) = (y1, y2)
        · have HT2 : Hid (l.take (k + 1) = m.take (k + 1)) := Lib.hid (by rw [List.take_add_one, List.take_add_one, hT.out, HX.out, HY.out, hxy])
          obtain ⟨e1, hxy⟩ := Prod.mk.inj hxy
          have e2 := hxy
          clear hxy
          subst e1; subst e2
          have hne := neqLo_no x1 x2
          go_wp2_with fail
          go_region
          all_goals (
            go_wp2
            go_roundw
            case rel => exact ⟨k + 1, by omega, by go_num, HT2, Below.drew hB⟩
            case measure => simp [intOf]; omega)
        · have HR : Hid (decide (l = m) = false) := Lib.hid (by
            rw [decide_eq_false_iff_not]
            rintro rfl
            have := HX.out.symm.trans HY.out
            injection this with this
            exact hxy this)
          have hne := neqLo_yes hxy
          clear hxy
          go_wp2_with fail
          go_region
          all_goals (
            go_wp2
            go_ret
            exact ⟨ret_bool HR.out.symm, Below.drew hB⟩)
      · obtain rfl : k = l.length := by omega
        have HR : Hid (decide (l = m) = true) := Lib.hid (by
          rw [decide_eq_true_eq]
          have := hT.out
          rw [List.take_length, HLM.out, List.take_length] at this
          exact this)
        go_wp2
        go_ret
        exact ⟨ret_bool HR.out.symm, hB⟩
  · have hi : ¬ ((l.length : Nat) : Int) = ((m.length : Nat) : Int) := by omega
    have HR : Hid (decide (l = m) = false) := Lib.hid (by
      rw [decide_eq_false_iff_not]
      intro h
      exact hlm (congrArg List.length h))
    go_enter Tryz.func67, Tryz.ntmps67
    go_wp2
    go_ret
    exact ⟨ret_bool HR.out.symm, Below.refl _ _⟩
end Go.Proofs.YtilhonppgedoiaaGreatDoor
namespace Go.Proofs.YtilhonppgedoiaaGreatDoor
open Go.RowKit Go.Sort Go.Maps
end Go.Proofs.YtilhonppgedoiaaGreatDoor
namespace Go.Proofs.YtilhonppgedoiaaGreatDoor
open Go.RowKit Go.Sort
section
variable {α : Type} {T : Rty α}
/-- the first records of a row. -/
def TopR (T : Rty α) (w : World) (B g n cap : Nat) (l : List α) : Prop := B ≤ g ∧ n ≤ cap ∧ cap ≤ maxLen ∧ l.length = n ∧ ∃ cur, w.heap[g]? = some (.cells cur T.e (0, 0)) ∧ cur.size = cap * T.k ∧ cur.toList.take (n * T.k) = l.flatMap T.f
theorem TopR.own (hT : T.Ok) {w : World} {B g n cap : Nat} {l : List α} (h : TopR T w B g n cap l) : OwnR T w B (.slice (some ⟨g, 0, none⟩) n cap) l := by
  obtain ⟨h1, h2, h3, h4, cur, h5, h6, h7⟩ := h
  refine ⟨flat_len hT.len l, .inr ⟨g, cap, cur, by rw [h4], h1, h5, by omega, h3, h6, ?_⟩⟩
  rw [h4]; exact h7
theorem TopR.set {w : World} {B g n cap : Nat} {l : List α} (h : TopR T w B g n cap l) {o : Nat} (ho : n * T.k ≤ o) (v : Value) : TopR T (w.setCell ⟨g, o, none⟩ v) B g n cap l := by
  obtain ⟨h1, h2, h3, h4, cur, h5, h6, h7⟩ := h
  exact ⟨h1, h2, h3, h4, _, blk_set h5 o v, by simp [h6], by rw [Array.toList_setIfInBounds, List.take_set_of_le ho]; exact h7⟩
theorem TopR.sets {B g n cap : Nat} {l : List α} : ∀ (vs : List Value) (o : Nat) {w : World}, TopR T w B g n cap l → n * T.k ≤ o → TopR T (w.setCells g o vs) B g n cap l
  | [], _, _, h, _ => h
  | v :: r, o, _, h, ho => TopR.sets r (o + 1) (h.set ho v) (by omega)
theorem BlR.sets {B g : Nat} {a : World} (hg : B ≤ g) : ∀ (vs : List Value) (o : Nat) {w : World}, Below B a w → Below B a (w.setCells g o vs)
  | [], _, _, h => h
  | v :: r, o, _, h => BlR.sets hg r (o + 1) (Bl.set h g o hg v)
end
def cntB (e : Fed) : Bool := e.2.1 == 5
def noCnt (l : List Fed) : List Fed := l.filter fun e => !cntB e
/-- where DeleteFunc stands: the first n are what is kept of the first j. -/
structure DelC (B g N cap n j : Nat) (l : List Fed) (wr : World) (l' : List Fed) : Prop where
  len : l'.length = N
  own : OwnR TFe wr B (.slice (some ⟨g, 0, none⟩) N cap) l'
  top : l'.take n = noCnt (l.take j)
  rest : ∀ x, j ≤ x → l'[x]? = l[x]?
theorem DelC.skip {B g N cap n j : Nat} {l : List Fed} {wr w' : World} {l' : List Fed} (h : DelC B g N cap n j l wr l') {t : Fed} (ht : l[j]? = some t) (hq : cntB t = true) (hb : Below wr.heap.size wr w') : DelC B g N cap n (j + 1) l w' l' := by
  refine ⟨h.len, h.own.below hb, ?_, fun x hx => h.rest x (by omega)⟩
  rw [h.top, List.take_add_one, ht]
  unfold noCnt
  simp [hq]
theorem DelC.keep {B g N cap n j : Nat} {l : List Fed} {wr w' : World} {l' : List Fed} (h : DelC B g N cap n j l wr l') {t : Fed} (ht : l[j]? = some t) (hq : cntB t = false) (hO : OwnR TFe w' B (.slice (some ⟨g, 0, none⟩) N cap) (l'.set n t)) (hnj : n < j) (hjN : j < N) : DelC B g N cap (n + 1) (j + 1) l w' (l'.set n t) := by
  have hnl : n < l'.length := by rw [h.len]; omega
  refine ⟨by rw [List.length_set, h.len], hO, ?_, fun x hx => ?_⟩
  · rw [List.take_add_one, List.take_set_of_le (Nat.le_refl n), h.top, List.take_add_one, ht]
    unfold noCnt
    simp [hq, hnl]
  · rw [List.getElem?_set_ne (by omega)]; exact h.rest x (by omega)
/-- a record written over another one. -/
theorem OwnR.over {w : World} {B g n cap i : Nat} {l : List Fed} (h : OwnR TFe w B (.slice (some ⟨g, 0, none⟩) n cap) l) (hn : n = l.length) (hi : i < n) (t kd : Int) (fd rk : ByteArray) (mn : Int) (bd : ByteArray) :
    OwnR TFe ((((((w.setCell ⟨g, i * 6, none⟩ (.int .i64 t)).setCell ⟨g, i * 6 + 1, none⟩ (.int .i64 kd)).setCell ⟨g, i * 6 + 2, none⟩ (.string fd)).setCell ⟨g, i * 6 + 3, none⟩ (.string rk)).setCell ⟨g, i * 6 + 4, none⟩ (.int .i64 mn)).setCell ⟨g, i * 6 + 5, none⟩ (.string bd)) B (.slice (some ⟨g, 0, none⟩) n cap) (l.set i (t, kd, fd, rk, mn, bd)) := by
  subst hn
  obtain ⟨⟨x0, x1, x2, x3, x4, x5⟩, hx⟩ : ∃ x, l[i]? = some x := ⟨_, List.getElem?_eq_getElem hi⟩
  have s0 := h.setf (fo := 0) (x' := (t, x1, x2, x3, x4, x5)) (v := .int .i64 t) TFe.ok rfl hx (by decide) rfl
  have s1 := s0.setf (fo := 1) (x := (t, x1, x2, x3, x4, x5)) (x' := (t, kd, x2, x3, x4, x5)) (v := .int .i64 kd) TFe.ok (by rw [List.length_set]) (List.getElem?_set_self hi) (by decide) rfl
  rw [List.set_set] at s1
  have s2 := s1.setf (fo := 2) (x := (t, kd, x2, x3, x4, x5)) (x' := (t, kd, fd, x3, x4, x5)) (v := .string fd) TFe.ok (by rw [List.length_set]) (List.getElem?_set_self hi) (by decide) rfl
  rw [List.set_set] at s2
  have s3 := s2.setf (fo := 3) (x := (t, kd, fd, x3, x4, x5)) (x' := (t, kd, fd, rk, x4, x5)) (v := .string rk) TFe.ok (by rw [List.length_set]) (List.getElem?_set_self hi) (by decide) rfl
  rw [List.set_set] at s3
  have s4 := s3.setf (fo := 4) (x := (t, kd, fd, rk, x4, x5)) (x' := (t, kd, fd, rk, mn, x5)) (v := .int .i64 mn) TFe.ok (by rw [List.length_set]) (List.getElem?_set_self hi) (by decide) rfl
  rw [List.set_set] at s4
  have s5 := s4.setf (fo := 5) (x := (t, kd, fd, rk, mn, x5)) (x' := (t, kd, fd, rk, mn, bd)) (v := .string bd) TFe.ok (by rw [List.length_set]) (List.getElem?_set_self hi) (by decide) rfl
  rw [List.set_set] at s5
  exact s5
end Go.Proofs.YtilhonppgedoiaaGreatDoor
namespace Go.Proofs.YtilhonppgedoiaaGreatDoor
open Go.RowKit Go.Sort Go.Maps Go.Shelf Go.Lib
end Go.Proofs.YtilhonppgedoiaaGreatDoor
namespace Go.Proofs.YtilhonppgedoiaaGreatDoor
open Go.RowKit Go.Sort
def U3 : List ByteArray := [⟨#[117, 49]⟩, ⟨#[117, 50]⟩, ⟨#[117, 51]⟩]
def F2 : List ByteArray := [⟨#[102, 49]⟩, ⟨#[102, 50]⟩]
/-- what the walk of ComponentsAddUp rests on. -/
structure CaF (rs : List Rel) (g : List Fed) (A : Mdl) : Prop where
  f0 : feedsF rs g = 0
  e1 : runM 345686399999 (newM rs) 0 g = A
  e2 : runM 345686400000 (newM rs) 0 g = A
  inv : InvM A g.length
  c : InvC U3 rs A
  nd : (keysR rs).Nodup
  rz : ∀ x ∈ rs, 0 ≤ x.2.2 ∧ x.2.2 ≤ 100000
theorem orgL_mem {log : List Tkn} {b : ByteArray} {o : Org} (h : o ∈ orgL log b) : ∃ t ∈ log, t.2.2.1 = b ∧ o = (t.2.2.2.1, t.2.2.2.2.1, t.2.2.2.2.2) := by
  unfold orgL at h
  obtain ⟨t, ht, rfl⟩ := List.mem_map.1 h
  obtain ⟨h1, h2⟩ := List.mem_filter.1 ht
  exact ⟨t, h1, of_decide_eq_true h2, rfl⟩
theorem orgS_nn : ∀ l : List Org, (∀ o ∈ l, 1 ≤ o.2.2) → 0 ≤ orgS l
  | [], _ => Int.le_refl _
  | x :: l, h => by
    have h1 := h x (List.mem_cons_self ..)
    have h2 := orgS_nn l fun o ho => h o (List.mem_cons_of_mem _ ho)
    show 0 ≤ x.2.2 + orgS l
    omega
section
variable {rs : List Rel} {g : List Fed} {A : Mdl}
theorem CaF.one (h : CaF rs g A) {b : ByteArray} {o : Org} (ho : o ∈ orgL A.log b) : 1 ≤ o.2.2 ∧ o.2.1 ∈ keysR rs := by
  obtain ⟨t, ht, _, rfl⟩ := orgL_mem ho
  exact ⟨(h.c.one t ht).1, (h.c.one t ht).2.1⟩
theorem CaF.nn (h : CaF rs g A) (b : ByteArray) : 0 ≤ orgS (orgL A.log b) := orgS_nn _ fun _ ho => (h.one ho).1
theorem CaF.left (h : CaF rs g A) {x : Rel} (hx : x ∈ rs) : 0 ≤ A.left x.1 ∧ A.left x.1 ≤ x.2.2 := by
  have h1 := h.c.le x.1
  rw [newM_left h.nd hx] at h1
  exact ⟨(h.inv.lf _).1, h1⟩
/-- the reels that were met before. -/
def metR (A : Mdl) (k : Nat) (f : ByteArray) (j : Nat) : List ByteArray := ((F2.take k).map A.row).flatten ++ (A.row f).take j
theorem CaF.fresh (h : CaF rs g A) {k j : Nat} {f x : ByteArray} (hf : F2[k]? = some f) (hx : (A.row f)[j]? = some x) : x ∉ metR A k f j := by
  intro hm
  unfold metR at hm
  have hxm := List.mem_of_getElem? hx
  rcases List.mem_append.1 hm with hm | hm
  · obtain ⟨r, hr, hxr⟩ := List.mem_flatten.1 hm
    obtain ⟨f', hf', rfl⟩ := List.mem_map.1 hr
    have e1 := h.inv.in1 f' x hxr
    have e2 := h.inv.in1 f x hxm
    rw [e1] at e2
    subst e2
    obtain ⟨i, hi⟩ := List.getElem?_of_mem hf'
    rw [List.getElem?_take] at hi
    split at hi
    · rename_i hik
      have h1 := (List.getElem?_eq_some_iff.1 hi)
      have h2 := (List.getElem?_eq_some_iff.1 hf)
      obtain ⟨a1, b1⟩ := h1
      obtain ⟨a2, b2⟩ := h2
      have hnd : F2.Nodup := by unfold F2; decide
      have := (List.pairwise_iff_getElem.1 hnd) i k a1 a2 hik
      rw [b1, b2] at this
      exact this rfl
    · cases hi
  · obtain ⟨i, hi⟩ := List.getElem?_of_mem hm
    rw [List.getElem?_take] at hi
    split at hi
    · rename_i hij
      obtain ⟨a1, b1⟩ := List.getElem?_eq_some_iff.1 hi
      obtain ⟨a2, b2⟩ := List.getElem?_eq_some_iff.1 hx
      have := (List.pairwise_iff_getElem.1 (h.inv.nd f)) i j a1 a2 hij
      rw [b1, b2] at this
      exact this rfl
    · cases hi
end
end Go.Proofs.YtilhonppgedoiaaGreatDoor
