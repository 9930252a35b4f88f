/- Texts of the proof of a law, put together, part 15 of 46. Conditions: none beyond those that each theorem names. -/
import Derived.Test.YteojmljggoplkaaGreatDoorPz2
import Derived.Test.YteojmljggoplkaaGreatDoorPz4
import Derived.Test.YteojmljggoplkaaGreatDoorPz5
import Derived.Test.YteojmljggoplkaaGreatDoorPz6
import Derived.Test.YteojmljggoplkaaGreatDoorPz10
import Derived.Test.YteojmljggoplkaaGreatDoorPz13
import Derived.Test.YteojmljggoplkaaGreatDoorPz14
import Derived.ChangeKeysEq
namespace Go.Proofs.YteojmljggoplkaaGreatDoor
open Go.RowKit Go.Sort
/-- an index, or -1. -/
def IdxB (c : Bool) (r : Int) : Prop := (c = true → 0 ≤ r) ∧ (c = false → r = -1)
theorem mem_bsW {L : List Wy} {a b : ByteArray} : (bsOf a, bsOf b) ∈ L.map bsW ↔ (a, b) ∈ L := by
  rw [List.mem_map]
  constructor
  · rintro ⟨x, hx, e⟩
    injection e with e1 e2
    have h1 : x.1 = a := ByteArray.ext (Array.toList_inj.1 e1)
    have h2 : x.2 = b := ByteArray.ext (Array.toList_inj.1 e2)
    rw [← h1, ← h2]
    exact hx
  · intro h
    exact ⟨_, h, rfl⟩
theorem eql2_run (a b p q : ByteArray) (W : World) : (binOp .eql 90 (.agg #[.string a, .string b]) (.agg #[.string p, .string q])).run Tryz.prog W = .ok (.bool (a.toList == p.toList && b.toList == q.toList)) W := by
  go_simp
  obtain ⟨i, hi⟩ := Option.isSome_iff_exists.1 (by kernel_rfl : (Tryz.prog.info? 9).isSome = true)
  rw [show (10000 : Nat) = 9999 + 1 from rfl, run_equalIn_array W 9999 _ _ Tryz.underlying90 hi]
  have hc : Tryz.prog.cellsOf 9 = 1 := by kernel_rfl
  rw [hc]
  simp [Op.eqItems, List.range, List.range.loop, go_sem]
  by_cases h1 : a.toList = p.toList <;> by_cases h2 : b.toList = q.toList <;> simp [h1, h2]
theorem eql2_yes (a b : ByteArray) (W : World) : (binOp .eql 90 (.agg #[.string a, .string b]) (.agg #[.string a, .string b])).run Tryz.prog W = .ok (.bool true) W := by
  rw [eql2_run]; simp
theorem eql2_no {a b p q : ByteArray} (h : ((p, q) : ByteArray × ByteArray) ≠ (a, b)) (W : World) : (binOp .eql 90 (.agg #[.string a, .string b]) (.agg #[.string p, .string q])).run Tryz.prog W = .ok (.bool false) W := by
  rw [eql2_run]
  have h1 : (a.toList == p.toList && b.toList == q.toList) = false := by
    rw [Bool.and_eq_false_iff, beq_eq_false_iff_ne, beq_eq_false_iff_ne]
    by_cases e1 : a.toList = p.toList
    · right
      intro e2
      exact h (by rw [ba_inj e1, ba_inj e2])
    · exact .inl e1
  rw [h1]
theorem take_not {α : Type} {L : List α} {k : Nat} {x y : α} (hx : L[k]? = some x) (h : y ∉ L.take k) (hne : x ≠ y) : y ∉ L.take (k + 1) := by
  rw [List.take_add_one, hx]
  intro hm
  rcases List.mem_append.1 hm with q | q
  · exact h q
  · exact hne (List.mem_singleton.1 q).symm
set_option maxHeartbeats 2000000 in
theorem Index2_any (L : List Wy) (v : Value) (a b : ByteArray) (w : World) (_hl : L.length ≤ 1000000) (rl : RecR TDr w 0 v L) :
    Calls Tryz.prog 102 #[v, .agg #[.string a, .string b]] w fun e w' => (∃ r : Int, e = .returned (.int .i64 r) ∧ IdxB (decide ((bsOf a, bsOf b) ∈ L.map bsW)) r) ∧ Below w.heap.size w w' := by
  obtain ⟨oa, cap, rfl, hc1, hc2⟩ := rl.form
  obtain ⟨w1, hw1⟩ : ∃ w1, w1 = w.alloc (.cells #[.string a, .string b] 90) := ⟨_, rfl⟩
  have hA1 : Below w.heap.size w w1 := by rw [hw1]; exact Bl.alloc (Below.refl _ _) _
  have HXC := Lib.hid (show ∀ W, Below w1.heap.size w1 W → W.cell? ⟨w.heap.size, 0, none⟩ = some (.string a) ∧ W.cell? ⟨w.heap.size, 1, none⟩ = some (.string b) ∧ w.heap.size < W.heap.size from fun W hW => by
    have h3 : W.heap[w.heap.size]? = _ := blk_below (show w1.heap[w.heap.size]? = some (.cells #[.string a, .string b] 90 (0, 0)) by rw [hw1]; exact blk_new w _) hW
    exact ⟨blk_cell h3 0, blk_cell h3 1, blk_lt h3⟩)
  have HW1 := Lib.hid hw1
  have HB1 := Lib.hid hA1
  have RL := Lib.hid rl
  clear hw1 hA1 rl
  go_enter Tryz.func102, Tryz.ntmps102
  go_wp2
  rw [← HW1.out]
  go_loopw [8] (fun i wr => ∃ k : Nat, k ≤ L.length ∧ i = .int .i64 k ∧ Hid ((a, b) ∉ L.take k) ∧ Hid (Below w1.heap.size w1 wr)) (fun i _ => L.length - (intOf i).toNat)
  case atStart => exact ⟨0, Nat.zero_le _, rfl, Lib.hid (by simp), Lib.hid (Below.refl _ _)⟩
  case round =>
    obtain ⟨k, hk, rfl, HN, HB⟩ := hrel
    by_cases hlt : k < L.length
    · obtain ⟨x, hx⟩ : ∃ x, L[k]? = some x := ⟨_, List.getElem?_eq_getElem hlt⟩
      obtain ⟨b2, o2, rfl, _, lb2, z⟩ := (RL.out.below (Bl.trans HB1.out HB.out)).at TDr.ok.len hx TDr.ok.pos
      have HTN : Hid (x ≠ (a, b) → (a, b) ∉ L.take (k + 1)) := Lib.hid fun h => take_not hx HN.out h
      have HTM : Hid (x = (a, b) → (a, b) ∈ L) := Lib.hid fun h => h ▸ List.mem_of_getElem? hx
      obtain ⟨p, q⟩ := x
      have c0 : wr.cell? ⟨b2, o2 + k * 2, none⟩ = some (.string p) := z 0 _ rfl
      have c1 : wr.cell? ⟨b2, o2 + k * 2 + 1, none⟩ = some (.string q) := z 1 _ rfl
      obtain ⟨q0, q1, lC⟩ := HXC.out wr HB.out
      have hw1 : IntKind.i64.wrap ((k : Int) + 1) = ((k + 1 : Nat) : Int) := by rw [IntWalk.i64_in _ (by omega)]; omega
      clear hx z
      by_cases hh : ((p, q) : ByteArray × ByteArray) = (a, b)
      · have HM := Lib.hid (HTM.out hh)
        injection hh with e1 e2
        subst e1 e2
        have hne := eql2_yes p q
        have HR : Hid (IdxB (decide ((bsOf p, bsOf q) ∈ L.map bsW)) (k : Int)) := Lib.hid ⟨fun _ => by omega, fun h => absurd (mem_bsW.2 HM.out) (of_decide_eq_false h)⟩
        go_wp2
        go_region
        all_goals (
          go_wp2
          go_ret
          exact ⟨⟨_, rfl, HR.out⟩, HB1.out.trans ((Below.drew HB.out).mono HB1.out.size)⟩)
      · have HT := Lib.hid (HTN.out hh)
        have hne := eql2_no hh
        clear hh
        go_wp2
        go_region
        all_goals (
          go_wp2
          go_roundw
          case rel => exact ⟨k + 1, by omega, by go_num, HT, Lib.hid (Below.drew HB.out)⟩
          case measure => simp [intOf]; omega)
    · obtain rfl : k = L.length := by omega
      have HR : IdxB (decide ((bsOf a, bsOf b) ∈ L.map bsW)) (-1) := by
        have h1 := HN.out
        rw [List.take_length] at h1
        exact ⟨fun h => absurd (mem_bsW.1 (of_decide_eq_true h)) h1, fun _ => rfl⟩
      go_wp2
      go_ret
      exact ⟨⟨_, rfl, HR⟩, HB1.out.trans (HB.out.mono HB1.out.size)⟩
set_option maxHeartbeats 2000000 in
theorem Contains2_any (L : List Wy) (v : Value) (a b : ByteArray) (w : World) (hl : L.length ≤ 1000000) (rl : RecR TDr w 0 v L) :
    Calls Tryz.prog 62 #[v, .agg #[.string a, .string b]] w fun e w' => e = .returned (.bool (decide ((bsOf a, bsOf b) ∈ L.map bsW))) ∧ Below w.heap.size w w' := by
  have hb0 := Bl.alloc (Below.refl w.heap.size w) (.cells #[.string a, .string b] 90)
  have HI0 := Index2_any L v a b (w.alloc (.cells #[.string a, .string b] 90)) hl (rl.below hb0)
  obtain ⟨oa, cap, rfl, _, _⟩ := rl.form
  generalize decide ((bsOf a, bsOf b) ∈ L.map bsW) = z at *
  unfold IdxB at HI0
  have HI := Lib.hid HI0
  have HB0 := Lib.hid hb0
  clear HI0 rl hb0
  go_enter Tryz.func62, Tryz.ntmps62
  go_wp2_with fail
  refine HI.out.mono ?_
  rintro e w2 ⟨⟨r, rfl, h1, h2⟩, hb2⟩
  have HB2 := Lib.hid (Bl.trans HB0.out hb2)
  clear hb2
  cases z
  · have h3 := h2 rfl
    subst h3
    clear h1 h2
    go_wp2
    go_ret
    exact ⟨rfl, HB2.out⟩
  · have h3 := h1 rfl
    clear h1 h2
    go_wp2
    go_ret
    exact ⟨by simp, HB2.out⟩
end Go.Proofs.YteojmljggoplkaaGreatDoor
namespace Go.Proofs.YteojmljggoplkaaGreatDoor
open Go.RowKit Go.Sort
/-- a row of records that lies in memory. -/
def VOf {α : Type} (T : Rty α) (L : List α) : Value → World → Prop := fun v w => RecR T w 0 v L
theorem VOf.low {α : Type} {T : Rty α} {L : List α} {v : Value} {w w' : World} (h : VOf T L v w) (hb : Below w.heap.size w w') : VOf T L v w' := RecR.below h hb
def VOw {α : Type} (T : Rty α) (B : Nat) (L : List α) : Value → World → Prop := fun v w => OwnR T w B v L
theorem VOw.low {α : Type} {T : Rty α} {B : Nat} {L : List α} {v : Value} {w w' : World} (h : VOw T B L v w) (hb : Below w.heap.size w w') : VOw T B L v w' := OwnR.below h hb
section
variable {ops : Array Oper} {Q : Exit → Act → World → Prop} {a : Act} {D : List Nat} {f : Nat → Value} {i : Nat} {o : Oper} {w : World} {Bu Rl : World → Prop} {Vi : Value → World → Prop}
/-- whether a guarded operation is wanted. -/
theorem wanted_of {j d : Nat} {b c : Bool} (hg : o.guard = some (j, b)) (hd : (ops[j]?).bind (·.dst) = some d) (hD : D.contains d = true) (hs : d < a.tmps.size) (hf : f d = .bool c) :
    Region.wanted o (yielded ops (putsA a D f).tmps) = (c == b) := by
  unfold Region.wanted yielded
  rw [hg]
  have h1 : (putsA a D f).tmps[d]? = some (.bool c) := by
    unfold putsA
    simp only [Array.getElem?_mapIdx]
    rw [Array.getElem?_eq_getElem hs]
    simp only [Option.map_some, hD, if_true, hf]
  simp only [hd, Option.bind_some, h1]
  cases c <;> cases b <;> rfl
theorem iv_no (ho : ops[i]? = some o) (hw : Region.wanted o (yielded ops (putsA a D f).tmps) = false) (hB : Bu w) (hR : Rl w) (hV : Vi undef w) :
    wpOp Tryz.prog ops Q i (fun a' w' => ∃ v, a' = (putsA a D f).put o.dst v ∧ Bu w' ∧ Rl w' ∧ Vi v w') (putsA a D f) w := by
  unfold wpOp
  rw [ho]
  simp only [hw, Bool.false_eq_true, if_false]
  exact ⟨undef, rfl, hB, hR, hV⟩
theorem ivw_val (ho : ops[i]? = some o) (hw : Region.wanted o (yielded ops (putsA a D f).tmps) = true) (v : Value) (w' : World) (hrun : ∀ r, Ev a D f r → (execOp r o).run Tryz.prog w = .ok (.value v) w') (hB : Bu w') (hR : Rl w') (hV : Vi v w') :
    wpOp Tryz.prog ops Q i (fun a' w' => ∃ v, a' = (putsA a D f).put o.dst v ∧ Bu w' ∧ Rl w' ∧ Vi v w') (putsA a D f) w := by
  unfold wpOp
  rw [ho]
  simp only [hw, if_true]
  refine .inl ?_
  unfold Oper.wp
  rw [hrun _ Ev.mk']
  exact ⟨v, rfl, hB, hR, hV⟩
theorem ivw_call (ho : ops[i]? = some o) (hw : Region.wanted o (yielded ops (putsA a D f).tmps) = true) (fn : Nat) (xs : Array Operand) (ts : Array TypeId) (hop : o.op = Op.call { callee := Callee.value (Operand.func fn), args := xs, argTypes := ts }) (hent : ∀ args w, (callFunc fn args).run Tryz.prog w = .ok (.enter fn args) w)
    (vs : Array Value) (hx : ∀ r, Ev a D f r → xs.map r = vs) (R : Ending → World → Prop) (hc : Calls Tryz.prog fn vs w R) (hR : ∀ e w', R e w' → ∃ v, e = .returned v ∧ Bu w' ∧ Rl w' ∧ Vi v w') :
    wpOp Tryz.prog ops Q i (fun a' w' => ∃ v, a' = (putsA a D f).put o.dst v ∧ Bu w' ∧ Rl w' ∧ Vi v w') (putsA a D f) w := by
  unfold wpOp
  rw [ho]
  simp only [hw, if_true]
  refine .inl ?_
  have hrun : (execOp (putsA a D f).eval o).run Tryz.prog w = .ok (.enter fn vs) w := by
    rw [← hx _ Ev.mk']
    simp [execOp, hop, resolve, invoke, go_sem, hent]
  unfold Oper.wp
  rw [hrun, Oper.upon_enter]
  refine hc.mono fun e w' h => ?_
  obtain ⟨v, rfl, hk⟩ := hR e w' h
  exact ⟨v, rfl, hk⟩
end
end Go.Proofs.YteojmljggoplkaaGreatDoor
namespace Go.Proofs.YteojmljggoplkaaGreatDoor
open Go.RowKit Go.Sort
/-- events: when, kind, feeder, reel, how many, board. -/
abbrev Fed := Int × Int × ByteArray × ByteArray × Int × ByteArray
end Go.Proofs.YteojmljggoplkaaGreatDoor
namespace Go.Proofs.YteojmljggoplkaaGreatDoor
open Go.RowKit Go.Sort
abbrev Lf := ByteArray → Int
def updL (left : Lf) (k : ByteArray) (n : Int) : Lf := fun x => if x = k then n else left x
theorem updL_at (left : Lf) (k : ByteArray) (n : Int) : updL left k n k = n := if_pos rfl
theorem updL_ne (left : Lf) {k x : ByteArray} (n : Int) (h : x ≠ k) : updL left k n x = left x := if_neg h
theorem updL_upd (left : Lf) (k : ByteArray) (n m : Int) : updL (updL left k n) k m = updL left k m := by
  funext x; unfold updL; by_cases h : x = k <;> simp [h]
/-- empty reels that others follow are taken out. -/
def dropE (left : Lf) : List ByteArray → List ByteArray
  | [] => []
  | [a] => [a]
  | a :: b :: l => if left a = 0 then dropE left (b :: l) else a :: b :: l
def addT : List (ByteArray × Int) → ByteArray → List (ByteArray × Int)
  | [], k => [(k, 1)]
  | (x, m) :: r, k => if x = k then (x, m + 1) :: r else (k, 1) :: (x, m) :: r
/-- one by one. -/
def takeO : Nat → Lf → List ByteArray → List (ByteArray × Int) → Lf × List ByteArray × List (ByteArray × Int)
  | 0, left, l, log => (left, dropE left l, log)
  | n + 1, left, l, log => match dropE left l with
    | [] => (left, [], log)
    | k :: r => takeO n (updL left k (left k - 1)) (k :: r) (addT log k)
/-- reel by reel, of a row that is cleared. -/
def takeP : Nat → Int → Lf → List ByteArray → List (ByteArray × Int) → Lf × List ByteArray × List (ByteArray × Int)
  | 0, _, left, l, log => (left, l, log)
  | fuel + 1, n, left, l, log => if n ≤ 0 then (left, l, log) else match l with
    | [] => (left, l, log)
    | k :: r => takeP fuel (n - min n (left k)) (updL left k (left k - min n (left k))) (dropE (updL left k (left k - min n (left k))) (k :: r)) ((k, min n (left k)) :: log)
def sumL (left : Lf) : List ByteArray → Int
  | [] => 0
  | k :: r => left k + sumL left r
theorem dropE_pos {left : Lf} {k : ByteArray} (r : List ByteArray) (h : left k ≠ 0) : dropE left (k :: r) = k :: r := by
  cases r with
  | nil => rfl
  | cons b l => show (if left k = 0 then _ else _) = _; rw [if_neg h]
theorem dropE_idem (left : Lf) : ∀ l : List ByteArray, dropE left (dropE left l) = dropE left l
  | [] => rfl
  | [a] => rfl
  | a :: b :: l => by
    by_cases h : left a = 0
    · have e : dropE left (a :: b :: l) = dropE left (b :: l) := by show (if left a = 0 then _ else _) = _; rw [if_pos h]
      rw [e]; exact dropE_idem left (b :: l)
    · have e := dropE_pos (b :: l) h
      rw [e, e]
theorem dropE_suffix (left : Lf) : ∀ l : List ByteArray, dropE left l <:+ l
  | [] => List.suffix_refl _
  | [a] => List.suffix_refl _
  | a :: b :: l => by
    by_cases h : left a = 0
    · have e : dropE left (a :: b :: l) = dropE left (b :: l) := by show (if left a = 0 then _ else _) = _; rw [if_pos h]
      rw [e]; exact (dropE_suffix left (b :: l)).trans (List.suffix_cons a _)
    · rw [dropE_pos (b :: l) h]; exact List.suffix_refl _
theorem dropE_sum (left : Lf) : ∀ l : List ByteArray, sumL left (dropE left l) = sumL left l
  | [] => rfl
  | [a] => rfl
  | a :: b :: l => by
    by_cases h : left a = 0
    · have e : dropE left (a :: b :: l) = dropE left (b :: l) := by show (if left a = 0 then _ else _) = _; rw [if_pos h]
      rw [e, dropE_sum left (b :: l)]
      show _ = left a + sumL left (b :: l)
      omega
    · rw [dropE_pos (b :: l) h]
theorem takeO_drop (n : Nat) (left : Lf) (l : List ByteArray) (log : List (ByteArray × Int)) : takeO n left (dropE left l) log = takeO n left l log := by
  cases n with
  | zero => show (left, dropE left (dropE left l), log) = _; rw [dropE_idem]; rfl
  | succ n => rw [takeO, takeO, dropE_idem]
theorem takeO_run (k : ByteArray) (r : List ByteArray) (log : List (ByteArray × Int)) (m : Nat) : ∀ (t : Nat) (left : Lf) (a : Int), (t : Int) ≤ left k → takeO (t + m) left (k :: r) ((k, a) :: log) = takeO m (updL left k (left k - t)) (k :: r) ((k, a + t) :: log)
  | 0, left, a, _ => by
    have e : updL left k (left k - (0 : Nat)) = left := by
      funext x; unfold updL; by_cases h : x = k
      · rw [if_pos h, h]; simp
      · rw [if_neg h]
    rw [e, Nat.zero_add]
    simp
  | t + 1, left, a, h => by
    have hk : left k ≠ 0 := by omega
    rw [show t + 1 + m = (t + m) + 1 by omega, takeO, dropE_pos r hk]
    show takeO (t + m) (updL left k (left k - 1)) (k :: r) (if k = k then (k, a + 1) :: log else _) = _
    rw [if_pos rfl, takeO_run k r log m t (updL left k (left k - 1)) (a + 1) (by rw [updL_at]; omega), updL_upd, updL_at]
    have e1 : left k - 1 - (t : Int) = left k - ((t + 1 : Nat) : Int) := by omega
    have e2 : a + 1 + (t : Int) = a + ((t + 1 : Nat) : Int) := by omega
    rw [e1, e2]
theorem takeO_first (k : ByteArray) (r : List ByteArray) (log : List (ByteArray × Int)) (m t : Nat) (left : Lf) (h : ((t + 1 : Nat) : Int) ≤ left k) (hl : ∀ x, log.head? = some x → x.1 ≠ k) :
    takeO (t + 1 + m) left (k :: r) log = takeO m (updL left k (left k - (t + 1 : Nat))) (k :: r) ((k, ((t + 1 : Nat) : Int)) :: log) := by
  have hk : left k ≠ 0 := by omega
  have ha : addT log k = (k, 1) :: log := by
    cases log with
    | nil => rfl
    | cons x r => obtain ⟨y, c⟩ := x; show (if y = k then _ else _) = _; rw [if_neg (hl (y, c) rfl)]
  rw [show t + 1 + m = (t + m) + 1 by omega, takeO, dropE_pos r hk]
  show takeO (t + m) (updL left k (left k - 1)) (k :: r) (addT log k) = _
  rw [ha, takeO_run k r log m t _ 1 (by rw [updL_at]; omega), updL_upd, updL_at]
  have e1 : left k - 1 - (t : Int) = left k - ((t + 1 : Nat) : Int) := by omega
  have e2 : (1 : Int) + (t : Int) = ((t + 1 : Nat) : Int) := by omega
  rw [e1, e2]
theorem sumL_upd (left : Lf) (k : ByteArray) (n : Int) : ∀ l : List ByteArray, k ∉ l → sumL (updL left k n) l = sumL left l
  | [], _ => rfl
  | x :: r, h => by
    have hx : x ≠ k := fun e => h (by rw [e]; exact List.mem_cons_self ..)
    show updL left k n x + sumL (updL left k n) r = left x + sumL left r
    rw [updL_ne left n hx, sumL_upd left k n r (fun hm => h (List.mem_cons_of_mem _ hm))]
/-- both ways to take leave the same. -/
theorem takeO_P : ∀ (N n : Nat) (fuel : Nat) (left : Lf) (l : List ByteArray) (log : List (ByteArray × Int)), n ≤ N → n ≤ fuel → dropE left l = l → (n : Int) ≤ sumL left l → (∀ x ∈ l, 0 ≤ left x) → l.Nodup → (n = 0 ∨ ∀ x, log.head? = some x → x.1 ∉ l) →
    takeO n left l log = takeP fuel n left l log
  | _, 0, fuel, left, l, log, _, _, hd, _, _, _, _ => by
    show (left, dropE left l, log) = _
    rw [hd]
    cases fuel with
    | zero => rfl
    | succ f => rw [takeP.eq_def]; exact (if_pos (by omega : ((0 : Nat) : Int) ≤ 0)).symm
  | 0, n + 1, _, _, _, _, h, _, _, _, _, _, _ => by omega
  | N + 1, n + 1, 0, _, _, _, _, h, _, _, _, _, _ => by omega
  | N + 1, n + 1, fuel + 1, left, l, log, hN, hf, hd, hs, h0, hnd, hlog => by
    have hlog' : ∀ x, log.head? = some x → x.1 ∉ l := by
      rcases hlog with h | h
      · omega
      · exact h
    cases l with
    | nil => simp only [sumL] at hs; omega
    | cons k r =>
      have hk0 := h0 k (List.mem_cons_self ..)
      have hkr : k ∉ r := (List.nodup_cons.1 hnd).1
      have hkp : 0 < left k := by
        cases r with
        | nil => simp only [sumL] at hs; omega
        | cons b t =>
          by_cases hz : left k = 0
          · have e : dropE left (k :: b :: t) = dropE left (b :: t) := by show (if left k = 0 then _ else _) = _; rw [if_pos hz]
            rw [e] at hd
            have hl := (dropE_suffix left (b :: t)).length_le
            rw [hd] at hl
            simp at hl
            omega
          · omega
      rw [takeP, if_neg (by omega)]
      show _ = takeP fuel _ _ _ _
      obtain ⟨t, ht⟩ : ∃ t : Nat, ((t + 1 : Nat) : Int) = min ((n + 1 : Nat) : Int) (left k) := ⟨(min ((n + 1 : Nat) : Int) (left k)).toNat - 1, by omega⟩
      rw [← ht]
      obtain ⟨m, hm⟩ : ∃ m, n + 1 = t + 1 + m := ⟨n + 1 - (t + 1), by omega⟩
      rw [hm, takeO_first k r log m t left (by omega) (fun x hx e => hlog' x hx (by rw [e]; exact List.mem_cons_self ..)), ← takeO_drop]
      have e3 : ((t + 1 + m : Nat) : Int) - ((t + 1 : Nat) : Int) = (m : Int) := by omega
      rw [e3]
      have hsum : sumL (updL left k (left k - ((t + 1 : Nat) : Int))) (k :: r) = sumL left (k :: r) - ((t + 1 : Nat) : Int) := by
        show updL left k _ k + sumL (updL left k _) r = left k + sumL left r - _
        rw [updL_at, sumL_upd left k _ r hkr]; omega
      have hsf := dropE_suffix (updL left k (left k - ((t + 1 : Nat) : Int))) (k :: r)
      refine takeO_P N m fuel _ _ _ (by omega) (by omega) (dropE_idem _ _) (by rw [dropE_sum, hsum]; omega) ?_ (hnd.sublist hsf.sublist) ?_
      · intro x hx
        have hx' := hsf.subset hx
        by_cases he : x = k
        · rw [he, updL_at]; omega
        · rw [updL_ne left _ he]; exact h0 x hx'
      · by_cases hm0 : m = 0
        · exact .inl hm0
        · refine .inr fun x hx => ?_
          simp only [List.head?_cons, Option.some.injEq] at hx
          subst hx
          have htk : ((t + 1 : Nat) : Int) = left k := by omega
          intro hmem
          cases r with
          | nil => simp only [sumL] at hs; omega
          | cons b u =>
            have e : dropE (updL left k (left k - ((t + 1 : Nat) : Int))) (k :: b :: u) = dropE (updL left k (left k - ((t + 1 : Nat) : Int))) (b :: u) := by
              show (if updL left k _ k = 0 then _ else _) = _
              rw [updL_at, if_pos (by omega)]
            rw [e] at hmem
            exact hkr ((dropE_suffix _ _).subset hmem)
end Go.Proofs.YteojmljggoplkaaGreatDoor
namespace Go.Proofs.YteojmljggoplkaaGreatDoor
open Go.RowKit Go.Sort Go.Maps
def rintE : Value → Option (DataW Unit × List MemPlace)
  | .int .i64 n => some (.lit (.int .i64 n), [])
  | _ => none
/-- numbers, by names. -/
def TMi : Mty Int := { t := 94, e := 3, V := .int .i64, d := fun n => .lit (.int .i64 n), R := rintE, z := 0 }
theorem TMi.ok : TMi.Ok := ⟨Tryz.underlying94, fun w => by kernel_rfl, fun _ => rfl, fun v a ps h => by
  unfold TMi rintE at h
  simp only at h
  split at h
  · simp at h; obtain ⟨h, _⟩ := h; subst h; rfl
  · cases h⟩
/-- a row's header: where it begins (none: nowhere), how long it is, how far it may grow. -/
abbrev Hdr := Option (Nat × Nat) × Nat × Nat
def hdrV (h : Hdr) : Value := .slice (h.1.map fun p => ⟨p.1, p.2, none⟩) h.2.1 h.2.2
def hdrE : Value → Option (DataW Unit × List MemPlace)
  | .slice none n c => some (.agg [.nil, .lit (.int .i64 n), .lit (.int .i64 c)], [])
  | .slice (some ⟨b, o, none⟩) n c => some (.agg [.lit (.int .i64 b), .lit (.int .i64 o), .lit (.int .i64 n), .lit (.int .i64 c)], [])
  | _ => none
def hdrD (h : Hdr) : DataW Unit := match h.1 with
  | none => .agg [.nil, .lit (.int .i64 h.2.1), .lit (.int .i64 h.2.2)]
  | some p => .agg [.lit (.int .i64 p.1), .lit (.int .i64 p.2), .lit (.int .i64 h.2.1), .lit (.int .i64 h.2.2)]
theorem hdr_rd (h : Hdr) : hdrE (hdrV h) = some (hdrD h, []) := by
  obtain ⟨a, n, c⟩ := h
  cases a <;> rfl
theorem hdr_inv {v : Value} {a : Hdr} {ps : List MemPlace} (h : hdrE v = some (hdrD a, ps)) : v = hdrV a := by
  obtain ⟨a, n, c⟩ := a
  unfold hdrE at h
  split at h
  · cases a with
    | none =>
      simp only [hdrD, Option.some.injEq, Prod.mk.injEq, DataW.agg.injEq, List.cons.injEq, DataW.lit.injEq, Lit.int.injEq, true_and, and_true] at h
      obtain ⟨⟨h1, h2⟩, _⟩ := h
      rw [show _ = n from Int.ofNat.inj h1, show _ = c from Int.ofNat.inj h2]; rfl
    | some p => simp [hdrD] at h
  · cases a with
    | none => simp [hdrD] at h
    | some p =>
      simp only [hdrD, Option.some.injEq, Prod.mk.injEq, DataW.agg.injEq, List.cons.injEq, DataW.lit.injEq, Lit.int.injEq, true_and, and_true] at h
      obtain ⟨⟨h1, h2, h3, h4⟩, _⟩ := h
      obtain ⟨b, o⟩ := p
      rw [show _ = b from Int.ofNat.inj h1, show _ = o from Int.ofNat.inj h2, show _ = n from Int.ofNat.inj h3, show _ = c from Int.ofNat.inj h4]; rfl
  · cases h
/-- rows of strings, by names; rows of origins. -/
def TMh : Mty Hdr := { t := 92, e := 36, V := hdrV, d := hdrD, R := hdrE, z := (none, 0, 0) }
theorem TMh.ok : TMh.Ok := ⟨Tryz.underlying92, fun w => by kernel_rfl, hdr_rd, fun _ _ _ h => hdr_inv h⟩
end Go.Proofs.YteojmljggoplkaaGreatDoor
