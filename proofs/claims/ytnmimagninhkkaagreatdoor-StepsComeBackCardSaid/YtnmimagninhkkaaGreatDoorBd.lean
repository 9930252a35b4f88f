/- A board of package rework: what it does and what it refuses, in plain words and in memory. Conditions: component names of at most 2^47 bytes, maps of fewer than 2^40 entries. -/
import Derived.Test.YtnmimagninhkkaaGreatDoorSm
import Derived.Test.YtnmimagninhkkaaGreatDoorDo
import Derived.BigQuiet
import Derived.Deep.QuietTactic
namespace Go.Proofs.YtnmimagninhkkaaGreatDoor
open Go.RowKit Go.Sort Go.Maps

/-- a world in which only blocks of X have turned. -/
structure Kp (w w' : World) (X : Nat → Prop) : Prop where
  os : w'.os = w.os
  tape : w'.tape = w.tape
  output : w'.output = w.output
  size : w.heap.size ≤ w'.heap.size
  block : ∀ i, i < w.heap.size → ¬ X i → w'.heap[i]? = w.heap[i]?
theorem Kp.refl (w : World) (X : Nat → Prop) : Kp w w X := ⟨rfl, rfl, rfl, Nat.le_refl _, fun _ _ _ => rfl⟩
theorem Kp.trans {a b c : World} {X : Nat → Prop} (h : Kp a b X) (k : Kp b c X) : Kp a c X :=
  ⟨k.os.trans h.os, k.tape.trans h.tape, k.output.trans h.output, Nat.le_trans h.size k.size, fun i hi hx => (k.block i (Nat.lt_of_lt_of_le hi h.size) hx).trans (h.block i hi hx)⟩
theorem Kp.mono {a b : World} {X Y : Nat → Prop} (h : Kp a b X) (hxy : ∀ i, i < a.heap.size → X i → Y i) : Kp a b Y := ⟨h.os, h.tape, h.output, h.size, fun i hi hy => h.block i hi fun hx => hy (hxy i hi hx)⟩
theorem Kp.of_gr {a b : World} {s : Nat} {X : Nat → Prop} (h : a.grownBy b (some s)) (hs : X s) : Kp a b X := ⟨h.os, h.tape, h.output, h.size, fun i hi hx => h.block i hi fun e => hx (by injection e with e; rw [e]; exact hs)⟩
theorem Kp.of_below {a b : World} {X : Nat → Prop} (h : Below a.heap.size a b) : Kp a b X := ⟨h.os, h.tape, h.output, h.size, fun i hi _ => h.block i hi⟩
theorem Kp.below {a b : World} {X : Nat → Prop} {B : Nat} (h : Kp a b X) (hX : ∀ i, i < a.heap.size → X i → B ≤ i) (hB : B ≤ a.heap.size) : Below B a b :=
  ⟨h.os, h.tape, h.output, h.size, fun i hi => h.block i (by omega) fun hx => by have := hX i (by omega) hx; omega⟩
theorem Kp.blk {a b : World} {X : Nat → Prop} (h : Kp a b X) {g : Nat} {o : Obj} (hg : a.heap[g]? = some o) (hx : ¬ X g) : b.heap[g]? = some o := (h.block g (blk_lt hg) hx).trans hg
theorem Kp.ms {α : Type} {T : Mty α} {a b : World} {X : Nat → Prop} (h : Kp a b X) {g : Nat} {l : Sm α} (hg : MapS T a g l) (hx : ¬ X g) : MapS T b g l := hg.keep (h.block g hg.lt hx)

/-- sets of strings; numbers by strings. -/
def boolE : Value → Option (DataW Unit × List MemPlace)
  | .bool b => some (.lit (.bool b), [])
  | _ => none
def TB : Mty Bool := { t := 125, e := 4, V := .bool, d := fun b => .lit (.bool b), R := boolE, z := false }
theorem TB.ok : TB.Ok := ⟨Tryz.underlying125, fun w => by kernel_rfl, fun _ => rfl, fun v a ps h => by
  unfold TB boolE at h
  simp only at h
  split at h
  · simp at h; obtain ⟨h, _⟩ := h; subst h; rfl
  · cases h⟩
def intE : Value → Option (DataW Unit × List MemPlace)
  | .int .i64 n => some (.lit (.int .i64 n), [])
  | _ => none
def TI : Mty Int := { t := 126, e := 3, V := .int .i64, d := fun n => .lit (.int .i64 n), R := intE, z := 0 }
theorem TI.ok : TI.Ok := ⟨Tryz.underlying126, fun w => by kernel_rfl, fun _ => rfl, fun v a ps h => by
  unfold TI intE at h
  simp only at h
  split at h
  · simp at h; obtain ⟨h, _⟩ := h; subst h; rfl
  · cases h⟩

/-! the plain machine -/
/-- a step: when, which board, what, which component. -/
abbrev Stp := Int × ByteArray × Int × ByteArray
abbrev Stp.at (s : Stp) : Int := s.1
abbrev Stp.bd (s : Stp) : ByteArray := s.2.1
abbrev Stp.kd (s : Stp) : Int := s.2.2.1
abbrev Stp.co (s : Stp) : ByteArray := s.2.2.2
def stpV (s : Stp) : Value := .agg #[.int .i64 s.1, .string s.2.1, .int .i64 s.2.2.1, .string s.2.2.2]
structure Bd0 where
  st : Int
  si : Int
  he : Int
  op : Sm Bool
  rp : Sm Int
  lp : Int
def newB : Bd0 := ⟨1, 0, 0, [], [], 0⟩
def Bd0.isOp (b : Bd0) (c : ByteArray) : Bool := (b.op.get c.data.toList).getD false
def Bd0.reps (b : Bd0) (c : ByteArray) : Int := (b.rp.get c.data.toList).getD 0
/-- why a step is refused. -/
def refB (rh rr : Int) (b : Bd0) (s : Stp) : Int :=
  if s.kd = 1 then (if b.st ≠ 1 ∧ b.st ≠ 2 then 11 else if rh ≤ b.he then 16 else 0)
  else if s.kd = 2 then (if b.st ≠ 2 ∧ b.st ≠ 3 then 11 else if b.isOp s.co = true then 6 else 0)
  else if s.kd = 3 then (if b.st ≠ 2 then 11 else 0)
  else if s.kd = 4 then (if b.st ≠ 3 then 11 else if b.isOp s.co = false then 8 else if rr ≤ b.reps s.co ∨ rh ≤ b.he then 16 else 0)
  else if s.kd = 5 then (if b.st = 5 ∨ b.st = 6 then 11 else 0)
  else if s.kd = 6 then (if b.st ≠ 4 then 11 else 0)
  else 0
def Bd0.become (b : Bd0) (st at' : Int) : Bd0 := { b with st := st, si := becA b.st st b.si at' }
/-- a step that is not refused. -/
def doB (b : Bd0) (s : Stp) : Bd0 :=
  if s.kd = 1 then Bd0.become { b with he := b.he + 1 } 2 s.at
  else if s.kd = 2 then Bd0.become { b with op := b.op.put s.co.data.toList true } 3 s.at
  else if s.kd = 3 then Bd0.become b 4 s.at
  else if s.kd = 4 then
    (if (b.op.del s.co.data.toList).length = 0 then Bd0.become { b with op := b.op.del s.co.data.toList, rp := b.rp.put s.co.data.toList (b.reps s.co + 1), he := b.he + 1, lp := b.lp + 1 } 2 s.at
     else { b with op := b.op.del s.co.data.toList, rp := b.rp.put s.co.data.toList (b.reps s.co + 1), he := b.he + 1 })
  else if s.kd = 5 then Bd0.become b 5 s.at
  else if s.kd = 6 then Bd0.become b 6 s.at
  else b

/-! in memory: block g, its maps in the two blocks ahead of it -/
def BrdM (w : World) (g : Nat) (b : Bd0) : Prop := 2 ≤ g ∧ Brd w g b.st b.si b.he (.map (some (g - 2))) (.map (some (g - 1))) b.lp ∧ MapS TB w (g - 2) b.op ∧ MapS TI w (g - 1) b.rp
theorem BrdM.keep {w w' : World} {g : Nat} {b : Bd0} {X : Nat → Prop} (h : BrdM w g b) (hk : Kp w w' X) (h0 : ¬ X (g - 2)) (h1 : ¬ X (g - 1)) (h2 : ¬ X g) : BrdM w' g b :=
  ⟨h.1, hk.blk h.2.1 h2, hk.ms h.2.2.1 h0, hk.ms h.2.2.2 h1⟩
theorem BrdM.below {w w' : World} {g : Nat} {b : Bd0} (h : BrdM w g b) (hb : Below w.heap.size w w') : BrdM w' g b := h.keep (Kp.of_below (X := fun _ => False) hb) id id id
theorem BrdM.lt {w : World} {g : Nat} {b : Bd0} (h : BrdM w g b) : g < w.heap.size := blk_lt h.2.1
set_option maxHeartbeats 4000000 in
set_option maxRecDepth 100000 in
theorem refusal_any (g : Nat) (b : Bd0) (rh rr : Int) (s : Stp) (w : World) (hM : BrdM w g b) (hs : s.co.size ≤ maxLen) :
    Calls Tryz.prog 175 #[.pointer (some ⟨g, 0, none⟩), .agg #[.int .i64 rh, .int .i64 rr], stpV s] w fun e w' => e = .returned (.int .i64 (refB rh rr b s)) ∧ Below w.heap.size w w' := by
  obtain ⟨at', bs, kd, cs⟩ := s
  obtain ⟨st, si, he, op, rp, lp⟩ := b
  obtain ⟨hg2, hB, hO, hR⟩ := hM
  have hcs : cs.size ≤ maxLen := hs
  have lg := blk_lt hB
  have hb0 := Bl.alloc (Bl.alloc (Below.refl w.heap.size w) (.cells #[.int .i64 rh, .int .i64 rr] 27)) (.cells #[.int .i64 at', .string bs, .int .i64 kd, .string cs] 34)
  have c0 : w.cell? ⟨g, 0, none⟩ = some (.int .i64 st) := blk_cell hB 0
  have c2 : w.cell? ⟨g, 2, none⟩ = some (.int .i64 he) := blk_cell hB 2
  have c3 : w.cell? ⟨g, 3, none⟩ = some (.map (some (g - 2))) := blk_cell hB 3
  have c4 : w.cell? ⟨g, 4, none⟩ = some (.map (some (g - 1))) := blk_cell hB 4
  obtain ⟨ob, hob⟩ : ∃ x, x = (op.get cs.data.toList).getD false := ⟨_, rfl⟩
  obtain ⟨rb, hrb⟩ : ∃ x, x = (rp.get cs.data.toList).getD 0 := ⟨_, rfl⟩
  have hO1 : (Instr.lookup 125 (.map (some (g - 2))) (.string cs) false).run Tryz.prog ((w.alloc (.cells #[.int .i64 rh, .int .i64 rr] 27)).alloc (.cells #[.int .i64 at', .string bs, .int .i64 kd, .string cs] 34)).drew = .ok (.bool ob) ((w.alloc (.cells #[.int .i64 rh, .int .i64 rr] 27)).alloc (.cells #[.int .i64 at', .string bs, .int .i64 kd, .string cs] 34)).drew := by
    rw [hob]; exact (((hO.alloc _).alloc _).drew).look TB.ok cs hcs
  have hR1 : (Instr.lookup 126 (.map (some (g - 1))) (.string cs) false).run Tryz.prog ((w.alloc (.cells #[.int .i64 rh, .int .i64 rr] 27)).alloc (.cells #[.int .i64 at', .string bs, .int .i64 kd, .string cs] 34)).drew = .ok (.int .i64 rb) ((w.alloc (.cells #[.int .i64 rh, .int .i64 rr] 27)).alloc (.cells #[.int .i64 at', .string bs, .int .i64 kd, .string cs] 34)).drew := by
    rw [hrb]; exact (((hR.alloc _).alloc _).drew).look TI.ok cs hcs
  have hR2 : ∀ n, (Instr.lookup 126 (.map (some (g - 1))) (.string cs) false).run Tryz.prog (((w.alloc (.cells #[.int .i64 rh, .int .i64 rr] 27)).alloc (.cells #[.int .i64 at', .string bs, .int .i64 kd, .string cs] 34)).drewN n) = .ok (.int .i64 rb) (((w.alloc (.cells #[.int .i64 rh, .int .i64 rr] 27)).alloc (.cells #[.int .i64 at', .string bs, .int .i64 kd, .string cs] 34)).drewN n) := fun n => by
    rw [hrb]; exact (((hR.alloc _).alloc _).keep (w' := ((w.alloc (.cells #[.int .i64 rh, .int .i64 rr] 27)).alloc (.cells #[.int .i64 at', .string bs, .int .i64 kd, .string cs] 34)).drewN n) rfl).look TI.ok cs hcs
  have HV : Hid (∀ x, refB rh rr ⟨st, si, he, op, rp, lp⟩ (at', bs, kd, cs) = x ↔ (if kd = 1 then (if st ≠ 1 ∧ st ≠ 2 then 11 else if rh ≤ he then 16 else 0)
    else if kd = 2 then (if st ≠ 2 ∧ st ≠ 3 then 11 else if ob = true then 6 else 0)
    else if kd = 3 then (if st ≠ 2 then 11 else 0)
    else if kd = 4 then (if st ≠ 3 then 11 else if ob = false then 8 else if rr ≤ rb ∨ rh ≤ he then 16 else 0)
    else if kd = 5 then (if st = 5 ∨ st = 6 then 11 else 0)
    else if kd = 6 then (if st ≠ 4 then 11 else 0)
    else (0 : Int)) = x) := Lib.hid (fun x => by rw [hob, hrb]; exact Iff.rfl)
  generalize refB rh rr ⟨st, si, he, op, rp, lp⟩ (at', bs, kd, cs) = R at *
  unfold stpV
  clear hB hO hR hob hrb hs
  by_cases k1 : kd = 1
  · subst k1
    replace hcs := Lib.hid hcs
    by_cases s1 : st = 1
    · subst s1
      by_cases h1 : rh ≤ he
      · have gh1 : decide (rh ≤ he) = true := decide_eq_true h1
        have HRR : Hid (R = 16) := Lib.hid ((HV.out _).2 (by simp [*]))
        go_enter Tryz.func175, Tryz.ntmps175
        go_wp2
        go_region
        all_goals (
          go_wp2
          go_ret
          exact ⟨ret_int HRR.out.symm, (by first | exact Below.drew hb0 | exact Bl.drewN (Below.drew hb0) _)⟩)
      · have gh1 : decide (rh ≤ he) = false := decide_eq_false h1
        have HRR : Hid (R = 0) := Lib.hid ((HV.out _).2 (by simp [*]))
        go_enter Tryz.func175, Tryz.ntmps175
        go_wp2
        go_region
        all_goals (
          go_wp2
          go_ret
          exact ⟨ret_int HRR.out.symm, (by first | exact Below.drew hb0 | exact Bl.drewN (Below.drew hb0) _)⟩)
    · have ns1 : (st != 1) = true := by simpa using s1
      have ms1 : (st == 1) = false := by simpa using s1
      by_cases s2 : st = 2
      · subst s2
        by_cases h1 : rh ≤ he
        · have gh1 : decide (rh ≤ he) = true := decide_eq_true h1
          have HRR : Hid (R = 16) := Lib.hid ((HV.out _).2 (by simp [*]))
          go_enter Tryz.func175, Tryz.ntmps175
          go_wp2
          go_region
          all_goals (
            go_wp2
            go_ret
            exact ⟨ret_int HRR.out.symm, (by first | exact Below.drew hb0 | exact Bl.drewN (Below.drew hb0) _)⟩)
        · have gh1 : decide (rh ≤ he) = false := decide_eq_false h1
          have HRR : Hid (R = 0) := Lib.hid ((HV.out _).2 (by simp [*]))
          go_enter Tryz.func175, Tryz.ntmps175
          go_wp2
          go_region
          all_goals (
            go_wp2
            go_ret
            exact ⟨ret_int HRR.out.symm, (by first | exact Below.drew hb0 | exact Bl.drewN (Below.drew hb0) _)⟩)
      · have ns2 : (st != 2) = true := by simpa using s2
        have ms2 : (st == 2) = false := by simpa using s2
        have HRR : Hid (R = 11) := Lib.hid ((HV.out _).2 (by simp [s1, s2]))
        go_enter Tryz.func175, Tryz.ntmps175
        go_wp2
        go_ret
        exact ⟨ret_int HRR.out.symm, hb0⟩
  have d1 : (kd == 1) = false := by simpa using k1
  by_cases k2 : kd = 2
  · subst k2
    replace hcs := Lib.hid hcs
    by_cases s1 : st = 2
    · subst s1
      cases ob
      · have HRR : Hid (R = 0) := Lib.hid ((HV.out _).2 (by simp [*]))
        go_enter Tryz.func175, Tryz.ntmps175
        go_wp2
        go_region
        all_goals (
          go_wp2
          go_ret
          exact ⟨ret_int HRR.out.symm, (by first | exact Below.drew hb0 | exact Bl.drewN (Below.drew hb0) _)⟩)
      · have HRR : Hid (R = 6) := Lib.hid ((HV.out _).2 (by simp [*]))
        go_enter Tryz.func175, Tryz.ntmps175
        go_wp2
        go_region
        all_goals (
          go_wp2
          go_ret
          exact ⟨ret_int HRR.out.symm, (by first | exact Below.drew hb0 | exact Bl.drewN (Below.drew hb0) _)⟩)
    · have ns1 : (st != 2) = true := by simpa using s1
      have ms1 : (st == 2) = false := by simpa using s1
      by_cases s2 : st = 3
      · subst s2
        cases ob
        · have HRR : Hid (R = 0) := Lib.hid ((HV.out _).2 (by simp [*]))
          go_enter Tryz.func175, Tryz.ntmps175
          go_wp2
          go_region
          all_goals (
            go_wp2
            go_ret
            exact ⟨ret_int HRR.out.symm, (by first | exact Below.drew hb0 | exact Bl.drewN (Below.drew hb0) _)⟩)
        · have HRR : Hid (R = 6) := Lib.hid ((HV.out _).2 (by simp [*]))
          go_enter Tryz.func175, Tryz.ntmps175
          go_wp2
          go_region
          all_goals (
            go_wp2
            go_ret
            exact ⟨ret_int HRR.out.symm, (by first | exact Below.drew hb0 | exact Bl.drewN (Below.drew hb0) _)⟩)
      · have ns2 : (st != 3) = true := by simpa using s2
        have ms2 : (st == 3) = false := by simpa using s2
        have HRR : Hid (R = 11) := Lib.hid ((HV.out _).2 (by simp [s1, s2]))
        go_enter Tryz.func175, Tryz.ntmps175
        go_wp2
        go_ret
        exact ⟨ret_int HRR.out.symm, hb0⟩
  have d2 : (kd == 2) = false := by simpa using k2
  by_cases k3 : kd = 3
  · subst k3
    replace hcs := Lib.hid hcs
    by_cases s1 : st = 2
    · subst s1
      have HRR : Hid (R = 0) := Lib.hid ((HV.out _).2 (by simp [*]))
      go_enter Tryz.func175, Tryz.ntmps175
      go_wp2
      go_ret
      exact ⟨ret_int HRR.out.symm, hb0⟩
    · have ns1 : (st != 2) = true := by simpa using s1
      have ms1 : (st == 2) = false := by simpa using s1
      have HRR : Hid (R = 11) := Lib.hid ((HV.out _).2 (by simp [s1]))
      go_enter Tryz.func175, Tryz.ntmps175
      go_wp2
      go_ret
      exact ⟨ret_int HRR.out.symm, hb0⟩
  have d3 : (kd == 3) = false := by simpa using k3
  by_cases k4 : kd = 4
  · subst k4
    replace hcs := Lib.hid hcs
    by_cases s1 : st = 3
    · subst s1
      cases ob
      · have HRR : Hid (R = 8) := Lib.hid ((HV.out _).2 (by simp [*]))
        go_enter Tryz.func175, Tryz.ntmps175
        go_wp2
        go_region
        all_goals (
          go_wp2
          go_ret
          exact ⟨ret_int HRR.out.symm, (by first | exact Below.drew hb0 | exact Bl.drewN (Below.drew hb0) _)⟩)
      · by_cases h1 : rr ≤ rb
        · have gh1 : decide (rr ≤ rb) = true := decide_eq_true h1
          have HRR : Hid (R = 16) := Lib.hid ((HV.out _).2 (by simp [h1]))
          go_enter Tryz.func175, Tryz.ntmps175
          go_wp2
          go_region
          all_goals (go_wp2; go_quiet (fail))
          all_goals (
            go_wp2
            go_ret
            exact ⟨ret_int HRR.out.symm, (by first | exact Below.drew hb0 | exact Bl.drewN (Below.drew hb0) _)⟩)
        · have gh1 : decide (rr ≤ rb) = false := decide_eq_false h1
          by_cases h2 : rh ≤ he
          · have gh2 : decide (rh ≤ he) = true := decide_eq_true h2
            have HRR : Hid (R = 16) := Lib.hid ((HV.out _).2 (by simp [h1, h2]))
            go_enter Tryz.func175, Tryz.ntmps175
            go_wp2
            go_region
            all_goals (go_wp2; go_quiet (fail))
            all_goals (
              go_wp2
              go_ret
              exact ⟨ret_int HRR.out.symm, (by first | exact Below.drew hb0 | exact Bl.drewN (Below.drew hb0) _)⟩)
          · have gh2 : decide (rh ≤ he) = false := decide_eq_false h2
            have HRR : Hid (R = 0) := Lib.hid ((HV.out _).2 (by simp [h1, h2]))
            go_enter Tryz.func175, Tryz.ntmps175
            go_wp2
            go_region
            all_goals (go_wp2; go_quiet (fail))
            all_goals (
              go_wp2
              go_ret
              exact ⟨ret_int HRR.out.symm, (by first | exact Below.drew hb0 | exact Bl.drewN (Below.drew hb0) _)⟩)
    · have ns1 : (st != 3) = true := by simpa using s1
      have ms1 : (st == 3) = false := by simpa using s1
      have HRR : Hid (R = 11) := Lib.hid ((HV.out _).2 (by simp [s1]))
      go_enter Tryz.func175, Tryz.ntmps175
      go_wp2
      go_ret
      exact ⟨ret_int HRR.out.symm, hb0⟩
  have d4 : (kd == 4) = false := by simpa using k4
  by_cases k5 : kd = 5
  · subst k5
    replace hcs := Lib.hid hcs
    by_cases s1 : st = 5
    · subst s1
      have HRR : Hid (R = 11) := Lib.hid ((HV.out _).2 (by simp [*]))
      go_enter Tryz.func175, Tryz.ntmps175
      go_wp2
      go_ret
      exact ⟨ret_int HRR.out.symm, hb0⟩
    · have ns1 : (st != 5) = true := by simpa using s1
      have ms1 : (st == 5) = false := by simpa using s1
      by_cases s2 : st = 6
      · subst s2
        have HRR : Hid (R = 11) := Lib.hid ((HV.out _).2 (by simp [*]))
        go_enter Tryz.func175, Tryz.ntmps175
        go_wp2
        go_ret
        exact ⟨ret_int HRR.out.symm, hb0⟩
      · have ns2 : (st != 6) = true := by simpa using s2
        have ms2 : (st == 6) = false := by simpa using s2
        have HRR : Hid (R = 0) := Lib.hid ((HV.out _).2 (by simp [s1, s2]))
        go_enter Tryz.func175, Tryz.ntmps175
        go_wp2
        go_ret
        exact ⟨ret_int HRR.out.symm, hb0⟩
  have d5 : (kd == 5) = false := by simpa using k5
  by_cases k6 : kd = 6
  · subst k6
    replace hcs := Lib.hid hcs
    by_cases s1 : st = 4
    · subst s1
      have HRR : Hid (R = 0) := Lib.hid ((HV.out _).2 (by simp [*]))
      go_enter Tryz.func175, Tryz.ntmps175
      go_wp2
      go_ret
      exact ⟨ret_int HRR.out.symm, hb0⟩
    · have ns1 : (st != 4) = true := by simpa using s1
      have ms1 : (st == 4) = false := by simpa using s1
      have HRR : Hid (R = 11) := Lib.hid ((HV.out _).2 (by simp [s1]))
      go_enter Tryz.func175, Tryz.ntmps175
      go_wp2
      go_ret
      exact ⟨ret_int HRR.out.symm, hb0⟩
  have d6 : (kd == 6) = false := by simpa using k6
  have HRR : Hid (R = 0) := Lib.hid ((HV.out _).2 (by simp [k1, k2, k3, k4, k5, k6]))
  go_enter Tryz.func175, Tryz.ntmps175
  go_wp2
  go_ret
  exact ⟨ret_int HRR.out.symm, hb0⟩
end Go.Proofs.YtnmimagninhkkaaGreatDoor
