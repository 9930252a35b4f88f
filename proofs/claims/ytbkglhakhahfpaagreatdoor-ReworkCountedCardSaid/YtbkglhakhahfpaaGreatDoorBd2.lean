/- A board of package rework: what it does and what it refuses, in plain words and in memory. Conditions: component names of at most 2^47 bytes, maps of fewer than 2^40 entries. · What a board of package rework does at a step that is not refused. Conditions: component names of at most 2^47 bytes, numbers below 10^6, maps of fewer than 2^40 entries. -/
import Derived.Test.YtbkglhakhahfpaaGreatDoorSm
import Derived.Test.YtbkglhakhahfpaaGreatDoorCond
import Derived.BigQuiet
import Derived.Deep.QuietTactic
namespace Go.Proofs.YtbkglhakhahfpaaGreatDoor
open Go.RowKit Go.Sort Go.Maps

/-- a world in which only blocks of X have turned. -/
structure Kp (w w' : World) (X : Nat → Prop) : Prop where
  os : w'.os = w.os
  tape : w'.tape = w.tape
  output : w'.output = w.output
  size : w.heap.size ≤ w'.heap.size
  block : ∀ i, i < w.heap.size → ¬ X i → w'.heap[i]? = w.heap[i]?
theorem Kp.refl (w : World) (X : Nat → Prop) : Kp w w X := ⟨rfl, rfl, rfl, Nat.le_refl _, fun _ _ _ => rfl⟩
theorem Kp.trans {a b c : World} {X : Nat → Prop} (h : Kp a b X) (k : Kp b c X) : Kp a c X :=
  ⟨k.os.trans h.os, k.tape.trans h.tape, k.output.trans h.output, Nat.le_trans h.size k.size, fun i hi hx => (k.block i (Nat.lt_of_lt_of_le hi h.size) hx).trans (h.block i hi hx)⟩
theorem Kp.mono {a b : World} {X Y : Nat → Prop} (h : Kp a b X) (hxy : ∀ i, i < a.heap.size → X i → Y i) : Kp a b Y := ⟨h.os, h.tape, h.output, h.size, fun i hi hy => h.block i hi fun hx => hy (hxy i hi hx)⟩
theorem Kp.of_gr {a b : World} {s : Nat} {X : Nat → Prop} (h : a.grownBy b (some s)) (hs : X s) : Kp a b X := ⟨h.os, h.tape, h.output, h.size, fun i hi hx => h.block i hi fun e => hx (by injection e with e; rw [e]; exact hs)⟩
theorem Kp.of_below {a b : World} {X : Nat → Prop} (h : Below a.heap.size a b) : Kp a b X := ⟨h.os, h.tape, h.output, h.size, fun i hi _ => h.block i hi⟩
theorem Kp.below {a b : World} {X : Nat → Prop} {B : Nat} (h : Kp a b X) (hX : ∀ i, i < a.heap.size → X i → B ≤ i) (hB : B ≤ a.heap.size) : Below B a b :=
  ⟨h.os, h.tape, h.output, h.size, fun i hi => h.block i (by omega) fun hx => by have := hX i (by omega) hx; omega⟩
theorem Kp.blk {a b : World} {X : Nat → Prop} (h : Kp a b X) {g : Nat} {o : Obj} (hg : a.heap[g]? = some o) (hx : ¬ X g) : b.heap[g]? = some o := (h.block g (blk_lt hg) hx).trans hg
theorem Kp.ms {α : Type} {T : Mty α} {a b : World} {X : Nat → Prop} (h : Kp a b X) {g : Nat} {l : Sm α} (hg : MapS T a g l) (hx : ¬ X g) : MapS T b g l := hg.keep (h.block g hg.lt hx)

/-- sets of strings; numbers by strings. -/
def boolE : Value → Option (DataW Unit × List MemPlace)
  | .bool b => some (.lit (.bool b), [])
  | _ => none
def TB : Mty Bool := { t := 144, e := 4, V := .bool, d := fun b => .lit (.bool b), R := boolE, z := false }
theorem TB.ok : TB.Ok := ⟨Tryz.underlying144, fun w => by kernel_rfl, fun _ => rfl, fun v a ps h => by
  unfold TB boolE at h
  simp only at h
  split at h
  · simp at h; obtain ⟨h, _⟩ := h; subst h; rfl
  · cases h⟩
def intE : Value → Option (DataW Unit × List MemPlace)
  | .int .i64 n => some (.lit (.int .i64 n), [])
  | _ => none
def TI : Mty Int := { t := 158, e := 3, V := .int .i64, d := fun n => .lit (.int .i64 n), R := intE, z := 0 }
theorem TI.ok : TI.Ok := ⟨Tryz.underlying158, fun w => by kernel_rfl, fun _ => rfl, fun v a ps h => by
  unfold TI intE at h
  simp only at h
  split at h
  · simp at h; obtain ⟨h, _⟩ := h; subst h; rfl
  · cases h⟩

/-! the plain machine -/
/-- a step: when, which board, what, which component. -/
abbrev Stp := Int × ByteArray × Int × ByteArray
abbrev Stp.at (s : Stp) : Int := s.1
abbrev Stp.bd (s : Stp) : ByteArray := s.2.1
abbrev Stp.kd (s : Stp) : Int := s.2.2.1
abbrev Stp.co (s : Stp) : ByteArray := s.2.2.2
def stpV (s : Stp) : Value := .agg #[.int .i64 s.1, .string s.2.1, .int .i64 s.2.2.1, .string s.2.2.2]
structure Bd0 where
  st : Int
  si : Int
  he : Int
  op : Sm Bool
  rp : Sm Int
  lp : Int
def newB : Bd0 := ⟨1, 0, 0, [], [], 0⟩
def Bd0.isOp (b : Bd0) (c : ByteArray) : Bool := (b.op.get c.data.toList).getD false
def Bd0.reps (b : Bd0) (c : ByteArray) : Int := (b.rp.get c.data.toList).getD 0
/-- why a step is refused. -/
def refB (rh rr : Int) (b : Bd0) (s : Stp) : Int :=
  if s.kd = 1 then (if b.st ≠ 1 ∧ b.st ≠ 2 then 11 else if rh ≤ b.he then 16 else 0)
  else if s.kd = 2 then (if b.st ≠ 2 ∧ b.st ≠ 3 then 11 else if b.isOp s.co = true then 6 else 0)
  else if s.kd = 3 then (if b.st ≠ 2 then 11 else 0)
  else if s.kd = 4 then (if b.st ≠ 3 then 11 else if b.isOp s.co = false then 8 else if rr ≤ b.reps s.co ∨ rh ≤ b.he then 16 else 0)
  else if s.kd = 5 then (if b.st = 5 ∨ b.st = 6 then 11 else 0)
  else if s.kd = 6 then (if b.st ≠ 4 then 11 else 0)
  else 0
def Bd0.become (b : Bd0) (st at' : Int) : Bd0 := { b with st := st, si := becA b.st st b.si at' }
/-- a step that is not refused. -/
def doB (b : Bd0) (s : Stp) : Bd0 :=
  if s.kd = 1 then Bd0.become { b with he := b.he + 1 } 2 s.at
  else if s.kd = 2 then Bd0.become { b with op := b.op.put s.co.data.toList true } 3 s.at
  else if s.kd = 3 then Bd0.become b 4 s.at
  else if s.kd = 4 then
    (if (b.op.del s.co.data.toList).length = 0 then Bd0.become { b with op := b.op.del s.co.data.toList, rp := b.rp.put s.co.data.toList (b.reps s.co + 1), he := b.he + 1, lp := b.lp + 1 } 2 s.at
     else { b with op := b.op.del s.co.data.toList, rp := b.rp.put s.co.data.toList (b.reps s.co + 1), he := b.he + 1 })
  else if s.kd = 5 then Bd0.become b 5 s.at
  else if s.kd = 6 then Bd0.become b 6 s.at
  else b

/-! in memory: block g, its maps in the two blocks ahead of it -/
def BrdM (w : World) (g : Nat) (b : Bd0) : Prop := 2 ≤ g ∧ Brd w g b.st b.si b.he (.map (some (g - 2))) (.map (some (g - 1))) b.lp ∧ MapS TB w (g - 2) b.op ∧ MapS TI w (g - 1) b.rp
theorem BrdM.keep {w w' : World} {g : Nat} {b : Bd0} {X : Nat → Prop} (h : BrdM w g b) (hk : Kp w w' X) (h0 : ¬ X (g - 2)) (h1 : ¬ X (g - 1)) (h2 : ¬ X g) : BrdM w' g b :=
  ⟨h.1, hk.blk h.2.1 h2, hk.ms h.2.2.1 h0, hk.ms h.2.2.2 h1⟩
theorem BrdM.below {w w' : World} {g : Nat} {b : Bd0} (h : BrdM w g b) (hb : Below w.heap.size w w') : BrdM w' g b := h.keep (Kp.of_below (X := fun _ => False) hb) id id id
theorem BrdM.lt {w : World} {g : Nat} {b : Bd0} (h : BrdM w g b) : g < w.heap.size := blk_lt h.2.1
set_option maxHeartbeats 4000000 in
set_option maxRecDepth 100000 in
theorem refusal_any (g : Nat) (b : Bd0) (rh rr : Int) (s : Stp) (w : World) (hM : BrdM w g b) (hs : s.co.size ≤ maxLen) :
    Calls Tryz.prog 242 #[.pointer (some ⟨g, 0, none⟩), .agg #[.int .i64 rh, .int .i64 rr], stpV s] w fun e w' => e = .returned (.int .i64 (refB rh rr b s)) ∧ Below w.heap.size w w' := by
  obtain ⟨at', bs, kd, cs⟩ := s
  obtain ⟨st, si, he, op, rp, lp⟩ := b
  obtain ⟨hg2, hB, hO, hR⟩ := hM
  have hcs : cs.size ≤ maxLen := hs
  have lg := blk_lt hB
  have hb0 := Bl.alloc (Bl.alloc (Below.refl w.heap.size w) (.cells #[.int .i64 rh, .int .i64 rr] 27)) (.cells #[.int .i64 at', .string bs, .int .i64 kd, .string cs] 133)
  have c0 : w.cell? ⟨g, 0, none⟩ = some (.int .i64 st) := blk_cell hB 0
  have c2 : w.cell? ⟨g, 2, none⟩ = some (.int .i64 he) := blk_cell hB 2
  have c3 : w.cell? ⟨g, 3, none⟩ = some (.map (some (g - 2))) := blk_cell hB 3
  have c4 : w.cell? ⟨g, 4, none⟩ = some (.map (some (g - 1))) := blk_cell hB 4
  obtain ⟨ob, hob⟩ : ∃ x, x = (op.get cs.data.toList).getD false := ⟨_, rfl⟩
  obtain ⟨rb, hrb⟩ : ∃ x, x = (rp.get cs.data.toList).getD 0 := ⟨_, rfl⟩
  have hO1 : (Instr.lookup 144 (.map (some (g - 2))) (.string cs) false).run Tryz.prog ((w.alloc (.cells #[.int .i64 rh, .int .i64 rr] 27)).alloc (.cells #[.int .i64 at', .string bs, .int .i64 kd, .string cs] 133)).drew = .ok (.bool ob) ((w.alloc (.cells #[.int .i64 rh, .int .i64 rr] 27)).alloc (.cells #[.int .i64 at', .string bs, .int .i64 kd, .string cs] 133)).drew := by
    rw [hob]; exact (((hO.alloc _).alloc _).drew).look TB.ok cs hcs
  have hR1 : (Instr.lookup 158 (.map (some (g - 1))) (.string cs) false).run Tryz.prog ((w.alloc (.cells #[.int .i64 rh, .int .i64 rr] 27)).alloc (.cells #[.int .i64 at', .string bs, .int .i64 kd, .string cs] 133)).drew = .ok (.int .i64 rb) ((w.alloc (.cells #[.int .i64 rh, .int .i64 rr] 27)).alloc (.cells #[.int .i64 at', .string bs, .int .i64 kd, .string cs] 133)).drew := by
    rw [hrb]; exact (((hR.alloc _).alloc _).drew).look TI.ok cs hcs
  have hR2 : ∀ n, (Instr.lookup 158 (.map (some (g - 1))) (.string cs) false).run Tryz.prog (((w.alloc (.cells #[.int .i64 rh, .int .i64 rr] 27)).alloc (.cells #[.int .i64 at', .string bs, .int .i64 kd, .string cs] 133)).drewN n) = .ok (.int .i64 rb) (((w.alloc (.cells #[.int .i64 rh, .int .i64 rr] 27)).alloc (.cells #[.int .i64 at', .string bs, .int .i64 kd, .string cs] 133)).drewN n) := fun n => by
    rw [hrb]; exact (((hR.alloc _).alloc _).keep (w' := ((w.alloc (.cells #[.int .i64 rh, .int .i64 rr] 27)).alloc (.cells #[.int .i64 at', .string bs, .int .i64 kd, .string cs] 133)).drewN n) rfl).look TI.ok cs hcs
  have HV : Hid (∀ x, refB rh rr ⟨st, si, he, op, rp, lp⟩ (at', bs, kd, cs) = x ↔ (if kd = 1 then (if st ≠ 1 ∧ st ≠ 2 then 11 else if rh ≤ he then 16 else 0)
    else if kd = 2 then (if st ≠ 2 ∧ st ≠ 3 then 11 else if ob = true then 6 else 0)
    else if kd = 3 then (if st ≠ 2 then 11 else 0)
    else if kd = 4 then (if st ≠ 3 then 11 else if ob = false then 8 else if rr ≤ rb ∨ rh ≤ he then 16 else 0)
    else if kd = 5 then (if st = 5 ∨ st = 6 then 11 else 0)
    else if kd = 6 then (if st ≠ 4 then 11 else 0)
    else (0 : Int)) = x) := Lib.hid (fun x => by rw [hob, hrb]; exact Iff.rfl)
  generalize refB rh rr ⟨st, si, he, op, rp, lp⟩ (at', bs, kd, cs) = R at *
  unfold stpV
  clear hB hO hR hob hrb hs
  by_cases k1 : kd = 1
  · subst k1
    replace hcs := Lib.hid hcs
    by_cases s1 : st = 1
    · subst s1
      by_cases h1 : rh ≤ he
      · have gh1 : decide (rh ≤ he) = true := decide_eq_true h1
        have HRR : Hid (R = 16) := Lib.hid ((HV.out _).2 (by simp [*]))
        go_enter Tryz.func242, Tryz.ntmps242
        go_wp2
        go_region
        all_goals (
          go_wp2
          go_ret
          exact ⟨ret_int HRR.out.symm, (by first | exact Below.drew hb0 | exact Bl.drewN (Below.drew hb0) _)⟩)
      · have gh1 : decide (rh ≤ he) = false := decide_eq_false h1
        have HRR : Hid (R = 0) := Lib.hid ((HV.out _).2 (by simp [*]))
        go_enter Tryz.func242, Tryz.ntmps242
        go_wp2
        go_region
        all_goals (
          go_wp2
          go_ret
          exact ⟨ret_int HRR.out.symm, (by first | exact Below.drew hb0 | exact Bl.drewN (Below.drew hb0) _)⟩)
    · have ns1 : (st != 1) = true := by simpa using s1
      have ms1 : (st == 1) = false := by simpa using s1
      by_cases s2 : st = 2
      · subst s2
        by_cases h1 : rh ≤ he
        · have gh1 : decide (rh ≤ he) = true := decide_eq_true h1
          have HRR : Hid (R = 16) := Lib.hid ((HV.out _).2 (by simp [*]))
          go_enter Tryz.func242, Tryz.ntmps242
          go_wp2
          go_region
          all_goals (
            go_wp2
            go_ret
            exact ⟨ret_int HRR.out.symm, (by first | exact Below.drew hb0 | exact Bl.drewN (Below.drew hb0) _)⟩)
        · have gh1 : decide (rh ≤ he) = false := decide_eq_false h1
          have HRR : Hid (R = 0) := Lib.hid ((HV.out _).2 (by simp [*]))
          go_enter Tryz.func242, Tryz.ntmps242
          go_wp2
          go_region
          all_goals (
            go_wp2
            go_ret
            exact ⟨ret_int HRR.out.symm, (by first | exact Below.drew hb0 | exact Bl.drewN (Below.drew hb0) _)⟩)
      · have ns2 : (st != 2) = true := by simpa using s2
        have ms2 : (st == 2) = false := by simpa using s2
        have HRR : Hid (R = 11) := Lib.hid ((HV.out _).2 (by simp [s1, s2]))
        go_enter Tryz.func242, Tryz.ntmps242
        go_wp2
        go_ret
        exact ⟨ret_int HRR.out.symm, hb0⟩
  have d1 : (kd == 1) = false := by simpa using k1
  by_cases k2 : kd = 2
  · subst k2
    replace hcs := Lib.hid hcs
    by_cases s1 : st = 2
    · subst s1
      cases ob
      · have HRR : Hid (R = 0) := Lib.hid ((HV.out _).2 (by simp [*]))
        go_enter Tryz.func242, Tryz.ntmps242
        go_wp2
        go_region
        all_goals (
          go_wp2
          go_ret
          exact ⟨ret_int HRR.out.symm, (by first | exact Below.drew hb0 | exact Bl.drewN (Below.drew hb0) _)⟩)
      · have HRR : Hid (R = 6) := Lib.hid ((HV.out _).2 (by simp [*]))
        go_enter Tryz.func242, Tryz.ntmps242
        go_wp2
        go_region
        all_goals (
          go_wp2
          go_ret
          exact ⟨ret_int HRR.out.symm, (by first | exact Below.drew hb0 | exact Bl.drewN (Below.drew hb0) _)⟩)
    · have ns1 : (st != 2) = true := by simpa using s1
      have ms1 : (st == 2) = false := by simpa using s1
      by_cases s2 : st = 3
      · subst s2
        cases ob
        · have HRR : Hid (R = 0) := Lib.hid ((HV.out _).2 (by simp [*]))
          go_enter Tryz.func242, Tryz.ntmps242
          go_wp2
          go_region
          all_goals (
            go_wp2
            go_ret
            exact ⟨ret_int HRR.out.symm, (by first | exact Below.drew hb0 | exact Bl.drewN (Below.drew hb0) _)⟩)
        · have HRR : Hid (R = 6) := Lib.hid ((HV.out _).2 (by simp [*]))
          go_enter Tryz.func242, Tryz.ntmps242
          go_wp2
          go_region
          all_goals (
            go_wp2
            go_ret
            exact ⟨ret_int HRR.out.symm, (by first | exact Below.drew hb0 | exact Bl.drewN (Below.drew hb0) _)⟩)
      · have ns2 : (st != 3) = true := by simpa using s2
        have ms2 : (st == 3) = false := by simpa using s2
        have HRR : Hid (R = 11) := Lib.hid ((HV.out _).2 (by simp [s1, s2]))
        go_enter Tryz.func242, Tryz.ntmps242
        go_wp2
        go_ret
        exact ⟨ret_int HRR.out.symm, hb0⟩
  have d2 : (kd == 2) = false := by simpa using k2
  by_cases k3 : kd = 3
  · subst k3
    replace hcs := Lib.hid hcs
    by_cases s1 : st = 2
    · subst s1
      have HRR : Hid (R = 0) := Lib.hid ((HV.out _).2 (by simp [*]))
      go_enter Tryz.func242, Tryz.ntmps242
      go_wp2
      go_ret
      exact ⟨ret_int HRR.out.symm, hb0⟩
    · have ns1 : (st != 2) = true := by simpa using s1
      have ms1 : (st == 2) = false := by simpa using s1
      have HRR : Hid (R = 11) := Lib.hid ((HV.out _).2 (by simp [s1]))
      go_enter Tryz.func242, Tryz.ntmps242
      go_wp2
      go_ret
      exact ⟨ret_int HRR.out.symm, hb0⟩
  have d3 : (kd == 3) = false := by simpa using k3
  by_cases k4 : kd = 4
  · subst k4
    replace hcs := Lib.hid hcs
    by_cases s1 : st = 3
    · subst s1
      cases ob
      · have HRR : Hid (R = 8) := Lib.hid ((HV.out _).2 (by simp [*]))
        go_enter Tryz.func242, Tryz.ntmps242
        go_wp2
        go_region
        all_goals (
          go_wp2
          go_ret
          exact ⟨ret_int HRR.out.symm, (by first | exact Below.drew hb0 | exact Bl.drewN (Below.drew hb0) _)⟩)
      · by_cases h1 : rr ≤ rb
        · have gh1 : decide (rr ≤ rb) = true := decide_eq_true h1
          have HRR : Hid (R = 16) := Lib.hid ((HV.out _).2 (by simp [h1]))
          go_enter Tryz.func242, Tryz.ntmps242
          go_wp2
          go_region
          all_goals (go_wp2; go_quiet (fail))
          all_goals (
            go_wp2
            go_ret
            exact ⟨ret_int HRR.out.symm, (by first | exact Below.drew hb0 | exact Bl.drewN (Below.drew hb0) _)⟩)
        · have gh1 : decide (rr ≤ rb) = false := decide_eq_false h1
          by_cases h2 : rh ≤ he
          · have gh2 : decide (rh ≤ he) = true := decide_eq_true h2
            have HRR : Hid (R = 16) := Lib.hid ((HV.out _).2 (by simp [h1, h2]))
            go_enter Tryz.func242, Tryz.ntmps242
            go_wp2
            go_region
            all_goals (go_wp2; go_quiet (fail))
            all_goals (
              go_wp2
              go_ret
              exact ⟨ret_int HRR.out.symm, (by first | exact Below.drew hb0 | exact Bl.drewN (Below.drew hb0) _)⟩)
          · have gh2 : decide (rh ≤ he) = false := decide_eq_false h2
            have HRR : Hid (R = 0) := Lib.hid ((HV.out _).2 (by simp [h1, h2]))
            go_enter Tryz.func242, Tryz.ntmps242
            go_wp2
            go_region
            all_goals (go_wp2; go_quiet (fail))
            all_goals (
              go_wp2
              go_ret
              exact ⟨ret_int HRR.out.symm, (by first | exact Below.drew hb0 | exact Bl.drewN (Below.drew hb0) _)⟩)
    · have ns1 : (st != 3) = true := by simpa using s1
      have ms1 : (st == 3) = false := by simpa using s1
      have HRR : Hid (R = 11) := Lib.hid ((HV.out _).2 (by simp [s1]))
      go_enter Tryz.func242, Tryz.ntmps242
      go_wp2
      go_ret
      exact ⟨ret_int HRR.out.symm, hb0⟩
  have d4 : (kd == 4) = false := by simpa using k4
  by_cases k5 : kd = 5
  · subst k5
    replace hcs := Lib.hid hcs
    by_cases s1 : st = 5
    · subst s1
      have HRR : Hid (R = 11) := Lib.hid ((HV.out _).2 (by simp [*]))
      go_enter Tryz.func242, Tryz.ntmps242
      go_wp2
      go_ret
      exact ⟨ret_int HRR.out.symm, hb0⟩
    · have ns1 : (st != 5) = true := by simpa using s1
      have ms1 : (st == 5) = false := by simpa using s1
      by_cases s2 : st = 6
      · subst s2
        have HRR : Hid (R = 11) := Lib.hid ((HV.out _).2 (by simp [*]))
        go_enter Tryz.func242, Tryz.ntmps242
        go_wp2
        go_ret
        exact ⟨ret_int HRR.out.symm, hb0⟩
      · have ns2 : (st != 6) = true := by simpa using s2
        have ms2 : (st == 6) = false := by simpa using s2
        have HRR : Hid (R = 0) := Lib.hid ((HV.out _).2 (by simp [s1, s2]))
        go_enter Tryz.func242, Tryz.ntmps242
        go_wp2
        go_ret
        exact ⟨ret_int HRR.out.symm, hb0⟩
  have d5 : (kd == 5) = false := by simpa using k5
  by_cases k6 : kd = 6
  · subst k6
    replace hcs := Lib.hid hcs
    by_cases s1 : st = 4
    · subst s1
      have HRR : Hid (R = 0) := Lib.hid ((HV.out _).2 (by simp [*]))
      go_enter Tryz.func242, Tryz.ntmps242
      go_wp2
      go_ret
      exact ⟨ret_int HRR.out.symm, hb0⟩
    · have ns1 : (st != 4) = true := by simpa using s1
      have ms1 : (st == 4) = false := by simpa using s1
      have HRR : Hid (R = 11) := Lib.hid ((HV.out _).2 (by simp [s1]))
      go_enter Tryz.func242, Tryz.ntmps242
      go_wp2
      go_ret
      exact ⟨ret_int HRR.out.symm, hb0⟩
  have d6 : (kd == 6) = false := by simpa using k6
  have HRR : Hid (R = 0) := Lib.hid ((HV.out _).2 (by simp [k1, k2, k3, k4, k5, k6]))
  go_enter Tryz.func242, Tryz.ntmps242
  go_wp2
  go_ret
  exact ⟨ret_int HRR.out.symm, hb0⟩
end Go.Proofs.YtbkglhakhahfpaaGreatDoor
namespace Go.Proofs.YtbkglhakhahfpaaGreatDoor
open Go.RowKit Go.Sort Go.Maps

/-- numbers and maps of a board are small. -/
def Bd0.Sm1 (b : Bd0) (n : Nat) : Prop := 0 ≤ b.he ∧ b.he ≤ n ∧ 0 ≤ b.lp ∧ b.lp ≤ n ∧ b.op.length ≤ n ∧ b.rp.length ≤ n ∧ ∀ p ∈ b.rp, 0 ≤ p.2 ∧ p.2 ≤ n
theorem Bd0.Sm1.reps {b : Bd0} {n : Nat} (h : b.Sm1 n) (c : ByteArray) : 0 ≤ b.reps c ∧ b.reps c ≤ n := by
  unfold Bd0.reps
  cases hg : b.rp.get c.data.toList with
  | none => exact ⟨Int.le_refl _, Int.natCast_nonneg _⟩
  | some v => exact h.2.2.2.2.2.2 _ (Sm.get_mem hg)
abbrev InB (g : Nat) : Nat → Prop := fun i => g - 2 ≤ i ∧ i ≤ g
theorem become_M (g : Nat) (b : Bd0) (st at' : Int) (w : World) (hM : BrdM w g b) :
    Calls Tryz.prog 293 #[.pointer (some ⟨g, 0, none⟩), .int .i64 st, .int .i64 at'] w fun e w' => e = .returned (.tuple #[]) ∧ BrdM w' g (b.become st at') ∧ Kp w w' (InB g) := by
  refine (become_any g b.st b.si b.he b.lp st at' _ _ w hM.2.1).mono ?_
  rintro e w' ⟨rfl, h1, h2⟩
  have hg2 := hM.1
  exact ⟨rfl, ⟨hM.1, h1, hM.2.2.1.kept h2 (by intro e; injection e; omega), hM.2.2.2.kept h2 (by intro e; injection e; omega)⟩, Kp.of_gr h2 ⟨by omega, Nat.le_refl _⟩⟩
set_option maxHeartbeats 4000000 in
set_option maxRecDepth 100000 in
theorem do_any (g : Nat) (b : Bd0) (s : Stp) (w : World) (hM : BrdM w g b) (hs : s.co.size ≤ maxLen) (hS : b.Sm1 1000000) :
    Calls Tryz.prog 243 #[.pointer (some ⟨g, 0, none⟩), stpV s] w fun e w' => e = .returned (.tuple #[]) ∧ BrdM w' g (doB b s) ∧ Kp w w' (InB g) := by
  obtain ⟨at', bs, kd, cs⟩ := s
  have hcs : cs.size ≤ maxLen := hs
  have lg := hM.lt
  have hg2 := hM.1
  have hA : Below w.heap.size w (w.alloc (.cells #[.int .i64 at', .string bs, .int .i64 kd, .string cs] 133)) := Bl.alloc (Below.refl _ _) _
  have hMA := hM.below hA
  have hKA : Kp w (w.alloc (.cells #[.int .i64 at', .string bs, .int .i64 kd, .string cs] 133)) (InB g) := Kp.of_below hA
  have hX := blk_new w (.cells #[.int .i64 at', .string bs, .int .i64 kd, .string cs] 133)
  have hreps := hS.reps cs
  obtain ⟨z0, z1, z2, z3, z4, z5, _⟩ := hS
  unfold stpV
  by_cases k1 : kd = 1
  · subst k1
    have HV : Hid (doB b (at', bs, 1, cs) = Bd0.become { b with he := b.he + 1 } 2 at') := Lib.hid rfl
    have hM2 : BrdM ((w.setCell ⟨g, 2, none⟩ (.int .i64 (b.he + 1))).alloc (.cells #[.int .i64 at', .string bs, .int .i64 1, .string cs] 133)) g { b with he := b.he + 1 } := by
      refine ⟨hg2, blk_old (blk_set hM.2.1 2 (.int .i64 (b.he + 1))) _, ?_, ?_⟩
      · exact (hM.2.2.1.kept (Gr.set (Gr.refl w (some g)) g 2 (.inl rfl) (.int .i64 (b.he + 1))) (by intro e; injection e; omega)).alloc _
      · exact (hM.2.2.2.kept (Gr.set (Gr.refl w (some g)) g 2 (.inl rfl) (.int .i64 (b.he + 1))) (by intro e; injection e; omega)).alloc _
    have hK2 : Kp w ((w.setCell ⟨g, 2, none⟩ (.int .i64 (b.he + 1))).alloc (.cells #[.int .i64 at', .string bs, .int .i64 1, .string cs] 133)) (InB g) := Kp.of_gr (Gr.alloc (Gr.set (Gr.refl w (some g)) g 2 (.inl rfl) (.int .i64 (b.he + 1))) _) ⟨by omega, Nat.le_refl _⟩
    have c2 : w.cell? ⟨g, 2, none⟩ = some (.int .i64 b.he) := blk_cell hM.2.1 2
    have f2 := blk_free hM.2.1 2
    have hw : IntKind.i64.wrap (b.he + 1) = b.he + 1 := IntWalk.i64_in _ (by omega)
    have HB := Lib.hid (become_M g _ 2 at' _ hM2)
    clear hM hMA hKA hX hA hM2 hreps
    go_enter Tryz.func243, Tryz.ntmps243
    go_wp2_with fail
    refine HB.out.mono ?_
    rintro e w2 ⟨rfl, h1, h2⟩
    have HE := Lib.hid (And.intro h1 (hK2.trans (Kp.mono h2 fun i _ h => h)))
    clear h1 h2 hK2
    go_wp2
    go_end0
    rw [HV.out]
    exact ⟨rfl, HE.out.1, HE.out.2⟩
  have d1 : (kd == 1) = false := by simpa using k1
  by_cases k2 : kd = 2
  · subst k2
    have HV : Hid (doB b (at', bs, 2, cs) = Bd0.become { b with op := b.op.put cs.data.toList true } 3 at') := Lib.hid rfl
    obtain ⟨w3, hrun3, hM3, ht3⟩ := MapS.put (hMA.2.2.1.drew) TB.ok cs hcs true (by unfold maxLen; omega)
    have hg3 := ht3.grown
    have hM4 : BrdM w3 g { b with op := b.op.put cs.data.toList true } := ⟨hg2, Gr.blk hg3 (show (World.drew _).heap[g]? = _ from hMA.2.1) (by omega), hM3, hMA.2.2.2.drew.kept hg3 (by intro e; injection e; omega)⟩
    have hK3 : Kp w w3 (InB g) := hKA.trans (Kp.of_gr (a := w.alloc (.cells #[.int .i64 at', .string bs, .int .i64 2, .string cs] 133)) ⟨hg3.os, hg3.tape, hg3.output, hg3.size, hg3.block⟩ ⟨Nat.le_refl _, by omega⟩)
    have c3 : w.cell? ⟨g, 3, none⟩ = some (.map (some (g - 2))) := blk_cell hM.2.1 3
    have hX3 := Gr.blk hg3 (show (World.drew _).heap[w.heap.size]? = _ from hX) (by omega)
    have x0 : w3.cell? ⟨w.heap.size, 0, none⟩ = some (.int .i64 at') := blk_cell hX3 0
    have HB := Lib.hid (become_M g _ 3 at' _ hM4)
    simp only [TB] at hrun3
    clear hM hMA hKA hX hA hM3 hM4 hreps ht3 hg3 hX3
    go_enter Tryz.func243, Tryz.ntmps243
    go_wp2
    go_region
    all_goals (
      go_wp2_with fail
      refine HB.out.mono ?_
      rintro e w4 ⟨rfl, h1, h2⟩
      have HE := Lib.hid (And.intro h1 (hK3.trans (Kp.mono h2 fun i _ h => h)))
      clear h1 h2
      go_wp2
      go_end0
      rw [HV.out]
      exact ⟨rfl, HE.out.1, HE.out.2⟩)
  have d2 : (kd == 2) = false := by simpa using k2
  by_cases k3 : kd = 3
  · subst k3
    have HV : Hid (doB b (at', bs, 3, cs) = Bd0.become b 4 at') := Lib.hid rfl
    have HB := Lib.hid (become_M g _ 4 at' _ hMA)
    clear hM hMA hX hA hreps
    go_enter Tryz.func243, Tryz.ntmps243
    go_wp2_with fail
    refine HB.out.mono ?_
    rintro e w4 ⟨rfl, h1, h2⟩
    have HE := Lib.hid (And.intro h1 (hKA.trans (Kp.mono h2 fun i _ h => h)))
    clear h1 h2
    go_wp2
    go_end0
    rw [HV.out]
    exact ⟨rfl, HE.out.1, HE.out.2⟩
  have d3 : (kd == 3) = false := by simpa using k3
  by_cases k4 : kd = 4
  · subst k4
    obtain ⟨rb, hrb⟩ : ∃ x, x = b.reps cs := ⟨_, rfl⟩
    obtain ⟨w3, hrun3, hM3, ht3⟩ := MapS.del (hMA.2.2.1.drew) TB.ok cs hcs 0
    have hg3 := ht3.grown
    have hB3 : Brd w3 g _ _ _ _ _ _ := Gr.blk hg3 (show (World.drew _).heap[g]? = _ from hMA.2.1) (by omega)
    have hR3 : MapS TI w3 (g - 1) b.rp := hMA.2.2.2.drew.kept hg3 (by intro e; injection e; omega)
    have hX3 := Gr.blk hg3 (show (World.drew _).heap[w.heap.size]? = _ from hX) (by omega)
    have hK3 : Kp w w3 (InB g) := hKA.trans (Kp.of_gr (a := w.alloc (.cells #[.int .i64 at', .string bs, .int .i64 4, .string cs] 133)) ⟨hg3.os, hg3.tape, hg3.output, hg3.size, hg3.block⟩ ⟨Nat.le_refl _, by omega⟩)
    have hl3 : (Instr.lookup 158 (.map (some (g - 1))) (.string cs) false).run Tryz.prog w3.drew = .ok (.int .i64 rb) w3.drew := by
      rw [hrb]; exact hR3.drew.look TI.ok cs hcs
    obtain ⟨w4, hrun4, hM4, ht4⟩ := MapS.put (hR3.drew) TI.ok cs hcs (rb + 1) (by unfold maxLen; omega)
    have hg4 := ht4.grown
    have hB4 : Brd w4 g _ _ _ _ _ _ := Gr.blk hg4 (show (World.drew _).heap[g]? = _ from hB3) (by omega)
    have hO4 : MapS TB w4 (g - 2) (b.op.del cs.data.toList) := hM3.drew.kept hg4 (by intro e; injection e; omega)
    have hX4 := Gr.blk hg4 (show (World.drew _).heap[w.heap.size]? = _ from hX3) (by omega)
    have hK4 : Kp w w4 (InB g) := hK3.trans (Kp.of_gr (a := w3) ⟨hg4.os, hg4.tape, hg4.output, hg4.size, hg4.block⟩ ⟨by omega, by omega⟩)
    have lg4 := blk_lt hB4
    have lX4 := blk_lt hX4
    obtain ⟨w5, hw5⟩ : ∃ w5, w5 = w4.setCell ⟨g, 2, none⟩ (.int .i64 (b.he + 1)) := ⟨_, rfl⟩
    have hg5 : w4.grownBy w5 (some g) := by rw [hw5]; exact Gr.set (Gr.refl w4 (some g)) g 2 (.inl rfl) _
    have hB5 : Brd w5 g b.st b.si (b.he + 1) (.map (some (g - 2))) (.map (some (g - 1))) b.lp := by rw [hw5]; exact blk_set hB4 2 (.int .i64 (b.he + 1))
    have hM5 : BrdM w5 g { b with op := b.op.del cs.data.toList, rp := b.rp.put cs.data.toList (rb + 1), he := b.he + 1 } :=
      ⟨hg2, hB5, hO4.kept hg5 (by intro e; injection e; omega), hM4.kept hg5 (by intro e; injection e; omega)⟩
    have hX5 := Gr.blk hg5 hX4 (by omega)
    have hK5 : Kp w w5 (InB g) := hK4.trans (Kp.of_gr hg5 ⟨by omega, Nat.le_refl _⟩)
    have hlen : ∀ ty, (Builtin.len_ #[144] ty #[.map (some (g - 2))]).run Tryz.prog w5 = .ok (.int .i64 (b.op.del cs.data.toList).length) w5 := fun ty => hM5.2.2.1.len TB.ok ty
    have c3 : w.cell? ⟨g, 3, none⟩ = some (.map (some (g - 2))) := blk_cell hM.2.1 3
    have c34 : w3.cell? ⟨g, 4, none⟩ = some (.map (some (g - 1))) := blk_cell hB3 4
    have x33 : w3.cell? ⟨w.heap.size, 3, none⟩ = some (.string cs) := blk_cell hX3 3
    have c42 : w4.cell? ⟨g, 2, none⟩ = some (.int .i64 b.he) := blk_cell hB4 2
    have f42 := blk_free hB4 2
    have c53 : w5.cell? ⟨g, 3, none⟩ = some (.map (some (g - 2))) := blk_cell hB5 3
    have c55 : w5.cell? ⟨g, 5, none⟩ = some (.int .i64 b.lp) := blk_cell hB5 5
    have f55 := blk_free hB5 5
    have x50 : w5.cell? ⟨w.heap.size, 0, none⟩ = some (.int .i64 at') := blk_cell hX5 0
    have hwh : IntKind.i64.wrap (b.he + 1) = b.he + 1 := IntWalk.i64_in _ (by omega)
    have hwl : IntKind.i64.wrap (b.lp + 1) = b.lp + 1 := IntWalk.i64_in _ (by omega)
    have hwr : IntKind.i64.wrap (rb + 1) = rb + 1 := IntWalk.i64_in _ (by omega)
    obtain ⟨w6, hw6⟩ : ∃ w6, w6 = w5.setCell ⟨g, 5, none⟩ (.int .i64 (b.lp + 1)) := ⟨_, rfl⟩
    have hg6 : w5.grownBy w6 (some g) := by rw [hw6]; exact Gr.set (Gr.refl w5 (some g)) g 5 (.inl rfl) _
    have hB6 : Brd w6 g b.st b.si (b.he + 1) (.map (some (g - 2))) (.map (some (g - 1))) (b.lp + 1) := by rw [hw6]; exact blk_set hB5 5 (.int .i64 (b.lp + 1))
    have hM6 : BrdM w6 g { b with op := b.op.del cs.data.toList, rp := b.rp.put cs.data.toList (rb + 1), he := b.he + 1, lp := b.lp + 1 } :=
      ⟨hg2, hB6, hM5.2.2.1.kept hg6 (by intro e; injection e; omega), hM5.2.2.2.kept hg6 (by intro e; injection e; omega)⟩
    have hX6 := Gr.blk hg6 hX5 (by omega)
    have hK6 : Kp w w6 (InB g) := hK5.trans (Kp.of_gr hg6 ⟨by omega, Nat.le_refl _⟩)
    have x60 : w6.cell? ⟨w.heap.size, 0, none⟩ = some (.int .i64 at') := blk_cell hX6 0
    have HB := Lib.hid (become_M g _ 2 at' _ hM6)
    have HM5 := Lib.hid (And.intro hM5 hK5)
    have HK6 := Lib.hid hK6
    simp only [TB] at hrun3
    simp only [TI] at hrun4
    obtain ⟨nl, hnl⟩ : ∃ nl, nl = (b.op.del cs.data.toList).length := ⟨_, rfl⟩
    rw [← hnl] at hlen
    have HV : Hid (doB b (at', bs, 4, cs) = if nl = 0 then Bd0.become { b with op := b.op.del cs.data.toList, rp := b.rp.put cs.data.toList (rb + 1), he := b.he + 1, lp := b.lp + 1 } 2 at'
      else { b with op := b.op.del cs.data.toList, rp := b.rp.put cs.data.toList (rb + 1), he := b.he + 1 }) := Lib.hid (by rw [hnl, hrb]; rfl)
    clear hM hMA hKA hX hA hM3 hM4 hM5 hM6 hreps ht3 hg3 hX3 ht4 hg4 hX4 hg5 hX5 hg6 hX6 hB3 hB4 hB5 hB6 hO4 hR3 hK3 hK4 hK5 hK6 hrb hnl
    subst hw6
    subst hw5
    by_cases h0 : nl = 0
    · subst h0
      go_enter Tryz.func243, Tryz.ntmps243
      go_wp2
      go_region
      all_goals (
        go_wp2
        go_region)
      all_goals (
        go_wp2_with fail
        refine HB.out.mono ?_
        rintro e w7 ⟨rfl, h1, h2⟩
        have HE := Lib.hid (And.intro h1 (HK6.out.trans (Kp.mono h2 fun i _ h => h)))
        clear h1 h2
        go_wp2
        go_end0
        rw [HV.out]
        exact ⟨rfl, HE.out.1, HE.out.2⟩)
    · have h1 : ((nl : Int) == 0) = false := by simp; omega
      have h2 : ¬ (nl : Int) = 0 := by omega
      go_enter Tryz.func243, Tryz.ntmps243
      go_wp2
      go_region
      all_goals (
        go_wp2
        go_region)
      all_goals (
        go_wp2
        go_end0
        rw [HV.out, if_neg h0]
        exact ⟨rfl, HM5.out.1, HM5.out.2⟩)
  have d4 : (kd == 4) = false := by simpa using k4
  by_cases k5 : kd = 5
  · subst k5
    have HV : Hid (doB b (at', bs, 5, cs) = Bd0.become b 5 at') := Lib.hid rfl
    have HB := Lib.hid (become_M g _ 5 at' _ hMA)
    clear hM hMA hX hA hreps
    go_enter Tryz.func243, Tryz.ntmps243
    go_wp2_with fail
    refine HB.out.mono ?_
    rintro e w4 ⟨rfl, h1, h2⟩
    have HE := Lib.hid (And.intro h1 (hKA.trans (Kp.mono h2 fun i _ h => h)))
    clear h1 h2
    go_wp2
    go_end0
    rw [HV.out]
    exact ⟨rfl, HE.out.1, HE.out.2⟩
  have d5 : (kd == 5) = false := by simpa using k5
  by_cases k6 : kd = 6
  · subst k6
    have HV : Hid (doB b (at', bs, 6, cs) = Bd0.become b 6 at') := Lib.hid rfl
    have HB := Lib.hid (become_M g _ 6 at' _ hMA)
    clear hM hMA hX hA hreps
    go_enter Tryz.func243, Tryz.ntmps243
    go_wp2_with fail
    refine HB.out.mono ?_
    rintro e w4 ⟨rfl, h1, h2⟩
    have HE := Lib.hid (And.intro h1 (hKA.trans (Kp.mono h2 fun i _ h => h)))
    clear h1 h2
    go_wp2
    go_end0
    rw [HV.out]
    exact ⟨rfl, HE.out.1, HE.out.2⟩
  have d6 : (kd == 6) = false := by simpa using k6
  have HV : Hid (doB b (at', bs, kd, cs) = b) := Lib.hid (by unfold doB; simp [k1, k2, k3, k4, k5, k6])
  have HM := Lib.hid (And.intro hMA hKA)
  clear hM hMA hX hA hreps hKA
  go_enter Tryz.func243, Tryz.ntmps243
  go_wp2
  go_end0
  rw [HV.out]
  exact ⟨rfl, HM.out.1, HM.out.2⟩
end Go.Proofs.YtbkglhakhahfpaaGreatDoor
