/- What a board of package rework does at a step that is not refused. Conditions: component names of at most 2^47 bytes, numbers below 10^6, maps of fewer than 2^40 entries. -/
import Derived.Test.YtnmimagninhkkaaGreatDoorBd
namespace Go.Proofs.YtnmimagninhkkaaGreatDoor
open Go.RowKit Go.Sort Go.Maps

/-- numbers and maps of a board are small. -/
def Bd0.Sm1 (b : Bd0) (n : Nat) : Prop := 0 ≤ b.he ∧ b.he ≤ n ∧ 0 ≤ b.lp ∧ b.lp ≤ n ∧ b.op.length ≤ n ∧ b.rp.length ≤ n ∧ ∀ p ∈ b.rp, 0 ≤ p.2 ∧ p.2 ≤ n
theorem Bd0.Sm1.reps {b : Bd0} {n : Nat} (h : b.Sm1 n) (c : ByteArray) : 0 ≤ b.reps c ∧ b.reps c ≤ n := by
  unfold Bd0.reps
  cases hg : b.rp.get c.data.toList with
  | none => exact ⟨Int.le_refl _, Int.natCast_nonneg _⟩
  | some v => exact h.2.2.2.2.2.2 _ (Sm.get_mem hg)
abbrev InB (g : Nat) : Nat → Prop := fun i => g - 2 ≤ i ∧ i ≤ g
theorem become_M (g : Nat) (b : Bd0) (st at' : Int) (w : World) (hM : BrdM w g b) :
    Calls Tryz.prog 236 #[.pointer (some ⟨g, 0, none⟩), .int .i64 st, .int .i64 at'] w fun e w' => e = .returned (.tuple #[]) ∧ BrdM w' g (b.become st at') ∧ Kp w w' (InB g) := by
  refine (become_any g b.st b.si b.he b.lp st at' _ _ w hM.2.1).mono ?_
  rintro e w' ⟨rfl, h1, h2⟩
  have hg2 := hM.1
  exact ⟨rfl, ⟨hM.1, h1, hM.2.2.1.kept h2 (by intro e; injection e; omega), hM.2.2.2.kept h2 (by intro e; injection e; omega)⟩, Kp.of_gr h2 ⟨by omega, Nat.le_refl _⟩⟩
set_option maxHeartbeats 4000000 in
set_option maxRecDepth 100000 in
theorem do_any (g : Nat) (b : Bd0) (s : Stp) (w : World) (hM : BrdM w g b) (hs : s.co.size ≤ maxLen) (hS : b.Sm1 1000000) :
    Calls Tryz.prog 176 #[.pointer (some ⟨g, 0, none⟩), stpV s] w fun e w' => e = .returned (.tuple #[]) ∧ BrdM w' g (doB b s) ∧ Kp w w' (InB g) := by
  obtain ⟨at', bs, kd, cs⟩ := s
  have hcs : cs.size ≤ maxLen := hs
  have lg := hM.lt
  have hg2 := hM.1
  have hA : Below w.heap.size w (w.alloc (.cells #[.int .i64 at', .string bs, .int .i64 kd, .string cs] 34)) := Bl.alloc (Below.refl _ _) _
  have hMA := hM.below hA
  have hKA : Kp w (w.alloc (.cells #[.int .i64 at', .string bs, .int .i64 kd, .string cs] 34)) (InB g) := Kp.of_below hA
  have hX := blk_new w (.cells #[.int .i64 at', .string bs, .int .i64 kd, .string cs] 34)
  have hreps := hS.reps cs
  obtain ⟨z0, z1, z2, z3, z4, z5, _⟩ := hS
  unfold stpV
  by_cases k1 : kd = 1
  · subst k1
    have HV : Hid (doB b (at', bs, 1, cs) = Bd0.become { b with he := b.he + 1 } 2 at') := Lib.hid rfl
    have hM2 : BrdM ((w.setCell ⟨g, 2, none⟩ (.int .i64 (b.he + 1))).alloc (.cells #[.int .i64 at', .string bs, .int .i64 1, .string cs] 34)) g { b with he := b.he + 1 } := by
      refine ⟨hg2, blk_old (blk_set hM.2.1 2 (.int .i64 (b.he + 1))) _, ?_, ?_⟩
      · exact (hM.2.2.1.kept (Gr.set (Gr.refl w (some g)) g 2 (.inl rfl) (.int .i64 (b.he + 1))) (by intro e; injection e; omega)).alloc _
      · exact (hM.2.2.2.kept (Gr.set (Gr.refl w (some g)) g 2 (.inl rfl) (.int .i64 (b.he + 1))) (by intro e; injection e; omega)).alloc _
    have hK2 : Kp w ((w.setCell ⟨g, 2, none⟩ (.int .i64 (b.he + 1))).alloc (.cells #[.int .i64 at', .string bs, .int .i64 1, .string cs] 34)) (InB g) := Kp.of_gr (Gr.alloc (Gr.set (Gr.refl w (some g)) g 2 (.inl rfl) (.int .i64 (b.he + 1))) _) ⟨by omega, Nat.le_refl _⟩
    have c2 : w.cell? ⟨g, 2, none⟩ = some (.int .i64 b.he) := blk_cell hM.2.1 2
    have f2 := blk_free hM.2.1 2
    have hw : IntKind.i64.wrap (b.he + 1) = b.he + 1 := IntWalk.i64_in _ (by omega)
    have HB := Lib.hid (become_M g _ 2 at' _ hM2)
    clear hM hMA hKA hX hA hM2 hreps
    go_enter Tryz.func176, Tryz.ntmps176
    go_wp2_with fail
    refine HB.out.mono ?_
    rintro e w2 ⟨rfl, h1, h2⟩
    have HE := Lib.hid (And.intro h1 (hK2.trans (Kp.mono h2 fun i _ h => h)))
    clear h1 h2 hK2
    go_wp2
    go_end0
    rw [HV.out]
    exact ⟨rfl, HE.out.1, HE.out.2⟩
  have d1 : (kd == 1) = false := by simpa using k1
  by_cases k2 : kd = 2
  · subst k2
    have HV : Hid (doB b (at', bs, 2, cs) = Bd0.become { b with op := b.op.put cs.data.toList true } 3 at') := Lib.hid rfl
    obtain ⟨w3, hrun3, hM3, ht3⟩ := MapS.put (hMA.2.2.1.drew) TB.ok cs hcs true (by unfold maxLen; omega)
    have hg3 := ht3.grown
    have hM4 : BrdM w3 g { b with op := b.op.put cs.data.toList true } := ⟨hg2, Gr.blk hg3 (show (World.drew _).heap[g]? = _ from hMA.2.1) (by omega), hM3, hMA.2.2.2.drew.kept hg3 (by intro e; injection e; omega)⟩
    have hK3 : Kp w w3 (InB g) := hKA.trans (Kp.of_gr (a := w.alloc (.cells #[.int .i64 at', .string bs, .int .i64 2, .string cs] 34)) ⟨hg3.os, hg3.tape, hg3.output, hg3.size, hg3.block⟩ ⟨Nat.le_refl _, by omega⟩)
    have c3 : w.cell? ⟨g, 3, none⟩ = some (.map (some (g - 2))) := blk_cell hM.2.1 3
    have hX3 := Gr.blk hg3 (show (World.drew _).heap[w.heap.size]? = _ from hX) (by omega)
    have x0 : w3.cell? ⟨w.heap.size, 0, none⟩ = some (.int .i64 at') := blk_cell hX3 0
    have HB := Lib.hid (become_M g _ 3 at' _ hM4)
    simp only [TB] at hrun3
    clear hM hMA hKA hX hA hM3 hM4 hreps ht3 hg3 hX3
    go_enter Tryz.func176, Tryz.ntmps176
    go_wp2
    go_region
    all_goals (
      go_wp2_with fail
      refine HB.out.mono ?_
      rintro e w4 ⟨rfl, h1, h2⟩
      have HE := Lib.hid (And.intro h1 (hK3.trans (Kp.mono h2 fun i _ h => h)))
      clear h1 h2
      go_wp2
      go_end0
      rw [HV.out]
      exact ⟨rfl, HE.out.1, HE.out.2⟩)
  have d2 : (kd == 2) = false := by simpa using k2
  by_cases k3 : kd = 3
  · subst k3
    have HV : Hid (doB b (at', bs, 3, cs) = Bd0.become b 4 at') := Lib.hid rfl
    have HB := Lib.hid (become_M g _ 4 at' _ hMA)
    clear hM hMA hX hA hreps
    go_enter Tryz.func176, Tryz.ntmps176
    go_wp2_with fail
    refine HB.out.mono ?_
    rintro e w4 ⟨rfl, h1, h2⟩
    have HE := Lib.hid (And.intro h1 (hKA.trans (Kp.mono h2 fun i _ h => h)))
    clear h1 h2
    go_wp2
    go_end0
    rw [HV.out]
    exact ⟨rfl, HE.out.1, HE.out.2⟩
  have d3 : (kd == 3) = false := by simpa using k3
  by_cases k4 : kd = 4
  · subst k4
    obtain ⟨rb, hrb⟩ : ∃ x, x = b.reps cs := ⟨_, rfl⟩
    obtain ⟨w3, hrun3, hM3, ht3⟩ := MapS.del (hMA.2.2.1.drew) TB.ok cs hcs 0
    have hg3 := ht3.grown
    have hB3 : Brd w3 g _ _ _ _ _ _ := Gr.blk hg3 (show (World.drew _).heap[g]? = _ from hMA.2.1) (by omega)
    have hR3 : MapS TI w3 (g - 1) b.rp := hMA.2.2.2.drew.kept hg3 (by intro e; injection e; omega)
    have hX3 := Gr.blk hg3 (show (World.drew _).heap[w.heap.size]? = _ from hX) (by omega)
    have hK3 : Kp w w3 (InB g) := hKA.trans (Kp.of_gr (a := w.alloc (.cells #[.int .i64 at', .string bs, .int .i64 4, .string cs] 34)) ⟨hg3.os, hg3.tape, hg3.output, hg3.size, hg3.block⟩ ⟨Nat.le_refl _, by omega⟩)
    have hl3 : (Instr.lookup 126 (.map (some (g - 1))) (.string cs) false).run Tryz.prog w3.drew = .ok (.int .i64 rb) w3.drew := by
      rw [hrb]; exact hR3.drew.look TI.ok cs hcs
    obtain ⟨w4, hrun4, hM4, ht4⟩ := MapS.put (hR3.drew) TI.ok cs hcs (rb + 1) (by unfold maxLen; omega)
    have hg4 := ht4.grown
    have hB4 : Brd w4 g _ _ _ _ _ _ := Gr.blk hg4 (show (World.drew _).heap[g]? = _ from hB3) (by omega)
    have hO4 : MapS TB w4 (g - 2) (b.op.del cs.data.toList) := hM3.drew.kept hg4 (by intro e; injection e; omega)
    have hX4 := Gr.blk hg4 (show (World.drew _).heap[w.heap.size]? = _ from hX3) (by omega)
    have hK4 : Kp w w4 (InB g) := hK3.trans (Kp.of_gr (a := w3) ⟨hg4.os, hg4.tape, hg4.output, hg4.size, hg4.block⟩ ⟨by omega, by omega⟩)
    have lg4 := blk_lt hB4
    have lX4 := blk_lt hX4
    obtain ⟨w5, hw5⟩ : ∃ w5, w5 = w4.setCell ⟨g, 2, none⟩ (.int .i64 (b.he + 1)) := ⟨_, rfl⟩
    have hg5 : w4.grownBy w5 (some g) := by rw [hw5]; exact Gr.set (Gr.refl w4 (some g)) g 2 (.inl rfl) _
    have hB5 : Brd w5 g b.st b.si (b.he + 1) (.map (some (g - 2))) (.map (some (g - 1))) b.lp := by rw [hw5]; exact blk_set hB4 2 (.int .i64 (b.he + 1))
    have hM5 : BrdM w5 g { b with op := b.op.del cs.data.toList, rp := b.rp.put cs.data.toList (rb + 1), he := b.he + 1 } :=
      ⟨hg2, hB5, hO4.kept hg5 (by intro e; injection e; omega), hM4.kept hg5 (by intro e; injection e; omega)⟩
    have hX5 := Gr.blk hg5 hX4 (by omega)
    have hK5 : Kp w w5 (InB g) := hK4.trans (Kp.of_gr hg5 ⟨by omega, Nat.le_refl _⟩)
    have hlen : ∀ ty, (Builtin.len_ #[125] ty #[.map (some (g - 2))]).run Tryz.prog w5 = .ok (.int .i64 (b.op.del cs.data.toList).length) w5 := fun ty => hM5.2.2.1.len TB.ok ty
    have c3 : w.cell? ⟨g, 3, none⟩ = some (.map (some (g - 2))) := blk_cell hM.2.1 3
    have c34 : w3.cell? ⟨g, 4, none⟩ = some (.map (some (g - 1))) := blk_cell hB3 4
    have x33 : w3.cell? ⟨w.heap.size, 3, none⟩ = some (.string cs) := blk_cell hX3 3
    have c42 : w4.cell? ⟨g, 2, none⟩ = some (.int .i64 b.he) := blk_cell hB4 2
    have f42 := blk_free hB4 2
    have c53 : w5.cell? ⟨g, 3, none⟩ = some (.map (some (g - 2))) := blk_cell hB5 3
    have c55 : w5.cell? ⟨g, 5, none⟩ = some (.int .i64 b.lp) := blk_cell hB5 5
    have f55 := blk_free hB5 5
    have x50 : w5.cell? ⟨w.heap.size, 0, none⟩ = some (.int .i64 at') := blk_cell hX5 0
    have hwh : IntKind.i64.wrap (b.he + 1) = b.he + 1 := IntWalk.i64_in _ (by omega)
    have hwl : IntKind.i64.wrap (b.lp + 1) = b.lp + 1 := IntWalk.i64_in _ (by omega)
    have hwr : IntKind.i64.wrap (rb + 1) = rb + 1 := IntWalk.i64_in _ (by omega)
    obtain ⟨w6, hw6⟩ : ∃ w6, w6 = w5.setCell ⟨g, 5, none⟩ (.int .i64 (b.lp + 1)) := ⟨_, rfl⟩
    have hg6 : w5.grownBy w6 (some g) := by rw [hw6]; exact Gr.set (Gr.refl w5 (some g)) g 5 (.inl rfl) _
    have hB6 : Brd w6 g b.st b.si (b.he + 1) (.map (some (g - 2))) (.map (some (g - 1))) (b.lp + 1) := by rw [hw6]; exact blk_set hB5 5 (.int .i64 (b.lp + 1))
    have hM6 : BrdM w6 g { b with op := b.op.del cs.data.toList, rp := b.rp.put cs.data.toList (rb + 1), he := b.he + 1, lp := b.lp + 1 } :=
      ⟨hg2, hB6, hM5.2.2.1.kept hg6 (by intro e; injection e; omega), hM5.2.2.2.kept hg6 (by intro e; injection e; omega)⟩
    have hX6 := Gr.blk hg6 hX5 (by omega)
    have hK6 : Kp w w6 (InB g) := hK5.trans (Kp.of_gr hg6 ⟨by omega, Nat.le_refl _⟩)
    have x60 : w6.cell? ⟨w.heap.size, 0, none⟩ = some (.int .i64 at') := blk_cell hX6 0
    have HB := Lib.hid (become_M g _ 2 at' _ hM6)
    have HM5 := Lib.hid (And.intro hM5 hK5)
    have HK6 := Lib.hid hK6
    simp only [TB] at hrun3
    simp only [TI] at hrun4
    obtain ⟨nl, hnl⟩ : ∃ nl, nl = (b.op.del cs.data.toList).length := ⟨_, rfl⟩
    rw [← hnl] at hlen
    have HV : Hid (doB b (at', bs, 4, cs) = if nl = 0 then Bd0.become { b with op := b.op.del cs.data.toList, rp := b.rp.put cs.data.toList (rb + 1), he := b.he + 1, lp := b.lp + 1 } 2 at'
      else { b with op := b.op.del cs.data.toList, rp := b.rp.put cs.data.toList (rb + 1), he := b.he + 1 }) := Lib.hid (by rw [hnl, hrb]; rfl)
    clear hM hMA hKA hX hA hM3 hM4 hM5 hM6 hreps ht3 hg3 hX3 ht4 hg4 hX4 hg5 hX5 hg6 hX6 hB3 hB4 hB5 hB6 hO4 hR3 hK3 hK4 hK5 hK6 hrb hnl
    subst hw6
    subst hw5
    by_cases h0 : nl = 0
    · subst h0
      go_enter Tryz.func176, Tryz.ntmps176
      go_wp2
      go_region
      all_goals (
        go_wp2
        go_region)
      all_goals (
        go_wp2_with fail
        refine HB.out.mono ?_
        rintro e w7 ⟨rfl, h1, h2⟩
        have HE := Lib.hid (And.intro h1 (HK6.out.trans (Kp.mono h2 fun i _ h => h)))
        clear h1 h2
        go_wp2
        go_end0
        rw [HV.out]
        exact ⟨rfl, HE.out.1, HE.out.2⟩)
    · have h1 : ((nl : Int) == 0) = false := by simp; omega
      have h2 : ¬ (nl : Int) = 0 := by omega
      go_enter Tryz.func176, Tryz.ntmps176
      go_wp2
      go_region
      all_goals (
        go_wp2
        go_region)
      all_goals (
        go_wp2
        go_end0
        rw [HV.out, if_neg h0]
        exact ⟨rfl, HM5.out.1, HM5.out.2⟩)
  have d4 : (kd == 4) = false := by simpa using k4
  by_cases k5 : kd = 5
  · subst k5
    have HV : Hid (doB b (at', bs, 5, cs) = Bd0.become b 5 at') := Lib.hid rfl
    have HB := Lib.hid (become_M g _ 5 at' _ hMA)
    clear hM hMA hX hA hreps
    go_enter Tryz.func176, Tryz.ntmps176
    go_wp2_with fail
    refine HB.out.mono ?_
    rintro e w4 ⟨rfl, h1, h2⟩
    have HE := Lib.hid (And.intro h1 (hKA.trans (Kp.mono h2 fun i _ h => h)))
    clear h1 h2
    go_wp2
    go_end0
    rw [HV.out]
    exact ⟨rfl, HE.out.1, HE.out.2⟩
  have d5 : (kd == 5) = false := by simpa using k5
  by_cases k6 : kd = 6
  · subst k6
    have HV : Hid (doB b (at', bs, 6, cs) = Bd0.become b 6 at') := Lib.hid rfl
    have HB := Lib.hid (become_M g _ 6 at' _ hMA)
    clear hM hMA hX hA hreps
    go_enter Tryz.func176, Tryz.ntmps176
    go_wp2_with fail
    refine HB.out.mono ?_
    rintro e w4 ⟨rfl, h1, h2⟩
    have HE := Lib.hid (And.intro h1 (hKA.trans (Kp.mono h2 fun i _ h => h)))
    clear h1 h2
    go_wp2
    go_end0
    rw [HV.out]
    exact ⟨rfl, HE.out.1, HE.out.2⟩
  have d6 : (kd == 6) = false := by simpa using k6
  have HV : Hid (doB b (at', bs, kd, cs) = b) := Lib.hid (by unfold doB; simp [k1, k2, k3, k4, k5, k6])
  have HM := Lib.hid (And.intro hMA hKA)
  clear hM hMA hX hA hreps hKA
  go_enter Tryz.func176, Tryz.ntmps176
  go_wp2
  go_end0
  rw [HV.out]
  exact ⟨rfl, HM.out.1, HM.out.2⟩
end Go.Proofs.YtnmimagninhkkaaGreatDoor
