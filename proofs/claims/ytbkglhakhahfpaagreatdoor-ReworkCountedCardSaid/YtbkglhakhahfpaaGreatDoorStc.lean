/- Faults of steps: rework.CheckSteps and the reference's StepsFault answer the same. Conditions: at most 10^6 steps, strings of at most 2^47 bytes. · rework.CheckSteps and the reference's StepsFault answer the same. Conditions: at most 10^6 steps, strings of at most 2^47 bytes. -/
import Derived.Test.YtbkglhakhahfpaaGreatDoorStl
import Derived.Test.YtbkglhakhahfpaaGreatDoorKey
namespace Go.Proofs.YtbkglhakhahfpaaGreatDoor
open Go.RowKit Go.Sort

def momB (n : Int) : Bool := inB 0 n 345686399999
def namB (k : Int) : Bool := decide (k = 2) || decide (k = 4)
/-- what is wrong with a step behind another one. -/
def stepF (prev : Option Int) (s : Stp) : Int :=
  if momB s.at = false then 1
  else if keyB s.bd = false then 5
  else if inB 1 s.kd 6 = false then 4
  else if namB s.kd = false ∧ s.co.size ≠ 0 then 3
  else if namB s.kd = true ∧ keyB s.co = false then 5
  else match prev with
    | none => 0
    | some p => if s.at < p then 7 else 0
def stepsF1 : Option Int → List Stp → Int
  | _, [] => 0
  | p, s :: l => if stepF p s = 0 then stepsF1 (some s.at) l else stepF p s
def stepsF (l : List Stp) : Int := if 5000 < l.length then 2 else stepsF1 none l
def prevA (l : List Stp) (k : Nat) : Option Int := if k = 0 then none else (l[k - 1]?).map Stp.at
theorem stepsF1_go {l : List Stp} {k : Nat} {s : Stp} (hs : l[k]? = some s) (h : stepF (prevA l k) s = 0) : stepsF1 (prevA l k) (l.drop k) = stepsF1 (prevA l (k + 1)) (l.drop (k + 1)) := by
  obtain ⟨hk, he⟩ := List.getElem?_eq_some_iff.1 hs
  rw [List.drop_eq_getElem_cons hk, he, stepsF1, if_pos h]
  congr 1
  unfold prevA
  rw [if_neg (Nat.succ_ne_zero k), Nat.add_sub_cancel, hs]; rfl
theorem stepsF1_stop {l : List Stp} {k : Nat} {s : Stp} (hs : l[k]? = some s) (h : stepF (prevA l k) s ≠ 0) : stepsF1 (prevA l k) (l.drop k) = stepF (prevA l k) s := by
  obtain ⟨hk, he⟩ := List.getElem?_eq_some_iff.1 hs
  rw [List.drop_eq_getElem_cons hk, he, stepsF1, if_neg h]
theorem isKind_any (n : Int) (w : World) : Calls Tryz.prog 291 #[.int .i64 n] w fun e w' => e = .returned (.bool (inB 1 n 6)) ∧ w = w' := by
  go_enter Tryz.func291, Tryz.ntmps291
  go_wp2_with fail
  refine (Outside_any n 1 6 w).mono ?_
  rintro e w' ⟨rfl, rfl⟩
  go_wp2
  go_ret
  exact ⟨ret_bool (by simp), rfl⟩
theorem hasComp_any (n : Int) (w : World) : Calls Tryz.prog 292 #[.int .i64 n] w fun e w' => e = .returned (.bool (namB n)) ∧ w = w' := by
  by_cases h2 : n = 2
  · subst h2
    go_enter Tryz.func292, Tryz.ntmps292
    go_wp2
    go_ret
    exact ⟨ret_bool rfl, rfl⟩
  · have d2 : (n == 2) = false := by simpa using h2
    by_cases h4 : n = 4
    · subst h4
      go_enter Tryz.func292, Tryz.ntmps292
      go_wp2
      go_ret
      exact ⟨ret_bool rfl, rfl⟩
    · have d4 : (n == 4) = false := by simpa using h4
      have HR : Hid (namB n = false) := Lib.hid (by unfold namB; simp [h2, h4])
      go_enter Tryz.func292, Tryz.ntmps292
      go_wp2
      go_ret
      exact ⟨ret_bool HR.out.symm, rfl⟩
set_option maxHeartbeats 4000000 in
set_option maxRecDepth 100000 in
theorem stepFault_any (l : List Stp) (k : Nat) (s : Stp) (v : Value) (w : World) (hl : l.length ≤ 1000000) (rl : RecR TSt w 0 v l) (hs : l[k]? = some s) (hb : s.bd.size ≤ 140737488355328) (hc : s.co.size ≤ 140737488355328) :
    Calls Tryz.prog 240 #[v, .int .i64 k] w fun e w' => e = .returned (.int .i64 (stepF (prevA l k) s)) ∧ Below w.heap.size w w' := by
  obtain ⟨a, cap, rfl, _, _⟩ := rl.form
  obtain ⟨hkl, _⟩ := List.getElem?_eq_some_iff.1 hs
  obtain ⟨b1, o1, rfl, _, hb1, hc1⟩ := rl.at TSt.ok.len hs TSt.ok.pos
  obtain ⟨at', bs, kd, cs⟩ := s
  have c0 : w.cell? ⟨b1, o1 + k * 4, none⟩ = some (.int .i64 at') := hc1 0 _ rfl
  have c1 : w.cell? ⟨b1, o1 + k * 4 + 1, none⟩ = some (.string bs) := hc1 1 _ rfl
  have c2 : w.cell? ⟨b1, o1 + k * 4 + 2, none⟩ = some (.int .i64 kd) := hc1 2 _ rfl
  have c3 : w.cell? ⟨b1, o1 + k * 4 + 3, none⟩ = some (.string cs) := hc1 3 _ rfl
  obtain ⟨w1, hw1⟩ : ∃ w1, w1 = w.alloc (.cells #[.int .i64 at', .string bs, .int .i64 kd, .string cs] 133) := ⟨_, rfl⟩
  have hA : Below w.heap.size w w1 := by rw [hw1]; exact Bl.alloc (Below.refl _ _) _
  have hX : w1.heap[w.heap.size]? = some (.cells #[.int .i64 at', .string bs, .int .i64 kd, .string cs] 133 (0, 0)) := by rw [hw1]; exact blk_new w _
  have HXC := Lib.hid (show ∀ W, Below w1.heap.size w1 W → W.cell? ⟨w.heap.size, 0, none⟩ = some (.int .i64 at') ∧ W.cell? ⟨w.heap.size, 1, none⟩ = some (.string bs) ∧ W.cell? ⟨w.heap.size, 2, none⟩ = some (.int .i64 kd) ∧ W.cell? ⟨w.heap.size, 3, none⟩ = some (.string cs) from fun W hW => by
    have h := blk_below hX hW
    exact ⟨blk_cell h 0, blk_cell h 1, blk_cell h 2, blk_cell h 3⟩)
  have HRL := Lib.hid rl
  have HB1 := Lib.hid hA
  have hbs : bs.size ≤ 140737488355328 := hb
  have hcs : cs.size ≤ 140737488355328 := hc
  have HM := Lib.hid (IsMoment_any at')
  have HKB := Lib.hid fun W => IsKey_any bs W hbs
  have HKC := Lib.hid fun W => IsKey_any cs W hcs
  have HKI := Lib.hid (isKind_any kd)
  have HHC := Lib.hid (hasComp_any kd)
  have HV : Hid (∀ x, stepF (prevA l k) (at', bs, kd, cs) = x ↔ (if momB at' = false then 1 else if keyB bs = false then 5 else if inB 1 kd 6 = false then 4 else if namB kd = false ∧ cs.size ≠ 0 then 3 else if namB kd = true ∧ keyB cs = false then 5 else match prevA l k with
    | none => 0
    | some p => if at' < p then 7 else (0 : Int)) = x) := Lib.hid fun x => Iff.rfl
  generalize stepF (prevA l k) (at', bs, kd, cs) = R at *
  change Hid (∀ W, Calls _ _ _ W fun e w' => e = .returned (.bool (momB at')) ∧ W = w') at HM
  clear rl hA hX hb hc hc1
  go_enter Tryz.func240, Tryz.ntmps240
  go_wp2_with fail
  rw [← hw1]
  have hz1 : w.heap.size < w1.heap.size := by rw [hw1]; simp
  clear hw1 c0 c1 c2 c3
  obtain ⟨x0, x1, x2, x3⟩ := HXC.out w1 (Below.refl _ _)
  refine (HM.out _).mono ?_
  rintro e w' ⟨rfl, rfl⟩
  cases hm : momB at'
  · have HR : Hid (R = 1) := Lib.hid ((HV.out _).2 (by simp [hm]))
    go_wp2
    go_ret
    exact ⟨ret_int HR.out.symm, HB1.out⟩
  · go_wp2_with fail
    refine (HKB.out _).mono ?_
    rintro e w2 ⟨rfl, hb2⟩
    cases hkb : keyB bs
    · have HR : Hid (R = 5) := Lib.hid ((HV.out _).2 (by simp [hm, hkb]))
      go_wp2
      go_ret
      exact ⟨ret_int HR.out.symm, Bl.trans HB1.out hb2⟩
    · have hb2' := hb2
      obtain ⟨z0, z1, z2, z3⟩ := HXC.out w2 hb2
      go_wp2_with fail
      refine (HKI.out _).mono ?_
      rintro e w' ⟨rfl, rfl⟩
      cases hki : inB 1 kd 6
      · have HR : Hid (R = 4) := Lib.hid ((HV.out _).2 (by simp [hm, hkb, hki]))
        go_wp2
        go_ret
        exact ⟨ret_int HR.out.symm, Bl.trans HB1.out hb2⟩
      · go_wp2_with fail
        refine (HHC.out _).mono ?_
        rintro e w' ⟨rfl, rfl⟩
        cases hna : namB kd
        · by_cases hc0 : cs.size = 0
          · obtain rfl : cs = ⟨#[]⟩ := by
              apply ByteArray.ext
              exact Array.eq_empty_of_size_eq_zero hc0
            go_wp2_with fail
            refine (HHC.out _).mono ?_
            rintro e w' ⟨rfl, hww⟩
            rw [hna]
            subst hww
            by_cases hk0 : k = 0
            · have h0 : ¬ (0 : Int) < (k : Int) := by omega
              have h0' : decide ((0 : Int) < (k : Int)) = false := decide_eq_false h0
              have h0n : decide (0 < k) = false := decide_eq_false (by omega)
              have HR : Hid (R = 0) := Lib.hid ((HV.out _).2 (by simp [hm, hkb, hki, hna, hc0, prevA, hk0]))
              go_wp2
              go_quiet (fail)
              go_wp2
              go_ret
              exact ⟨ret_int HR.out.symm, Bl.drewN (Bl.trans HB1.out hb2') _⟩
            · have h0 : (0 : Int) < (k : Int) := by omega
              have h0' : decide ((0 : Int) < (k : Int)) = true := decide_eq_true h0
              have h0n : decide (0 < k) = true := decide_eq_true (by omega)
              obtain ⟨q, hq⟩ : ∃ q, l[k - 1]? = some q := ⟨_, List.getElem?_eq_getElem (by omega)⟩
              obtain ⟨b9, o9, hae, _, hb9, hc9⟩ := (HRL.out.below (Bl.trans HB1.out hb2')).at TSt.ok.len hq TSt.ok.pos
              injection hae with hae
              injection hae with hae1 hae2 _
              subst hae1 hae2
              have y9 : World.cell? _ ⟨b1, o1 + (k - 1) * 4, none⟩ = some (.int .i64 q.1) := hc9 0 _ rfl
              have HP : Hid (prevA l k = some q.1) := Lib.hid (by unfold prevA; rw [if_neg hk0, hq]; rfl)
              obtain ⟨z0, z1, z2, z3⟩ := HXC.out _ (hb2')
              have hwk : IntKind.i64.wrap ((k : Int) - 1) = ((k - 1 : Nat) : Int) := by rw [IntWalk.i64_in _ (by omega)]; omega
              have hk1 : k - 1 < l.length := by omega
              obtain ⟨qa, hqa⟩ : ∃ x, x = q.1 := ⟨_, rfl⟩
              rw [← hqa] at y9 HP
              clear hc9 hq hqa
              by_cases hlt : at' < qa
              · have hlt' : decide (at' < qa) = true := decide_eq_true hlt
                have HR : Hid (R = 7) := Lib.hid ((HV.out _).2 (by simp [hm, hkb, hki, hna, hc0, HP.out, hlt]))
                go_wp2
                go_quiet (fail)
                go_wp2
                go_ret
                exact ⟨ret_int HR.out.symm, Bl.drewN (Bl.trans HB1.out hb2') _⟩
              · have hlt' : decide (at' < qa) = false := decide_eq_false hlt
                have HR : Hid (R = 0) := Lib.hid ((HV.out _).2 (by simp [hm, hkb, hki, hna, hc0, HP.out, hlt]))
                go_wp2
                go_quiet (fail)
                go_wp2
                go_ret
                exact ⟨ret_int HR.out.symm, Bl.drewN (Bl.trans HB1.out hb2') _⟩
          · have e1 : cs.toList.isEmpty = false := by
              rw [ByteArray.toList_eq]
              cases h : cs.data.toList with
              | nil =>
                have : cs.data.toList.length = cs.size := Array.length_toList
                rw [h] at this; simp at this; omega
              | cons => rfl
            have e2 : ¬ cs.toList = [] := by intro h; rw [h] at e1; cases e1
            have HR : Hid (R = 3) := Lib.hid ((HV.out _).2 (by simp [hm, hkb, hki, hna, hc0]))
            go_wp2
            go_ret
            exact ⟨ret_int HR.out.symm, Bl.trans HB1.out hb2'⟩
        · go_wp2_with fail
          refine (HHC.out _).mono ?_
          rintro e w' ⟨rfl, hww⟩
          rw [hna]
          subst hww
          go_wp2_with fail
          refine (HKC.out _).mono ?_
          rintro e w3 ⟨rfl, hb3⟩
          have hb3' := Bl.trans hb2' hb3
          cases hkc : keyB cs
          · have HR : Hid (R = 5) := Lib.hid ((HV.out _).2 (by simp [hm, hkb, hki, hna, hkc]))
            go_wp2
            go_ret
            exact ⟨ret_int HR.out.symm, Bl.trans HB1.out hb3'⟩
          · by_cases hk0 : k = 0
            · have h0 : ¬ (0 : Int) < (k : Int) := by omega
              have h0' : decide ((0 : Int) < (k : Int)) = false := decide_eq_false h0
              have h0n : decide (0 < k) = false := decide_eq_false (by omega)
              have HR : Hid (R = 0) := Lib.hid ((HV.out _).2 (by simp [hm, hkb, hki, hna, hkc, prevA, hk0]))
              go_wp2
              go_quiet (fail)
              go_wp2
              go_ret
              exact ⟨ret_int HR.out.symm, Bl.drewN (Bl.trans HB1.out hb3') _⟩
            · have h0 : (0 : Int) < (k : Int) := by omega
              have h0' : decide ((0 : Int) < (k : Int)) = true := decide_eq_true h0
              have h0n : decide (0 < k) = true := decide_eq_true (by omega)
              obtain ⟨q, hq⟩ : ∃ q, l[k - 1]? = some q := ⟨_, List.getElem?_eq_getElem (by omega)⟩
              obtain ⟨b9, o9, hae, _, hb9, hc9⟩ := (HRL.out.below (Bl.trans HB1.out hb3')).at TSt.ok.len hq TSt.ok.pos
              injection hae with hae
              injection hae with hae1 hae2 _
              subst hae1 hae2
              have y9 : World.cell? _ ⟨b1, o1 + (k - 1) * 4, none⟩ = some (.int .i64 q.1) := hc9 0 _ rfl
              have HP : Hid (prevA l k = some q.1) := Lib.hid (by unfold prevA; rw [if_neg hk0, hq]; rfl)
              obtain ⟨z0, z1, z2, z3⟩ := HXC.out _ (hb3')
              have hwk : IntKind.i64.wrap ((k : Int) - 1) = ((k - 1 : Nat) : Int) := by rw [IntWalk.i64_in _ (by omega)]; omega
              have hk1 : k - 1 < l.length := by omega
              obtain ⟨qa, hqa⟩ : ∃ x, x = q.1 := ⟨_, rfl⟩
              rw [← hqa] at y9 HP
              clear hc9 hq hqa
              by_cases hlt : at' < qa
              · have hlt' : decide (at' < qa) = true := decide_eq_true hlt
                have HR : Hid (R = 7) := Lib.hid ((HV.out _).2 (by simp [hm, hkb, hki, hna, hkc, HP.out, hlt]))
                go_wp2
                go_quiet (fail)
                go_wp2
                go_ret
                exact ⟨ret_int HR.out.symm, Bl.drewN (Bl.trans HB1.out hb3') _⟩
              · have hlt' : decide (at' < qa) = false := decide_eq_false hlt
                have HR : Hid (R = 0) := Lib.hid ((HV.out _).2 (by simp [hm, hkb, hki, hna, hkc, HP.out, hlt]))
                go_wp2
                go_quiet (fail)
                go_wp2
                go_ret
                exact ⟨ret_int HR.out.symm, Bl.drewN (Bl.trans HB1.out hb3') _⟩
end Go.Proofs.YtbkglhakhahfpaaGreatDoor
namespace Go.Proofs.YtbkglhakhahfpaaGreatDoor
open Go.RowKit Go.Sort

def StpZ (l : List Stp) : Prop := ∀ s ∈ l, s.bd.size ≤ 140737488355328 ∧ s.co.size ≤ 140737488355328
set_option maxHeartbeats 4000000 in
theorem CheckSteps_any (l : List Stp) (v : Value) (w : World) (hl : l.length ≤ 1000000) (rl : RecR TSt w 0 v l) (hz : StpZ l) :
    Calls Tryz.prog 175 #[v] w fun e w' => e = .returned (.int .i64 (stepsF l)) ∧ Below w.heap.size w w' := by
  obtain ⟨a, cap, rfl, _, _⟩ := rl.form
  have RL := Lib.hid rl
  clear rl
  by_cases hbig : 5000 < l.length
  · have HR : Hid (stepsF l = 2) := Lib.hid (by unfold stepsF; rw [if_pos hbig])
    have h1 : (5000 : Int) < (l.length : Int) := by omega
    go_enter Tryz.func175, Tryz.ntmps175
    go_wp2
    go_ret
    exact ⟨ret_int HR.out.symm, Below.refl _ _⟩
  · have HR : Hid (stepsF l = stepsF1 none l) := Lib.hid (by unfold stepsF; rw [if_neg hbig])
    have h1 : ¬ (5000 : Int) < (l.length : Int) := by omega
    clear hbig
    go_enter Tryz.func175, Tryz.ntmps175
    go_wp2_with fail
    go_loopw [10] (fun i wr => ∃ k : Nat, k ≤ l.length ∧ i = .int .i64 k ∧ Hid (stepsF l = stepsF1 (prevA l k) (l.drop k)) ∧ Below w.heap.size w wr) (fun i _ => l.length - (intOf i).toNat)
    case atStart => exact ⟨0, Nat.zero_le _, rfl, Lib.hid (by rw [HR.out]; rfl), Below.refl _ _⟩
    case round =>
      obtain ⟨k, hk, rfl, hP, hB⟩ := hrel
      by_cases hlt : k < l.length
      · obtain ⟨s, hs⟩ : ∃ x, l[k]? = some x := ⟨_, List.getElem?_eq_getElem hlt⟩
        obtain ⟨hz1, hz2⟩ := hz s (List.mem_of_getElem? hs)
        have HSF := Lib.hid (stepFault_any l k s (.slice a l.length cap) wr hl (RL.out.below hB) hs hz1 hz2)
        obtain ⟨R, hR⟩ : ∃ R, R = stepF (prevA l k) s := ⟨_, rfl⟩
        rw [← hR] at HSF
        have hw1 : IntKind.i64.wrap ((k : Int) + 1) = ((k + 1 : Nat) : Int) := by rw [IntWalk.i64_in _ (by omega)]; omega
        by_cases h0 : R = 0
        · have HG : Hid (stepsF l = stepsF1 (prevA l (k + 1)) (l.drop (k + 1))) := Lib.hid (by rw [hP.out]; exact stepsF1_go hs (by rw [← hR]; exact h0))
          subst h0
          clear hR hs hz1 hz2
          go_wp2_with fail
          refine HSF.out.mono ?_
          rintro e w2 ⟨rfl, hb2⟩
          have HB2 := Lib.hid (Bl.trans hB hb2)
          clear hb2
          go_wp2
          go_roundw
          case rel => exact ⟨k + 1, by omega, by go_num, HG, HB2.out⟩
          case measure => simp [intOf]; omega
        · have HG : Hid (stepsF l = R) := Lib.hid (by rw [hP.out, hR]; exact stepsF1_stop hs (by rw [← hR]; exact h0))
          clear hR hs hz1 hz2
          go_wp2_with fail
          refine HSF.out.mono ?_
          rintro e w2 ⟨rfl, hb2⟩
          have HB2 := Lib.hid (Bl.trans hB hb2)
          clear hb2
          go_wp2
          go_ret
          exact ⟨ret_int HG.out.symm, HB2.out⟩
      · obtain rfl : k = l.length := by omega
        have HG : Hid (stepsF l = 0) := Lib.hid (by rw [hP.out, List.drop_length]; rfl)
        go_wp2
        go_ret
        exact ⟨ret_int HG.out.symm, hB⟩
set_option maxHeartbeats 8000000 in
set_option maxRecDepth 100000 in
theorem StepsFault_any (l : List Stp) (v : Value) (w : World) (hl : l.length ≤ 1000000) (rl : RecR TSt w 0 v l) (hz : StpZ l) :
    Calls Tryz.prog 13 #[v] w fun e w' => e = .returned (.int .i64 (stepsF l)) ∧ Below w.heap.size w w' := by
  obtain ⟨a, cap, rfl, _, _⟩ := rl.form
  have RL := Lib.hid rl
  clear rl
  by_cases hbig : 5000 < l.length
  · have HR : Hid (stepsF l = 2) := Lib.hid (by unfold stepsF; rw [if_pos hbig])
    have h1 : (5000 : Int) < (l.length : Int) := by omega
    go_enter Tryz.func13, Tryz.ntmps13
    go_wp2
    go_ret
    exact ⟨ret_int HR.out.symm, Below.refl _ _⟩
  · have HR : Hid (stepsF l = stepsF1 none l) := Lib.hid (by unfold stepsF; rw [if_neg hbig])
    have h1 : ¬ (5000 : Int) < (l.length : Int) := by omega
    clear hbig
    go_enter Tryz.func13, Tryz.ntmps13
    go_wp2_with fail
    go_loopw [11] (fun i wr => ∃ k : Nat, k ≤ l.length ∧ i = .int .i64 k ∧ Hid (stepsF l = stepsF1 (prevA l k) (l.drop k)) ∧ Below w.heap.size w wr) (fun i _ => l.length - (intOf i).toNat)
    case atStart => exact ⟨0, Nat.zero_le _, rfl, Lib.hid (by rw [HR.out]; rfl), Below.refl _ _⟩
    case round =>
      obtain ⟨k, hk, rfl, hP, hB⟩ := hrel
      by_cases hlt : k < l.length
      · obtain ⟨s, hs⟩ : ∃ x, l[k]? = some x := ⟨_, List.getElem?_eq_getElem hlt⟩
        obtain ⟨hz1, hz2⟩ := hz s (List.mem_of_getElem? hs)
        have hw9 : IntKind.i64.wrap ((k : Int) + 1) = ((k + 1 : Nat) : Int) := by rw [IntWalk.i64_in _ (by omega)]; omega
        have HGO : Hid ((stepF (prevA l k) s = 0 → stepsF l = stepsF1 (prevA l (k + 1)) (l.drop (k + 1))) ∧ (stepF (prevA l k) s ≠ 0 → stepsF l = stepF (prevA l k) s)) := Lib.hid ⟨fun h => by rw [hP.out]; exact stepsF1_go hs h, fun h => by rw [hP.out]; exact stepsF1_stop hs h⟩
        obtain ⟨b1, o1, rfl, _, hb1, hc1⟩ := (RL.out.below hB).at TSt.ok.len hs TSt.ok.pos
        obtain ⟨at', bs, kd, cs⟩ := s
        have c0 : wr.cell? ⟨b1, o1 + k * 4, none⟩ = some (.int .i64 at') := hc1 0 _ rfl
        have c1 : wr.cell? ⟨b1, o1 + k * 4 + 1, none⟩ = some (.string bs) := hc1 1 _ rfl
        have c2 : wr.cell? ⟨b1, o1 + k * 4 + 2, none⟩ = some (.int .i64 kd) := hc1 2 _ rfl
        have c3 : wr.cell? ⟨b1, o1 + k * 4 + 3, none⟩ = some (.string cs) := hc1 3 _ rfl
        obtain ⟨w1, hw1⟩ : ∃ w1, w1 = wr.alloc (.cells #[.int .i64 at', .string bs, .int .i64 kd, .string cs] 133) := ⟨_, rfl⟩
        have hA : Below wr.heap.size wr w1 := by rw [hw1]; exact Bl.alloc (Below.refl _ _) _
        have hX : w1.heap[wr.heap.size]? = some (.cells #[.int .i64 at', .string bs, .int .i64 kd, .string cs] 133 (0, 0)) := by rw [hw1]; exact blk_new wr _
        have HXC := Lib.hid (show ∀ W, Below w1.heap.size w1 W → W.cell? ⟨wr.heap.size, 0, none⟩ = some (.int .i64 at') ∧ W.cell? ⟨wr.heap.size, 1, none⟩ = some (.string bs) ∧ W.cell? ⟨wr.heap.size, 2, none⟩ = some (.int .i64 kd) ∧ W.cell? ⟨wr.heap.size, 3, none⟩ = some (.string cs) from fun W hW => by
          have h := blk_below hX hW
          exact ⟨blk_cell h 0, blk_cell h 1, blk_cell h 2, blk_cell h 3⟩)
        have HRL := Lib.hid (RL.out.below hB)
        have HB1 := Lib.hid (Bl.trans hB hA)
        have HA1 := Lib.hid hA
        have hbs : bs.size ≤ 140737488355328 := hz1
        have hcs : cs.size ≤ 140737488355328 := hz2
        have HM : Hid (∀ W, Calls Tryz.prog 87 #[.int .i64 at'] W fun e w' => e = .returned (.bool (momB at')) ∧ W = w') := Lib.hid (Moment_any at')
        have HKB := Lib.hid fun W => Key_any bs W hbs
        have HKC := Lib.hid fun W => Key_any cs W hcs
        have HKI := Lib.hid (in_any kd 1 6)
        have HV : Hid (∀ x, stepF (prevA l k) (at', bs, kd, cs) = x ↔ (if momB at' = false then 1 else if keyB bs = false then 5 else if inB 1 kd 6 = false then 4 else if namB kd = false ∧ cs.size ≠ 0 then 3 else if namB kd = true ∧ keyB cs = false then 5 else match prevA l k with
          | none => 0
          | some p => if at' < p then 7 else (0 : Int)) = x) := Lib.hid fun x => Iff.rfl
        generalize stepF (prevA l k) (at', bs, kd, cs) = R at *
        clear hP hA hX hz1 hz2 hc1 hs
        obtain ⟨nb, hnb⟩ : ∃ nb, nb = namB kd := ⟨_, rfl⟩
        have HN : Hid ((kd = 2 ∧ nb = true) ∨ (kd ≠ 2 ∧ kd = 4 ∧ nb = true) ∨ (kd ≠ 2 ∧ kd ≠ 4 ∧ nb = false)) := Lib.hid (by
          rw [hnb]
          unfold namB
          by_cases h2 : kd = 2
          · exact .inl ⟨h2, by simp [h2]⟩
          · by_cases h4 : kd = 4
            · exact .inr (.inl ⟨h2, h4, by simp [h4]⟩)
            · exact .inr (.inr ⟨h2, h4, by simp [h2, h4]⟩))
        rw [← hnb] at HV
        clear hnb
        rcases HN.out with ⟨rfl, rfl⟩ | ⟨hk2, rfl, rfl⟩ | ⟨hk2, hk4, rfl⟩
        · go_wp2_with fail
          rw [← hw1]
          have hz1 : wr.heap.size < w1.heap.size := by rw [hw1]; simp
          clear hw1 c0 c1 c2 c3
          obtain ⟨x0, x1, x2, x3⟩ := HXC.out w1 (Below.refl _ _)
          refine (HM.out _).mono ?_
          rintro e w' ⟨rfl, rfl⟩
          cases hm : momB at'
          · have HR : Hid (R = 1) := Lib.hid ((HV.out _).2 (by simp [hm]))
            have HS : Hid (stepsF l = 1) := Lib.hid ((HGO.out.2 (by rw [HR.out]; decide)).trans HR.out)
            go_wp2
            go_ret
            exact ⟨ret_int HS.out.symm, HB1.out⟩
          · go_wp2_with fail
            refine (HKB.out _).mono ?_
            rintro e w2 ⟨rfl, hb2⟩
            cases hkb : keyB bs
            · have HR : Hid (R = 5) := Lib.hid ((HV.out _).2 (by simp [hm, hkb]))
              have HS : Hid (stepsF l = 5) := Lib.hid ((HGO.out.2 (by rw [HR.out]; decide)).trans HR.out)
              go_wp2
              go_ret
              exact ⟨ret_int HS.out.symm, Bl.trans HB1.out hb2⟩
            · obtain ⟨z0, z1, z2, z3⟩ := HXC.out w2 hb2
              go_wp2_with fail
              refine (HKI.out _).mono ?_
              rintro e w' ⟨rfl, rfl⟩
              cases hki : inB 1 2 6
              · have HR : Hid (R = 4) := Lib.hid ((HV.out _).2 (by simp [hm, hkb, hki]))
                have HS : Hid (stepsF l = 4) := Lib.hid ((HGO.out.2 (by rw [HR.out]; decide)).trans HR.out)
                go_wp2
                go_ret
                exact ⟨ret_int HS.out.symm, Bl.trans HB1.out hb2⟩
              · go_wp2_with fail
                refine (HKC.out _).mono ?_
                rintro e w3 ⟨rfl, hb3⟩
                have hb3' := Bl.trans hb2 hb3
                cases hkc : keyB cs
                · have HR : Hid (R = 5) := Lib.hid ((HV.out _).2 (by simp [hm, hkb, hki, hkc]))
                  have HS : Hid (stepsF l = 5) := Lib.hid ((HGO.out.2 (by rw [HR.out]; decide)).trans HR.out)
                  go_wp2
                  go_ret
                  exact ⟨ret_int HS.out.symm, Bl.trans HB1.out hb3'⟩
                · by_cases hk0 : k = 0
                  · have h0 : ¬ (0 : Int) < (k : Int) := by omega
                    have h0' : decide ((0 : Int) < (k : Int)) = false := decide_eq_false h0
                    have h0n : decide (0 < k) = false := decide_eq_false (by omega)
                    have HR : Hid (R = 0) := Lib.hid ((HV.out _).2 (by simp [hm, hkb, hki, hkc, prevA, hk0]))
                    clear hk0
                    go_wp2
                    go_quiet (fail)
                    have HS := Lib.hid (HGO.out.1 HR.out)
                    go_wp2
                    go_roundw
                    case rel => exact ⟨k + 1, by omega, by go_num, HS, Bl.drewN (Bl.trans HB1.out hb3') _⟩
                    case measure => simp [intOf]; omega
                  · have h0 : (0 : Int) < (k : Int) := by omega
                    have h0' : decide ((0 : Int) < (k : Int)) = true := decide_eq_true h0
                    have h0n : decide (0 < k) = true := decide_eq_true (by omega)
                    obtain ⟨q, hq⟩ : ∃ q, l[k - 1]? = some q := ⟨_, List.getElem?_eq_getElem (by omega)⟩
                    obtain ⟨b9, o9, hae, _, hb9, hc9⟩ := (HRL.out.below (Bl.trans HA1.out hb3')).at TSt.ok.len hq TSt.ok.pos
                    injection hae with hae
                    injection hae with hae1 hae2 _
                    subst hae1 hae2
                    have y9 : World.cell? _ ⟨b1, o1 + (k - 1) * 4, none⟩ = some (.int .i64 q.1) := hc9 0 _ rfl
                    have HP : Hid (prevA l k = some q.1) := Lib.hid (by unfold prevA; rw [if_neg hk0, hq]; rfl)
                    obtain ⟨z0, z1, z2, z3⟩ := HXC.out _ (hb3')
                    have hwk : IntKind.i64.wrap ((k : Int) - 1) = ((k - 1 : Nat) : Int) := by rw [IntWalk.i64_in _ (by omega)]; omega
                    have hk1 : k - 1 < l.length := by omega
                    obtain ⟨qa, hqa⟩ : ∃ x, x = q.1 := ⟨_, rfl⟩
                    rw [← hqa] at y9 HP
                    clear hc9 hq hqa
                    by_cases hlt2 : at' < qa
                    · have hlt' : decide (at' < qa) = true := decide_eq_true hlt2
                      have HR : Hid (R = 7) := Lib.hid ((HV.out _).2 (by simp [hm, hkb, hki, hkc, HP.out, hlt2]))
                      go_wp2
                      go_quiet (fail)
                      have HS : Hid (stepsF l = 7) := Lib.hid ((HGO.out.2 (by rw [HR.out]; decide)).trans HR.out)
                      go_wp2
                      go_ret
                      exact ⟨ret_int HS.out.symm, Bl.drewN (Bl.trans HB1.out hb3') _⟩
                    · have hlt' : decide (at' < qa) = false := decide_eq_false hlt2
                      have HR : Hid (R = 0) := Lib.hid ((HV.out _).2 (by simp [hm, hkb, hki, hkc, HP.out, hlt2]))
                      go_wp2
                      go_quiet (fail)
                      have HS := Lib.hid (HGO.out.1 HR.out)
                      go_wp2
                      go_roundw
                      case rel => exact ⟨k + 1, by omega, by go_num, HS, Bl.drewN (Bl.trans HB1.out hb3') _⟩
                      case measure => simp [intOf]; omega
        · have d2 : ((4 : Int) == 2) = false := by decide
          go_wp2_with fail
          rw [← hw1]
          have hz1 : wr.heap.size < w1.heap.size := by rw [hw1]; simp
          clear hw1 c0 c1 c2 c3
          obtain ⟨x0, x1, x2, x3⟩ := HXC.out w1 (Below.refl _ _)
          refine (HM.out _).mono ?_
          rintro e w' ⟨rfl, rfl⟩
          cases hm : momB at'
          · have HR : Hid (R = 1) := Lib.hid ((HV.out _).2 (by simp [hm]))
            have HS : Hid (stepsF l = 1) := Lib.hid ((HGO.out.2 (by rw [HR.out]; decide)).trans HR.out)
            go_wp2
            go_ret
            exact ⟨ret_int HS.out.symm, HB1.out⟩
          · go_wp2_with fail
            refine (HKB.out _).mono ?_
            rintro e w2 ⟨rfl, hb2⟩
            cases hkb : keyB bs
            · have HR : Hid (R = 5) := Lib.hid ((HV.out _).2 (by simp [hm, hkb]))
              have HS : Hid (stepsF l = 5) := Lib.hid ((HGO.out.2 (by rw [HR.out]; decide)).trans HR.out)
              go_wp2
              go_ret
              exact ⟨ret_int HS.out.symm, Bl.trans HB1.out hb2⟩
            · obtain ⟨z0, z1, z2, z3⟩ := HXC.out w2 hb2
              go_wp2_with fail
              refine (HKI.out _).mono ?_
              rintro e w' ⟨rfl, rfl⟩
              cases hki : inB 1 4 6
              · have HR : Hid (R = 4) := Lib.hid ((HV.out _).2 (by simp [hm, hkb, hki]))
                have HS : Hid (stepsF l = 4) := Lib.hid ((HGO.out.2 (by rw [HR.out]; decide)).trans HR.out)
                go_wp2
                go_ret
                exact ⟨ret_int HS.out.symm, Bl.trans HB1.out hb2⟩
              · go_wp2_with fail
                refine (HKC.out _).mono ?_
                rintro e w3 ⟨rfl, hb3⟩
                have hb3' := Bl.trans hb2 hb3
                cases hkc : keyB cs
                · have HR : Hid (R = 5) := Lib.hid ((HV.out _).2 (by simp [hm, hkb, hki, hkc]))
                  have HS : Hid (stepsF l = 5) := Lib.hid ((HGO.out.2 (by rw [HR.out]; decide)).trans HR.out)
                  go_wp2
                  go_ret
                  exact ⟨ret_int HS.out.symm, Bl.trans HB1.out hb3'⟩
                · by_cases hk0 : k = 0
                  · have h0 : ¬ (0 : Int) < (k : Int) := by omega
                    have h0' : decide ((0 : Int) < (k : Int)) = false := decide_eq_false h0
                    have h0n : decide (0 < k) = false := decide_eq_false (by omega)
                    have HR : Hid (R = 0) := Lib.hid ((HV.out _).2 (by simp [hm, hkb, hki, hkc, prevA, hk0]))
                    clear hk0
                    go_wp2
                    go_quiet (fail)
                    have HS := Lib.hid (HGO.out.1 HR.out)
                    go_wp2
                    go_roundw
                    case rel => exact ⟨k + 1, by omega, by go_num, HS, Bl.drewN (Bl.trans HB1.out hb3') _⟩
                    case measure => simp [intOf]; omega
                  · have h0 : (0 : Int) < (k : Int) := by omega
                    have h0' : decide ((0 : Int) < (k : Int)) = true := decide_eq_true h0
                    have h0n : decide (0 < k) = true := decide_eq_true (by omega)
                    obtain ⟨q, hq⟩ : ∃ q, l[k - 1]? = some q := ⟨_, List.getElem?_eq_getElem (by omega)⟩
                    obtain ⟨b9, o9, hae, _, hb9, hc9⟩ := (HRL.out.below (Bl.trans HA1.out hb3')).at TSt.ok.len hq TSt.ok.pos
                    injection hae with hae
                    injection hae with hae1 hae2 _
                    subst hae1 hae2
                    have y9 : World.cell? _ ⟨b1, o1 + (k - 1) * 4, none⟩ = some (.int .i64 q.1) := hc9 0 _ rfl
                    have HP : Hid (prevA l k = some q.1) := Lib.hid (by unfold prevA; rw [if_neg hk0, hq]; rfl)
                    obtain ⟨z0, z1, z2, z3⟩ := HXC.out _ (hb3')
                    have hwk : IntKind.i64.wrap ((k : Int) - 1) = ((k - 1 : Nat) : Int) := by rw [IntWalk.i64_in _ (by omega)]; omega
                    have hk1 : k - 1 < l.length := by omega
                    obtain ⟨qa, hqa⟩ : ∃ x, x = q.1 := ⟨_, rfl⟩
                    rw [← hqa] at y9 HP
                    clear hc9 hq hqa
                    by_cases hlt2 : at' < qa
                    · have hlt' : decide (at' < qa) = true := decide_eq_true hlt2
                      have HR : Hid (R = 7) := Lib.hid ((HV.out _).2 (by simp [hm, hkb, hki, hkc, HP.out, hlt2]))
                      go_wp2
                      go_quiet (fail)
                      have HS : Hid (stepsF l = 7) := Lib.hid ((HGO.out.2 (by rw [HR.out]; decide)).trans HR.out)
                      go_wp2
                      go_ret
                      exact ⟨ret_int HS.out.symm, Bl.drewN (Bl.trans HB1.out hb3') _⟩
                    · have hlt' : decide (at' < qa) = false := decide_eq_false hlt2
                      have HR : Hid (R = 0) := Lib.hid ((HV.out _).2 (by simp [hm, hkb, hki, hkc, HP.out, hlt2]))
                      go_wp2
                      go_quiet (fail)
                      have HS := Lib.hid (HGO.out.1 HR.out)
                      go_wp2
                      go_roundw
                      case rel => exact ⟨k + 1, by omega, by go_num, HS, Bl.drewN (Bl.trans HB1.out hb3') _⟩
                      case measure => simp [intOf]; omega
        · have d2 : (kd == 2) = false := by simpa using hk2
          have d4 : (kd == 4) = false := by simpa using hk4
          go_wp2_with fail
          rw [← hw1]
          have hz1 : wr.heap.size < w1.heap.size := by rw [hw1]; simp
          clear hw1 c0 c1 c2 c3
          obtain ⟨x0, x1, x2, x3⟩ := HXC.out w1 (Below.refl _ _)
          refine (HM.out _).mono ?_
          rintro e w' ⟨rfl, rfl⟩
          cases hm : momB at'
          · have HR : Hid (R = 1) := Lib.hid ((HV.out _).2 (by simp [hm]))
            have HS : Hid (stepsF l = 1) := Lib.hid ((HGO.out.2 (by rw [HR.out]; decide)).trans HR.out)
            go_wp2
            go_ret
            exact ⟨ret_int HS.out.symm, HB1.out⟩
          · go_wp2_with fail
            refine (HKB.out _).mono ?_
            rintro e w2 ⟨rfl, hb2⟩
            cases hkb : keyB bs
            · have HR : Hid (R = 5) := Lib.hid ((HV.out _).2 (by simp [hm, hkb]))
              have HS : Hid (stepsF l = 5) := Lib.hid ((HGO.out.2 (by rw [HR.out]; decide)).trans HR.out)
              go_wp2
              go_ret
              exact ⟨ret_int HS.out.symm, Bl.trans HB1.out hb2⟩
            · obtain ⟨z0, z1, z2, z3⟩ := HXC.out w2 hb2
              go_wp2_with fail
              refine (HKI.out _).mono ?_
              rintro e w' ⟨rfl, rfl⟩
              cases hki : inB 1 kd 6
              · have HR : Hid (R = 4) := Lib.hid ((HV.out _).2 (by simp [hm, hkb, hki]))
                have HS : Hid (stepsF l = 4) := Lib.hid ((HGO.out.2 (by rw [HR.out]; decide)).trans HR.out)
                go_wp2
                go_ret
                exact ⟨ret_int HS.out.symm, Bl.trans HB1.out hb2⟩
              · by_cases hc0 : cs.size = 0
                · obtain rfl : cs = ⟨#[]⟩ := by
                    apply ByteArray.ext
                    exact Array.eq_empty_of_size_eq_zero hc0
                  by_cases hk0 : k = 0
                  · have h0 : ¬ (0 : Int) < (k : Int) := by omega
                    have h0' : decide ((0 : Int) < (k : Int)) = false := decide_eq_false h0
                    have h0n : decide (0 < k) = false := decide_eq_false (by omega)
                    have HR : Hid (R = 0) := Lib.hid ((HV.out _).2 (by simp [hm, hkb, hki, hc0, prevA, hk0]))
                    clear hk0
                    go_wp2
                    go_quiet (fail)
                    have HS := Lib.hid (HGO.out.1 HR.out)
                    go_wp2
                    go_roundw
                    case rel => exact ⟨k + 1, by omega, by go_num, HS, Bl.drewN (Bl.trans HB1.out hb2) _⟩
                    case measure => simp [intOf]; omega
                  · have h0 : (0 : Int) < (k : Int) := by omega
                    have h0' : decide ((0 : Int) < (k : Int)) = true := decide_eq_true h0
                    have h0n : decide (0 < k) = true := decide_eq_true (by omega)
                    obtain ⟨q, hq⟩ : ∃ q, l[k - 1]? = some q := ⟨_, List.getElem?_eq_getElem (by omega)⟩
                    obtain ⟨b9, o9, hae, _, hb9, hc9⟩ := (HRL.out.below (Bl.trans HA1.out hb2)).at TSt.ok.len hq TSt.ok.pos
                    injection hae with hae
                    injection hae with hae1 hae2 _
                    subst hae1 hae2
                    have y9 : World.cell? _ ⟨b1, o1 + (k - 1) * 4, none⟩ = some (.int .i64 q.1) := hc9 0 _ rfl
                    have HP : Hid (prevA l k = some q.1) := Lib.hid (by unfold prevA; rw [if_neg hk0, hq]; rfl)
                    obtain ⟨z0, z1, z2, z3⟩ := HXC.out _ (hb2)
                    have hwk : IntKind.i64.wrap ((k : Int) - 1) = ((k - 1 : Nat) : Int) := by rw [IntWalk.i64_in _ (by omega)]; omega
                    have hk1 : k - 1 < l.length := by omega
                    obtain ⟨qa, hqa⟩ : ∃ x, x = q.1 := ⟨_, rfl⟩
                    rw [← hqa] at y9 HP
                    clear hc9 hq hqa
                    by_cases hlt2 : at' < qa
                    · have hlt' : decide (at' < qa) = true := decide_eq_true hlt2
                      have HR : Hid (R = 7) := Lib.hid ((HV.out _).2 (by simp [hm, hkb, hki, hc0, HP.out, hlt2]))
                      go_wp2
                      go_quiet (fail)
                      have HS : Hid (stepsF l = 7) := Lib.hid ((HGO.out.2 (by rw [HR.out]; decide)).trans HR.out)
                      go_wp2
                      go_ret
                      exact ⟨ret_int HS.out.symm, Bl.drewN (Bl.trans HB1.out hb2) _⟩
                    · have hlt' : decide (at' < qa) = false := decide_eq_false hlt2
                      have HR : Hid (R = 0) := Lib.hid ((HV.out _).2 (by simp [hm, hkb, hki, hc0, HP.out, hlt2]))
                      go_wp2
                      go_quiet (fail)
                      have HS := Lib.hid (HGO.out.1 HR.out)
                      go_wp2
                      go_roundw
                      case rel => exact ⟨k + 1, by omega, by go_num, HS, Bl.drewN (Bl.trans HB1.out hb2) _⟩
                      case measure => simp [intOf]; omega
                · have e1 : cs.toList.isEmpty = false := by
                    rw [ByteArray.toList_eq]
                    cases h : cs.data.toList with
                    | nil =>
                      have : cs.data.toList.length = cs.size := Array.length_toList
                      rw [h] at this; simp at this; omega
                    | cons => rfl
                  have e2 : ¬ cs.toList = [] := by intro h; rw [h] at e1; cases e1
                  have HR : Hid (R = 3) := Lib.hid ((HV.out _).2 (by simp [hm, hkb, hki, hc0]))
                  have HS : Hid (stepsF l = 3) := Lib.hid ((HGO.out.2 (by rw [HR.out]; decide)).trans HR.out)
                  go_wp2
                  go_ret
                  exact ⟨ret_int HS.out.symm, Bl.trans HB1.out hb2⟩
      · obtain rfl : k = l.length := by omega
        have HG : Hid (stepsF l = 0) := Lib.hid (by rw [hP.out, List.drop_length]; rfl)
        go_wp2
        go_ret
        exact ⟨ret_int HG.out.symm, hB⟩
end Go.Proofs.YtbkglhakhahfpaaGreatDoor
