/- Texts of the proof of a law, put together, part 12 of 46. Conditions: none beyond those that each theorem names. -/
import Derived.Test.YtilhonppgedoiaaGreatDoorFz10
import Derived.Test.YtilhonppgedoiaaGreatDoorFz11
import Derived.BigQuiet
import Derived.Deep.Cut
namespace Go.Proofs.YtilhonppgedoiaaGreatDoor
open Go.RowKit Go.Sort
theorem uses_out (k : Int) (w : World) (h : ¬ (1 ≤ k ∧ k ≤ 5)) :
    Calls Tryz.prog 46 #[.int .i64 k] w fun e w' => e = .returned (.tuple #[.bool true, .bool false, .bool false, .bool false]) ∧ w = w' := by
  have h1 : ¬ k = 1 := by omega
  have h2 : ¬ k = 2 := by omega
  have h4 : ¬ k = 4 := by omega
  have h5 : ¬ k = 5 := by omega
  have e5 : decide (¬ k = 5) = true := decide_eq_true h5
  clear h
  go_enter Tryz.func46, Tryz.ntmps46
  go_wp2
  refine bodyPost_ret (v := .tuple #[.bool true, .bool false, .bool false, .bool false]) (by simp [results, Tryz.results46, go_sem, h1, h2, h4, h5]) rfl ?_
  exact ⟨rfl, rfl⟩
theorem IsKindR_any (k : Int) (w : World) : Calls Tryz.prog 96 #[.int .i64 k] w fun e w' => e = .returned (.bool (inB 1 k 5)) ∧ w = w' := by
  have HO := Lib.hid (Outside_any k 1 5 w)
  cases hin : inB 1 k 5
  all_goals (
    rw [hin] at HO
    clear hin
    go_enter Tryz.func96, Tryz.ntmps96
    go_wp2_with fail
    refine HO.out.mono ?_
    rintro e w' ⟨rfl, rfl⟩
    go_wp2
    go_ret
    exact ⟨rfl, rfl⟩)
/-- how few an event may take. -/
def lowM (k : Int) : Int := if k = 4 then 1 else 0
def manyP (k mn : Int) : Int := if (uM k && !inB (lowM k) mn 100000) = true then 1 else 0
set_option maxHeartbeats 8000000 in
set_option maxRecDepth 100000 in
theorem ManyFault_any (at' k : Int) (fd rl : ByteArray) (mn : Int) (bd : ByteArray) (w : World) (h1 : 1 ≤ k) (h5 : k ≤ 5) :
    Calls Tryz.prog 99 #[.agg #[.int .i64 at', .int .i64 k, .string fd, .string rl, .int .i64 mn, .string bd]] w fun e w' => e = .returned (.int .i64 (manyP k mn)) ∧ Below w.heap.size w w' := by
  have hX := blk_new w (.cells #[.int .i64 at', .int .i64 k, .string fd, .string rl, .int .i64 mn, .string bd] 37)
  have hb0 := Bl.alloc (Below.refl w.heap.size w) (.cells #[.int .i64 at', .int .i64 k, .string fd, .string rl, .int .i64 mn, .string bd] 37)
  have hk : k = 1 ∨ k = 2 ∨ k = 3 ∨ k = 4 ∨ k = 5 := by omega
  obtain ⟨w1, hw1⟩ : ∃ w1, w1 = w.alloc (.cells #[.int .i64 at', .int .i64 k, .string fd, .string rl, .int .i64 mn, .string bd] 37) := ⟨_, rfl⟩
  rw [← hw1] at hX hb0
  have HXC := Lib.hid (show ∀ W, Below w1.heap.size w1 W → W.cell? ⟨w.heap.size, 1, none⟩ = some (.int .i64 k) ∧ W.cell? ⟨w.heap.size, 4, none⟩ = some (.int .i64 mn) from fun W hW => by
    have h := blk_below hX hW
    exact ⟨blk_cell h 1, blk_cell h 4⟩)
  have HB0 := Lib.hid hb0
  have HW := Lib.hid hw1
  obtain ⟨R, hF⟩ : ∃ R : Int, R = manyP k mn := ⟨_, rfl⟩
  rw [← hF]
  have HF := Lib.hid hF
  clear hX hb0 hF h1 h5 hw1
  have hfi : ∀ (a b c d : Bool) (W : World), (Instr.field 123 (.agg #[.bool a, .bool b, .bool c, .bool d]) 2).run Tryz.prog W = .ok (.bool c) W := fun _ _ _ _ _ => rfl
  rcases hk with rfl | rfl | rfl | rfl | rfl
  · have HFF : Hid (R = 0) := Lib.hid (by rw [HF.out]; rfl)
    have HU := Lib.hid (usesOf_at (k := 1) (a := true) (b := true) (c := false) (d := false) (by omega) (by omega) rfl rfl rfl rfl)
    obtain ⟨x1, x4⟩ := HXC.out w1 (Below.refl _ _)
    go_enter Tryz.func99, Tryz.ntmps99
    go_wp2_with fail
    rw [← HW.out]
    refine (HU.out w1).mono ?_
    rintro e w2 ⟨rfl, hb2⟩
    have HB3 := Lib.hid (Bl.trans HB0.out hb2)
    clear hb2
    go_wp2
    go_ret
    exact ⟨ret_int HFF.out.symm, HB3.out⟩
  · have HFF : Hid (R = 0) := Lib.hid (by rw [HF.out]; rfl)
    have HU := Lib.hid (usesOf_at (k := 2) (a := true) (b := true) (c := false) (d := false) (by omega) (by omega) rfl rfl rfl rfl)
    obtain ⟨x1, x4⟩ := HXC.out w1 (Below.refl _ _)
    go_enter Tryz.func99, Tryz.ntmps99
    go_wp2_with fail
    rw [← HW.out]
    refine (HU.out w1).mono ?_
    rintro e w2 ⟨rfl, hb2⟩
    have HB3 := Lib.hid (Bl.trans HB0.out hb2)
    clear hb2
    go_wp2
    go_ret
    exact ⟨ret_int HFF.out.symm, HB3.out⟩
  · have HFF : Hid (R = 0) := Lib.hid (by rw [HF.out]; rfl)
    have HU := Lib.hid (usesOf_at (k := 3) (a := true) (b := false) (c := false) (d := false) (by omega) (by omega) rfl rfl rfl rfl)
    obtain ⟨x1, x4⟩ := HXC.out w1 (Below.refl _ _)
    go_enter Tryz.func99, Tryz.ntmps99
    go_wp2_with fail
    rw [← HW.out]
    refine (HU.out w1).mono ?_
    rintro e w2 ⟨rfl, hb2⟩
    have HB3 := Lib.hid (Bl.trans HB0.out hb2)
    clear hb2
    go_wp2
    go_ret
    exact ⟨ret_int HFF.out.symm, HB3.out⟩
  · obtain ⟨q, hq⟩ : ∃ q, q = inB 1 mn 100000 := ⟨_, rfl⟩
    have HFF : Hid (R = if q = true then 0 else 1) := Lib.hid (by rw [HF.out, hq]; unfold manyP; rw [show uM 4 = true from rfl, show lowM 4 = 1 from rfl, Bool.true_and]; cases inB 1 mn 100000 <;> rfl)
    have HO := Lib.hid (fun W => Outside_any mn 1 100000 W)
    rw [← hq] at HO
    clear hq
    have HU := Lib.hid (usesOf_at (k := 4) (a := true) (b := false) (c := true) (d := true) (by omega) (by omega) rfl rfl rfl rfl)
    cases q
    all_goals (
      obtain ⟨x1, x4⟩ := HXC.out w1 (Below.refl _ _)
      go_enter Tryz.func99, Tryz.ntmps99
      go_wp2_with fail
      rw [← HW.out]
      refine (HU.out w1).mono ?_
      rintro e w2 ⟨rfl, hb2⟩
      obtain ⟨y1, y4⟩ := HXC.out w2 hb2
      have HB3 := Lib.hid (Bl.trans HB0.out hb2)
      clear hb2
      go_wp2_with fail
      refine (HO.out w2).mono ?_
      rintro e w' ⟨rfl, rfl⟩
      go_wp2
      go_ret
      exact ⟨ret_int HFF.out.symm, HB3.out⟩)
  · obtain ⟨q, hq⟩ : ∃ q, q = inB 0 mn 100000 := ⟨_, rfl⟩
    have HFF : Hid (R = if q = true then 0 else 1) := Lib.hid (by rw [HF.out, hq]; unfold manyP; rw [show uM 5 = true from rfl, show lowM 5 = 0 from rfl, Bool.true_and]; cases inB 0 mn 100000 <;> rfl)
    have HO := Lib.hid (fun W => Outside_any mn 0 100000 W)
    rw [← hq] at HO
    clear hq
    have HU := Lib.hid (usesOf_at (k := 5) (a := false) (b := true) (c := true) (d := false) (by omega) (by omega) rfl rfl rfl rfl)
    cases q
    all_goals (
      obtain ⟨x1, x4⟩ := HXC.out w1 (Below.refl _ _)
      go_enter Tryz.func99, Tryz.ntmps99
      go_wp2_with fail
      rw [← HW.out]
      refine (HU.out w1).mono ?_
      rintro e w2 ⟨rfl, hb2⟩
      obtain ⟨y1, y4⟩ := HXC.out w2 hb2
      have HB3 := Lib.hid (Bl.trans HB0.out hb2)
      clear hb2
      go_wp2_with fail
      refine (HO.out w2).mono ?_
      rintro e w' ⟨rfl, rfl⟩
      go_wp2
      go_ret
      exact ⟨ret_int HFF.out.symm, HB3.out⟩)
theorem truthR_t (w : World) : Calls Tryz.prog 93 #[.bool true] w fun e w' => e = .returned (.int .i64 1) ∧ w = w' := by
  go_enter Tryz.func93, Tryz.ntmps93
  go_wp2
  go_ret
  exact ⟨rfl, rfl⟩
theorem truthR_f (w : World) : Calls Tryz.prog 93 #[.bool false] w fun e w' => e = .returned (.int .i64 0) ∧ w = w' := by
  go_enter Tryz.func93, Tryz.ntmps93
  go_wp2
  go_ret
  exact ⟨rfl, rfl⟩
set_option maxHeartbeats 8000000 in
set_option maxRecDepth 100000 in
theorem rmany_any (at' k : Int) (fd rl : ByteArray) (mn : Int) (bd : ByteArray) (w : World) :
    Calls Tryz.prog 52 #[.agg #[.int .i64 at', .int .i64 k, .string fd, .string rl, .int .i64 mn, .string bd]] w fun e w' => e = .returned (.int .i64 (if inB (lowM k) mn 100000 = true then 0 else 1)) ∧ Below w.heap.size w w' := by
  have hX := blk_new w (.cells #[.int .i64 at', .int .i64 k, .string fd, .string rl, .int .i64 mn, .string bd] 37)
  have hb0 := Bl.alloc (Below.refl w.heap.size w) (.cells #[.int .i64 at', .int .i64 k, .string fd, .string rl, .int .i64 mn, .string bd] 37)
  obtain ⟨w1, hw1⟩ : ∃ w1, w1 = w.alloc (.cells #[.int .i64 at', .int .i64 k, .string fd, .string rl, .int .i64 mn, .string bd] 37) := ⟨_, rfl⟩
  rw [← hw1] at hX hb0
  have x1 : w1.cell? ⟨w.heap.size, 1, none⟩ = some (.int .i64 k) := blk_cell hX 1
  have x4 : w1.cell? ⟨w.heap.size, 4, none⟩ = some (.int .i64 mn) := blk_cell hX 4
  have HB0 := Lib.hid hb0
  have HW := Lib.hid hw1
  have HS : Hid (spanF mn (lowM k) 100000 = if inB (lowM k) mn 100000 = true then 0 else 1) := Lib.hid (by unfold spanF inB; by_cases h1 : lowM k ≤ mn <;> by_cases h2 : mn ≤ 100000 <;> simp [h1, h2])
  rw [← HS.out]
  obtain ⟨R, hF⟩ : ∃ R : Int, R = spanF mn (lowM k) 100000 := ⟨_, rfl⟩
  rw [← hF]
  have HF := Lib.hid hF
  clear hX hb0 hw1 hF HS
  by_cases h4 : k = 4
  · have HP := Lib.hid (SpanFault_any mn 1 100000)
    rw [show spanF mn 1 100000 = R by rw [HF.out, h4]; rfl] at HP
    subst h4
    go_enter Tryz.func52, Tryz.ntmps52
    go_wp2_with fail
    rw [← HW.out]
    go_quiet (first | (go_at_call 93; exact Calls.quiet_of_same ((truthR_t _).mono fun _ _ h => ⟨h.1, h.2.symm⟩)) | (go_at_call 92; exact Calls.quiet_of_same ((HP.out _).mono fun _ _ h => ⟨h.1, h.2.symm⟩)))
    go_wp2
    go_ret
    exact ⟨rfl, Bl.drewN HB0.out _⟩
  · have HP := Lib.hid (SpanFault_any mn 0 100000)
    rw [show spanF mn 0 100000 = R by rw [HF.out]; unfold lowM; rw [if_neg h4]] at HP
    have e4 : decide (k = 4) = false := decide_eq_false h4
    have e5 : (k == 4) = false := by simpa using h4
    clear h4
    go_enter Tryz.func52, Tryz.ntmps52
    go_wp2_with fail
    rw [← HW.out]
    go_quiet (first | (go_at_call 93; exact Calls.quiet_of_same ((truthR_f _).mono fun _ _ h => ⟨h.1, h.2.symm⟩)) | (go_at_call 92; exact Calls.quiet_of_same ((HP.out _).mono fun _ _ h => ⟨h.1, h.2.symm⟩)))
    go_wp2
    go_ret
    exact ⟨rfl, Bl.drewN HB0.out _⟩
end Go.Proofs.YtilhonppgedoiaaGreatDoor
namespace Go.Proofs.YtilhonppgedoiaaGreatDoor
open Go.RowKit Go.Sort
/-- whether an event lacks a key that it uses. -/
def kbB (x : Fed) : Bool := (uF x.2.1 && !keyB x.2.2.1) || (uB x.2.1 && !keyB x.2.2.2.2.2)
def ordT (prev : Option Int) (t : Int) : Int := match prev with
  | none => 0
  | some p => if t < p then 7 else 0
def feedF (rs : List Rel) (prev : Option Int) (x : Fed) : Int :=
  if inB 0 x.1 345686399999 = false then 1 else if inB 1 x.2.1 5 = false then 4 else if formB x = false then 3 else if kbB x = true then 5 else if (uR x.2.1 && !hasB rs x.2.2.2.1) = true then 8 else if manyP x.2.1 x.2.2.2.2.1 = 1 then 1 else ordT prev x.1
def prevT (l : List Fed) : Nat → Option Int
  | 0 => none
  | k + 1 => (l[k]?).map (·.1)
def FedZ (l : List Fed) : Prop := ∀ x ∈ l, x.2.2.1.size ≤ 140737488355328 ∧ x.2.2.2.1.size ≤ 140737488355328 ∧ x.2.2.2.2.2.size ≤ 140737488355328
theorem manyP_cases (k mn : Int) : manyP k mn = 0 ∨ manyP k mn = 1 := by unfold manyP; split <;> simp
set_option maxHeartbeats 16000000 in
set_option maxRecDepth 100000 in
theorem feedFault_any (rs : List Rel) (l : List Fed) (k : Nat) (vr vl : Value) (w : World) (hlr : rs.length ≤ 1000000) (hs : SortR rs) (hl : l.length ≤ 1000000) (hk : k < l.length) (rr : RecR TRe w 0 vr rs) (rl : RecR TFe w 0 vl l) (hz : FedZ l) (x : Fed) (hx : l[k]? = some x) :
    Calls Tryz.prog 55 #[vr, vl, .int .i64 k] w fun e w' => e = .returned (.int .i64 (feedF rs (prevT l k) x)) ∧ Below w.heap.size w w' := by
  obtain ⟨ra, rcap, rfl, _, _⟩ := rr.form
  obtain ⟨fa, fcap, rfl, _, _⟩ := rl.form
  obtain ⟨z1, z2, z3⟩ := hz x (List.mem_of_getElem? hx)
  have RR := Lib.hid rr
  have RL := Lib.hid rl
  clear rr hz
  obtain ⟨b1, o1, rfl, _, hb1, hc1⟩ := rl.at TFe.ok.len hx TFe.ok.pos
  have HP : Hid (k = 0 ∧ prevT l k = none ∨ ∃ k' p, k = k' + 1 ∧ prevT l k = some p ∧ ∀ W, Below w.heap.size w W → W.cell? ⟨b1, o1 + k' * 6, none⟩ = some (.int .i64 p)) := Lib.hid (by
    match k with
    | 0 => exact .inl ⟨rfl, rfl⟩
    | k' + 1 =>
      obtain ⟨p, hp⟩ : ∃ x, l[k']? = some x := ⟨_, List.getElem?_eq_getElem (by omega)⟩
      refine .inr ⟨k', p.1, rfl, by show (l[k']?).map (·.1) = _; rw [hp]; rfl, fun W hW => ?_⟩
      obtain ⟨b4, o4, hae, _, hb4, hc4⟩ := rl.at TFe.ok.len hp TFe.ok.pos
      injection hae with hae
      injection hae with e1 e2 _
      subst e1 e2
      exact ((bcell hW).1 _ _ hb4).trans (hc4 0 _ rfl))
  clear rl
  obtain ⟨F, hF⟩ : ∃ F, F = feedF rs (prevT l k) x := ⟨_, rfl⟩
  rw [← hF]
  obtain ⟨at', kd, fd, rk, mn, bd⟩ := x
  have c0 : w.cell? ⟨b1, o1 + k * 6, none⟩ = some (.int .i64 at') := hc1 0 _ rfl
  have c1 : w.cell? ⟨b1, o1 + k * 6 + 1, none⟩ = some (.int .i64 kd) := hc1 1 _ rfl
  have c2 : w.cell? ⟨b1, o1 + k * 6 + 2, none⟩ = some (.string fd) := hc1 2 _ rfl
  have c3 : w.cell? ⟨b1, o1 + k * 6 + 3, none⟩ = some (.string rk) := hc1 3 _ rfl
  have c4 : w.cell? ⟨b1, o1 + k * 6 + 4, none⟩ = some (.int .i64 mn) := hc1 4 _ rfl
  have c5 : w.cell? ⟨b1, o1 + k * 6 + 5, none⟩ = some (.string bd) := hc1 5 _ rfl
  clear hc1
  obtain ⟨w1, hw1⟩ : ∃ w1, w1 = w.alloc (.cells #[.int .i64 at', .int .i64 kd, .string fd, .string rk, .int .i64 mn, .string bd] 37) := ⟨_, rfl⟩
  have HA1 : Hid (Below w.heap.size w w1) := Lib.hid (by rw [hw1]; exact Bl.alloc (Below.refl _ _) _)
  have HXC := Lib.hid (show ∀ W, Below w1.heap.size w1 W → W.cell? ⟨w.heap.size, 0, none⟩ = some (.int .i64 at') ∧ W.cell? ⟨w.heap.size, 1, none⟩ = some (.int .i64 kd) ∧ W.cell? ⟨w.heap.size, 2, none⟩ = some (.string fd) ∧ W.cell? ⟨w.heap.size, 3, none⟩ = some (.string rk) ∧ W.cell? ⟨w.heap.size, 4, none⟩ = some (.int .i64 mn) ∧ W.cell? ⟨w.heap.size, 5, none⟩ = some (.string bd) from fun W hW => by
    have h : W.heap[w.heap.size]? = some (.cells #[.int .i64 at', .int .i64 kd, .string fd, .string rk, .int .i64 mn, .string bd] 37 (0, 0)) := blk_below (by rw [hw1]; exact blk_new w _) hW
    exact ⟨blk_cell h 0, blk_cell h 1, blk_cell h 2, blk_cell h 3, blk_cell h 4, blk_cell h 5⟩)
  obtain ⟨bm, hbm⟩ : ∃ q, q = inB 0 at' 345686399999 := ⟨_, rfl⟩
  obtain ⟨bk, hbk⟩ : ∃ q, q = inB 1 kd 5 := ⟨_, rfl⟩
  obtain ⟨bf, hbf⟩ : ∃ q, q = formB (at', kd, fd, rk, mn, bd) := ⟨_, rfl⟩
  obtain ⟨uf, huf⟩ : ∃ q, q = uF kd := ⟨_, rfl⟩
  obtain ⟨ur, hur⟩ : ∃ q, q = uR kd := ⟨_, rfl⟩
  obtain ⟨um, hum⟩ : ∃ q, q = uM kd := ⟨_, rfl⟩
  obtain ⟨ub, hub⟩ : ∃ q, q = uB kd := ⟨_, rfl⟩
  obtain ⟨kf, hkf⟩ : ∃ q, q = keyB fd := ⟨_, rfl⟩
  obtain ⟨kb, hkb⟩ : ∃ q, q = keyB bd := ⟨_, rfl⟩
  obtain ⟨hh, hhh⟩ : ∃ q, q = hasB rs rk := ⟨_, rfl⟩
  obtain ⟨M, hM⟩ : ∃ q, q = manyP kd mn := ⟨_, rfl⟩
  obtain ⟨O, hO⟩ : ∃ q, q = ordT (prevT l k) at' := ⟨_, rfl⟩
  have HV : Hid (F = if bm = false then 1 else if bk = false then 4 else if bf = false then 3 else if ((uf && !kf) || (ub && !kb)) = true then 5 else if (ur && !hh) = true then 8 else if M = 1 then 1 else O) := Lib.hid (by rw [hF, hbm, hbk, hbf, huf, hub, hkf, hkb, hur, hhh, hM, hO]; rfl)
  have HMO := Lib.hid (fun W => IsMoment_any at' W)
  have HKD := Lib.hid (fun W => IsKindR_any kd W)
  have HK : bk = true → 1 ≤ kd ∧ kd ≤ 5 := fun h => by rw [hbk] at h; unfold inB at h; simp at h; exact h
  have HFM : Hid (bk = true → ∀ W, Calls Tryz.prog 97 #[.agg #[.int .i64 at', .int .i64 kd, .string fd, .string rk, .int .i64 mn, .string bd]] W fun e w' => e = .returned (.int .i64 (if bf = true then 0 else 3)) ∧ Below W.heap.size W w') := Lib.hid (fun h W => by rw [hbf]; exact formFault_any at' kd fd rk mn bd W (HK h).1 (HK h).2)
  have HUS : Hid (bk = true → ∀ W, Calls Tryz.prog 73 #[.int .i64 kd] W fun e w' => e = .returned (.agg #[.bool uf, .bool ur, .bool um, .bool ub]) ∧ Below W.heap.size W w') := Lib.hid (fun h W => usesOf_at (HK h).1 (HK h).2 huf.symm hur.symm hum.symm hub.symm W)
  have HMN : Hid (bk = true → ∀ W, Calls Tryz.prog 99 #[.agg #[.int .i64 at', .int .i64 kd, .string fd, .string rk, .int .i64 mn, .string bd]] W fun e w' => e = .returned (.int .i64 M) ∧ Below W.heap.size W w') := Lib.hid (fun h W => by rw [hM]; exact ManyFault_any at' kd fd rk mn bd W (HK h).1 (HK h).2)
  have HKF : Hid (∀ W, Calls Tryz.prog 53 #[.string fd] W fun e w' => e = .returned (.bool kf) ∧ Below W.heap.size W w') := Lib.hid (fun W => by rw [hkf]; exact IsKey_any fd W z1)
  have HKB : Hid (∀ W, Calls Tryz.prog 53 #[.string bd] W fun e w' => e = .returned (.bool kb) ∧ Below W.heap.size W w') := Lib.hid (fun W => by rw [hkb]; exact IsKey_any bd W z3)
  have HRA : Hid (∀ W, Below w.heap.size w W → Calls Tryz.prog 98 #[.slice ra rs.length rcap, .string rk] W fun e w' => (∃ r : Int, e = .returned (.tuple #[.int .i64 r, .bool hh])) ∧ Below W.heap.size W w') := Lib.hid (fun W hW => by rw [hhh]; exact reelAt_any rs rk _ W hlr hs (RR.out.below hW))
  have HM2 : M = 0 ∨ M = 1 := by rw [hM]; exact manyP_cases _ _
  rw [← hbm] at HMO
  rw [← hbk] at HKD
  have HOO := Lib.hid hO
  have HW := Lib.hid hw1
  have j1 : (0 : Int) ≤ (k : Int) := by omega
  have j2 : (k : Int) < (l.length : Int) := by omega
  clear hF hbm hbk hbf huf hur hum hub hkf hkb hhh hM hO hw1 z1 z2 z3 hs hx HK
  cases bm
  · have HFF : Hid (F = 1) := Lib.hid HV.out
    obtain ⟨x0, x1, x2, x3, x4, x5⟩ := HXC.out w1 (Below.refl _ _)
    go_enter Tryz.func55, Tryz.ntmps55
    go_wp2_with fail
    rw [← HW.out]
    go_wp2_with fail
    refine (HMO.out w1).mono ?_
    rintro e w' ⟨rfl, rfl⟩
    go_wp2
    go_ret
    exact ⟨ret_int HFF.out.symm, HA1.out⟩
  cases bk
  · have HFF : Hid (F = 4) := Lib.hid HV.out
    obtain ⟨x0, x1, x2, x3, x4, x5⟩ := HXC.out w1 (Below.refl _ _)
    go_enter Tryz.func55, Tryz.ntmps55
    go_wp2_with fail
    rw [← HW.out]
    go_wp2_with fail
    refine (HMO.out w1).mono ?_
    rintro e w' ⟨rfl, rfl⟩
    go_wp2_with fail
    refine (HKD.out w1).mono ?_
    rintro e w' ⟨rfl, rfl⟩
    go_wp2
    go_ret
    exact ⟨ret_int HFF.out.symm, HA1.out⟩
  have HFM2 := Lib.hid (HFM.out rfl)
  have HUS2 := Lib.hid (HUS.out rfl)
  have HMN2 := Lib.hid (HMN.out rfl)
  clear HFM HUS HMN
  cases bf
  · have HFM : Hid (∀ W, Calls Tryz.prog 97 #[.agg #[.int .i64 at', .int .i64 kd, .string fd, .string rk, .int .i64 mn, .string bd]] W fun e w' => e = .returned (.int .i64 3) ∧ Below W.heap.size W w') := Lib.hid fun W => HFM2.out W
    clear HFM2
    have HFF : Hid (F = 3) := Lib.hid HV.out
    obtain ⟨x0, x1, x2, x3, x4, x5⟩ := HXC.out w1 (Below.refl _ _)
    go_enter Tryz.func55, Tryz.ntmps55
    go_wp2_with fail
    rw [← HW.out]
    go_wp2_with fail
    refine (HMO.out w1).mono ?_
    rintro e w' ⟨rfl, rfl⟩
    go_wp2_with fail
    refine (HKD.out w1).mono ?_
    rintro e w' ⟨rfl, rfl⟩
    go_wp2_with fail
    refine (HFM.out w1).mono ?_
    rintro e w2 ⟨rfl, hb2⟩
    have HB2 := Lib.hid (Bl.trans HA1.out hb2)
    clear hb2
    go_wp2
    go_ret
    exact ⟨ret_int HFF.out.symm, HB2.out⟩
  have HFM : Hid (∀ W, Calls Tryz.prog 97 #[.agg #[.int .i64 at', .int .i64 kd, .string fd, .string rk, .int .i64 mn, .string bd]] W fun e w' => e = .returned (.int .i64 0) ∧ Below W.heap.size W w') := Lib.hid fun W => HFM2.out W
  clear HFM2
  obtain ⟨x0, x1, x2, x3, x4, x5⟩ := HXC.out w1 (Below.refl _ _)
  go_enter Tryz.func55, Tryz.ntmps55
  go_wp2_with fail
  rw [← HW.out]
  go_wp2_with fail
  refine (HMO.out w1).mono ?_
  rintro e w' ⟨rfl, rfl⟩
  go_wp2_with fail
  refine (HKD.out w1).mono ?_
  rintro e w' ⟨rfl, rfl⟩
  go_wp2_with fail
  refine (HFM.out w1).mono ?_
  rintro e w2 ⟨rfl, hb2⟩
  obtain ⟨y0, y1, y2, y3, y4, y5⟩ := HXC.out w2 hb2
  have HB2 := Lib.hid hb2
  clear hb2 x0 x1 x2 x3 x4 x5
  go_wp2_with fail
  refine (HUS2.out w2).mono ?_
  rintro e w3 ⟨rfl, hb3⟩
  obtain ⟨w4, hw4⟩ : ∃ w4, w4 = w3.alloc (.cells #[.bool uf, .bool ur, .bool um, .bool ub] 123) := ⟨_, rfl⟩
  have HB4 : Hid (Below w1.heap.size w1 w4) := Lib.hid (Bl.trans HB2.out (by rw [hw4]; exact Bl.alloc hb3 _))
  have HUC := Lib.hid (show ∀ W, Below w4.heap.size w4 W → W.cell? ⟨w3.heap.size, 0, none⟩ = some (.bool uf) ∧ W.cell? ⟨w3.heap.size, 1, none⟩ = some (.bool ur) ∧ W.cell? ⟨w3.heap.size, 3, none⟩ = some (.bool ub) from fun W hW => by
    have h : W.heap[w3.heap.size]? = some (.cells #[.bool uf, .bool ur, .bool um, .bool ub] 123 (0, 0)) := blk_below (by rw [hw4]; exact blk_new w3 _) hW
    exact ⟨blk_cell h 0, blk_cell h 1, blk_cell h 3⟩)
  have HW4 := Lib.hid hw4
  clear hb3 y0 y1 y2 y3 y4 y5 hw4
  go_upto_region 10 with fail
  rw [← HW4.out]
  go_cut [50] from 33 to 50 (fun v50 wx => v50 = .bool ((uf && !kf) || (ub && !kb)) ∧ Hid (Below w4.heap.size w4 wx))
  case first =>
    obtain ⟨u0, u1, u3⟩ := HUC.out w4 (Below.refl _ _)
    obtain ⟨y0, y1, y2, y3, y4, y5⟩ := HXC.out w4 HB4.out
    cases uf
    · cases ub
      · go_wp2_with fail
        go_meet
        case rel => exact ⟨rfl, Lib.hid (Below.refl _ _)⟩
      · go_wp2_with fail
        refine (HKB.out w4).mono ?_
        rintro e w5 ⟨rfl, hb5⟩
        have HB5 := Lib.hid hb5
        clear hb5
        cases kb
        all_goals (
          go_wp2_with fail
          go_meet
          case rel => exact ⟨rfl, HB5⟩)
    · go_wp2_with fail
      refine (HKF.out w4).mono ?_
      rintro e w5 ⟨rfl, hb5⟩
      obtain ⟨v0, v1, v3⟩ := HUC.out w5 hb5
      obtain ⟨z0, z1, z2, z3, z4, z5⟩ := HXC.out w5 (Bl.trans HB4.out hb5)
      have HB5 := Lib.hid hb5
      clear hb5
      cases kf
      · go_wp2_with fail
        go_meet
        case rel => exact ⟨rfl, HB5⟩
      · cases ub
        · go_wp2_with fail
          go_meet
          case rel => exact ⟨rfl, HB5⟩
        · go_wp2_with fail
          refine (HKB.out w5).mono ?_
          rintro e w6 ⟨rfl, hb6⟩
          have HB6 := Lib.hid (Bl.trans HB5.out hb6)
          clear hb6
          cases kb
          all_goals (
            go_wp2_with fail
            go_meet
            case rel => exact ⟨rfl, HB6⟩)
  case rest =>
    obtain ⟨rfl, HBC⟩ := hcut
    have HBW := Lib.hid (Bl.trans HA1.out (Bl.trans HB4.out HBC.out))
    obtain ⟨q, hq⟩ : ∃ q, q = ((uf && !kf) || (ub && !kb)) := ⟨_, rfl⟩
    rw [← hq] at HV ⊢
    clear hq HKF HKB HFM HUS2 HKD HMO c0 c1 c2 c3 c4 c5
    cases q
    case true =>
      have HFF : Hid (F = 5) := Lib.hid HV.out
      go_wp2
      go_ret
      exact ⟨ret_int HFF.out.symm, HBW.out⟩
    obtain ⟨y0, y1, y2, y3, y4, y5⟩ := HXC.out wc (Bl.trans HB4.out HBC.out)
    go_wp2_with fail
    refine (HRA.out wc HBW.out).mono ?_
    rintro e w5 ⟨⟨r, rfl⟩, hb5⟩
    have HB5 := Lib.hid (Bl.trans HBC.out hb5)
    have HW5 := Lib.hid (Bl.trans HBW.out hb5)
    clear hb5 y0 y1 y2 y3 y4 y5
    obtain ⟨v0, v1, v3⟩ := HUC.out w5 HB5.out
    go_upto_region 13 with fail
    go_cut [63] from 58 to 63 (fun v63 wx => v63 = .bool (ur && !hh) ∧ wx = w5)
    case first =>
      cases ur <;> cases hh
      all_goals (
        go_wp2_with fail
        go_meet
        case rel => exact ⟨rfl, rfl⟩)
    case rest =>
      obtain ⟨rfl, rfl⟩ := hcut
      obtain ⟨q, hq⟩ : ∃ q, q = (ur && !hh) := ⟨_, rfl⟩
      rw [← hq] at HV ⊢
      clear hq HRA
      cases q
      case true =>
        have HFF : Hid (F = 8) := Lib.hid HV.out
        go_wp2
        go_ret
        exact ⟨ret_int HFF.out.symm, HW5.out⟩
      obtain ⟨y0, y1, y2, y3, y4, y5⟩ := HXC.out wc (Bl.trans HB4.out HB5.out)
      go_wp2_with fail
      refine (HMN2.out wc).mono ?_
      rintro e w6 ⟨rfl, hb6⟩
      have HW6 := Lib.hid (Bl.trans HW5.out hb6)
      obtain ⟨z0, z1, z2, z3, z4, z5⟩ := HXC.out w6 (Bl.trans HB4.out (Bl.trans HB5.out hb6))
      clear hb6 y0 y1 y2 y3 y4 y5 v0 v1 v3
      rcases HM2 with rfl | rfl
      case inr =>
        have HFF : Hid (F = 1) := Lib.hid HV.out
        go_wp2
        go_ret
        exact ⟨ret_int HFF.out.symm, HW6.out⟩
      have HFO : Hid (F = O) := Lib.hid HV.out
      clear HV
      rcases HP.out with ⟨h0, hn⟩ | ⟨k', p, hkk, hp, hcell⟩
      · have HFF : Hid (F = 0) := Lib.hid (by rw [HFO.out, HOO.out, hn]; rfl)
        have e1 : ¬ 0 < k := by omega
        have e2 : ¬ (0 : Int) < (k : Int) := by omega
        clear h0 hn
        go_wp2_with fail
        go_quiet (fail)
        have HB9 := Lib.hid (fun n => Bl.drewN HW6.out n)
        go_wp2
        go_ret
        exact ⟨ret_int HFF.out.symm, HB9.out _⟩
      · have hm1 : IntKind.i64.wrap ((k : Int) - 1) = (k' : Int) := by rw [IntWalk.i64_in _ (by omega)]; omega
        have e1 : 0 < k := by omega
        have e2 : (0 : Int) < (k : Int) := by omega
        have d0 := hcell w6 HW6.out
        have i1 : (0 : Int) ≤ (k' : Int) := by omega
        have i2 : (k' : Int) < (l.length : Int) := by omega
        have HFO2 : Hid (F = if at' < p then 7 else 0) := Lib.hid (by rw [HFO.out, HOO.out, hp]; rfl)
        clear hcell hkk hp
        by_cases hlt : at' < p
        · have HFF : Hid (F = 7) := Lib.hid (by rw [HFO2.out, if_pos hlt])
          go_wp2_with fail
          go_quiet (fail)
          have HB9 := Lib.hid (fun n => Bl.drewN HW6.out n)
          clear hm1 e1 e2
          go_wp2
          go_ret
          exact ⟨ret_int HFF.out.symm, HB9.out _⟩
        · have HFF : Hid (F = 0) := Lib.hid (by rw [HFO2.out, if_neg hlt])
          go_wp2_with fail
          go_quiet (fail)
          have HB9 := Lib.hid (fun n => Bl.drewN HW6.out n)
          clear hm1 e1 e2
          go_wp2
          go_ret
          exact ⟨ret_int HFF.out.symm, HB9.out _⟩
end Go.Proofs.YtilhonppgedoiaaGreatDoor
