/- Texts of the proof of a law, put together, part 40 of 46. Conditions: none beyond those that each theorem names. -/
import Derived.Test.YtilhonppgedoiaaGreatDoorFz20
import Derived.Test.YtilhonppgedoiaaGreatDoorFz26
import Derived.Test.YtilhonppgedoiaaGreatDoorFz39
namespace Go.Proofs.YtilhonppgedoiaaGreatDoor
open Go.RowKit Go.Sort Go.Maps
def manyK (x : Bs) : Int := if x = kwFof 5 then 3 else if x = kwFof 4 then 4 else if x = kwFof 3 then 2 else if x = kwFof 2 then 3 else if x = kwFof 1 then 3 else 0
def mapK : Sm Int := ((((Sm.put [] (kwFof 1) 3).put (kwFof 2) 3).put (kwFof 3) 2).put (kwFof 4) 4).put (kwFof 5) 3
theorem mapK_get (x : Bs) : (mapK.get x).getD 0 = manyK x := by
  unfold mapK manyK
  by_cases h5 : x = kwFof 5
  · rw [if_pos h5, h5, Sm.get_put_same]; rfl
  rw [if_neg h5, Sm.get_put_other (Ne.symm h5)]
  by_cases h4 : x = kwFof 4
  · rw [if_pos h4, h4, Sm.get_put_same]; rfl
  rw [if_neg h4, Sm.get_put_other (Ne.symm h4)]
  by_cases h3 : x = kwFof 3
  · rw [if_pos h3, h3, Sm.get_put_same]; rfl
  rw [if_neg h3, Sm.get_put_other (Ne.symm h3)]
  by_cases h2 : x = kwFof 2
  · rw [if_pos h2, h2, Sm.get_put_same]; rfl
  rw [if_neg h2, Sm.get_put_other (Ne.symm h2)]
  by_cases h1 : x = kwFof 1
  · rw [if_pos h1, h1, Sm.get_put_same]; rfl
  rw [if_neg h1, Sm.get_put_other (Ne.symm h1)]
  rfl
theorem frFd_len {m : Nat} {x : Bs} {r : List Bs} {p : FdP} (h : frFd m (x :: r) = some p) : manyK x = (r.length : Int) + 1 := by
  unfold frFd at h
  split at h
  · rename_i w a e
    injection e with e1 e2
    unfold fr2 at h
    split at h
    · rename_i q; rw [e1, q.1, e2]; rfl
    · cases h
  · rename_i w a b e
    injection e with e1 e2
    unfold fr3 at h
    split at h
    · rename_i q; rw [e1, q.1, e2]; rfl
    split at h
    · rename_i q; rw [e1, q.1, e2]; rfl
    split at h
    · rename_i q; rw [e1, q.1, e2]; rfl
    · cases h
  · rename_i w a b c e
    injection e with e1 e2
    unfold fr4 at h
    split at h
    · rename_i q; rw [e1, q.1, e2]; rfl
    · cases h
  · cases h
def okS (s : ByteArray) : Bool := decide (s.size = 0) || keyB s
theorem okS_ne {s : ByteArray} (h : 0 < s.size) : okS s = keyB s := by
  unfold okS
  rw [decide_eq_false (by omega), Bool.false_or]
theorem okS_nil : okS ⟨#[]⟩ = true := rfl
/-- what the switch leaves: an event and the word of its number. -/
structure FoP (m : Nat) (ws : List Bs) (f : Fed) (num : ByteArray) : Prop where
  law : ∀ nv, (∀ q, numT m (bsOf num) = some q → q = nv) → ((numT m (bsOf num)).isSome && okS f.fd && okS f.rl && okS f.bd) = (frFd m ws).isSome ∧ ∀ p, frFd m ws = some p → ((0, f.kd, f.fd, f.rl, nv, f.bd) : Fed) = (0, p)
  at0 : f.at = 0
  sz : num.size ≤ 1000000 ∧ f.fd.size ≤ 1000000 ∧ f.rl.size ≤ 1000000 ∧ f.bd.size ≤ 1000000
theorem num_zero {m : Nat} (hm : 1 ≤ m) : numT m (bsOf ⟨#[48]⟩) = some 0 := by
  have h : (Lib.decDigits (0 : Int).natAbs).length ≤ m := by
    have : (Lib.decDigits (0 : Int).natAbs).length = 1 := by decide +kernel
    omega
  have e : Lib.itoa 0 = [48] := by decide +kernel
  have := numT_itoa h
  rw [e] at this
  exact this
section
variable {m : Nat} {a b c : ByteArray}
theorem fo1 (hm : 1 ≤ m) (ha : 0 < a.size ∧ a.size ≤ 1000000) (hb : 0 < b.size ∧ b.size ≤ 1000000) : FoP m [kwFof 1, bsOf a, bsOf b] (0, 1, a, b, 0, ⟨#[]⟩) ⟨#[48]⟩ := by
  refine ⟨fun nv hn => ?_, rfl, by show (1 : Nat) ≤ _; omega, ha.2, hb.2, by show (0 : Nat) ≤ _; omega⟩
  have hz := num_zero hm
  have e : nv = 0 := (hn 0 hz).symm
  subst e
  rw [hz]
  show (true && okS a && okS b && okS ⟨#[]⟩) = _ ∧ _
  rw [okS_ne ha.1, okS_ne hb.1, okS_nil]
  show _ = (fr3 m (kwFof 1) (bsOf a) (bsOf b)).isSome ∧ ∀ p, fr3 m (kwFof 1) (bsOf a) (bsOf b) = some p → _
  have n1 : (kwFof 1 = kwFof 2) = False := eq_false (by decide)
  have n2 : (kwFof 1 = kwFof 5) = False := eq_false (by decide)
  cases ka : keyB a <;> cases kb : keyB b <;> simp [fr3, baOf_bsOf, ka, kb, n1, n2]
  rfl
theorem fo2 (hm : 1 ≤ m) (ha : 0 < a.size ∧ a.size ≤ 1000000) (hb : 0 < b.size ∧ b.size ≤ 1000000) : FoP m [kwFof 2, bsOf a, bsOf b] (0, 2, a, b, 0, ⟨#[]⟩) ⟨#[48]⟩ := by
  refine ⟨fun nv hn => ?_, rfl, by show (1 : Nat) ≤ _; omega, ha.2, hb.2, by show (0 : Nat) ≤ _; omega⟩
  have hz := num_zero hm
  have e : nv = 0 := (hn 0 hz).symm
  subst e
  rw [hz]
  show (true && okS a && okS b && okS ⟨#[]⟩) = _ ∧ _
  rw [okS_ne ha.1, okS_ne hb.1, okS_nil]
  show _ = (fr3 m (kwFof 2) (bsOf a) (bsOf b)).isSome ∧ ∀ p, fr3 m (kwFof 2) (bsOf a) (bsOf b) = some p → _
  have n1 : (kwFof 2 = kwFof 1) = False := eq_false (by decide)
  have n2 : (kwFof 2 = kwFof 5) = False := eq_false (by decide)
  cases ka : keyB a <;> cases kb : keyB b <;> simp [fr3, baOf_bsOf, ka, kb, n1, n2]
  rfl
theorem fo3 (hm : 1 ≤ m) (ha : 0 < a.size ∧ a.size ≤ 1000000) : FoP m [kwFof 3, bsOf a] (0, 3, a, ⟨#[]⟩, 0, ⟨#[]⟩) ⟨#[48]⟩ := by
  refine ⟨fun nv hn => ?_, rfl, by show (1 : Nat) ≤ _; omega, ha.2, by show (0 : Nat) ≤ _; omega, by show (0 : Nat) ≤ _; omega⟩
  have hz := num_zero hm
  have e : nv = 0 := (hn 0 hz).symm
  subst e
  rw [hz]
  show (true && okS a && okS ⟨#[]⟩ && okS ⟨#[]⟩) = _ ∧ _
  rw [okS_ne ha.1, okS_nil]
  show _ = (fr2 (kwFof 3) (bsOf a)).isSome ∧ ∀ p, fr2 (kwFof 3) (bsOf a) = some p → _
  unfold fr2
  rw [baOf_bsOf]
  cases ka : keyB a <;> simp
  rfl
theorem fo4 (ha : 0 < a.size ∧ a.size ≤ 1000000) (hb : 0 < b.size ∧ b.size ≤ 1000000) (hc : 0 < c.size ∧ c.size ≤ 1000000) : FoP m [kwFof 4, bsOf a, bsOf b, bsOf c] (0, 4, a, ⟨#[]⟩, 0, c) b := by
  refine ⟨fun nv hn => ?_, rfl, hb.2, ha.2, by show (0 : Nat) ≤ _; omega, hc.2⟩
  show ((numT m (bsOf b)).isSome && okS a && okS ⟨#[]⟩ && okS c) = _ ∧ _
  rw [okS_ne ha.1, okS_nil, okS_ne hc.1]
  show _ = (fr4 m (kwFof 4) (bsOf a) (bsOf b) (bsOf c)).isSome ∧ ∀ p, fr4 m (kwFof 4) (bsOf a) (bsOf b) (bsOf c) = some p → _
  unfold fr4
  rw [baOf_bsOf, baOf_bsOf]
  cases hv : numT m (bsOf b) with
  | none => cases ka : keyB a <;> cases kc : keyB c <;> simp
  | some q =>
    have e := hn q hv
    subst e
    cases ka : keyB a <;> cases kc : keyB c <;> simp
    rfl
theorem fo5 (ha : 0 < a.size ∧ a.size ≤ 1000000) (hb : 0 < b.size ∧ b.size ≤ 1000000) : FoP m [kwFof 5, bsOf a, bsOf b] (0, 5, ⟨#[]⟩, a, 0, ⟨#[]⟩) b := by
  refine ⟨fun nv hn => ?_, rfl, hb.2, by show (0 : Nat) ≤ _; omega, ha.2, by show (0 : Nat) ≤ _; omega⟩
  show ((numT m (bsOf b)).isSome && okS ⟨#[]⟩ && okS a && okS ⟨#[]⟩) = _ ∧ _
  rw [okS_ne ha.1, okS_nil]
  show _ = (fr3 m (kwFof 5) (bsOf a) (bsOf b)).isSome ∧ ∀ p, fr3 m (kwFof 5) (bsOf a) (bsOf b) = some p → _
  have n1 : (kwFof 5 = kwFof 1) = False := eq_false (by decide)
  have n2 : (kwFof 5 = kwFof 2) = False := eq_false (by decide)
  cases hv : numT m (bsOf b) with
  | none => cases ka : keyB a <;> simp [fr3, baOf_bsOf, ka, n1, n2, hv]
  | some q =>
    have e := hn q hv
    subst e
    cases ka : keyB a <;> simp [fr3, baOf_bsOf, ka, n1, n2, hv]
    rfl
end
/-- the words that a kind has. -/
theorem manyK_cases {x : Bs} {n : Nat} (hn : 1 ≤ n) (h : manyK x = (n : Int)) : (x = kwFof 1 ∧ n = 3) ∨ (x = kwFof 2 ∧ n = 3) ∨ (x = kwFof 3 ∧ n = 2) ∨ (x = kwFof 4 ∧ n = 4) ∨ (x = kwFof 5 ∧ n = 3) := by
  unfold manyK at h
  split at h
  · rename_i q; exact .inr (.inr (.inr (.inr ⟨q, by omega⟩)))
  split at h
  · rename_i q; exact .inr (.inr (.inr (.inl ⟨q, by omega⟩)))
  split at h
  · rename_i q; exact .inr (.inr (.inl ⟨q, by omega⟩))
  split at h
  · rename_i q; exact .inr (.inl ⟨q, by omega⟩)
  split at h
  · rename_i q; exact .inl ⟨q, by omega⟩
  · omega
set_option maxHeartbeats 16000000 in
set_option maxRecDepth 100000 in
theorem feedOf_any (m : Nat) (v : Value) (ws : List ByteArray) (w : World) (hT : TxW w) (hm1 : 1 ≤ m) (hm : m ≤ 15) (rl : RecR TS w 0 v ws) (hl : ws.length ≤ 1000001) (hs : ∀ x ∈ ws, 0 < x.size ∧ x.size ≤ 1000000) :
    Calls Tryz.prog 65 #[v, .int .i64 (m : Int)] w fun e w' => ∃ f : Fed, e = .returned (.tuple #[fedV f, .bool (frFd m (ws.map bsOf)).isSome]) ∧ (∀ p, frFd m (ws.map bsOf) = some p → f = (0, p)) ∧ Below w.heap.size w w' := by
  obtain ⟨a, cap, rfl, hc1, hc2⟩ := rl.form
  obtain ⟨n, hn⟩ : ∃ n, n = ws.length := ⟨_, rfl⟩
  obtain ⟨w1, hw1⟩ : ∃ w1, w1 = w.alloc (.cells #[.int .i64 0, .int .i64 0, .string ⟨#[]⟩, .string ⟨#[]⟩, .int .i64 0, .string ⟨#[]⟩] 37) := ⟨_, rfl⟩
  have hX1 : w1.heap[w.heap.size]? = some (.cells #[.int .i64 0, .int .i64 0, .string ⟨#[]⟩, .string ⟨#[]⟩, .int .i64 0, .string ⟨#[]⟩] 37 (0, 0)) := by rw [hw1]; exact blk_new _ _
  have hA1 : Below w.heap.size w w1 := by rw [hw1]; exact Bl.alloc (Below.refl _ _) _
  have lz : ∀ b : ByteArray, b.size < 10 → b.size ≤ maxLen := fun b h => by unfold maxLen; omega
  have M0 : MapS TMi (w1.alloc (.map #[] 0)) w1.heap.size [] := MapS.made w1
  obtain ⟨V1, hr1, M1, T1⟩ := M0.put TMi.ok ⟨#[108, 111, 97, 100]⟩ (lz _ (by decide)) 3 (by unfold maxLen; decide)
  have r1 : (Instr.mapUpdate 149 (.map (some w1.heap.size)) (.string ⟨#[108, 111, 97, 100]⟩) (.int .i64 3)).run Tryz.prog (w1.alloc (.map #[] 0)) = .ok () V1 := hr1
  obtain ⟨V2, hr2, M2, T2⟩ := M1.put TMi.ok ⟨#[115, 112, 108, 105, 99, 101]⟩ (lz _ (by decide)) 3 (by unfold maxLen; decide)
  have r2 : (Instr.mapUpdate 149 (.map (some w1.heap.size)) (.string ⟨#[115, 112, 108, 105, 99, 101]⟩) (.int .i64 3)).run Tryz.prog V1 = .ok () V2 := hr2
  obtain ⟨V3, hr3, M3, T3⟩ := M2.put TMi.ok ⟨#[117, 110, 108, 111, 97, 100]⟩ (lz _ (by decide)) 2 (by unfold maxLen; decide)
  have r3 : (Instr.mapUpdate 149 (.map (some w1.heap.size)) (.string ⟨#[117, 110, 108, 111, 97, 100]⟩) (.int .i64 2)).run Tryz.prog V2 = .ok () V3 := hr3
  obtain ⟨V4, hr4, M4, T4⟩ := M3.put TMi.ok ⟨#[117, 115, 101]⟩ (lz _ (by decide)) 4 (by unfold maxLen; decide)
  have r4 : (Instr.mapUpdate 149 (.map (some w1.heap.size)) (.string ⟨#[117, 115, 101]⟩) (.int .i64 4)).run Tryz.prog V3 = .ok () V4 := hr4
  obtain ⟨V5, hr5, M5, T5⟩ := M4.put TMi.ok ⟨#[99, 111, 117, 110, 116]⟩ (lz _ (by decide)) 3 (by unfold maxLen; decide)
  have r5 : (Instr.mapUpdate 149 (.map (some w1.heap.size)) (.string ⟨#[99, 111, 117, 110, 116]⟩) (.int .i64 3)).run Tryz.prog V4 = .ok () V5 := hr5
  have M : MapS TMi V5 w1.heap.size mapK := M5
  have hmbw : w.heap.size < w1.heap.size := blk_lt hX1
  have hV : Below w1.heap.size w1 V5 := by
    have e0 : Below w1.heap.size w1 (w1.alloc (.map #[] 0)) := Bl.alloc (Below.refl _ _) _
    have tt : ∀ {x y : World}, w1.heap.size ≤ x.heap.size → x.mapTurned y w1.heap.size → Below w1.heap.size x y := fun h t => Turned.below t (Nat.le_refl _) h
    have e1 := e0.trans (tt e0.size T1)
    have e2 := e1.trans (tt e1.size T2)
    have e3 := e2.trans (tt e2.size T3)
    have e4 := e3.trans (tt e3.size T4)
    exact e4.trans (tt e4.size T5)
  have hX5 := blk_below hX1 hV
  have hA5 := Bl.trans hA1 hV
  have HX5 := Lib.hid hX5
  have HA5 := Lib.hid hA5
  have HM := Lib.hid M
  have RL := Lib.hid rl
  have HS := Lib.hid hs
  have HT := Lib.hid hT
  have HW1 := Lib.hid hw1
  have lR5 : w.heap.size < V5.heap.size := blk_lt hX5
  rw [← hn] at hc1 hl RL ⊢
  have hmm := @run_makeMap Tryz.prog
  clear hw1 hX1 hA1 M0 hr1 hr2 hr3 hr4 hr5 M1 M2 M3 M4 M5 T1 T2 T3 T4 T5 M hV hX5 hA5 rl hT hs hmbw
  have HZB : Hid (∃ W9, ((((((V5.setCell ⟨w.heap.size, 0, none⟩ (.int .i64 0)).setCell ⟨w.heap.size, 1, none⟩ (.int .i64 0)).setCell ⟨w.heap.size, 2, none⟩ (.string ⟨#[]⟩)).setCell ⟨w.heap.size, 3, none⟩ (.string ⟨#[]⟩)).setCell ⟨w.heap.size, 4, none⟩ (.int .i64 0)).setCell ⟨w.heap.size, 5, none⟩ (.string ⟨#[]⟩)) = W9 ∧ W9.heap[w.heap.size]? = some (.cells #[.int .i64 0, .int .i64 0, .string ⟨#[]⟩, .string ⟨#[]⟩, .int .i64 0, .string ⟨#[]⟩] 37 (0, 0)) ∧ Below w.heap.size w W9) := Lib.hid ⟨_, rfl, (blk_set (blk_set (blk_set (blk_set (blk_set (blk_set HX5.out 0 (.int .i64 0)) 1 (.int .i64 0)) 2 (.string ⟨#[]⟩)) 3 (.string ⟨#[]⟩)) 4 (.int .i64 0)) 5 (.string ⟨#[]⟩)), (Bl.set (Bl.set (Bl.set (Bl.set (Bl.set (Bl.set HA5.out w.heap.size 0 (Nat.le_refl _) (.int .i64 0)) w.heap.size 1 (Nat.le_refl _) (.int .i64 0)) w.heap.size 2 (Nat.le_refl _) (.string ⟨#[]⟩)) w.heap.size 3 (Nat.le_refl _) (.string ⟨#[]⟩)) w.heap.size 4 (Nat.le_refl _) (.int .i64 0)) w.heap.size 5 (Nat.le_refl _) (.string ⟨#[]⟩))⟩
  by_cases h0 : ws = []
  · subst h0
    have e0 : n = 0 := hn
    clear hn
    subst e0
    have hX5 := HX5.out
    have k0 : V5.cell? ⟨w.heap.size, 0, none⟩ = some (.int .i64 0) := blk_cell hX5 0
    have k1 : V5.cell? ⟨w.heap.size, 1, none⟩ = some (.int .i64 0) := blk_cell hX5 1
    have k2 : V5.cell? ⟨w.heap.size, 2, none⟩ = some (.string ⟨#[]⟩) := blk_cell hX5 2
    have k3 : V5.cell? ⟨w.heap.size, 3, none⟩ = some (.string ⟨#[]⟩) := blk_cell hX5 3
    have k4 : V5.cell? ⟨w.heap.size, 4, none⟩ = some (.int .i64 0) := blk_cell hX5 4
    have k5 : V5.cell? ⟨w.heap.size, 5, none⟩ = some (.string ⟨#[]⟩) := blk_cell hX5 5
    have q0 := blk_free hX5 0
    have q1 := blk_free hX5 1
    have q2 := blk_free hX5 2
    have q3 := blk_free hX5 3
    have q4 := blk_free hX5 4
    have q5 := blk_free hX5 5
    clear hX5
    go_enter Tryz.func65, Tryz.ntmps65
    go_upto_region 1 with fail
    rw [← HW1.out]
    go_wp2
    obtain ⟨W9, h9, hZ, hbZ⟩ := HZB.out
    rw [h9]
    have r0 : W9.cell? ⟨w.heap.size, 0, none⟩ = some (.int .i64 0) := blk_cell hZ 0
    have r1 : W9.cell? ⟨w.heap.size, 1, none⟩ = some (.int .i64 0) := blk_cell hZ 1
    have r2 : W9.cell? ⟨w.heap.size, 2, none⟩ = some (.string ⟨#[]⟩) := blk_cell hZ 2
    have r3 : W9.cell? ⟨w.heap.size, 3, none⟩ = some (.string ⟨#[]⟩) := blk_cell hZ 3
    have r4 : W9.cell? ⟨w.heap.size, 4, none⟩ = some (.int .i64 0) := blk_cell hZ 4
    have r5 : W9.cell? ⟨w.heap.size, 5, none⟩ = some (.string ⟨#[]⟩) := blk_cell hZ 5
    refine bodyPost_ret (v := .tuple #[.agg #[.int .i64 0, .int .i64 0, .string ⟨#[]⟩, .string ⟨#[]⟩, .int .i64 0, .string ⟨#[]⟩], .bool false]) (by simp [results, Tryz.results65, go_sem, r0, r1, r2, r3, r4, r5]) rfl ?_
    exact ⟨(0, 0, ⟨#[]⟩, ⟨#[]⟩, 0, ⟨#[]⟩), rfl, fun p hp => (by simp [frFd] at hp), hbZ⟩
  obtain ⟨x, r, rfl⟩ : ∃ x r, ws = x :: r := by
    cases ws with
    | nil => exact absurd rfl h0
    | cons x r => exact ⟨x, r, rfl⟩
  obtain ⟨b, o, hab, _, hbb, c0⟩ := str_at RL.out (k := 0) (x := x) rfl
  subst hab
  rw [Nat.add_zero] at c0
  have d0 : V5.cell? ⟨b, o, none⟩ = some (.string x) := ((bcell HA5.out).1 b o hbb).trans c0
  have lb5 : b < V5.heap.size := Nat.lt_of_lt_of_le hbb HA5.out.size
  obtain ⟨mv, hmv⟩ : ∃ mv, mv = manyK (bsOf x) := ⟨_, rfl⟩
  have hx6 := (HS.out x (List.mem_cons_self ..)).2
  have hlk : (Instr.lookup 149 (.map (some w1.heap.size)) (.string x) false).run Tryz.prog V5 = .ok (.int .i64 mv) V5 := by
    have h := HM.out.look TMi.ok x (by unfold maxLen; omega)
    rw [show ((mapK.get x.data.toList).getD TMi.z) = mv by rw [hmv]; exact mapK_get _] at h
    exact h
  have HN : Hid (n = r.length + 1) := Lib.hid hn
  have HMV := Lib.hid hmv
  have hn0 : ¬ (n : Int) = 0 := by rw [HN.out]; omega
  have hnp : (0 : Int) < (n : Int) := by rw [HN.out]; omega
  have HNO : Hid (¬ mv = (n : Int) → ∀ p, frFd m ((x :: r).map bsOf) ≠ some p) := Lib.hid fun h p hp => h (by
    have h1 := frFd_len hp
    rw [List.length_map] at h1
    rw [HMV.out, h1, HN.out]; rfl)
  clear hn hmv h0 c0 hx6
  have hX5 := HX5.out
  have k0 : V5.cell? ⟨w.heap.size, 0, none⟩ = some (.int .i64 0) := blk_cell hX5 0
  have k1 : V5.cell? ⟨w.heap.size, 1, none⟩ = some (.int .i64 0) := blk_cell hX5 1
  have k2 : V5.cell? ⟨w.heap.size, 2, none⟩ = some (.string ⟨#[]⟩) := blk_cell hX5 2
  have k3 : V5.cell? ⟨w.heap.size, 3, none⟩ = some (.string ⟨#[]⟩) := blk_cell hX5 3
  have k4 : V5.cell? ⟨w.heap.size, 4, none⟩ = some (.int .i64 0) := blk_cell hX5 4
  have k5 : V5.cell? ⟨w.heap.size, 5, none⟩ = some (.string ⟨#[]⟩) := blk_cell hX5 5
  have q0 := blk_free hX5 0
  have q1 := blk_free hX5 1
  have q2 := blk_free hX5 2
  have q3 := blk_free hX5 3
  have q4 := blk_free hX5 4
  have q5 := blk_free hX5 5
  clear hX5
  by_cases hmn : mv = (n : Int)
  case neg =>
    have HNO2 := Lib.hid (HNO.out hmn)
    have HNI : Hid ((frFd m ((x :: r).map bsOf)).isSome = false) := Lib.hid (by
      cases hf : frFd m ((x :: r).map bsOf) with
      | none => rfl
      | some p => exact absurd hf (HNO2.out p))
    have hmb : (mv == (n : Int)) = false := by simpa using hmn
    have hnb : ((n : Int) == 0) = false := by simpa using hn0
    clear HNO
    go_enter Tryz.func65, Tryz.ntmps65
    go_upto_region 1 with fail
    rw [← HW1.out]
    go_wp2
    obtain ⟨W9, h9, hZ, hbZ⟩ := HZB.out
    rw [h9]
    have r0 : W9.cell? ⟨w.heap.size, 0, none⟩ = some (.int .i64 0) := blk_cell hZ 0
    have r1 : W9.cell? ⟨w.heap.size, 1, none⟩ = some (.int .i64 0) := blk_cell hZ 1
    have r2 : W9.cell? ⟨w.heap.size, 2, none⟩ = some (.string ⟨#[]⟩) := blk_cell hZ 2
    have r3 : W9.cell? ⟨w.heap.size, 3, none⟩ = some (.string ⟨#[]⟩) := blk_cell hZ 3
    have r4 : W9.cell? ⟨w.heap.size, 4, none⟩ = some (.int .i64 0) := blk_cell hZ 4
    have r5 : W9.cell? ⟨w.heap.size, 5, none⟩ = some (.string ⟨#[]⟩) := blk_cell hZ 5
    refine bodyPost_ret (v := .tuple #[.agg #[.int .i64 0, .int .i64 0, .string ⟨#[]⟩, .string ⟨#[]⟩, .int .i64 0, .string ⟨#[]⟩], .bool false]) (by simp [results, Tryz.results65, go_sem, r0, r1, r2, r3, r4, r5]) rfl ?_
    exact ⟨(0, 0, ⟨#[]⟩, ⟨#[]⟩, 0, ⟨#[]⟩), by rw [HNI.out] <;> rfl, fun p hp => absurd hp (HNO2.out p), hbZ⟩
  clear HNO HZB k0 k1 k2 k3 k4 k5 q0 q1 q2 q3 q4 q5
  have HMN := Lib.hid hmn
  obtain ⟨V6, hV6⟩ : ∃ V6, V6 = V5.alloc (.cells #[.int .i64 0, .int .i64 0, .string ⟨#[]⟩, .string ⟨#[]⟩, .int .i64 0, .string ⟨#[]⟩] 37) := ⟨_, rfl⟩
  have hb6 : Below V5.heap.size V5 V6 := by rw [hV6]; exact Bl.alloc (Below.refl _ _) _
  have hA6 : V6.heap[V5.heap.size]? = some (.cells #[.int .i64 0, .int .i64 0, .string ⟨#[]⟩, .string ⟨#[]⟩, .int .i64 0, .string ⟨#[]⟩] 37 (0, 0)) := by rw [hV6]; exact blk_new _ _
  have hR6 := blk_below HX5.out hb6
  have HB6 := Lib.hid (Bl.trans HA5.out hb6)
  have HV6 := Lib.hid hV6
  have e0 : V6.cell? ⟨b, o, none⟩ = some (.string x) := ((bcell hb6).1 b o lb5).trans d0
  have lA6 : V5.heap.size < V6.heap.size := blk_lt hA6
  have lb6 : b < V6.heap.size := Nat.lt_of_lt_of_le lb5 hb6.size
  have HAR : Hid (V6.heap[V5.heap.size]? = some (.cells #[.int .i64 0, .int .i64 0, .string ⟨#[]⟩, .string ⟨#[]⟩, .int .i64 0, .string ⟨#[]⟩] 37 (0, 0)) ∧ V6.heap[w.heap.size]? = some (.cells #[.int .i64 0, .int .i64 0, .string ⟨#[]⟩, .string ⟨#[]⟩, .int .i64 0, .string ⟨#[]⟩] 37 (0, 0))) := Lib.hid ⟨hA6, hR6⟩
  clear hV6 hb6 hA6 hR6 HM HX5
  go_enter Tryz.func65, Tryz.ntmps65
  go_upto_region 1 with fail
  rw [← HW1.out]
  go_upto_region 6 with fail
  rw [← HV6.out]
  generalize V5.heap.size = A at *
  clear hlk d0 hmm r1 r2 r3 r4 r5
  go_upto_block 0 with fail
  go_cut [8] from 15 to 74 (fun v8 wx => ∃ (f : Fed) (num : ByteArray), v8 = .string num ∧ Hid (FoP m ((x :: r).map bsOf) f num ∧ wx.heap[A]? = some (.cells #[.int .i64 f.at, .int .i64 f.kd, .string f.fd, .string f.rl, .int .i64 f.mn, .string f.bd] 37 (0, 0)) ∧ wx.heap[w.heap.size]? = some (.cells #[.int .i64 0, .int .i64 0, .string ⟨#[]⟩, .string ⟨#[]⟩, .int .i64 0, .string ⟨#[]⟩] 37 (0, 0)) ∧ Below w.heap.size w wx))
  case first =>
    have hXA := HAR.out.1
    have j0 : V6.cell? ⟨A, 0, none⟩ = some (.int .i64 0) := blk_cell hXA 0
    have j1 : V6.cell? ⟨A, 1, none⟩ = some (.int .i64 0) := blk_cell hXA 1
    have j2 : V6.cell? ⟨A, 2, none⟩ = some (.string ⟨#[]⟩) := blk_cell hXA 2
    have j3 : V6.cell? ⟨A, 3, none⟩ = some (.string ⟨#[]⟩) := blk_cell hXA 3
    have j4 : V6.cell? ⟨A, 4, none⟩ = some (.int .i64 0) := blk_cell hXA 4
    have j5 : V6.cell? ⟨A, 5, none⟩ = some (.string ⟨#[]⟩) := blk_cell hXA 5
    have p0 := blk_free hXA 0
    have p1 := blk_free hXA 1
    have p2 := blk_free hXA 2
    have p3 := blk_free hXA 3
    have p4 := blk_free hXA 4
    have p5 := blk_free hXA 5
    clear hXA
    have HSET : Hid (∀ f : Fed, ((((((V6.setCell ⟨A, 0, none⟩ (.int .i64 f.at)).setCell ⟨A, 1, none⟩ (.int .i64 f.kd)).setCell ⟨A, 2, none⟩ (.string f.fd)).setCell ⟨A, 3, none⟩ (.string f.rl)).setCell ⟨A, 4, none⟩ (.int .i64 f.mn)).setCell ⟨A, 5, none⟩ (.string f.bd)).heap[A]? = some (.cells #[.int .i64 f.at, .int .i64 f.kd, .string f.fd, .string f.rl, .int .i64 f.mn, .string f.bd] 37 (0, 0)) ∧ ((((((V6.setCell ⟨A, 0, none⟩ (.int .i64 f.at)).setCell ⟨A, 1, none⟩ (.int .i64 f.kd)).setCell ⟨A, 2, none⟩ (.string f.fd)).setCell ⟨A, 3, none⟩ (.string f.rl)).setCell ⟨A, 4, none⟩ (.int .i64 f.mn)).setCell ⟨A, 5, none⟩ (.string f.bd)).heap[w.heap.size]? = some (.cells #[.int .i64 0, .int .i64 0, .string ⟨#[]⟩, .string ⟨#[]⟩, .int .i64 0, .string ⟨#[]⟩] 37 (0, 0)) ∧ Below w.heap.size w ((((((V6.setCell ⟨A, 0, none⟩ (.int .i64 f.at)).setCell ⟨A, 1, none⟩ (.int .i64 f.kd)).setCell ⟨A, 2, none⟩ (.string f.fd)).setCell ⟨A, 3, none⟩ (.string f.rl)).setCell ⟨A, 4, none⟩ (.int .i64 f.mn)).setCell ⟨A, 5, none⟩ (.string f.bd))) := Lib.hid fun f => ⟨(blk_set (blk_set (blk_set (blk_set (blk_set (blk_set HAR.out.1 0 (.int .i64 f.at)) 1 (.int .i64 f.kd)) 2 (.string f.fd)) 3 (.string f.rl)) 4 (.int .i64 f.mn)) 5 (.string f.bd)), (blk_far (blk_far (blk_far (blk_far (blk_far (blk_far HAR.out.2 A 0 (.int .i64 f.at) (by omega)) A 1 (.int .i64 f.kd) (by omega)) A 2 (.string f.fd) (by omega)) A 3 (.string f.rl) (by omega)) A 4 (.int .i64 f.mn) (by omega)) A 5 (.string f.bd) (by omega)), (Bl.set (Bl.set (Bl.set (Bl.set (Bl.set (Bl.set HB6.out A 0 (by omega) (.int .i64 f.at)) A 1 (by omega) (.int .i64 f.kd)) A 2 (by omega) (.string f.fd)) A 3 (by omega) (.string f.rl)) A 4 (by omega) (.int .i64 f.mn)) A 5 (by omega) (.string f.bd))⟩
    have hxl : x.toList = x.data.toList := ByteArray.toList_eq x
    rcases manyK_cases (n := n) (by omega) (HMV.out.symm.trans HMN.out) with ⟨hx, hn⟩ | ⟨hx, hn⟩ | ⟨hx, hn⟩ | ⟨hx, hn⟩ | ⟨hx, hn⟩
    · obtain ⟨a1, b1, rfl⟩ : ∃ a1 b1, r = [a1, b1] := by
        have h9 := HN.out
        match r, h9 with
        | [a1, b1], _ => exact ⟨a1, b1, rfl⟩
        | [], h9 => simp at h9; omega
        | [_], h9 => simp at h9; omega
        | [_, _, _], h9 => simp at h9; omega
        | _ :: _ :: _ :: _ :: _, h9 => simp at h9; omega
      obtain ⟨b', o', hab, _, hbz, cz1⟩ := str_at RL.out (k := 1) (x := a1) rfl
      injection hab with hab
      injection hab with e1 e2
      subst e1; subst e2
      have d1 : V6.cell? ⟨b, o + 1, none⟩ = some (.string a1) := ((bcell HB6.out).1 b (o + 1) hbb).trans cz1
      have s1 := HS.out a1 (by simp)
      have i1 : (1 : Int) < (n : Int) := by omega
      have j1 : 1 < n := by omega
      obtain ⟨b', o', hab, _, hbz, cz2⟩ := str_at RL.out (k := 2) (x := b1) rfl
      injection hab with hab
      injection hab with e1 e2
      subst e1; subst e2
      have d2 : V6.cell? ⟨b, o + 2, none⟩ = some (.string b1) := ((bcell HB6.out).1 b (o + 2) hbb).trans cz2
      have s2 := HS.out b1 (by simp)
      have i2 : (2 : Int) < (n : Int) := by omega
      have j2 : 2 < n := by omega
      have hfo : FoP m ((x :: [a1, b1]).map bsOf) (0, 1, a1, b1, 0, ⟨#[]⟩) ⟨#[48]⟩ := by
        show FoP m (bsOf x :: [bsOf a1, bsOf b1]) _ _
        rw [hx]
        exact fo1 hm1 s1 s2
      have HREL := Lib.hid (And.intro hfo (HSET.out (0, 1, a1, b1, 0, ⟨#[]⟩)))
      have hxe : x.toList = [108, 111, 97, 100] := hxl.trans hx
      have g1 : (x.toList == [108, 111, 97, 100]) = true := by rw [hxe]; decide
      clear hfo hx hn hxl cz1 cz2
      go_wp2_with fail
      go_region
      go_wp2
      go_meet
      case rel => exact ⟨(0, 1, a1, b1, 0, ⟨#[]⟩), ⟨#[48]⟩, rfl, Lib.hid ⟨HREL.out.1, by rw [drew_heap9]; exact HREL.out.2.1, by rw [drew_heap9]; exact HREL.out.2.2.1, Below.drew HREL.out.2.2.2⟩⟩
    · obtain ⟨a1, b1, rfl⟩ : ∃ a1 b1, r = [a1, b1] := by
        have h9 := HN.out
        match r, h9 with
        | [a1, b1], _ => exact ⟨a1, b1, rfl⟩
        | [], h9 => simp at h9; omega
        | [_], h9 => simp at h9; omega
        | [_, _, _], h9 => simp at h9; omega
        | _ :: _ :: _ :: _ :: _, h9 => simp at h9; omega
      obtain ⟨b', o', hab, _, hbz, cz1⟩ := str_at RL.out (k := 1) (x := a1) rfl
      injection hab with hab
      injection hab with e1 e2
      subst e1; subst e2
      have d1 : V6.cell? ⟨b, o + 1, none⟩ = some (.string a1) := ((bcell HB6.out).1 b (o + 1) hbb).trans cz1
      have s1 := HS.out a1 (by simp)
      have i1 : (1 : Int) < (n : Int) := by omega
      have j1 : 1 < n := by omega
      obtain ⟨b', o', hab, _, hbz, cz2⟩ := str_at RL.out (k := 2) (x := b1) rfl
      injection hab with hab
      injection hab with e1 e2
      subst e1; subst e2
      have d2 : V6.cell? ⟨b, o + 2, none⟩ = some (.string b1) := ((bcell HB6.out).1 b (o + 2) hbb).trans cz2
      have s2 := HS.out b1 (by simp)
      have i2 : (2 : Int) < (n : Int) := by omega
      have j2 : 2 < n := by omega
      have hfo : FoP m ((x :: [a1, b1]).map bsOf) (0, 2, a1, b1, 0, ⟨#[]⟩) ⟨#[48]⟩ := by
        show FoP m (bsOf x :: [bsOf a1, bsOf b1]) _ _
        rw [hx]
        exact fo2 hm1 s1 s2
      have HREL := Lib.hid (And.intro hfo (HSET.out (0, 2, a1, b1, 0, ⟨#[]⟩)))
      have hxe : x.toList = [115, 112, 108, 105, 99, 101] := hxl.trans hx
      have g1 : (x.toList == [108, 111, 97, 100]) = false := by rw [hxe]; decide
      have h1 : ¬ x.toList = [108, 111, 97, 100] := by rw [hxe]; decide
      have g2 : (x.toList == [115, 112, 108, 105, 99, 101]) = true := by rw [hxe]; decide
      clear hfo hx hn hxl cz1 cz2
      go_wp2_with fail
      go_region
      go_wp2
      go_meet
      case rel => exact ⟨(0, 2, a1, b1, 0, ⟨#[]⟩), ⟨#[48]⟩, rfl, Lib.hid ⟨HREL.out.1, by rw [drew_heap9]; exact HREL.out.2.1, by rw [drew_heap9]; exact HREL.out.2.2.1, Below.drew HREL.out.2.2.2⟩⟩
    · obtain ⟨a1, rfl⟩ : ∃ a1, r = [a1] := by
        have h9 := HN.out
        match r, h9 with
        | [a1], _ => exact ⟨a1, rfl⟩
        | [], h9 => simp at h9; omega
        | [_, _], h9 => simp at h9; omega
        | [_, _, _], h9 => simp at h9; omega
        | _ :: _ :: _ :: _ :: _, h9 => simp at h9; omega
      obtain ⟨b', o', hab, _, hbz, cz1⟩ := str_at RL.out (k := 1) (x := a1) rfl
      injection hab with hab
      injection hab with e1 e2
      subst e1; subst e2
      have d1 : V6.cell? ⟨b, o + 1, none⟩ = some (.string a1) := ((bcell HB6.out).1 b (o + 1) hbb).trans cz1
      have s1 := HS.out a1 (by simp)
      have i1 : (1 : Int) < (n : Int) := by omega
      have j1 : 1 < n := by omega
      have hfo : FoP m ((x :: [a1]).map bsOf) (0, 3, a1, ⟨#[]⟩, 0, ⟨#[]⟩) ⟨#[48]⟩ := by
        show FoP m (bsOf x :: [bsOf a1]) _ _
        rw [hx]
        exact fo3 hm1 s1
      have HREL := Lib.hid (And.intro hfo (HSET.out (0, 3, a1, ⟨#[]⟩, 0, ⟨#[]⟩)))
      have hxe : x.toList = [117, 110, 108, 111, 97, 100] := hxl.trans hx
      have g1 : (x.toList == [108, 111, 97, 100]) = false := by rw [hxe]; decide
      have h1 : ¬ x.toList = [108, 111, 97, 100] := by rw [hxe]; decide
      have g2 : (x.toList == [115, 112, 108, 105, 99, 101]) = false := by rw [hxe]; decide
      have h2 : ¬ x.toList = [115, 112, 108, 105, 99, 101] := by rw [hxe]; decide
      have g3 : (x.toList == [117, 110, 108, 111, 97, 100]) = true := by rw [hxe]; decide
      clear hfo hx hn hxl cz1
      go_wp2_with fail
      go_meet
      case rel => exact ⟨(0, 3, a1, ⟨#[]⟩, 0, ⟨#[]⟩), ⟨#[48]⟩, rfl, Lib.hid ⟨HREL.out.1, HREL.out.2.1, HREL.out.2.2.1, HREL.out.2.2.2⟩⟩
    · obtain ⟨a1, b1, q1, rfl⟩ : ∃ a1 b1 q1, r = [a1, b1, q1] := by
        have h9 := HN.out
        match r, h9 with
        | [a1, b1, q1], _ => exact ⟨a1, b1, q1, rfl⟩
        | [], h9 => simp at h9; omega
        | [_], h9 => simp at h9; omega
        | [_, _], h9 => simp at h9; omega
        | _ :: _ :: _ :: _ :: _, h9 => simp at h9; omega
      obtain ⟨b', o', hab, _, hbz, cz1⟩ := str_at RL.out (k := 1) (x := a1) rfl
      injection hab with hab
      injection hab with e1 e2
      subst e1; subst e2
      have d1 : V6.cell? ⟨b, o + 1, none⟩ = some (.string a1) := ((bcell HB6.out).1 b (o + 1) hbb).trans cz1
      have s1 := HS.out a1 (by simp)
      have i1 : (1 : Int) < (n : Int) := by omega
      have j1 : 1 < n := by omega
      obtain ⟨b', o', hab, _, hbz, cz2⟩ := str_at RL.out (k := 2) (x := b1) rfl
      injection hab with hab
      injection hab with e1 e2
      subst e1; subst e2
      have d2 : V6.cell? ⟨b, o + 2, none⟩ = some (.string b1) := ((bcell HB6.out).1 b (o + 2) hbb).trans cz2
      have s2 := HS.out b1 (by simp)
      have i2 : (2 : Int) < (n : Int) := by omega
      have j2 : 2 < n := by omega
      obtain ⟨b', o', hab, _, hbz, cz3⟩ := str_at RL.out (k := 3) (x := q1) rfl
      injection hab with hab
      injection hab with e1 e2
      subst e1; subst e2
      have d3 : V6.cell? ⟨b, o + 3, none⟩ = some (.string q1) := ((bcell HB6.out).1 b (o + 3) hbb).trans cz3
      have s3 := HS.out q1 (by simp)
      have i3 : (3 : Int) < (n : Int) := by omega
      have j3 : 3 < n := by omega
      have hfo : FoP m ((x :: [a1, b1, q1]).map bsOf) (0, 4, a1, ⟨#[]⟩, 0, q1) b1 := by
        show FoP m (bsOf x :: [bsOf a1, bsOf b1, bsOf q1]) _ _
        rw [hx]
        exact fo4 s1 s2 s3
      have HREL := Lib.hid (And.intro hfo (HSET.out (0, 4, a1, ⟨#[]⟩, 0, q1)))
      have hxe : x.toList = [117, 115, 101] := hxl.trans hx
      have g1 : (x.toList == [108, 111, 97, 100]) = false := by rw [hxe]; decide
      have h1 : ¬ x.toList = [108, 111, 97, 100] := by rw [hxe]; decide
      have g2 : (x.toList == [115, 112, 108, 105, 99, 101]) = false := by rw [hxe]; decide
      have h2 : ¬ x.toList = [115, 112, 108, 105, 99, 101] := by rw [hxe]; decide
      have g3 : (x.toList == [117, 110, 108, 111, 97, 100]) = false := by rw [hxe]; decide
      have h3 : ¬ x.toList = [117, 110, 108, 111, 97, 100] := by rw [hxe]; decide
      have g4 : (x.toList == [117, 115, 101]) = true := by rw [hxe]; decide
      clear hfo hx hn hxl cz1 cz2 cz3
      go_wp2_with fail
      go_region
      go_wp2
      go_meet
      case rel => exact ⟨(0, 4, a1, ⟨#[]⟩, 0, q1), b1, rfl, Lib.hid ⟨HREL.out.1, by rw [drew_heap9]; exact HREL.out.2.1, by rw [drew_heap9]; exact HREL.out.2.2.1, Below.drew HREL.out.2.2.2⟩⟩
    · obtain ⟨a1, b1, rfl⟩ : ∃ a1 b1, r = [a1, b1] := by
        have h9 := HN.out
        match r, h9 with
        | [a1, b1], _ => exact ⟨a1, b1, rfl⟩
        | [], h9 => simp at h9; omega
        | [_], h9 => simp at h9; omega
        | [_, _, _], h9 => simp at h9; omega
        | _ :: _ :: _ :: _ :: _, h9 => simp at h9; omega
      obtain ⟨b', o', hab, _, hbz, cz1⟩ := str_at RL.out (k := 1) (x := a1) rfl
      injection hab with hab
      injection hab with e1 e2
      subst e1; subst e2
      have d1 : V6.cell? ⟨b, o + 1, none⟩ = some (.string a1) := ((bcell HB6.out).1 b (o + 1) hbb).trans cz1
      have s1 := HS.out a1 (by simp)
      have i1 : (1 : Int) < (n : Int) := by omega
      have j1 : 1 < n := by omega
      obtain ⟨b', o', hab, _, hbz, cz2⟩ := str_at RL.out (k := 2) (x := b1) rfl
      injection hab with hab
      injection hab with e1 e2
      subst e1; subst e2
      have d2 : V6.cell? ⟨b, o + 2, none⟩ = some (.string b1) := ((bcell HB6.out).1 b (o + 2) hbb).trans cz2
      have s2 := HS.out b1 (by simp)
      have i2 : (2 : Int) < (n : Int) := by omega
      have j2 : 2 < n := by omega
      have hfo : FoP m ((x :: [a1, b1]).map bsOf) (0, 5, ⟨#[]⟩, a1, 0, ⟨#[]⟩) b1 := by
        show FoP m (bsOf x :: [bsOf a1, bsOf b1]) _ _
        rw [hx]
        exact fo5 s1 s2
      have HREL := Lib.hid (And.intro hfo (HSET.out (0, 5, ⟨#[]⟩, a1, 0, ⟨#[]⟩)))
      have hxe : x.toList = [99, 111, 117, 110, 116] := hxl.trans hx
      have g1 : (x.toList == [108, 111, 97, 100]) = false := by rw [hxe]; decide
      have h1 : ¬ x.toList = [108, 111, 97, 100] := by rw [hxe]; decide
      have g2 : (x.toList == [115, 112, 108, 105, 99, 101]) = false := by rw [hxe]; decide
      have h2 : ¬ x.toList = [115, 112, 108, 105, 99, 101] := by rw [hxe]; decide
      have g3 : (x.toList == [117, 110, 108, 111, 97, 100]) = false := by rw [hxe]; decide
      have h3 : ¬ x.toList = [117, 110, 108, 111, 97, 100] := by rw [hxe]; decide
      have g4 : (x.toList == [117, 115, 101]) = false := by rw [hxe]; decide
      have h4 : ¬ x.toList = [117, 115, 101] := by rw [hxe]; decide
      clear hfo hx hn hxl hxe cz1 cz2
      go_wp2_with fail
      go_region
      go_wp2
      go_meet
      case rel => exact ⟨(0, 5, ⟨#[]⟩, a1, 0, ⟨#[]⟩), b1, rfl, Lib.hid ⟨HREL.out.1, by rw [drew_heap9]; exact HREL.out.2.1, by rw [drew_heap9]; exact HREL.out.2.2.1, Below.drew HREL.out.2.2.2⟩⟩
  case rest =>
  obtain ⟨f, num, rfl, hc⟩ := hcut
  generalize wc = W at *
  obtain ⟨hfo, hFA, hFR, hFB⟩ := hc.out
  have HFO := Lib.hid hfo
  obtain ⟨ft, fk, fd, fr, fm, fb⟩ := f
  have HNU := Lib.hid (RNumber_any num m W (HT.out.below hFB) hfo.sz.1 hm)
  have HFF := Lib.hid (And.intro hFA (And.intro hFR hFB))
  clear hfo hFA hFR hFB hc e0
  go_wp2_with fail
  refine HNU.out.mono ?_
  rintro e W2 ⟨nv, rfl, hnq, hb2⟩
  obtain ⟨ok, hok⟩ : ∃ ok, ok = (numT m num.data.toList).isSome := ⟨_, rfl⟩
  rw [← hok]
  have HLAW : Hid ((ok && okS fd && okS fr && okS fb) = (frFd m ((x :: r).map bsOf)).isSome ∧ ∀ p, frFd m ((x :: r).map bsOf) = some p → ((0, fk, fd, fr, nv, fb) : Fed) = (0, p)) := Lib.hid (by rw [hok]; exact HFO.out.law nv hnq)
  have hA2 := blk_below HFF.out.1 hb2
  have hR2 := blk_below HFF.out.2.1 hb2
  have hB2 := Bl.trans HFF.out.2.2 hb2
  have hne : w.heap.size ≠ A := by omega
  have z2 : W2.cell? ⟨A, 2, none⟩ = some (.string fd) := blk_cell hA2 2
  have z3 : W2.cell? ⟨A, 3, none⟩ = some (.string fr) := blk_cell hA2 3
  have z4 : W2.cell? ⟨A, 4, none⟩ = some (.int .i64 fm) := blk_cell hA2 4
  have z5 : W2.cell? ⟨A, 5, none⟩ = some (.string fb) := blk_cell hA2 5
  have z6 := blk_free hA2 4
  have lA2 : A < W2.heap.size := blk_lt hA2
  have hA3 : (W2.setCell ⟨A, 4, none⟩ (.int .i64 nv)).heap[A]? = some (.cells #[.int .i64 ft, .int .i64 fk, .string fd, .string fr, .int .i64 nv, .string fb] 37 (0, 0)) := blk_set hA2 4 _
  have hR3 := blk_far hR2 A 4 (.int .i64 nv) hne
  have hB3 := Bl.set hB2 A 4 (by omega) (.int .i64 nv)
  obtain ⟨W4, hW4⟩ : ∃ W4, W4 = (W2.setCell ⟨A, 4, none⟩ (.int .i64 nv)).alloc (.cells #[.string fd, .string fr, .string fb] 9) := ⟨_, rfl⟩
  have hA4 : W4.heap[A]? = some (.cells #[.int .i64 ft, .int .i64 fk, .string fd, .string fr, .int .i64 nv, .string fb] 37 (0, 0)) := by rw [hW4]; exact blk_old hA3 _
  have hR4 : W4.heap[w.heap.size]? = some (.cells #[.int .i64 0, .int .i64 0, .string ⟨#[]⟩, .string ⟨#[]⟩, .int .i64 0, .string ⟨#[]⟩] 37 (0, 0)) := by rw [hW4]; exact blk_old hR3 _
  have hL4 : W4.heap[W2.heap.size]? = some (.cells #[.string fd, .string fr, .string fb] 9 (0, 0)) := by rw [hW4]; exact blk_new' _ _ (by simp)
  have hB4 : Below w.heap.size w W4 := by rw [hW4]; exact Bl.alloc hB3 _
  have H4 := Lib.hid (And.intro hA4 (And.intro hR4 (And.intro hL4 hB4)))
  have HZS : Hid (fd.size ≤ 1000000 ∧ fr.size ≤ 1000000 ∧ fb.size ≤ 1000000) := Lib.hid ⟨HFO.out.sz.2.1, HFO.out.sz.2.2.1, HFO.out.sz.2.2.2⟩
  have HW4 := Lib.hid hW4
  clear hA2 hR2 hB2 hA3 hR3 hB3 hW4 hA4 hR4 hL4 hB4 hb2 hnq hok hne lA6 lb6 lb5
  go_wp2_with fail
  rw [← HW4.out]
  obtain ⟨L3, hL3⟩ : ∃ L3, L3 = [fd, fr, fb] := ⟨_, rfl⟩
  have HL3 := Lib.hid hL3
  clear hL3 z2 z3 z4 z5 z6
  go_loopw [10, 91] (fun v i wr => ∃ (k : Nat) (q : Bool), k ≤ 3 ∧ i = .int .i64 k ∧ v = .bool q ∧ Hid (q = (ok && (L3.take k).all okS)) ∧ Hid (Below W4.heap.size W4 wr)) (fun _ i _ => 3 - (intOf i).toNat)
  case atStart => exact ⟨0, ok, by omega, rfl, rfl, Lib.hid (by simp), Lib.hid (Below.refl _ _)⟩
  case round =>
    obtain ⟨k, q, hk, rfl, rfl, HQ, HB⟩ := hrel
    by_cases hlt : k < 3
    · have hL9 := blk_below H4.out.2.2.1 HB.out
      obtain ⟨s, hs⟩ : ∃ s, L3[k]? = some s := ⟨_, List.getElem?_eq_getElem (by rw [HL3.out]; exact hlt)⟩
      have hcs : wr.cell? ⟨W2.heap.size, k, none⟩ = some (.string s) ∧ s.size ≤ 1000000 := by
        rw [HL3.out] at hs
        have h3 : k = 0 ∨ k = 1 ∨ k = 2 := by omega
        rcases h3 with rfl | rfl | rfl
        · injection hs with hs; subst hs; exact ⟨blk_cell hL9 0, HZS.out.1⟩
        · injection hs with hs; subst hs; exact ⟨blk_cell hL9 1, HZS.out.2.1⟩
        · injection hs with hs; subst hs; exact ⟨blk_cell hL9 2, HZS.out.2.2⟩
      obtain ⟨c9, hs9⟩ := hcs
      have lL : W2.heap.size < wr.heap.size := blk_lt hL9
      have HTK : Hid ((L3.take (k + 1)).all okS = ((L3.take k).all okS && okS s)) := Lib.hid (by rw [List.take_add_one, hs]; simp)
      have hw1 : IntKind.i64.wrap ((k : Int) + 1) = ((k + 1 : Nat) : Int) := by rw [IntWalk.i64_in _ (by omega)]; omega
      have hk3 : (k : Int) < 3 := by omega
      clear hL9 hs
      cases q
      · have HQ2 : Hid (false = (ok && (L3.take (k + 1)).all okS)) := Lib.hid (by rw [HTK.out, ← Bool.and_assoc, ← HQ.out]; rfl)
        go_wp2
        go_roundw
        case rel => exact ⟨k + 1, false, by omega, by go_num, rfl, HQ2, HB⟩
        case measure => simp [intOf]; omega
      · by_cases h0 : s.size = 0
        · obtain rfl := ba_empty h0
          have HQ2 : Hid (true = (ok && (L3.take (k + 1)).all okS)) := Lib.hid (by rw [HTK.out, ← Bool.and_assoc, ← HQ.out]; rfl)
          clear h0 hs9
          go_wp2
          go_roundw
          case rel => exact ⟨k + 1, true, by omega, by go_num, rfl, HQ2, HB⟩
          case measure => simp [intOf]; omega
        · have HQ2 : Hid (keyB s = (ok && (L3.take (k + 1)).all okS)) := Lib.hid (by rw [HTK.out, ← Bool.and_assoc, ← HQ.out, okS_ne (by omega)]; rfl)
          obtain ⟨e1, e2⟩ := ba_ne h0
          have HKY := Lib.hid (Key_any s wr (by omega))
          clear h0 hs9
          go_wp2_with fail
          refine HKY.out.mono ?_
          rintro e w9 ⟨rfl, hb9⟩
          have HB9 := Lib.hid (Bl.trans HB.out hb9)
          obtain ⟨q9, hq9⟩ : ∃ q9, q9 = keyB s := ⟨_, rfl⟩
          rw [← hq9] at HQ2 ⊢
          clear hb9 hq9 HKY
          go_wp2
          go_roundw
          case rel => exact ⟨k + 1, q9, by omega, by go_num, rfl, HQ2, HB9⟩
          case measure => simp [intOf]; omega
    · obtain rfl : k = 3 := by omega
      have HQ2 : Hid (q = (frFd m ((x :: r).map bsOf)).isSome) := Lib.hid (by
        rw [HQ.out, ← HLAW.out.1, HL3.out]
        show (ok && ([fd, fr, fb].all okS)) = _
        simp [Bool.and_assoc])
      have hA9 := blk_below H4.out.1 HB.out
      have hR9 := blk_below H4.out.2.1 HB.out
      have hB9 := Bl.trans H4.out.2.2.2 HB.out
      have n0 : wr.cell? ⟨A, 0, none⟩ = some (.int .i64 ft) := blk_cell hA9 0
      have n1 : wr.cell? ⟨A, 1, none⟩ = some (.int .i64 fk) := blk_cell hA9 1
      have n2 : wr.cell? ⟨A, 2, none⟩ = some (.string fd) := blk_cell hA9 2
      have n3 : wr.cell? ⟨A, 3, none⟩ = some (.string fr) := blk_cell hA9 3
      have n4 : wr.cell? ⟨A, 4, none⟩ = some (.int .i64 nv) := blk_cell hA9 4
      have n5 : wr.cell? ⟨A, 5, none⟩ = some (.string fb) := blk_cell hA9 5
      have lA9 : A < wr.heap.size := blk_lt hA9
      have k0 : wr.cell? ⟨w.heap.size, 0, none⟩ = some (.int .i64 0) := blk_cell hR9 0
      have k1 : wr.cell? ⟨w.heap.size, 1, none⟩ = some (.int .i64 0) := blk_cell hR9 1
      have k2 : wr.cell? ⟨w.heap.size, 2, none⟩ = some (.string ⟨#[]⟩) := blk_cell hR9 2
      have k3 : wr.cell? ⟨w.heap.size, 3, none⟩ = some (.string ⟨#[]⟩) := blk_cell hR9 3
      have k4 : wr.cell? ⟨w.heap.size, 4, none⟩ = some (.int .i64 0) := blk_cell hR9 4
      have k5 : wr.cell? ⟨w.heap.size, 5, none⟩ = some (.string ⟨#[]⟩) := blk_cell hR9 5
      have q0 := blk_free hR9 0
      have q1 := blk_free hR9 1
      have q2 := blk_free hR9 2
      have q3 := blk_free hR9 3
      have q4 := blk_free hR9 4
      have q5 := blk_free hR9 5
      have lR9 : w.heap.size < wr.heap.size := blk_lt hR9
      have HZ9 : Hid (((((((wr.setCell ⟨w.heap.size, 0, none⟩ (.int .i64 ft)).setCell ⟨w.heap.size, 1, none⟩ (.int .i64 fk)).setCell ⟨w.heap.size, 2, none⟩ (.string fd)).setCell ⟨w.heap.size, 3, none⟩ (.string fr)).setCell ⟨w.heap.size, 4, none⟩ (.int .i64 nv)).setCell ⟨w.heap.size, 5, none⟩ (.string fb)).heap[w.heap.size]? = some (.cells #[.int .i64 ft, .int .i64 fk, .string fd, .string fr, .int .i64 nv, .string fb] 37 (0, 0)) ∧ Below w.heap.size w ((((((wr.setCell ⟨w.heap.size, 0, none⟩ (.int .i64 ft)).setCell ⟨w.heap.size, 1, none⟩ (.int .i64 fk)).setCell ⟨w.heap.size, 2, none⟩ (.string fd)).setCell ⟨w.heap.size, 3, none⟩ (.string fr)).setCell ⟨w.heap.size, 4, none⟩ (.int .i64 nv)).setCell ⟨w.heap.size, 5, none⟩ (.string fb))) := Lib.hid ⟨(blk_set (blk_set (blk_set (blk_set (blk_set (blk_set hR9 0 (.int .i64 ft)) 1 (.int .i64 fk)) 2 (.string fd)) 3 (.string fr)) 4 (.int .i64 nv)) 5 (.string fb)), (Bl.set (Bl.set (Bl.set (Bl.set (Bl.set (Bl.set hB9 w.heap.size 0 (Nat.le_refl _) (.int .i64 ft)) w.heap.size 1 (Nat.le_refl _) (.int .i64 fk)) w.heap.size 2 (Nat.le_refl _) (.string fd)) w.heap.size 3 (Nat.le_refl _) (.string fr)) w.heap.size 4 (Nat.le_refl _) (.int .i64 nv)) w.heap.size 5 (Nat.le_refl _) (.string fb))⟩
      clear hA9 hR9 hB9
      go_wp2
      obtain ⟨hZ, hbZ⟩ := HZ9.out
      generalize ((((((wr.setCell ⟨w.heap.size, 0, none⟩ (.int .i64 ft)).setCell ⟨w.heap.size, 1, none⟩ (.int .i64 fk)).setCell ⟨w.heap.size, 2, none⟩ (.string fd)).setCell ⟨w.heap.size, 3, none⟩ (.string fr)).setCell ⟨w.heap.size, 4, none⟩ (.int .i64 nv)).setCell ⟨w.heap.size, 5, none⟩ (.string fb)) = W9 at *
      have r0 : W9.cell? ⟨w.heap.size, 0, none⟩ = some (.int .i64 ft) := blk_cell hZ 0
      have r1 : W9.cell? ⟨w.heap.size, 1, none⟩ = some (.int .i64 fk) := blk_cell hZ 1
      have r2 : W9.cell? ⟨w.heap.size, 2, none⟩ = some (.string fd) := blk_cell hZ 2
      have r3 : W9.cell? ⟨w.heap.size, 3, none⟩ = some (.string fr) := blk_cell hZ 3
      have r4 : W9.cell? ⟨w.heap.size, 4, none⟩ = some (.int .i64 nv) := blk_cell hZ 4
      have r5 : W9.cell? ⟨w.heap.size, 5, none⟩ = some (.string fb) := blk_cell hZ 5
      refine bodyPost_ret (v := .tuple #[.agg #[.int .i64 ft, .int .i64 fk, .string fd, .string fr, .int .i64 nv, .string fb], .bool q]) (by simp [results, Tryz.results65, go_sem, r0, r1, r2, r3, r4, r5]) rfl ?_
      have hft : ft = 0 := HFO.out.at0
      subst hft
      exact ⟨(0, fk, fd, fr, nv, fb), by rw [HQ2.out] <;> rfl, HLAW.out.2, hbZ⟩
end Go.Proofs.YtilhonppgedoiaaGreatDoor
