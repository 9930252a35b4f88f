/- Plain law: what is used from feeders in a window, by events (the program) and by what was taken (the reference). No conditions. · Windows: Has, IsWindow, WindowFault. No conditions. · Used of package reel: what was used from feeders within a window. Conditions: at most 900 events; what lies in the library (TxW). · slices.SortFunc at pairs: at most twelve of them: the insertion sort alone. No further conditions. · Pairs of names and numbers: slices.SortFunc of at most twelve, the reference's pairs, slices.Equal. Conditions: the library's table of powers of ten. · Plain law: what is used from feeders: few feeders, small numbers. No conditions. · The reference's UsedOf. Conditions: right reels and events, at most twenty-four events; a window that may be asked for; what lies in the library (TxW). -/
import Derived.Test.YtcfeoapbbkfbnaaGreatDoorRh2
import Derived.Test.YtcfeoapbbkfbnaaGreatDoorReD
import Derived.Test.YtcfeoapbbkfbnaaGreatDoorSk
import Derived.Test.YtcfeoapbbkfbnaaGreatDoorSpan
import Derived.Test.YtcfeoapbbkfbnaaGreatDoorStep
import Derived.Test.YtcfeoapbbkfbnaaGreatDoorRp1
import Derived.Test.YtcfeoapbbkfbnaaGreatDoorTcl
import Derived.Test.YtcfeoapbbkfbnaaGreatDoorIter
import Derived.Test.YtcfeoapbbkfbnaaGreatDoorRec
import Derived.Test.YtcfeoapbbkfbnaaGreatDoorShelf
import Derived.Test.YtcfeoapbbkfbnaaGreatDoorStrs
import Derived.Test.YtcfeoapbbkfbnaaGreatDoorSortRow
import Derived.Test.YtcfeoapbbkfbnaaGreatDoorSrtP
import Derived.Maps.RangeWalk
import Derived.Test.YtcfeoapbbkfbnaaGreatDoorReY
namespace Go.Proofs.YtcfeoapbbkfbnaaGreatDoor
open Go.RowKit Go.Sort Go.Maps

def addU (m : Sm Int) (k : ByteArray) (n : Int) : Sm Int := m.put k.data.toList ((m.get k.data.toList).getD 0 + n)
def winB (lo hi t : Int) : Bool := decide (lo ≤ t) && decide (t < hi)
/-- what was used, as the log tells. -/
def usedL (lo hi : Int) : Sm Int → List Tkn → Sm Int
  | m, [] => m
  | m, t :: l => usedL lo hi (if winB lo hi t.2.1 = true then addU m t.2.2.2.1 t.2.2.2.2.2 else m) l
theorem usedL_app (lo hi : Int) : ∀ (a b : List Tkn) (m : Sm Int), usedL lo hi m (a ++ b) = usedL lo hi (usedL lo hi m a) b
  | [], _, _ => rfl
  | t :: a, b, m => by rw [List.cons_append, usedL, usedL, usedL_app lo hi a b]
theorem Sm.Ok.addU {m : Sm Int} (h : Sm.Ok m) (k : ByteArray) (n : Int) : Sm.Ok (addU m k n) := h.put _ _
theorem usedL_ok (lo hi : Int) : ∀ (l : List Tkn) (m : Sm Int), Sm.Ok m → Sm.Ok (usedL lo hi m l)
  | [], _, h => h
  | t :: l, m, h => by
    rw [usedL]
    refine usedL_ok lo hi l _ ?_
    split
    · exact h.addU _ _
    · exact h
theorem addU_two {m : Sm Int} (h : Sm.Ok m) (k : ByteArray) (a b : Int) : addU (addU m k a) k b = addU m k (a + b) := by
  unfold addU
  rw [Sm.get_put_same, Sm.put_put h]
  show m.put _ ((m.get k.data.toList).getD 0 + a + b) = m.put _ ((m.get k.data.toList).getD 0 + (a + b))
  rw [Int.add_assoc]
theorem usedL_out (lo hi : Int) (i : Int) (e : Fed) (hw : winB lo hi e.at = false) : ∀ (lg : List (ByteArray × Int)) (m : Sm Int), usedL lo hi m (lg.map fun p => (i, e.at, e.bd, e.fd, p.1, p.2)) = m
  | [], _ => rfl
  | p :: l, m => by
    rw [List.map_cons, usedL]
    show usedL lo hi (if winB lo hi e.at = true then _ else m) _ = m
    rw [if_neg (by rw [hw]; decide)]
    exact usedL_out lo hi i e hw l m
theorem usedL_in (lo hi : Int) (i : Int) (e : Fed) (hw : winB lo hi e.at = true) : ∀ (lg : List (ByteArray × Int)) (m : Sm Int), Sm.Ok m → lg ≠ [] → usedL lo hi m (lg.map fun p => (i, e.at, e.bd, e.fd, p.1, p.2)) = addU m e.fd (lgS lg)
  | [], _, _, h => absurd rfl h
  | [p], m, hm, _ => by
    show (if winB lo hi e.at = true then addU m e.fd p.2 else m) = addU m e.fd (p.2 + 0)
    rw [if_pos hw, Int.add_zero]
  | p :: q :: l, m, hm, _ => by
    have ih := usedL_in lo hi i e hw (q :: l) (addU m e.fd p.2) (hm.addU _ _) (by simp)
    show usedL lo hi (if winB lo hi e.at = true then addU m e.fd p.2 else m) ((q :: l).map fun p => (i, e.at, e.bd, e.fd, p.1, p.2)) = addU m e.fd (p.2 + lgS (q :: l))
    rw [if_pos hw, ih, addU_two hm]
theorem takeO_sum : ∀ (n : Nat) (left : Lf) (l : List ByteArray) (log : List (ByteArray × Int)), l.Nodup → (n : Int) ≤ sumL left l → lgS (takeO n left l log).2.2 = lgS log + n
  | 0, _, _, log, _, _ => by show lgS log = lgS log + 0; omega
  | n + 1, left, l, log, hn, hs => by
    have hds := dropE_sum left l
    cases hd : dropE left l with
    | nil =>
      rw [hd] at hds
      have : sumL left ([] : List ByteArray) = 0 := rfl
      omega
    | cons k r =>
      rw [takeO_next hd]
      have hnd : (k :: r).Nodup := by rw [← hd]; exact hn.sublist (dropE_suffix left l).sublist
      rw [hd] at hds
      rw [takeO_sum n _ (k :: r) _ hnd (by rw [sumL_low hnd (List.mem_cons_self ..)]; omega), lgS_addT]
      omega
/-- an event that is done adds to what is used just if it is a use within the window. -/
theorem used_step {lo hi : Int} {A : Mdl} {n : Nat} (h : InvM A n) {e : Fed} (he : FedR e) (i : Int) : usedL lo hi [] (stepM A i e).log = if refM A e = 0 ∧ e.kd = 4 ∧ winB lo hi e.at = true then addU (usedL lo hi [] A.log) e.fd e.mn else usedL lo hi [] A.log := by
  unfold stepM
  by_cases h0 : refM A e = 0
  case neg => rw [if_neg h0, if_neg (fun q => h0 q.1)]
  rw [if_pos h0]
  by_cases h4 : e.kd = 4
  case neg =>
    rw [if_neg (fun q => h4 q.2.1)]
    unfold doM
    split
    · rfl
    split
    · rfl
    · rfl
  have hd : (doM A i e).log = A.log ++ logU i e (useT A e).2.2 := by
    unfold doM
    rw [if_neg (by omega), if_neg (by omega), if_pos h4]
  rw [hd, usedL_app]
  have hr := h0
  unfold refM at hr
  rw [if_neg (by omega), if_neg (by omega), if_neg (by omega), if_pos h4] at hr
  split at hr
  · cases hr
  split at hr
  · cases hr
  rename_i hs
  have hm := he.use h4
  have hsum : lgS (useT A e).2.2 = e.mn := by
    have := takeO_sum e.mn.toNat A.left (A.row e.fd) [] (h.nd _) (by omega)
    unfold useT
    rw [this]
    show 0 + (e.mn.toNat : Int) = e.mn
    omega
  have hne : (useT A e).2.2 ≠ [] := fun q => by
    rw [q] at hsum
    have : lgS [] = 0 := rfl
    omega
  have hok := usedL_ok lo hi A.log [] Sm.Ok.nil
  unfold logU
  by_cases hw : winB lo hi e.at = true
  · rw [if_pos ⟨h0, h4, hw⟩, usedL_in lo hi i e hw _ _ hok (by simpa using hne), lgS_rev, hsum]
  · rw [if_neg (fun q => hw q.2.2), usedL_out lo hi i e (by simpa using hw)]
/-- all that is used is small. -/
theorem addU_bd {m : Sm Int} {B : Int} (h : ∀ p ∈ m, 0 ≤ p.2 ∧ p.2 ≤ B) (hB : 0 ≤ B) (k : ByteArray) {n c : Int} (h0 : 0 ≤ n) (hn : n ≤ c) : ∀ p ∈ addU m k n, 0 ≤ p.2 ∧ p.2 ≤ B + c := fun p hp => by
  have hg : 0 ≤ (m.get k.data.toList).getD 0 ∧ (m.get k.data.toList).getD 0 ≤ B := by
    cases hg : m.get k.data.toList with
    | none => exact ⟨Int.le_refl _, hB⟩
    | some v => exact h _ (Sm.get_mem hg)
  unfold addU at hp
  rcases (Sm.ins_mem p).1 hp with rfl | hp
  · simp only; omega
  · have := h p (List.mem_filter.1 hp).1; omega
theorem addU_len (m : Sm Int) (k : ByteArray) (n : Int) : (addU m k n).length ≤ m.length + 1 := Sm.put_le m _ _
end Go.Proofs.YtcfeoapbbkfbnaaGreatDoor
namespace Go.Proofs.YtcfeoapbbkfbnaaGreatDoor
open Go.RowKit Go.Sort Go.Maps

theorem winB_f1 {lo hi t : Int} (h : ¬ lo ≤ t) : winB lo hi t = false := by unfold winB; simp [h]
theorem winB_f2 {lo hi t : Int} (h : ¬ t < hi) : winB lo hi t = false := by unfold winB; simp [h]
theorem winB_t {lo hi t : Int} (h : lo ≤ t) (h2 : t < hi) : winB lo hi t = true := by unfold winB; simp [h, h2]
set_option maxHeartbeats 2000000 in
theorem Has_any (lo hi t : Int) (w : World) : Calls Tryz.prog 100 #[.agg #[.int .i64 lo, .int .i64 hi], .int .i64 t] w fun e w' => e = .returned (.bool (winB lo hi t)) ∧ Below w.heap.size w w' := by
  have hb0 := Bl.alloc (Below.refl w.heap.size w) (.cells #[.int .i64 lo, .int .i64 hi] 95)
  by_cases h1 : lo ≤ t
  · by_cases h2 : t < hi
    · have E := Lib.hid (winB_t h1 h2)
      go_enter Tryz.func100, Tryz.ntmps100
      go_wp2
      go_ret
      exact ⟨ret_bool E.out.symm, hb0⟩
    · have E := Lib.hid (winB_f2 (lo := lo) h2)
      go_enter Tryz.func100, Tryz.ntmps100
      go_wp2
      go_ret
      exact ⟨ret_bool E.out.symm, hb0⟩
  · have E := Lib.hid (winB_f1 (hi := hi) h1)
    go_enter Tryz.func100, Tryz.ntmps100
    go_wp2
    go_ret
    exact ⟨ret_bool E.out.symm, hb0⟩
/-- a window that may be asked for. -/
def isWB (lo hi : Int) : Bool := inB 0 lo hi && decide (hi ≤ 345686400000)
set_option maxHeartbeats 2000000 in
theorem IsWindow_any (lo hi : Int) (w : World) : Calls Tryz.prog 98 #[.agg #[.int .i64 lo, .int .i64 hi]] w fun e w' => e = .returned (.bool (isWB lo hi)) ∧ Below w.heap.size w w' := by
  have hb0 := Bl.alloc (Below.refl w.heap.size w) (.cells #[.int .i64 lo, .int .i64 hi] 95)
  obtain ⟨q, hq⟩ : ∃ q, q = inB 0 lo hi := ⟨_, rfl⟩
  have HQ := Lib.hid hq
  clear hq
  by_cases h2 : hi ≤ 345686400000
  · have E : Hid (isWB lo hi = q) := Lib.hid (by unfold isWB; rw [HQ.out, decide_eq_true h2, Bool.and_true])
    cases q
    all_goals (
      go_enter Tryz.func98, Tryz.ntmps98
      go_wp2_with (go_at_call 76; refine (Outside_any _ _ _ _).mono ?_; rintro e w' ⟨rfl, rfl⟩; rw [← HQ.out])
      go_ret
      exact ⟨ret_bool E.out.symm, hb0⟩)
  · have E : Hid (isWB lo hi = false) := Lib.hid (by unfold isWB; rw [decide_eq_false h2, Bool.and_false])
    cases q
    all_goals (
      go_enter Tryz.func98, Tryz.ntmps98
      go_wp2_with (go_at_call 76; refine (Outside_any _ _ _ _).mono ?_; rintro e w' ⟨rfl, rfl⟩; rw [← HQ.out])
      go_ret
      first | exact ⟨ret_bool E.out.symm, hb0⟩ | exact ⟨ret_bool (by rw [E.out]; exact decide_eq_false (by omega)), hb0⟩)
/-- why a window may not be asked for. -/
def winF (lo hi : Int) : Int := if isWB lo hi = true then 0 else 1
theorem win_or (lo hi : Int) : orF [spanF lo 0 hi, spanF hi 0 345686400000] = winF lo hi := by
  unfold winF isWB spanF inB
  by_cases h1 : 0 ≤ lo <;> by_cases h2 : lo ≤ hi <;> by_cases h3 : hi ≤ 345686400000 <;> by_cases h4 : 0 ≤ hi <;> simp [h1, h2, h3, h4, orF] <;> omega
set_option maxHeartbeats 4000000 in
theorem WindowFault_any (lo hi : Int) (w : World) : Calls Tryz.prog 54 #[.agg #[.int .i64 lo, .int .i64 hi]] w fun e w' => e = .returned (.int .i64 (winF lo hi)) ∧ Below w.heap.size w w' := by
  have HOR : Hid (∀ (U : World) (g : Nat), U.heap[g]? = some (.cells #[.int .i64 (spanF lo 0 hi), .int .i64 (spanF hi 0 345686400000)] 35 (0, 0)) → Calls Tryz.prog 21 #[.slice (some ⟨g, 0, none⟩) 2 2] U fun e w' => e = .returned (.int .i64 (winF lo hi)) ∧ U = w') := Lib.hid fun U g hg => by
    rw [← win_or]
    exact (OrErrno_any [spanF lo 0 hi, spanF hi 0 345686400000] (.slice (some ⟨g, 0, none⟩) 2 2) U (by simp) (Ints.of_blk hg rfl rfl (Nat.le_refl _) (by omega) (Nat.zero_le _))).mono fun e w' ⟨h1, h2⟩ => ⟨h1, h2.symm⟩
  obtain ⟨w0, hw0⟩ : ∃ w0, w0 = w.alloc (.cells #[.int .i64 lo, .int .i64 hi] 95) := ⟨_, rfl⟩
  have hA : Below w.heap.size w w0 := by rw [hw0]; exact Bl.alloc (Below.refl _ _) _
  have hX : w0.heap[w.heap.size]? = some (.cells #[.int .i64 lo, .int .i64 hi] 95 (0, 0)) := by rw [hw0]; exact blk_new w _
  have c0 : w0.cell? ⟨w.heap.size, 0, none⟩ = some (.int .i64 lo) := blk_cell hX 0
  have c1 : w0.cell? ⟨w.heap.size, 1, none⟩ = some (.int .i64 hi) := blk_cell hX 1
  have lX := blk_lt hX
  have HA := Lib.hid hA
  clear hX hA
  go_enter Tryz.func54, Tryz.ntmps54
  go_wp2
  rw [← hw0]
  clear hw0
  go_region_with (first
    | (go_at_call 26; refine (SpanFault_any _ _ _ _).mono ?_; rintro e w' ⟨rfl, rfl⟩)
    | (go_at_call 21; refine (HOR.out _ _ (by first | exact blk_new _ _ | exact blk_new w0.drew _ | exact blk_new w0 _)).mono ?_; rintro e w' ⟨rfl, rfl⟩))
  all_goals (
    go_wp2
    go_ret
    exact ⟨rfl, by first | exact Bl.alloc (Below.drew HA.out) _ | exact Below.drew (Bl.alloc HA.out _)⟩)
end Go.Proofs.YtcfeoapbbkfbnaaGreatDoor
namespace Go.Proofs.YtcfeoapbbkfbnaaGreatDoor
open Go.RowKit Go.Sort Go.Maps

abbrev PrQ := ByteArray × ByteArray
def TPrQ : Rty PrQ := { e := 106, S := 33, k := 2, b := 32, z := .agg #[.string ByteArray.empty, .string ByteArray.empty], f := fun s => [.string s.1, .string s.2] }
theorem TPrQ.okQ : TPrQ.Ok := ⟨by kernel_rfl, Tryz.underlying33, rfl, by decide, fun _ => rfl, fun x u hu => by simp [TPrQ] at hu; rcases hu with rfl | rfl <;> rfl, by decide⟩
def itBQ (n : Int) : ByteArray := ⟨(Lib.itoa n).toArray⟩
def prOfQ (p : Bs × Int) : PrQ := (baOf p.1, itBQ p.2)
def usedM (rs : List Rel) (l : List Fed) (lo hi : Int) : Sm Int := usedL lo hi [] (runM 345686400000 (newM rs) 0 l).log
/-- what the closure of Used keeps. -/
structure UsJ (lo hi : Int) (F Wn M mb : Nat) (lv : Value) (B0 : Nat) (w0 : World) (k : Nat) (A : Mdl) (W : World) : Prop where
  inv : InvM A k
  f : W.heap[F]? = some (.cells #[lv] 28 (0, 0))
  n : W.heap[Wn]? = some (.cells #[.int .i64 lo, .int .i64 hi] 95 (0, 0))
  m : W.heap[M]? = some (.cells #[.map (some mb)] 128 (0, 0))
  mp : MapS TMi W mb (usedL lo hi [] A.log)
  bd : ∀ p ∈ usedL lo hi [] A.log, 0 ≤ p.2 ∧ p.2 ≤ 100000 * k
  nm : ∀ p ∈ usedL lo hi [] A.log, p.1.length ≤ 1000
  few : (usedL lo hi [] A.log).length ≤ k
  bel : Below B0 w0 W
theorem addU_nm {m : Sm Int} (h : ∀ p ∈ m, p.1.length ≤ 1000) {k : ByteArray} (hk : k.size ≤ 1000) (n : Int) : ∀ p ∈ addU m k n, p.1.length ≤ 1000 := fun p hp => by
  unfold addU at hp
  rcases (Sm.ins_mem p).1 hp with rfl | hp
  · show k.data.toList.length ≤ 1000
    simpa using hk
  · exact h p (List.mem_filter.1 hp).1
theorem val_bd {m : Sm Int} {B : Int} (h : ∀ p ∈ m, 0 ≤ p.2 ∧ p.2 ≤ B) (hB : 0 ≤ B) (k : Bs) : 0 ≤ (m.get k).getD 0 ∧ (m.get k).getD 0 ≤ B := by
  cases hg : m.get k with
  | none => exact ⟨Int.le_refl _, hB⟩
  | some v => exact h _ (Sm.get_mem hg)
/-- what an event adds. -/
def usS (lo hi R : Int) (e : Fed) (m : Sm Int) : Sm Int := if R = 0 ∧ e.kd = 4 ∧ winB lo hi e.at = true then addU m e.fd e.mn else m
theorem usS_no {lo hi R : Int} {e : Fed} {m : Sm Int} (h : ¬ (R = 0 ∧ e.kd = 4 ∧ winB lo hi e.at = true)) : usS lo hi R e m = m := if_neg h
theorem usS_yes {lo hi R : Int} {e : Fed} {m : Sm Int} (h : R = 0 ∧ e.kd = 4 ∧ winB lo hi e.at = true) : usS lo hi R e m = addU m e.fd e.mn := if_pos h
theorem gr_self (W : World) (s : Option Nat) {W' : World} (h : Below W.heap.size W W') : W.grownBy W' s := Gr.of_below h s
set_option maxHeartbeats 4000000 in
set_option maxRecDepth 100000 in
theorem UsedR1_any (k : Nat) (R : Int) (l : List Fed) (e : Fed) (F Wn M mb : Nat) (lo hi : Int) (m : Sm Int) (v : Value) (W : World) (he : l[k]? = some e) (hf : W.heap[F]? = some (.cells #[v] 28 (0, 0))) (hn : W.heap[Wn]? = some (.cells #[.int .i64 lo, .int .i64 hi] 95 (0, 0))) (hm : W.heap[M]? = some (.cells #[.map (some mb)] 128 (0, 0)))
    (rl : RecR TFe W 0 v l) (hM : MapS TMi W mb m) (her : FedR e) (hbd : ∀ p ∈ m, 0 ≤ p.2 ∧ p.2 ≤ 1000000000) (hfew : m.length ≤ 1000000) :
    Calls Tryz.prog 99 #[.int .i64 k, .int .i64 R, .pointer (some ⟨F, 0, none⟩), .pointer (some ⟨Wn, 0, none⟩), .pointer (some ⟨M, 0, none⟩)] W fun r w' => r = .returned (.tuple #[]) ∧ MapS TMi w' mb (usS lo hi R e m) ∧ W.grownBy w' (some mb) := by
  obtain ⟨la, lc, rfl, _, _⟩ := rl.form
  obtain ⟨b1, o1, hae, _, hb1, hc1⟩ := rl.at TFe.ok.len he TFe.ok.pos
  subst hae
  have hkl := (List.getElem?_eq_some_iff.1 he).1
  have HER := Lib.hid her
  have HBD := Lib.hid (And.intro hbd hfew)
  obtain ⟨t, kd, fd, rk, mn, bd⟩ := e
  have c0 : W.cell? ⟨b1, o1 + k * 6, none⟩ = some (.int .i64 t) := hc1 0 _ rfl
  have c1 : W.cell? ⟨b1, o1 + k * 6 + 1, none⟩ = some (.int .i64 kd) := hc1 1 _ rfl
  have c2 : W.cell? ⟨b1, o1 + k * 6 + 2, none⟩ = some (.string fd) := hc1 2 _ rfl
  have c3 : W.cell? ⟨b1, o1 + k * 6 + 3, none⟩ = some (.string rk) := hc1 3 _ rfl
  have c4 : W.cell? ⟨b1, o1 + k * 6 + 4, none⟩ = some (.int .i64 mn) := hc1 4 _ rfl
  have c5 : W.cell? ⟨b1, o1 + k * 6 + 5, none⟩ = some (.string bd) := hc1 5 _ rfl
  have f0 : W.cell? ⟨F, 0, none⟩ = some (.slice (some ⟨b1, o1, none⟩) l.length lc) := blk_cell hf 0
  have n0 : W.cell? ⟨Wn, 0, none⟩ = some (.int .i64 lo) := blk_cell hn 0
  have n1 : W.cell? ⟨Wn, 1, none⟩ = some (.int .i64 hi) := blk_cell hn 1
  have lF := blk_lt hf
  have lW := blk_lt hn
  obtain ⟨W1, hW1⟩ : ∃ W1, W1 = W.alloc (.cells #[.int .i64 t, .int .i64 kd, .string fd, .string rk, .int .i64 mn, .string bd] 76) := ⟨_, rfl⟩
  have hb : Below W.heap.size W W1 := by rw [hW1]; exact Bl.alloc (Below.refl _ _) _
  have HB := Lib.hid hb
  have HM := Lib.hid hM
  have HX : Hid (W1.heap[W.heap.size]? = some (.cells #[.int .i64 t, .int .i64 kd, .string fd, .string rk, .int .i64 mn, .string bd] 76 (0, 0))) := Lib.hid (by rw [hW1]; exact blk_new W _)
  have HMB := Lib.hid hm
  have HW1 := Lib.hid hW1
  clear hb hM hm hf hn her hbd hfew he rl hc1 hb1 hW1
  by_cases h0 : R = 0
  case neg =>
    have hr : (R == 0) = false := by simp [h0]
    have HR : Hid (usS lo hi R (t, kd, fd, rk, mn, bd) m = m) := Lib.hid (usS_no fun q => h0 q.1)
    go_enter Tryz.func99, Tryz.ntmps99
    go_wp2
    go_end0
    rw [← HW1.out]
    exact ⟨rfl, by rw [HR.out]; exact HM.out.below HB.out, gr_self _ _ HB.out⟩
  subst h0
  by_cases h4 : kd = 4
  case neg =>
    have hr : (kd == 4) = false := by simp [h4]
    have HR : Hid (usS lo hi 0 (t, kd, fd, rk, mn, bd) m = m) := Lib.hid (usS_no fun q => h4 q.2.1)
    go_enter Tryz.func99, Tryz.ntmps99
    go_wp2
    go_end0
    rw [← HW1.out]
    exact ⟨rfl, by rw [HR.out]; exact HM.out.below HB.out, gr_self _ _ HB.out⟩
  subst h4
  cases hw : winB lo hi t
  case false =>
    have HW := Lib.hid hw
    have HR : Hid (usS lo hi 0 (t, 4, fd, rk, mn, bd) m = m) := Lib.hid (usS_no fun q => by have q2 : winB lo hi t = true := q.2.2; rw [hw] at q2; cases q2)
    clear hw
    go_enter Tryz.func99, Tryz.ntmps99
    go_wp2_with fail
    rw [← HW1.out]
    refine (Has_any lo hi t W1).mono ?_
    rintro e w3 ⟨rfl, hb3⟩
    rw [HW.out]
    have HB3 := Lib.hid (Bl.trans HB.out hb3)
    clear hb3
    go_wp2
    go_end0
    exact ⟨rfl, by rw [HR.out]; exact HM.out.below HB3.out, gr_self _ _ HB3.out⟩
  case true =>
    have HW := Lib.hid hw
    have HR : Hid (usS lo hi 0 (t, 4, fd, rk, mn, bd) m = addU m fd mn) := Lib.hid (usS_yes ⟨rfl, rfl, hw⟩)
    clear hw
    go_enter Tryz.func99, Tryz.ntmps99
    go_wp2_with fail
    rw [← HW1.out]
    refine (Has_any lo hi t W1).mono ?_
    rintro e w3 ⟨rfl, hb3⟩
    rw [HW.out]
    have hX3 := blk_below HX.out hb3
    have hB3 := Bl.trans HB.out hb3
    have hm3 := blk_below HMB.out hB3
    have hM3 := HM.out.below hB3
    have x2 : w3.cell? ⟨W.heap.size, 2, none⟩ = some (.string fd) := blk_cell hX3 2
    have x4 : w3.cell? ⟨W.heap.size, 4, none⟩ = some (.int .i64 mn) := blk_cell hX3 4
    have m0 : w3.cell? ⟨M, 0, none⟩ = some (.map (some mb)) := blk_cell hm3 0
    have lX := blk_lt hX3
    have lM := blk_lt hm3
    have hfd : fd.size ≤ maxLen := by have h : fd.size ≤ 1000 := HER.out.fd; unfold maxLen; omega
    obtain ⟨rb, hrb⟩ : ∃ rb, rb = (m.get fd.data.toList).getD 0 := ⟨_, rfl⟩
    have hrbb := val_bd HBD.out.1 (by omega) fd.data.toList
    rw [← hrb] at hrbb
    have hmn : 0 ≤ mn ∧ mn ≤ 100000 := ⟨HER.out.m0, HER.out.m1⟩
    have hlk : (Instr.lookup 128 (.map (some mb)) (.string fd) false).run Tryz.prog w3 = .ok (.int .i64 rb) w3 := by
      rw [hrb]; exact hM3.look TMi.ok fd hfd
    obtain ⟨w4, hup, hM4, ht4⟩ := MapS.put hM3 TMi.ok fd hfd (rb + mn) (by unfold maxLen; have := HBD.out.2; omega)
    have hup2 : (Instr.mapUpdate 128 (.map (some mb)) (.string fd) (.int .i64 (rb + mn))).run Tryz.prog w3 = .ok () w4 := hup
    have hwr : IntKind.i64.wrap (rb + mn) = rb + mn := IntWalk.i64_in _ (by omega)
    have HF : Hid (MapS TMi w4 mb (addU m fd mn) ∧ W.grownBy w4 (some mb)) := Lib.hid ⟨by unfold addU; rw [← hrb]; exact hM4, Gr.trans (gr_self W (some mb) hB3) ht4.grown⟩
    clear hup hM4 ht4 hX3 hB3 hm3 hM3 hb3 hrb hrbb hmn
    go_wp2
    go_end0
    exact ⟨rfl, by rw [HR.out]; exact HF.out.1, HF.out.2⟩
theorem KfGr {B0 B b : Nat} {w w' : World} (h : w.grownBy w' (some b)) (h0 : B0 ≤ b) (h1 : b < B) : Kf B0 B w w' :=
  ⟨h.os, h.tape, h.output, h.size, fun i hi hx => h.block i hi fun e => by
    injection e with e
    rcases hx with hx | hx <;> omega⟩
/-- what ClD asks of the closure of Used. -/
theorem used_cl (l : List Fed) (lo hi : Int) (F Wn M mb : Nat) (v : Value) (B0 : Nat) (w0 : World) (hB : B0 ≤ w0.heap.size) (hF : F < w0.heap.size) (hN : Wn < w0.heap.size) (hM : M < w0.heap.size) (hm : mb < w0.heap.size) (bm : B0 ≤ mb) (nF : F ≠ mb) (nN : Wn ≠ mb) (nM : M ≠ mb)
    (rl : ∀ W, Below B0 w0 W → RecR TFe W 0 v l) (hl : ∀ e ∈ l, FedR e) (hln : l.length ≤ 900) :
    ClD 99 (fun a b => #[a, b, .pointer (some ⟨F, 0, none⟩), .pointer (some ⟨Wn, 0, none⟩), .pointer (some ⟨M, 0, none⟩)]) l B0 w0 (UsJ lo hi F Wn M mb v B0 w0) where
  st := fun k A W W' hW h hK => by
    exact ⟨h.inv, (hK.block F (by omega) (.inl hF)).trans h.f, (hK.block Wn (by omega) (.inl hN)).trans h.n, (hK.block M (by omega) (.inl hM)).trans h.m, h.mp.keep (hK.block mb (by omega) (.inl hm)), h.bd, h.nm, h.few, h.bel.trans ((hK.below hW).mono hB)⟩
  call := fun k A e W hs hW h => by
    have hkl := (List.getElem?_eq_some_iff.1 hs).1
    have her := hl e (List.mem_of_getElem? hs)
    refine (UsedR1_any k (refM A e) l e F Wn M mb lo hi _ v W hs h.f h.n h.m (rl W h.bel) h.mp her (fun p hp => by have := h.bd p hp; omega) (by have := h.few; omega)).mono ?_
    rintro r w' ⟨rfl, h1, h2⟩
    have hK := KfGr (B0 := B0) (B := w0.heap.size) h2 bm hm
    have hbl : ∀ i, i < w0.heap.size → i ≠ mb → w'.heap[i]? = W.heap[i]? := fun i hi hne => h2.block i (by omega) fun e => by injection e with e; exact hne e
    have hst := used_step (lo := lo) (hi := hi) h.inv her k
    rw [show usS lo hi (refM A e) e (usedL lo hi [] A.log) = usedL lo hi [] (stepM A k e).log from hst.symm] at h1
    refine ⟨rfl, ⟨h.inv.step her k, (hbl F hF nF).trans h.f, (hbl Wn hN nN).trans h.n, (hbl M hM nM).trans h.m, h1, ?_, ?_, ?_, h.bel.trans (hK.below (by omega))⟩, hK⟩
    · rw [hst]
      split
      · rename_i hc
        intro p hp
        have := addU_bd h.bd (by omega) e.fd her.m0 her.m1 p hp
        have e1 : (100000 : Int) * ((k + 1 : Nat) : Int) = 100000 * (k : Int) + 100000 := by omega
        omega
      · intro p hp
        have := h.bd p hp
        omega
    · rw [hst]
      split
      · exact addU_nm h.nm her.fd _
      · exact h.nm
    · rw [hst]
      split
      · have := addU_len (usedL lo hi [] A.log) e.fd e.mn
        have := h.few
        omega
      · have := h.few; omega
/-! the keys of the map, sorted -/
theorem keysI_any (gm : Nat) (W : World) : Calls Tryz.prog 102 #[.map (some gm)] W fun e w' => e = .returned (.func (.func 137) #[] #[.pointer (some ⟨W.heap.size, 0, none⟩)]) ∧ w' = W.alloc (.cells #[.map (some gm)] 128) :=
  callsIn_wide.1 (Tryz.maps_Keys_102 (some gm) W)
theorem sortedI_any (b : Nat) (m : Sm Int) (w : World) (hown : MapS TMi w b m) (hmax : m.length ≤ 1000000) :
    Calls Tryz.prog 101 #[.func (.func 137) #[] #[.pointer (some ⟨w.heap.size, 0, none⟩)]] (w.alloc (.cells #[.map (some b)] 128)) fun e w' => ∃ (v : Value), e = .returned v ∧ OwnR TS w' w.heap.size v (m.keys.map baOf) ∧ Below w.heap.size w w' := by
  have hsz : Maps.size (DataW.map (smD TMi m)) ≤ 1000000 := by show (smD TMi m).length ≤ _; unfold smD; rw [List.length_map]; exact hmax
  refine (callsIn_wide.1 (Tryz.slices_Sorted_keys_101_102 b _ _ _ w hown.2 (by unfold maxLen; omega) (by omega))).mono ?_
  rintro e w' ⟨v, ss, rfl, hS, hrow, hnil, hb⟩
  rw [smD_keys] at hS
  exact ⟨v, rfl, own_keys hown.1 hS (ownsRow_base_a hrow (by simp)), ((Below.refl _ w).alloc (Nat.le_refl _) _).trans (hb.mono (by simp))⟩
theorem keysM_at {α : Type} {m : Sm α} {k : Nat} {p : Bs × α} (h : m[k]? = some p) : (m.keys.map baOf)[k]? = some (baOf p.1) := by
  unfold Sm.keys
  simp [h]
/-- why used components are not told. -/
def usF (F lo hi : Int) : Int := if F = 0 then winF lo hi else F
theorem winF_ok {lo hi : Int} (h : isWB lo hi = true) : winF lo hi = 0 := if_pos h
theorem winF_no {lo hi : Int} (h : isWB lo hi = false) : winF lo hi = 1 := if_neg (by rw [h]; decide)
def usedE (rs : List Rel) (l : List Fed) (lo hi : Int) : List PrQ := if usF (feedsF rs l) lo hi = 0 then (usedM rs l lo hi).map prOfQ else []
theorem usedE_no {rs : List Rel} {l : List Fed} {lo hi : Int} (h : usF (feedsF rs l) lo hi ≠ 0) : usedE rs l lo hi = [] := if_neg h
theorem usedE_ok {rs : List Rel} {l : List Fed} {lo hi : Int} (h : usF (feedsF rs l) lo hi = 0) : usedE rs l lo hi = (usedM rs l lo hi).map prOfQ := if_pos h
set_option maxHeartbeats 8000000 in
set_option maxRecDepth 100000 in
theorem Used_any (rs : List Rel) (l : List Fed) (lo hi : Int) (vr vl : Value) (w : World) (hT : TxW w) (hlr : rs.length ≤ 1000000) (hl : l.length ≤ 900) (rr : RecR TRe w 0 vr rs) (rl : RecR TFe w 0 vl l) (hzr : RelZ rs) (hz : FedZ l) :
    Calls Tryz.prog 53 #[vr, vl, .agg #[.int .i64 lo, .int .i64 hi]] w fun e w' => (∃ v, e = .returned (.tuple #[v, .int .i64 (usF (feedsF rs l) lo hi)]) ∧ OwnR TPrQ w' w.heap.size v (usedE rs l lo hi)) ∧ Below w.heap.size w w' := by
  obtain ⟨ra, rc, rfl, _, _⟩ := rr.form
  obtain ⟨la, lc, rfl, _, _⟩ := rl.form
  obtain ⟨w0, hw0⟩ : ∃ w0, w0 = (w.alloc (.cells #[.slice la l.length lc] 28)).alloc (.cells #[.int .i64 lo, .int .i64 hi] 95) := ⟨_, rfl⟩
  have hb0 : Below w.heap.size w w0 := by rw [hw0]; exact Bl.alloc (Bl.alloc (Below.refl _ _) _) _
  have hF0 : w0.heap[w.heap.size]? = some (.cells #[.slice la l.length lc] 28 (0, 0)) := by rw [hw0]; exact blk_old (blk_new w _) _
  have hN0 : w0.heap[w.heap.size + 1]? = some (.cells #[.int .i64 lo, .int .i64 hi] 95 (0, 0)) := by rw [hw0]; exact blk_new' _ _ (by simp)
  have HF := Lib.hid (CheckFeeds_any rs l _ _ w0 hlr (by omega) (rr.below hb0) (rl.below hb0) hzr hz)
  obtain ⟨F, hF⟩ : ∃ F, F = feedsF rs l := ⟨_, rfl⟩
  obtain ⟨UE, hUE⟩ : ∃ UE, UE = usedE rs l lo hi := ⟨_, rfl⟩
  rw [← hF] at HF ⊢
  rw [← hUE]
  have HFE := Lib.hid hF
  have HUE := Lib.hid hUE
  have RR := Lib.hid rr
  have RL := Lib.hid rl
  have HLN := Lib.hid hl
  have HT := Lib.hid hT
  have HB0 := Lib.hid hb0
  have HX0 := Lib.hid (And.intro hF0 hN0)
  have l0 := blk_lt hF0
  have l1 := blk_lt hN0
  clear hF hUE rr rl hzr hz hl hT hb0 hF0 hN0
  by_cases h0 : F = 0
  case neg =>
    have HE : Hid (usF F lo hi = F) := Lib.hid (if_neg h0)
    have HNO : Hid (UE = []) := Lib.hid (by rw [HUE.out]; exact usedE_no (by rw [← HFE.out, HE.out]; exact h0))
    have hb0 : (F == 0) = false := by simp [h0]
    clear h0
    go_enter Tryz.func53, Tryz.ntmps53
    go_wp2_with fail
    rw [← hw0]
    clear hw0
    refine HF.out.mono ?_
    rintro e w1 ⟨rfl, hb1⟩
    have HB1 := Lib.hid (Bl.trans HB0.out hb1)
    clear hb1
    go_wp2
    go_ret2
    exact ⟨⟨_, by rw [HE.out] <;> rfl, by rw [HNO.out]; exact OwnR.nil _ _⟩, HB1.out⟩
  subst h0
  cases hwn : isWB lo hi
  case false =>
    have HE : Hid (usF 0 lo hi = 1) := Lib.hid (by unfold usF; rw [if_pos rfl, winF_no hwn])
    have HNO : Hid (UE = []) := Lib.hid (by rw [HUE.out]; exact usedE_no (by rw [← HFE.out, HE.out]; decide))
    have HW := Lib.hid hwn
    clear hwn
    go_enter Tryz.func53, Tryz.ntmps53
    go_wp2_with fail
    rw [← hw0]
    clear hw0
    refine HF.out.mono ?_
    rintro e w1 ⟨rfl, hb1⟩
    have hN1 := blk_below HX0.out.2 hb1
    have c0 : w1.cell? ⟨w.heap.size + 1, 0, none⟩ = some (.int .i64 lo) := blk_cell hN1 0
    have c1 : w1.cell? ⟨w.heap.size + 1, 1, none⟩ = some (.int .i64 hi) := blk_cell hN1 1
    have lN := blk_lt hN1
    have HB1 := Lib.hid (Bl.trans HB0.out hb1)
    clear hb1 hN1
    go_wp2_with fail
    refine (IsWindow_any lo hi _).mono ?_
    rintro e w2 ⟨rfl, hb2⟩
    rw [HW.out]
    have HB2 := Lib.hid (Bl.trans HB1.out hb2)
    clear hb2
    go_wp2
    go_ret2
    exact ⟨⟨_, by rw [HE.out] <;> rfl, by rw [HNO.out]; exact OwnR.nil _ _⟩, HB2.out⟩
  case true =>
    have HE : Hid (usF 0 lo hi = 0) := Lib.hid (by unfold usF; rw [if_pos rfl, winF_ok hwn])
    have HW := Lib.hid hwn
    have HOK := Lib.hid (feedsF_right HFE.out.symm)
    have HNO : Hid (UE = (usedM rs l lo hi).map prOfQ) := Lib.hid (by rw [HUE.out]; exact usedE_ok (by rw [← HFE.out, HE.out]))
    clear hwn
    go_enter Tryz.func53, Tryz.ntmps53
    go_wp2_with fail
    rw [← hw0]
    clear hw0
    refine HF.out.mono ?_
    rintro e w1 ⟨rfl, hb1⟩
    have hN1 := blk_below HX0.out.2 hb1
    have hF1 := blk_below HX0.out.1 hb1
    have c0 : w1.cell? ⟨w.heap.size + 1, 0, none⟩ = some (.int .i64 lo) := blk_cell hN1 0
    have c1 : w1.cell? ⟨w.heap.size + 1, 1, none⟩ = some (.int .i64 hi) := blk_cell hN1 1
    have lN := blk_lt hN1
    have HB1 := Lib.hid (Bl.trans HB0.out hb1)
    have HX1 := Lib.hid (And.intro hF1 hN1)
    clear hb1 hN1 hF1
    go_wp2_with fail
    refine (IsWindow_any lo hi _).mono ?_
    rintro e w2 ⟨rfl, hb2⟩
    rw [HW.out]
    have hF2 := blk_below HX1.out.1 hb2
    have hN2 := blk_below HX1.out.2 hb2
    have hz2 := hb2.size
    have f2 : w2.cell? ⟨w.heap.size, 0, none⟩ = some (.slice la l.length lc) := blk_cell hF2 0
    have lF2 := blk_lt hF2
    have lN2 := blk_lt hN2
    obtain ⟨w3, hw3⟩ : ∃ w3, w3 = (w2.alloc (.map #[] 0)).alloc (.cells #[.map (some w2.heap.size)] 128) := ⟨_, rfl⟩
    have hb3 : Below w2.heap.size w2 w3 := by rw [hw3]; exact Bl.alloc (Bl.alloc (Below.refl _ _) _) _
    have hM3 : w3.heap[w2.heap.size + 1]? = some (.cells #[.map (some w2.heap.size)] 128 (0, 0)) := by rw [hw3]; exact blk_new' _ _ (by simp)
    have hMp3 : MapS TMi w3 w2.heap.size [] := by rw [hw3]; exact MapS.alloc (MapS.made w2) _
    have hF3 := blk_below hF2 hb3
    have hN3 := blk_below hN2 hb3
    have hbA := Bl.trans HB1.out hb2
    have hbB := Below.trans hbA (hb3.mono hbA.size)
    have lM := blk_lt hM3
    have hAz := hbA.size
    have HFO := Lib.hid (followR_any 99 #[.pointer (some ⟨w.heap.size, 0, none⟩), .pointer (some ⟨w.heap.size + 1, 0, none⟩), .pointer (some ⟨w2.heap.size + 1, 0, none⟩)] (fun a b => #[a, b, .pointer (some ⟨w.heap.size, 0, none⟩), .pointer (some ⟨w.heap.size + 1, 0, none⟩), .pointer (some ⟨w2.heap.size + 1, 0, none⟩)]) (.pointer (some ⟨w.heap.size, 0, none⟩)) (.pointer (some ⟨w.heap.size + 1, 0, none⟩))
      (by first | exact .inl ⟨_, rfl, rfl, rfl⟩ | exact .inr (.inl ⟨_, rfl, rfl, rfl⟩) | exact .inr (.inr (.inl ⟨_, rfl, rfl, rfl⟩))) rs l 345686400000 (.slice ra rs.length rc) (.slice la l.length lc) w3 w.heap.size (UsJ lo hi w.heap.size (w.heap.size + 1) (w2.heap.size + 1) w2.heap.size (.slice la l.length lc) w.heap.size w3) hbB.size
      (used_cl l lo hi _ _ _ _ _ w.heap.size w3 hbB.size (blk_lt hF3) (blk_lt hN3) lM hMp3.lt hAz (by omega) (by omega) (by omega) (fun W hW => RL.out.below (hbB.trans hW)) HOK.out.lz HLN.out)
      (fun W hW => RR.out.below (hbB.trans hW)) (fun W hW => RL.out.below (hbB.trans hW)) HOK.out.rn HOK.out.rz HLN.out HOK.out.lz HOK.out.s
      (fun W hW => ⟨newM_inv fun x hx => (HOK.out.rz x hx).2, blk_below hF3 hW, blk_below hN3 hW, blk_below hM3 hW, hMp3.below hW, fun p hp => absurd hp (by simp [usedL, newM]), fun p hp => absurd hp (by simp [usedL, newM]), Nat.zero_le _, hW.mono hbB.size⟩))
    have HB3 := Lib.hid hbB
    clear hb2 hF2 hN2 hb3 hM3 hMp3 hF3 hN3 hbA hbB
    have hmm := @run_makeMap Tryz.prog
    go_wp2_with fail
    rw [← hw3]
    clear hw3 hmm
    refine HFO.out.mono ?_
    rintro e w4 ⟨L, rfl, hE⟩
    obtain ⟨k, hk, hlate, hJ⟩ := hE.j
    have hd : l.drop k = [] := by
      cases hc : l.drop k with
      | nil => rfl
      | cons x r =>
        have hx : x ∈ l.drop k := by rw [hc]; exact List.mem_cons_self ..
        have e1 := hlate x hx
        have e2 := HOK.out.t x (List.mem_of_mem_drop hx)
        omega
    obtain ⟨m, hm⟩ : ∃ m, m = usedM rs l lo hi := ⟨_, rfl⟩
    have hmp := hJ.mp
    have hbd := hJ.bd
    have hnm := hJ.nm
    have hfw := hJ.few
    rw [show usedL lo hi [] (runM 345686400000 (newM rs) 0 l).log = usedM rs l lo hi from rfl, ← hm] at hmp hbd hnm hfw
    have m4 : w4.cell? ⟨w2.heap.size + 1, 0, none⟩ = some (.map (some w2.heap.size)) := blk_cell hJ.m 0
    have lM4 := blk_lt hJ.m
    have hB4 := Below.trans HB3.out hE.bel
    have hmz : m.length ≤ 900 := by have := HLN.out; omega
    have HSO := Lib.hid (sortedI_any w2.heap.size m w4 hmp (by omega))
    have HM4 := Lib.hid (And.intro hmp (And.intro hJ.m (And.intro hB4 (HT.out.below hB4))))
    have HBD : Hid ((∀ p ∈ m, 0 ≤ p.2 ∧ p.2 ≤ 1000000000) ∧ (∀ p ∈ m, p.1.length ≤ 1000)) := Lib.hid ⟨fun p hp => by have := hbd p hp; have := HLN.out; omega, hnm⟩
    have HME := Lib.hid hm
    have HMZ := Lib.hid hmz
    clear hmp hbd hnm hfw hJ hE hlate hd hk hB4 HFO hm hmz
    go_wp2_with fail
    refine (keysI_any w2.heap.size w4).mono ?_
    rintro e w' ⟨rfl, rfl⟩
    go_wp2_with fail
    refine HSO.out.mono ?_
    rintro e w5 ⟨v, rfl, hO, hb5⟩
    obtain ⟨va, vc, rfl, _, _⟩ := hO.form
    have hlk : (m.keys.map baOf).length = m.length := by rw [List.length_map, keys_len]
    rw [hlk]
    have HO := Lib.hid hO
    have HB5 := Lib.hid hb5
    clear hO hlk hb5 HSO m4
    go_wp2_with fail
    go_loopw [10, 31] (fun ov i wr => ∃ (k : Nat), k ≤ m.length ∧ i = .int .i64 k ∧ Hid (OwnR TPrQ wr w5.heap.size ov ((m.take k).map prOfQ)) ∧ Hid (Below w5.heap.size w5 wr)) (fun _ i _ => m.length - (intOf i).toNat)
    case atStart => exact ⟨0, Nat.zero_le _, rfl, Lib.hid (OwnR.nil _ _), Lib.hid (Below.refl _ _)⟩
    case round =>
      obtain ⟨k, hk, rfl, HOV, HB⟩ := hrel
      have HBr := Lib.hid (Bl.trans HB5.out HB.out)
      by_cases hlt : k < m.length
      case neg =>
        obtain rfl : k = m.length := by omega
        rw [List.take_length] at HOV
        have HF := Lib.hid (Below.trans HM4.out.2.2.1 (HBr.out.mono HM4.out.2.2.1.size))
        have HOF := Lib.hid (HOV.out.base (B' := w.heap.size) (by have := HM4.out.2.2.1.size; have := HB5.out.size; omega))
        clear HOV
        go_wp2
        go_ret2
        exact ⟨⟨_, by rw [HE.out] <;> rfl, by rw [HNO.out, ← HME.out]; exact HOF.out⟩, HF.out⟩
      case pos =>
        obtain ⟨⟨ks, n⟩, hp⟩ : ∃ p, m[k]? = some p := ⟨_, List.getElem?_eq_getElem hlt⟩
        have hpm := List.mem_of_getElem? hp
        have hnm : (baOf ks).size ≤ maxLen := by
          have := HBD.out.2 _ hpm
          have e : (baOf ks).size = ks.length := by show ks.toArray.size = _; simp
          rw [e]; unfold maxLen; simp only at this; omega
        have hn := HBD.out.1 _ hpm
        simp only at hn
        obtain ⟨b1, o1, hae, _, hl1, hx1⟩ := str_at (HO.out.rec0.below HB.out) (keysM_at hp)
        simp only at hx1
        subst hae
        have hmr := HM4.out.1.below HBr.out
        have hMr := blk_below HM4.out.2.1 HBr.out
        have mr : wr.cell? ⟨w2.heap.size + 1, 0, none⟩ = some (.map (some w2.heap.size)) := blk_cell hMr 0
        have lMr := blk_lt hMr
        have hlk : (Instr.lookup 128 (.map (some w2.heap.size)) (.string (baOf ks)) false).run Tryz.prog wr = .ok (.int .i64 n) wr := by
          have := hmr.look TMi.ok (baOf ks) hnm
          rw [show (baOf ks).data.toList = ks from bsOf_baOf ks, Sm.get_of_mem hmr.1 hpm] at this
          exact this
        have hw1 : IntKind.i64.wrap ((k : Int) + 1) = ((k + 1 : Nat) : Int) := by have := HMZ.out; rw [IntWalk.i64_in _ (by omega)]; omega
        have HIT := Lib.hid (Itoa_any n wr (HM4.out.2.2.2.below HBr.out) (by omega) (by omega))
        have HTK : Hid ((m.take (k + 1)).map prOfQ = (m.take k).map prOfQ ++ [(baOf ks, itBQ n)]) := Lib.hid (by rw [List.take_add_one, hp]; simp [prOfQ])
        obtain ⟨it, hit⟩ : ∃ it, it = itBQ n := ⟨_, rfl⟩
        have HIE := Lib.hid hit
        rw [show (⟨(Lib.itoa n).toArray⟩ : ByteArray) = it from hit.symm] at HIT
        rw [← hit] at HTK
        have hal : (m.take k).length ≤ 1000000 := by rw [List.length_take]; have := HMZ.out; omega
        obtain ⟨oa, oc, hov, _, _⟩ := HOV.out.form
        rw [List.length_map, List.length_take, Nat.min_eq_left hk] at hov
        subst hov
        clear hp hpm hmr hMr hnm hn hit
        go_wp2_with fail
        refine HIT.out.mono ?_
        rintro e w7 ⟨rfl, hb7⟩
        have HO7 := Lib.hid (And.intro (HOV.out.below hb7) (Bl.trans HB.out hb7))
        have hz7 := hb7.size
        have hzB := HB.out.size
        clear hb7 HIT hlk
        go_wp2_with (at_builtin; refine wp_app_rec TPrQ.okQ rfl _ _ rfl w5.heap.size _ ((m.take k).map prOfQ) rfl (HO7.out.1.alloc _) w7.heap.size 1 (baOf ks, it) rfl (blk_new w7 _) rfl (by rw [List.length_map]; exact hal) (by simp; omega) ?_)
        intro v9 w9 hO9 hA9 hb9
        have HO9 := Lib.hid hO9
        have HB9 := Lib.hid ((Bl.alloc HO7.out.2 _).trans hb9)
        clear hO9 hA9 hb9
        go_wp2
        go_roundw
        case rel => exact ⟨k + 1, by omega, by go_num, Lib.hid (by rw [HTK.out, List.map_take]; exact HO9.out), HB9⟩
        case measure => simp [intOf]; omega
end Go.Proofs.YtcfeoapbbkfbnaaGreatDoor
namespace Go.Proofs.YtcfeoapbbkfbnaaGreatDoor
open Go.RowKit Go.Sort Go.Maps

theorem upTo12 {n : Nat} (h : n ≤ 12) : n = 0 ∨ n = 1 ∨ n = 2 ∨ n = 3 ∨ n = 4 ∨ n = 5 ∨ n = 6 ∨ n = 7 ∨ n = 8 ∨ n = 9 ∨ n = 10 ∨ n = 11 ∨ n = 12 := by omega
set_option maxHeartbeats 4000000 in
set_option maxRecDepth 100000 in
theorem Len64_12 (n : Nat) (h : n ≤ 12) (w : World) : Calls Tryz.prog 203 #[.int .u64 n] w fun e w' => (∃ r : Int, e = .returned (.int .i64 r)) ∧ w = w' := by
  rcases upTo12 h with rfl | rfl | rfl | rfl | rfl | rfl | rfl | rfl | rfl | rfl | rfl | rfl | rfl
  all_goals (
    go_enter Tryz.func203, Tryz.ntmps203
    go_wp2
    go_ret
    exact ⟨⟨_, rfl⟩, rfl⟩)
set_option maxHeartbeats 4000000 in
theorem Len_12 (n : Nat) (h : n ≤ 12) (w : World) : Calls Tryz.prog 176 #[.int .u64 n] w fun e w' => (∃ r : Int, e = .returned (.int .i64 r)) ∧ w = w' := by
  have HL := Lib.hid (Len64_12 n h w)
  go_enter Tryz.func176, Tryz.ntmps176
  go_wp2_with fail
  refine HL.out.mono ?_
  rintro e w' ⟨⟨r, rfl⟩, rfl⟩
  go_wp2
  go_ret
  exact ⟨⟨_, rfl⟩, rfl⟩
end Go.Proofs.YtcfeoapbbkfbnaaGreatDoor
namespace Go.Proofs.YtcfeoapbbkfbnaaGreatDoor
open Go.RowKit Go.Sort Go.Maps

theorem next_spQ {α : Type} {T : Mty α} (hT : T.Ok) {w : World} {ops : Array Oper} {rest : List Oper} {o : Oper} {a : Act} {Q : Exit → Act → World → Prop}
    (hg : o.guard = none) (it : Operand) (hop : o.op = Op.next it false) {b r n : Nat} {l : Sm α} {left : Lit → Bool} {cnt : Nat}
    (hit : a.eval it = .pointer (some ⟨r, 0, none⟩)) (h : w.ranges Tryz.prog 9 T.R b r n (.map (smD T l)) left cnt)
    (hDone : cnt = 0 → (∀ kl, left kl = false) → wpList Tryz.prog ops Q rest (a.put o.dst (.tuple #[.bool false])) w)
    (hMore : ∀ (x : Bs) (y : α) (w' : World) (cnt' : Nat), x.length ≤ maxLen → left (.string x) = true → l.get x = some y → w'.ranges Tryz.prog 9 T.R b r n (.map (smD T l)) (fun z => left z && !z.sameKey (.string x)) cnt' → cnt' < cnt →
      w.grownBy w' (some r) → w'.heap.size = w.heap.size → (Instr.entry (.pointer (some ⟨r, 0, none⟩))).run Tryz.prog w' = .ok (.tuple #[.string (baOf x), T.V y]) w' → wpList Tryz.prog ops Q rest (a.put o.dst (.tuple #[.bool true, .string (baOf x), T.V y])) w') :
    wpList Tryz.prog ops Q (o :: rest) a w :=
  wpList_next_ranges w hg it hop 9 strKd T.R encStr id (fun key kl hkey => by obtain ⟨x, hx, _⟩ := Maps.keyOf_str (k := 9) Tryz.underlying9 hkey; exact ⟨x, hx⟩) (fun v y _ => ⟨v, rfl⟩)
    b r n _ left cnt hit h hDone (fun x cv kl y w' cnt' hkey hlk hv hat hrg hlt hgr hsz hen => by
      obtain ⟨x', ex, rfl, hwx⟩ := Maps.keyOf_str (k := 9) Tryz.underlying9 hkey
      have e := encStr_inj ex
      subst e
      have hh := has_true_of_atKey hat
      rw [smD_has] at hh
      obtain ⟨u, hu⟩ : ∃ u, l.get x = some u := Option.isSome_iff_exists.1 hh
      have h1 := hat .nil
      rw [smD_get, hu] at h1
      obtain ⟨y1, y2⟩ := y
      have h2 : T.R cv = some (T.d u, y2) := by rw [show T.d u = y1 from h1]; exact hv
      obtain rfl := hT.inv _ _ _ h2
      exact hMore x u w' cnt' hwx hlk hu hrg hlt hgr hsz hen)
/-- names gatheredQ in any order are those of a part of the map. -/
theorem gatheredQ {α : Type} {m : Sm α} (hm : Sm.Ok m) (q : α → Bool) {acc : List Bs} (hn : acc.Nodup) (h : ∀ k, k ∈ acc ↔ ∃ b, m.get k = some b ∧ q b = true) : acc.Perm (Sm.keys (m.filter fun p => q p.2)) := by
  refine (List.perm_ext_iff_of_nodup hn (Sm.keys_nodup (List.Pairwise.filter _ hm))).2 fun k => ?_
  rw [h]
  constructor
  · rintro ⟨b, h1, h2⟩
    exact List.mem_map.2 ⟨(k, b), List.mem_filter.2 ⟨Sm.get_mem h1, h2⟩, rfl⟩
  · intro hk
    obtain ⟨p, hp, rfl⟩ := List.mem_map.1 hk
    obtain ⟨h1, h2⟩ := List.mem_filter.1 hp
    exact ⟨p.2, Sm.get_of_mem hm h1, h2⟩
theorem gather_noneQ {α : Type} {m : Sm α} {β : Type} {n : Sm β} (hk : n.keys = m.keys) {U : Mty β} (q : α → Bool) : ([] : List Bs).Nodup ∧ ∀ k, k ∈ ([] : List Bs) ↔ ∃ b, m.get k = some b ∧ q b = true ∧ Maps.has (DataW.map (smD U n)) (.string k) = false := by
  refine ⟨List.nodup_nil, fun k => ⟨fun h => by simp at h, ?_⟩⟩
  rintro ⟨b, h1, _, h3⟩
  exfalso
  rw [smD_has, ← Bool.not_eq_true, Sm.has_iff, hk] at h3
  exact h3 (List.mem_map.2 ⟨(k, b), Sm.get_mem h1, rfl⟩)
theorem gather_stepQ {α : Type} {m : Sm α} {q : α → Bool} {acc : List Bs} {left : Lit → Bool} {x : Bs} {b : α} (h : acc.Nodup ∧ ∀ k, k ∈ acc ↔ ∃ b, m.get k = some b ∧ q b = true ∧ left (.string k) = false) (hx : left (.string x) = true) (hb : m.get x = some b) :
    (if q b = true then acc ++ [x] else acc).Nodup ∧ ∀ k, k ∈ (if q b = true then acc ++ [x] else acc) ↔ ∃ b, m.get k = some b ∧ q b = true ∧ (left (.string k) && !(Lit.string k).sameKey (.string x)) = false := by
  have hxa : x ∉ acc := fun hm => by
    obtain ⟨_, _, _, h3⟩ := (h.2 x).1 hm
    rw [hx] at h3; cases h3
  have hl : ∀ k, (left (.string k) && !(Lit.string k).sameKey (.string x)) = false ↔ (left (.string k) = false ∨ k = x) := fun k => by
    rw [sm_same]
    by_cases e : k = x
    · simp [e]
    · simp [e]
  split
  · rename_i hq
    refine ⟨?_, fun k => ?_⟩
    · rw [List.nodup_append]
      exact ⟨h.1, by simp, fun a ha b hb => by rw [List.mem_singleton.1 hb]; exact fun e => hxa (e ▸ ha)⟩
    · rw [List.mem_append, List.mem_singleton, h.2]
      constructor
      · rintro (⟨b', h1, h2, h3⟩ | rfl)
        · exact ⟨b', h1, h2, (hl k).2 (.inl h3)⟩
        · exact ⟨b, hb, hq, (hl k).2 (.inr rfl)⟩
      · rintro ⟨b', h1, h2, h3⟩
        rcases (hl k).1 h3 with h4 | rfl
        · exact .inl ⟨b', h1, h2, h4⟩
        · exact .inr rfl
  · rename_i hq
    refine ⟨h.1, fun k => ?_⟩
    rw [h.2]
    constructor
    · rintro ⟨b', h1, h2, h3⟩
      exact ⟨b', h1, h2, (hl k).2 (.inl h3)⟩
    · rintro ⟨b', h1, h2, h3⟩
      rcases (hl k).1 h3 with h4 | rfl
      · exact ⟨b', h1, h2, h4⟩
      · rw [hb] at h1
        injection h1 with h1
        subst h1
        exact absurd h2 hq
theorem blkTQ {α : Type} {T : Rty α} {w : World} {B : Nat} {v : Value} {l : List α} (h : OwnR T w B v l) {g : Nat} (hg : v.ownBlock = some g) : ∃ cur, w.heap[g]? = some (.cells cur T.e (0, 0)) := by
  rcases h with ⟨_, ⟨rfl, _⟩ | ⟨g', cap, cur, rfl, _, hb, _⟩⟩
  · simp [Value.ownBlock] at hg
  · simp [Value.ownBlock] at hg
    subst hg
    exact ⟨cur, hb⟩
theorem range_offQ {α β : Type} {T : Rty α} {U : Mty β} {w : World} {B b r n cnt : Nat} {D : DataW Unit} {left : Lit → Bool} {v : Value} {l : List α} (hrg : w.ranges Tryz.prog 9 U.R b r n D left cnt) (hO : OwnR T w B v l) : some b ≠ v.ownBlock ∧ some r ≠ v.ownBlock := by
  obtain ⟨es, clock, since, seen, c0, hb, _, _, _, hr, _⟩ := hrg
  constructor
  · intro e
    obtain ⟨cur, hc⟩ := blkTQ hO e.symm
    rw [hb] at hc
    injection hc with hc
    cases hc
  · intro e
    obtain ⟨cur, hc⟩ := blkTQ hO e.symm
    rw [hr] at hc
    injection hc with hc
    cases hc
theorem OwnR.kept2Q {α : Type} {T : Rty α} {w w' : World} {B r : Nat} {v : Value} {l : List α} (h : OwnR T w B v l) (hg : w.grownBy w' (some r)) (hn : v.ownBlock ≠ some r) : OwnR T w' B v l := by
  refine ⟨h.1, h.2.imp id ?_⟩
  rintro ⟨g, cap, cur, hv, hB, hc, rest⟩
  refine ⟨g, cap, cur, hv, hB, (hg.block g (blk_lt hc) fun e => hn ?_).trans hc, rest⟩
  rw [hv, ← e]; rfl
theorem acc_fewQ {α : Type} {m : Sm α} {acc : List Bs} (hn : acc.Nodup) (h : ∀ k ∈ acc, ∃ b, m.get k = some b) : acc.length ≤ m.length := by
  rw [← keys_len m]
  exact List.Nodup.length_le_of_subset hn fun k hk => by
    obtain ⟨b, hb⟩ := h k hk
    exact List.mem_map.2 ⟨(k, b), Sm.get_mem hb, rfl⟩
end Go.Proofs.YtcfeoapbbkfbnaaGreatDoor
namespace Go.Proofs.YtcfeoapbbkfbnaaGreatDoor
open Go.RowKit Go.Sort Go.Maps Go.Shelf Go.Lib

theorem flatK_flatQ {α : Type} [Inhabited α] {f : α → List Value} {k : Nat} (hk : ∀ x, (f x).length = k) (l : List α) : flatK f k l.toArray = (l.flatMap f).toArray := by
  have hlen : (l.flatMap f).length = l.length * k := by
    induction l with
    | nil => simp
    | cons a l ih => rw [List.flatMap_cons, List.length_append, ih, hk, List.length_cons, Nat.succ_mul, Nat.add_comm]
  refine ext_get! (by simp [hlen]) fun t ht => ?_
  have ht' : t < l.length * k := by simpa using ht
  have k0 : 0 < k := by
    rcases Nat.eq_zero_or_pos k with h | h
    · subst h; simp at ht'
    · exact h
  rw [get_flatK f k l.toArray t (by simpa using ht')]
  have hq : t / k < l.length := (Nat.div_lt_iff_lt_mul k0).2 ht'
  have hr : t % k < k := Nat.mod_lt _ k0
  have hx : l[t / k]? = some l[t / k] := List.getElem?_eq_getElem hq
  have hu : (f l[t / k])[t % k]? = some (f l[t / k])[t % k]! := by
    rw [getElem!_pos _ _ (by rw [hk]; exact hr)]
    exact List.getElem?_eq_getElem _
  have := flat_at hk l (t / k) _ hx (t % k) _ hu
  rw [Nat.div_add_mod' t k] at this
  have e1 : l.toArray[t / k]! = l[t / k] := by simp [hq]
  rw [e1]
  have : (l.flatMap f).toArray[t]? = some (f l[t / k])[t % k]! := by simpa using this
  conv => rhs; rw [getElem!_def, this]
section
variable {α : Type} [Inhabited α] {T : Rty α}
theorem belKQ {w : World} {g B : Nat} (hBg : B ≤ g) (hB : B ≤ w.heap.size) (q : Nat) (os : Array Obj) (dk : Array α) : Below B w (sortWorldK T.f T.k w g 0 q dk os) :=
  Gr.below (grownBy_resorted id (flatK T.f T.k dk)) hBg hB
end
theorem cmpB_ltQ : ∀ a b : Bs, (Lib.compareBytes a b < 0) ↔ bytesBefore a b = true
  | [], [] => by simp [Lib.compareBytes, bytesBefore]
  | [], _ :: _ => by simp [Lib.compareBytes, bytesBefore]
  | _ :: _, [] => by simp [Lib.compareBytes, bytesBefore]
  | a :: r, b :: u => by
    have ih := cmpB_ltQ r u
    unfold Lib.compareBytes bytesBefore
    by_cases h1 : a < b
    · simp [h1]
    · by_cases h2 : b < a
      · have : ¬ a = b := fun e => by subst e; exact h1 h2
        simp [h1, h2, this]
      · have : a = b := by
          apply UInt8.le_antisymm
          · exact UInt8.not_lt.1 h2
          · exact UInt8.not_lt.1 h1
        subst this
        simp [ih]
/-- pairs of a name and a count as a text. -/
def TPqQ : Rty (Bs × Int) := { e := 106, S := 33, k := 2, b := 32, z := .agg #[.string ByteArray.empty, .string ByteArray.empty], f := fun p => [.string (baOf p.1), .string (itBQ p.2)] }
theorem TPqQ.okQ : TPqQ.Ok := ⟨by kernel_rfl, Tryz.underlying33, rfl, by decide, fun _ => rfl, fun x u hu => by simp [TPqQ] at hu; rcases hu with rfl | rfl <;> rfl, by decide⟩
theorem flat_pqQ (l : List (Bs × Int)) : (l.map prOfQ).flatMap TPrQ.f = l.flatMap TPqQ.f := by rw [List.flatMap_map]; rfl
theorem own_pqQ {w : World} {B : Nat} {v : Value} {l : List (Bs × Int)} : OwnR TPqQ w B v l ↔ OwnR TPrQ w B v (l.map prOfQ) := by
  unfold OwnR
  rw [flat_pqQ, List.length_map]
  exact Iff.rfl
def cfPQ (p q : Bs × Int) : Int := Lib.compareBytes p.1 q.1
theorem ltPQ (p q : Bs × Int) : ltOf cfPQ p q = bytesBefore p.1 q.1 := by
  unfold ltOf cfPQ
  rw [Bool.eq_iff_iff, decide_eq_true_iff]
  exact cmpB_ltQ _ _
theorem bb_ntransQ {x y z : Bs} (h1 : bytesBefore x y = false) (h2 : bytesBefore y z = false) : bytesBefore x z = false := by
  rw [← Bool.not_eq_true]
  intro h
  by_cases e : x = y
  · subst e; rw [h2] at h; cases h
  · rcases WideAt.bytes_total _ _ e with h3 | h3
    · rw [h1] at h3; cases h3
    · rw [WideShapes.bytes_trans _ _ _ h3 h] at h2; cases h2
theorem swoPQ : SWO (ltOf cfPQ) where
  irrefl x := by rw [ltPQ]; exact WideAt.bytes_irrefl _
  trans x y z h1 h2 := by rw [ltPQ] at *; exact WideShapes.bytes_trans _ _ _ h1 h2
  ntrans x y z h1 h2 := by rw [ltPQ] at *; exact bb_ntransQ h1 h2
theorem sorted_eqQ {α : Type} {m : Sm α} (hm : Sm.Ok m) {l : List (Bs × α)} (hp : l.Perm m) (hs : l.Pairwise fun a b => bytesBefore b.1 a.1 = false) : l = m := by
  have hn : (l.map (·.1)).Nodup := (hp.map (fun p : Bs × α => p.1)).nodup_iff.2 (show (m.map fun p => p.1).Nodup from Sm.keys_nodup hm)
  have hn2 : l.Pairwise fun a b => a.1 ≠ b.1 := List.pairwise_map.1 hn
  have hok : Sm.Ok l := (hs.and hn2).imp fun {a b} h => by
    rcases WideAt.bytes_total _ _ h.2 with h3 | h3
    · exact h3
    · rw [h.1] at h3; cases h3
  refine Sm.ext hok hm fun k => ?_
  cases hg : Sm.get m k with
  | some x => exact Sm.get_of_mem hok (hp.mem_iff.2 (Sm.get_mem hg))
  | none => exact Sm.get_none_of fun p hpl => Sm.get_none hg p (hp.mem_iff.1 hpl)
theorem pairs1_anyQ (x y : Bs × Int) (W : World) : Calls Tryz.prog 141 #[.agg #[.string (baOf x.1), .string (itBQ x.2)], .agg #[.string (baOf y.1), .string (itBQ y.2)]] W fun e w' => e = .returned (.int .i64 (cfPQ x y)) ∧ ∃ q os', w' = grow (W.drewN q) os' := by
  have hcon := fun W' => Tryz.strings_Compare (baOf x.1) (baOf y.1) W'
  rw [show (baOf x.1).data.toList = x.1 from bsOf_baOf x.1, show (baOf y.1).data.toList = y.1 from bsOf_baOf y.1] at hcon
  unfold cfPQ
  generalize Lib.compareBytes x.1 y.1 = r at hcon ⊢
  go_enter Tryz.func141, Tryz.ntmps141
  go_wp2_with (go_at_call 142; refine (hcon _).mono ?_; rintro e w' ⟨rfl, rfl⟩)
  go_ret
  exact ⟨rfl, 0, _, by rw [alloc_eq_grow, alloc_eq_grow, grow_grow]; rfl⟩
end Go.Proofs.YtcfeoapbbkfbnaaGreatDoor
namespace Go.Proofs.YtcfeoapbbkfbnaaGreatDoor
open Go.RowKit Go.Sort Go.Maps Go.Shelf Go.Lib

section
variable {α : Type} [Inhabited α] {lt lt' : α → α → Bool} {r : α → α → Prop}
theorem inner_eqQ (hr : ∀ x y, r y x → lt x y = lt' x y) : ∀ (j : Nat) (d : Array α), j < d.size → (∀ k, k < j → r d[k]! d[j]!) → insInner lt 0 j d = insInner lt' 0 j d
  | 0, _, _, _ => rfl
  | j + 1, d, hj, h => by
    rw [insInner, insInner, hr _ _ (h j (Nat.lt_succ_self j))]
    split
    · refine inner_eqQ hr j _ (by rw [size_swp]; omega) fun k hk => ?_
      rw [swp_get d hj (by omega), swp_get d hj (by omega), if_pos rfl, if_neg (by omega), if_neg (by omega)]
      exact h k (by omega)
    · rfl
theorem inner_keepsQ (lt : α → α → Bool) : ∀ (j : Nat) (d : Array α), j < d.size → (insInner lt 0 j d).size = d.size ∧ (∀ k, j < k → (insInner lt 0 j d)[k]! = d[k]!) ∧ ∀ p : α → Prop, (∀ k, k ≤ j → p d[k]!) → ∀ k, k ≤ j → p (insInner lt 0 j d)[k]!
  | 0, _, _ => ⟨rfl, fun _ _ => rfl, fun _ h => h⟩
  | j + 1, d, hj => by
    rw [insInner]
    split
    · obtain ⟨h1, h2, h3⟩ := inner_keepsQ lt j (swp d (j + 1) j) (by rw [size_swp]; omega)
      refine ⟨by rw [h1, size_swp], fun k hk => ?_, fun p hp k hk => ?_⟩
      · rw [h2 k (by omega), swp_get d hj (by omega), if_neg (by omega), if_neg (by omega)]
      · by_cases hkj : k ≤ j
        · refine h3 p (fun q hq => ?_) k hkj
          rw [swp_get d hj (by omega)]
          split
          · exact hp _ (Nat.le_refl _)
          · rw [if_neg (by omega)]; exact hp q (by omega)
        · obtain rfl : k = j + 1 := by omega
          rw [h2 (j + 1) (Nat.lt_succ_self j), swp_get d hj (by omega), if_neg (by omega), if_pos rfl]
          exact hp j (Nat.le_succ j)
    · exact ⟨rfl, fun _ _ => rfl, fun _ h => h⟩
theorem outer_eqQ (hr : ∀ x y, r y x → lt x y = lt' x y) (n : Nat) : ∀ (f i : Nat) (d : Array α), n - i = f → n ≤ d.size → (∀ j, i ≤ j → j < n → ∀ k, k < j → r d[k]! d[j]!) → insOuter lt 0 n i d = insOuter lt' 0 n i d
  | 0, i, d, hf, _, _ => by
    rw [insOuter, if_neg (by omega)]
    conv => rhs; rw [insOuter, if_neg (by omega)]
  | f + 1, i, d, hf, hn, h => by
    have hi : i < n := by omega
    rw [insOuter, if_pos hi]
    conv => rhs; rw [insOuter, if_pos hi]
    rw [inner_eqQ hr i d (by omega) (h i (Nat.le_refl _) hi)]
    obtain ⟨h1, h2, h3⟩ := inner_keepsQ lt' i d (by omega)
    refine outer_eqQ hr n f (i + 1) _ (by omega) (by omega) fun j hj hjn k hk => ?_
    rw [h2 j (by omega)]
    by_cases hki : k ≤ i
    · exact h3 (fun y => r y d[j]!) (fun q hq => h j (by omega) hjn q (by omega)) k hki
    · rw [h2 k (by omega)]
      exact h j (by omega) hjn k hk
theorem insertion_finerQ (hr : ∀ x y, r y x → lt x y = lt' x y) (d : Array α) (h : ∀ j, j < d.size → ∀ k, k < j → r d[k]! d[j]!) : insertionSort lt d 0 d.size = insertionSort lt' d 0 d.size :=
  outer_eqQ hr d.size _ 1 d rfl (Nat.le_refl _) fun j _ hj => h j hj
end
section
variable {α : Type} [Inhabited α] {T : Rty α}
/-- the insertion sort at a row of records that the call owns. -/
theorem insRow_anyQ {ρ : Ren} (L : SlLaysF0.n20 Tryz.prog ρ) (hT : T.Ok) (aE : ∀ w, (isAgg (ρ.t 24)).run Tryz.prog w = .ok true w) (zE : ∀ w, (Go.sizeOf (ρ.t 24)).run Tryz.prog w = .ok T.k w)
    (cf : α → α → Int) (fn : Nat) (cb : Array Value) (eg : ∀ args w, (callFunc fn args).run Tryz.prog w = .ok (.enter fn args) w) (w : World) (B : Nat) (hB : B ≤ w.heap.size) (l : List α) (v : Value) (ho : OwnR T w B v l) (h0 : l ≠ []) (hl : l.length ≤ 1000000)
    (hcmp : ∀ W, Below B w W → ∀ x y, Calls Tryz.prog fn (#[.agg (T.f x).toArray, .agg (T.f y).toArray] ++ cb) W fun e w' => e = .returned (.int .i64 (cf x y)) ∧ ∃ q os', w' = grow (W.drewN q) os') :
    Calls Tryz.prog (ρ.f 20) #[v, .int .i64 0, .int .i64 l.length, .func (.func fn) #[] cb] w fun e w' => e = .returned (.tuple #[]) ∧ OwnR T w' B v (insertionSort (ltOf cf) l.toArray 0 l.length).toList ∧ Below B w w' := by
  obtain ⟨g, cap, cur, rfl, hBg, hb, hc1, hc2, hc3, hc4⟩ := ho.blk h0
  have hlen : (l.flatMap T.f).length = l.length * T.k := ho.1
  have hH : HoldsK T.f T.k w g 0 l.toArray := by
    unfold HoldsK
    rw [flatK_flatQ hT.len]
    exact holds_row id hb (by rw [hlen, List.map_id]; exact hc4)
  have h := AnyQ.insertionSortCmpFunc L T.k aE zE T.f hT.len hT.one cf fn cb g 0 cap 0 l.length l.toArray w eg (fun q os dk _ x y => hcmp _ (belKQ hBg hB q os dk) x y) hH (blk_lt hb) (Nat.zero_le _) (by simp) (by simp; omega)
  have hsz : (insertionSort (ltOf cf) l.toArray 0 l.length).size = l.length := by
    have : ∀ (f i : Nat) (d : Array α), l.length - i = f → l.length ≤ d.size → (insOuter (ltOf cf) 0 l.length i d).size = d.size := by
      intro f
      induction f with
      | zero => intro i d hf _; rw [insOuter, if_neg (by omega)]
      | succ f ih =>
        intro i d hf hd
        rw [insOuter, if_pos (by omega)]
        have hk := (inner_keepsQ (ltOf cf) i d (by omega)).1
        rw [ih (i + 1) _ (by omega) (by omega), hk]
    unfold insertionSort
    rw [this _ 1 _ rfl (by simp)]
    simp
  simp only [List.size_toArray] at h
  generalize insertionSort (ltOf cf) l.toArray 0 l.length = d' at *
  refine h.mono ?_
  rintro e w' ⟨rfl, q, os, rfl⟩
  refine ⟨rfl, ?_, belKQ hBg hB q os d'⟩
  have hr := heap_resorted id (n := q) (os := os) (flatK T.f T.k d') hb
  have hl' : d'.toList.length = l.length := by simpa using hsz
  have hlen' : (d'.toList.flatMap T.f).length = l.length * T.k := by rw [flat_len hT.len, hl']
  rw [← hl']
  refine OwnR.of_blk hBg hr (by omega) hc2 (by simp [putCells, hc3]) ?_ (by rw [hlen', hl'])
  have e : flatK T.f T.k d' = (d'.toList.flatMap T.f).toArray := by rw [← flatK_flatQ hT.len]
  rw [e, hl', ← hlen']
  have := take_putCells' id cur (d'.toList.flatMap T.f) (by rw [hlen', hc3]; exact Nat.mul_le_mul_right _ hc1)
  rw [List.map_id] at this
  exact this
end
end Go.Proofs.YtcfeoapbbkfbnaaGreatDoor
namespace Go.Proofs.YtcfeoapbbkfbnaaGreatDoor
open Go.RowKit Go.Sort Go.Maps Go.Shelf Go.Lib

set_option maxHeartbeats 1000000 in
theorem insEmptyP_any (a : Option Addr) (n cap : Nat) (f : Value) (w : World) : Calls Tryz.prog 208 #[.slice a n cap, .int .i64 0, .int .i64 0, f] w fun e w' => e = .returned (.tuple #[]) ∧ w = w' := by
  go_enter Tryz.func208, Tryz.ntmps208
  go_wp2
  go_loopw [8] (fun i wr => i = .int .i64 1 ∧ w = wr) (fun _ _ => 0)
  case atStart => exact ⟨rfl, rfl⟩
  case round =>
    obtain ⟨rfl, rfl⟩ := hrel
    go_wp2
    go_end0
    exact ⟨rfl, rfl⟩
theorem ins_perm (l : List (Bs × Int)) : (Sort.insertionSort (ltOf cfPQ) l.toArray 0 l.length).toList.Perm l ∧ (Sort.insertionSort (ltOf cfPQ) l.toArray 0 l.length).toList.Pairwise fun a b => ltOf cfPQ b a = false := by
  obtain ⟨⟨h1, _, h3⟩, h4⟩ := insertionSort_holds swoPQ l.toArray 0 l.length (Nat.zero_le _) (by simp)
  generalize Sort.insertionSort (ltOf cfPQ) l.toArray 0 l.length = d at h1 h3 h4 ⊢
  have hs : l.length = d.size := by rw [h1]; simp
  have e1 : d.extract 0 l.length = d := by rw [hs, Array.extract_size]
  have e2 : l.toArray.extract 0 l.length = l.toArray := by
    conv => lhs; rw [show l.toArray.extract 0 l.length = l.toArray.extract 0 l.toArray.size by simp]
    rw [Array.extract_size]
  rw [e1, e2] at h3
  refine ⟨h3, ?_⟩
  rw [List.pairwise_iff_getElem]
  intro i j hi hj hij
  simp only [Array.length_toList] at hi hj
  have := h4 i j (Nat.zero_le _) hij (by omega)
  rw [getElem!_pos d i hi, getElem!_pos d j hj] at this
  simpa using this
theorem insP_any (w : World) (B : Nat) (hB : B ≤ w.heap.size) (l : List (Bs × Int)) (v : Value) (ho : OwnR TPqQ w B v l) (hl : l.length ≤ 12) {m : Sm Int} (hm : Sm.Ok m) (hp : l.Perm m) :
    Calls Tryz.prog 208 #[v, .int .i64 0, .int .i64 l.length, .func (.func 141) #[] #[]] w fun e w' => e = .returned (.tuple #[]) ∧ OwnR TPqQ w' B v m ∧ Below B w w' := by
  by_cases h0 : l = []
  · subst h0
    obtain rfl : m = [] := List.Perm.nil_eq hp ▸ rfl
    obtain ⟨a, cap, rfl, _, _⟩ := ho.form
    exact (insEmptyP_any a _ cap _ w).mono fun e w' ⟨he, hw⟩ => ⟨he, by subst hw; exact ho, by subst hw; exact Below.refl _ _⟩
  · refine (insRow_anyQ Tryz.insP TPqQ.okQ Tryz.isAgg106 Tryz.sizeOf106 cfPQ 141 #[] (enters_of Tryz.func141 (by kernel_rfl) rfl) w B hB l v ho h0 (by omega) (fun W _ x y => pairs1_anyQ x y W)).mono ?_
    rintro e w' ⟨rfl, h3, h4⟩
    obtain ⟨h1, h2⟩ := ins_perm l
    refine ⟨rfl, ?_, h4⟩
    rw [← sorted_eqQ hm (h1.trans hp) (h2.imp fun {a b} h => by rw [ltPQ] at h; exact h)]
    exact h3
set_option maxHeartbeats 4000000 in
set_option maxRecDepth 100000 in
theorem pairSort_anyQ (w : World) (B : Nat) (hB : B ≤ w.heap.size) (l : List (Bs × Int)) (v : Value) (ho : OwnR TPqQ w B v l) (hl : l.length ≤ 12) {m : Sm Int} (hm : Sm.Ok m) (hp : l.Perm m) :
    Calls Tryz.prog 140 #[v, .func (.func 141) #[] #[]] w fun e w' => e = .returned (.tuple #[]) ∧ OwnR TPqQ w' B v m ∧ Below B w w' := by
  have HI := Lib.hid (insP_any w B hB l v ho hl hm hp)
  obtain ⟨a, n, cap, hv, hnl⟩ : ∃ a n cap, v = .slice a n cap ∧ n = l.length := by obtain ⟨a, cap, hv, _, _⟩ := ho.form; exact ⟨a, _, cap, hv, rfl⟩
  subst hv
  rw [← hnl] at HI
  have hn12 : n ≤ 12 := by omega
  have HL := Lib.hid (Len_12 n hn12 w)
  have hle : ((n : Int) ≤ 12) := by omega
  clear ho hl hm hp hnl
  have HS : Hid (∀ r : Int, Calls Tryz.prog 178 #[.slice a n cap, .int .i64 0, .int .i64 n, .int .i64 r, .func (.func 141) #[] #[]] w fun e w' => e = .returned (.tuple #[]) ∧ OwnR TPqQ w' B (.slice a n cap) m ∧ Below B w w') := Lib.hid (by
    intro r
    have hw0 : IntKind.i64.wrap ((n : Int) - 0) = n := by rw [IntWalk.i64_in _ (by omega)]; omega
    go_enter Tryz.func178, Tryz.ntmps178
    go_wp2_with fail
    go_loopw [1, 2, 3, 10, 11] (fun va vb vr x y wr => va = .int .i64 0 ∧ vb = .int .i64 n ∧ vr = .int .i64 r ∧ x = .bool true ∧ y = .bool true ∧ w = wr) (fun _ _ _ _ _ _ => 0)
    case atStart => exact ⟨rfl, rfl, rfl, rfl, rfl, rfl⟩
    case round =>
      obtain ⟨rfl, rfl, rfl, rfl, rfl, rfl⟩ := hrel
      go_wp2_with fail
      refine HI.out.mono ?_
      rintro e w2 ⟨rfl, h3, h4⟩
      have HF := Lib.hid (And.intro h3 h4)
      clear h3 h4
      go_wp2
      refine bodyPost_ret (results_none rfl _ _ _) rfl ?_
      exact ⟨rfl, HF.out⟩)
  go_enter Tryz.func140, Tryz.ntmps140
  go_wp2_with fail
  refine HL.out.mono ?_
  rintro e w' ⟨⟨r, rfl⟩, rfl⟩
  go_wp2_with fail
  refine (HS.out r).mono ?_
  rintro e w2 ⟨rfl, h3, h4⟩
  have HF := Lib.hid (And.intro h3 h4)
  clear h3 h4
  go_wp2
  go_end0
  exact ⟨rfl, HF.out⟩
/-- pairs gatheredQ in any order are those of the map. -/
theorem all_gatheredQ {m : Sm Int} (hm : Sm.Ok m) {acc : List (Bs × Int)} (hv : ∀ p ∈ acc, m.get p.1 = some p.2) (hn : (acc.map (·.1)).Nodup) (h : ∀ k, k ∈ acc.map (·.1) ↔ ∃ b, m.get k = some b) : acc.Perm m := by
  have e1 : acc = (acc.map (·.1)).map fun k => (k, (m.get k).getD 0) := by
    rw [List.map_map]
    conv => lhs; rw [← List.map_id acc]
    refine List.map_congr_left fun p hp => ?_
    simp only [Function.comp, hv p hp, Option.getD_some, id]
  have e2 : m = (m.keys).map fun k => (k, (m.get k).getD 0) := by
    unfold Sm.keys
    rw [List.map_map]
    conv => lhs; rw [← List.map_id m]
    refine List.map_congr_left fun p hp => ?_
    simp only [Function.comp, Sm.get_of_mem hm (show (p.1, p.2) ∈ m from hp), Option.getD_some, id]
  have hk : (acc.map (·.1)).Perm m.keys := (List.perm_ext_iff_of_nodup hn (Sm.keys_nodup hm)).2 fun k => by
    rw [h]
    constructor
    · rintro ⟨b, hb⟩; exact List.mem_map.2 ⟨(k, b), Sm.get_mem hb, rfl⟩
    · intro hk
      obtain ⟨p, hp, rfl⟩ := List.mem_map.1 hk
      exact ⟨p.2, Sm.get_of_mem hm hp⟩
  rw [e1]
  conv => rhs; rw [e2]
  exact hk.map _
theorem gatherA_noneQ {m : Sm Int} : (([] : List (Bs × Int)).map (·.1)).Nodup ∧ ∀ k, k ∈ ([] : List (Bs × Int)).map (·.1) ↔ ∃ b, m.get k = some b ∧ Maps.has (DataW.map (smD TMi m)) (.string k) = false := by
  have h := gather_noneQ (m := m) (n := m) rfl (U := TMi) (fun _ => true)
  simpa using h
theorem gatherA_stepQ {m : Sm Int} {acc : List Bs} {left : Lit → Bool} {x : Bs} {b : Int} (h : acc.Nodup ∧ ∀ k, k ∈ acc ↔ ∃ b, m.get k = some b ∧ left (.string k) = false) (hx : left (.string x) = true) (hb : m.get x = some b) :
    (acc ++ [x]).Nodup ∧ ∀ k, k ∈ acc ++ [x] ↔ ∃ b, m.get k = some b ∧ (left (.string k) && !(Lit.string k).sameKey (.string x)) = false := by
  have := gather_stepQ (q := fun _ => true) (acc := acc) (left := left) ⟨h.1, fun k => (h.2 k).trans ⟨fun ⟨b, h1, h2⟩ => ⟨b, h1, rfl, h2⟩, fun ⟨b, h1, _, h2⟩ => ⟨b, h1, h2⟩⟩⟩ hx hb
  rw [if_pos rfl] at this
  exact ⟨this.1, fun k => (this.2 k).trans ⟨fun ⟨b, h1, _, h2⟩ => ⟨b, h1, h2⟩, fun ⟨b, h1, h2⟩ => ⟨b, h1, rfl, h2⟩⟩⟩
set_option maxHeartbeats 4000000 in
set_option maxRecDepth 100000 in
theorem pairs_anyQ (M : Nat) (m : Sm Int) (w : World) (hM : MapS TMi w M m) (hT : TxW w) (hm : m.length ≤ 12) (hv : ∀ p ∈ m, 0 ≤ p.2 ∧ p.2 ≤ 1000000000) :
    Calls Tryz.prog 107 #[.map (some M)] w fun e w' => (∃ v, e = .returned v ∧ OwnR TPrQ w' w.heap.size v (m.map prOfQ)) ∧ Below w.heap.size w w' := by
  have hOk := hM.1
  have hO2 := hM.2
  have HT := Lib.hid hT
  have HM := Lib.hid hm
  have HV := Lib.hid hv
  have HOK := Lib.hid hOk
  clear hM hOk hT hm hv
  go_enter Tryz.func107, Tryz.ntmps107
  go_wp2_with (first
    | (at_range; refine wpList_range_own _ rfl _ 128 rfl 9 3 strKd Tryz.underlying128 _ M m.length (.map (smD TMi m)) rfl hO2 ?_; intro w0 hrg0 hg0 hs0)
    | go_in)
  go_frame
  go_loopw [3] (fun ov wr => ∃ (acc : List (Bs × Int)) (left : Lit → Bool) (cnt : Nat), wr.ranges Tryz.prog 9 TMi.R M w.heap.size m.length (.map (smD TMi m)) left cnt ∧ OwnR TPqQ wr w.heap.size ov acc ∧ Hid (((acc.map (·.1)).Nodup ∧ ∀ k, k ∈ acc.map (·.1) ↔ ∃ b, m.get k = some b ∧ left (.string k) = false) ∧ ∀ p ∈ acc, m.get p.1 = some p.2) ∧ Below w.heap.size w wr ∧ w.heap.size < wr.heap.size) (fun _ wr => wr.rangeLeft M w.heap.size)
  case atStart => exact ⟨[], _, _, hrg0, OwnR.nil _ _, Lib.hid ⟨gatherA_noneQ, fun p hp => by cases hp⟩, Gr.below_none hg0, by omega⟩
  case round =>
    obtain ⟨acc, left, cnt, hrg, hO, HA, hbr, hsz⟩ := hrel
    obtain ⟨oa, on, oc, rfl⟩ : ∃ a n c, u3 = .slice a n c := (by obtain ⟨a, c, h, _, _⟩ := hO.form; exact ⟨a, _, c, h⟩)
    have hfew : acc.length ≤ 12 := by
      have := acc_fewQ HA.out.1.1 fun k hk => by obtain ⟨b, h1, _⟩ := (HA.out.1.2 k).1 hk; exact ⟨b, h1⟩
      rw [List.length_map] at this
      exact Nat.le_trans this HM.out
    have HO := Lib.hid hO
    clear hO
    go_wp2_with (first
      | (at_next; refine next_spQ TMi.ok rfl _ rfl rfl hrg ?_ ?_)
      | go_in)
    · intro _ hl0
      have HP := Lib.hid (all_gatheredQ HOK.out HA.out.2 HA.out.1.1 fun k => by rw [HA.out.1.2 k]; simp [hl0])
      have HS := Lib.hid (pairSort_anyQ wr w.heap.size (by omega) acc _ HO.out (by omega) HOK.out HP.out)
      have HB := Lib.hid hbr
      go_wp2_with fail
      refine HS.out.mono ?_
      rintro e w2 ⟨rfl, hO2, hg2⟩
      have HF := Lib.hid (And.intro (own_pqQ.1 hO2) (Below.trans HB.out hg2))
      clear hO2 hg2
      go_wp2
      go_ret
      exact ⟨⟨_, rfl, HF.out.1⟩, HF.out.2⟩
    · intro x y w1 cnt1 hxl hlk hget hrg1 hlt hg1 hsz1 hen
      have hbr1 : Below w.heap.size w w1 := Below.trans hbr (Gr.below hg1 (Nat.le_refl _) (Nat.le_of_lt hsz))
      have HB1 := Lib.hid hbr1
      have HO1 : Hid (OwnR TPqQ w1 w.heap.size (.slice oa on oc) acc) := Lib.hid (HO.out.kept2Q hg1 fun e => (range_offQ hrg HO.out).2 e.symm)
      have HST := Lib.hid (gatherA_stepQ HA.out.1 hlk hget)
      have HGV := Lib.hid (fun p (hp : p ∈ acc ++ [(x, y)]) => show m.get p.1 = some p.2 by
        rcases List.mem_append.1 hp with hp | hp
        · exact HA.out.2 p hp
        · rw [List.mem_singleton.1 hp]; exact hget)
      have hyb := HV.out _ (Sm.get_mem hget)
      have HIT := Lib.hid (Itoa_any y w1 (HT.out.below hbr1) (by omega) (by omega))
      obtain ⟨ib, hib⟩ : ∃ x, x = itBQ y := ⟨_, rfl⟩
      have HIB := Lib.hid hib
      rw [show (⟨(Lib.itoa y).toArray⟩ : ByteArray) = ib from hib.symm] at HIT
      clear hget hib
      simp only [TMi] at hen
      go_wp2_with fail
      refine HIT.out.mono ?_
      rintro e w2 ⟨rfl, hb2⟩
      have HF := Lib.hid (And.intro (HO1.out.below hb2) (Bl.trans HB1.out hb2))
      have hrg2 := hrg1.kept (Gr.of_below hb2 none) (by simp) (by simp)
      have hz2 := hb2.size
      clear hb2
      go_wp2_with (at_builtin; refine wp_app_rec TPqQ.okQ rfl _ _ rfl w.heap.size _ acc rfl (HF.out.1.alloc _) w2.heap.size 1 (x, y) rfl (blk_new w2 _) (by rw [HIB.out]; rfl) (by omega) (by simp; omega) ?_)
      intro v3 w3 hO3 hg3 hb3
      have hA := hrg2.alloc (.cells #[.string (baOf x), .string ib] 106)
      have hof := range_offQ hA (HF.out.1.alloc (.cells #[.string (baOf x), .string ib] 106))
      have hrg3 := hA.kept hg3 hof.1 hof.2
      have HF3 := Lib.hid (And.intro hO3 (Below.trans (Bl.alloc HF.out.2 (.cells #[.string (baOf x), .string ib] 106)) hb3))
      have hz3 := hb3.size
      simp at hz3
      clear hO3 hg3 hb3 hof hA
      have HST2 : Hid ((((acc ++ [(x, y)]).map (·.1)).Nodup ∧ ∀ k, k ∈ (acc ++ [(x, y)]).map (·.1) ↔ ∃ b, m.get k = some b ∧ (left (.string k) && !(Lit.string k).sameKey (.string x)) = false) ∧ ∀ p ∈ acc ++ [(x, y)], m.get p.1 = some p.2) := Lib.hid ⟨by
        have h := HST.out
        rw [List.map_append]
        exact h, HGV.out⟩
      go_wp2
      go_roundw
      case rel => exact ⟨acc ++ [(x, y)], _, cnt1, hrg3, HF3.out.1, HST2, HF3.out.2, by omega⟩
      case measure => rw [hrg3.left_eq, hrg.left_eq]; exact hlt
end Go.Proofs.YtcfeoapbbkfbnaaGreatDoor
namespace Go.Proofs.YtcfeoapbbkfbnaaGreatDoor
open Go.RowKit Go.Sort

theorem neqPr_noQ (x1 x2 : _) (W : World) : (binOp .neq 106 (.agg #[.string x1, .string x2]) (.agg #[.string x1, .string x2])).run Tryz.prog W = .ok (.bool false) W := by
  go_simp
theorem neqPr_yesQ {x1 x2 y1 y2 : _} (hxy : ((x1, x2) : ByteArray × ByteArray) ≠ (y1, y2)) (W : World) : (binOp .neq 106 (.agg #[.string x1, .string x2]) (.agg #[.string y1, .string y2])).run Tryz.prog W = .ok (.bool true) W := by
  go_simp
  intro e1 e2
  first
    | (exact hxy (by subst e1; subst e2; rfl))
    | (have e1 := ba_inj e1; have e2 := ba_inj e2; exact hxy (by subst e1; subst e2; rfl))
set_option maxHeartbeats 4000000 in
set_option maxRecDepth 100000 in
theorem EqualPr_anyQ (l m : List (ByteArray × ByteArray)) (v u : Value) (w : World) (_ : l.length ≤ 1000000) (hm : m.length ≤ 1000000) (rl : RecR TPrQ w 0 v l) (rm : RecR TPrQ w 0 u m) :
    Calls Tryz.prog 59 #[v, u] w fun e w' => e = .returned (.bool (decide (l = m))) ∧ Below w.heap.size w w' := by
  obtain ⟨a, ca, rfl, _, _⟩ := rl.form
  obtain ⟨b, cb, rfl, _, _⟩ := rm.form
  have RL := Lib.hid rl
  have RM := Lib.hid rm
  clear rl rm
  by_cases hlm : l.length = m.length
  · have HLM := Lib.hid hlm
    have hmk : ∀ k, k < l.length → k < m.length := fun k h => by omega
    rw [← hlm]
    clear hlm
    go_enter Tryz.func59, Tryz.ntmps59
    go_wp2_with fail
    go_loopw [13] (fun i wr => ∃ k : Nat, k ≤ l.length ∧ i = .int .i64 k ∧ Hid (l.take k = m.take k) ∧ Below w.heap.size w wr) (fun i _ => l.length - (intOf i).toNat)
    case atStart => exact ⟨0, Nat.zero_le _, rfl, Lib.hid (by simp), Below.refl _ _⟩
    case round =>
      obtain ⟨k, hk, rfl, hT, hB⟩ := hrel
      by_cases hlt : k < l.length
      · obtain ⟨x, hx⟩ : ∃ x, l[k]? = some x := ⟨_, List.getElem?_eq_getElem hlt⟩
        obtain ⟨y, hy⟩ : ∃ y, m[k]? = some y := ⟨_, List.getElem?_eq_getElem (hmk k hlt)⟩
        obtain ⟨b1, o1, rfl, _, _, hc1⟩ := (RL.out.below hB).at TPrQ.okQ.len hx TPrQ.okQ.pos
        obtain ⟨b2, o2, rfl, _, _, hc2⟩ := (RM.out.below hB).at TPrQ.okQ.len hy TPrQ.okQ.pos
        have HX := Lib.hid hx
        have HY := Lib.hid hy
        obtain ⟨x1, x2⟩ := x
        obtain ⟨y1, y2⟩ := y
        have cx0 : wr.cell? ⟨b1, o1 + k * 2, none⟩ = some (.string x1) := hc1 0 _ rfl
        have cx1 : wr.cell? ⟨b1, o1 + k * 2 + 1, none⟩ = some (.string x2) := hc1 1 _ rfl
        have cy0 : wr.cell? ⟨b2, o2 + k * 2, none⟩ = some (.string y1) := hc2 0 _ rfl
        have cy1 : wr.cell? ⟨b2, o2 + k * 2 + 1, none⟩ = some (.string y2) := hc2 1 _ rfl
        have hw1 : IntKind.i64.wrap ((k : Int) + 1) = ((k + 1 : Nat) : Int) := by rw [IntWalk.i64_in _ (by omega)]; omega
        clear hc1 hc2 hx hy
        by_cases hxy : ((x1, x2) : ByteArray × ByteArray) = (y1, y2)
        · have HT2 : Hid (l.take (k + 1) = m.take (k + 1)) := Lib.hid (by rw [List.take_add_one, List.take_add_one, hT.out, HX.out, HY.out, hxy])
          obtain ⟨e1, hxy⟩ := Prod.mk.inj hxy
          have e2 := hxy
          clear hxy
          subst e1; subst e2
          have hne := neqPr_noQ x1 x2
          go_wp2_with fail
          go_region
          all_goals (
            go_wp2
            go_roundw
            case rel => exact ⟨k + 1, by omega, by go_num, HT2, Below.drew hB⟩
            case measure => simp [intOf]; omega)
        · have HR : Hid (decide (l = m) = false) := Lib.hid (by
            rw [decide_eq_false_iff_not]
            rintro rfl
            have := HX.out.symm.trans HY.out
            injection this with this
            exact hxy this)
          have hne := neqPr_yesQ hxy
          clear hxy
          go_wp2_with fail
          go_region
          all_goals (
            go_wp2
            go_ret
            exact ⟨ret_bool HR.out.symm, Below.drew hB⟩)
      · obtain rfl : k = l.length := by omega
        have HR : Hid (decide (l = m) = true) := Lib.hid (by
          rw [decide_eq_true_eq]
          have := hT.out
          rw [List.take_length, HLM.out, List.take_length] at this
          exact this)
        go_wp2
        go_ret
        exact ⟨ret_bool HR.out.symm, hB⟩
  · have hi : ¬ ((l.length : Nat) : Int) = ((m.length : Nat) : Int) := by omega
    have HR : Hid (decide (l = m) = false) := Lib.hid (by
      rw [decide_eq_false_iff_not]
      intro h
      exact hlm (congrArg List.length h))
    go_enter Tryz.func59, Tryz.ntmps59
    go_wp2
    go_ret
    exact ⟨ret_bool HR.out.symm, Below.refl _ _⟩
end Go.Proofs.YtcfeoapbbkfbnaaGreatDoor
namespace Go.Proofs.YtcfeoapbbkfbnaaGreatDoor
open Go.RowKit Go.Sort Go.Maps

/-- feeders that were loaded, and how many uses there were. -/
structure FwI (lo hi : Int) (A : Mdl) (k : Nat) (L : List Bs) (U : Nat) : Prop where
  r : ∀ f, A.row f ≠ [] → bsOf f ∈ L
  s : ∀ p ∈ usedL lo hi [] A.log, p.1 ∈ L
  n : (usedL lo hi [] A.log).length ≤ U
  c : L.length + U ≤ k
theorem FwI.step {lo hi : Int} {A : Mdl} {k : Nat} {L : List Bs} {U : Nat} (h : FwI lo hi A k L U) (hI : InvM A k) {e : Fed} (he : FedR e) (i : Int) : ∃ L' U', FwI lo hi (stepM A i e) (k + 1) L' U' := by
  have hst := used_step (lo := lo) (hi := hi) hI he i
  have hc := h.c
  by_cases h0 : refM A e = 0
  case neg =>
    refine ⟨L, U, ?_, by rw [hst, if_neg fun q => h0 q.1]; exact h.s, by rw [hst, if_neg fun q => h0 q.1]; exact h.n, by omega⟩
    unfold stepM
    rw [if_neg h0]
    exact h.r
  by_cases h4 : e.kd = 4
  · have hr : A.row e.fd ≠ [] := fun hq => by
      unfold refM at h0
      rw [if_neg (by omega), if_neg (by omega), if_neg (by omega), if_pos h4, if_pos hq] at h0
      omega
    refine ⟨L, U + 1, fun f hf => ?_, fun p hp => ?_, ?_, by omega⟩
    · unfold stepM doM at hf
      rw [if_pos h0, if_neg (by omega), if_neg (by omega), if_pos h4] at hf
      by_cases hfe : f = e.fd
      · subst hfe; exact h.r _ hr
      · have hf' : updR A.row e.fd (useT A e).2.1 f ≠ [] := hf
        unfold updR at hf'
        rw [if_neg hfe] at hf'
        exact h.r f hf'
    · rw [hst] at hp
      split at hp
      · unfold addU at hp
        rcases (Sm.ins_mem p).1 hp with rfl | hp
        · exact h.r _ hr
        · exact h.s p (List.mem_filter.1 hp).1
      · exact h.s p hp
    · rw [hst]
      have := h.n
      split
      · have := addU_len (usedL lo hi [] A.log) e.fd e.mn
        omega
      · omega
  · rw [if_neg fun q => h4 q.2.1] at hst
    by_cases h12 : e.kd = 1 ∨ e.kd = 2
    · refine ⟨bsOf e.fd :: L, U, fun f hf => ?_, fun p hp => by rw [hst] at hp; exact List.mem_cons_of_mem _ (h.s p hp), by rw [hst]; exact h.n, by rw [List.length_cons]; omega⟩
      unfold stepM doM at hf
      rw [if_pos h0, if_pos h12] at hf
      by_cases hfe : f = e.fd
      · subst hfe; exact List.mem_cons_self ..
      · have hf' : updR A.row e.fd (A.row e.fd ++ [e.rl]) f ≠ [] := hf
        unfold updR at hf'
        rw [if_neg hfe] at hf'
        exact List.mem_cons_of_mem _ (h.r f hf')
    · refine ⟨L, U, fun f hf => ?_, fun p hp => by rw [hst] at hp; exact h.s p hp, by rw [hst]; exact h.n, by omega⟩
      unfold stepM doM at hf
      rw [if_pos h0, if_neg h12] at hf
      by_cases h3 : e.kd = 3
      · rw [if_pos h3] at hf
        have hf' : updR A.row e.fd [] f ≠ [] := hf
        unfold updR at hf'
        split at hf'
        · exact absurd rfl hf'
        · exact h.r f hf'
      · rw [if_neg h3, if_neg h4] at hf
        exact h.r f hf
/-- what the log tells is small. -/
def LgM (A : Mdl) : Prop := ∀ t ∈ A.log, (0 ≤ t.2.2.2.2.2 ∧ t.2.2.2.2.2 ≤ 100000) ∧ t.2.2.2.1.size ≤ 1000
theorem lgS_ge : ∀ (l : List (ByteArray × Int)), (∀ p ∈ l, 1 ≤ p.2) → 0 ≤ lgS l ∧ ∀ p ∈ l, p.2 ≤ lgS l
  | [], _ => ⟨Int.le_refl _, fun p hp => by simp at hp⟩
  | q :: l, h => by
    obtain ⟨h1, h2⟩ := lgS_ge l fun p hp => h p (List.mem_cons_of_mem _ hp)
    have hq := h q (List.mem_cons_self ..)
    refine ⟨by show 0 ≤ q.2 + lgS l; omega, fun p hp => ?_⟩
    show p.2 ≤ q.2 + lgS l
    rcases List.mem_cons.1 hp with rfl | hp
    · omega
    · have := h2 p hp; omega
theorem LgM.step {A : Mdl} {n : Nat} (hl : LgM A) (h : InvM A n) {e : Fed} (he : FedR e) (i : Int) : LgM (stepM A i e) := by
  unfold stepM
  by_cases h0 : refM A e = 0
  case neg => rw [if_neg h0]; exact hl
  rw [if_pos h0]
  unfold doM
  split
  · exact hl
  split
  · exact hl
  split
  · rename_i h4
    intro t ht
    have ht' : t ∈ A.log ++ logU i e (useT A e).2.2 := ht
    rcases List.mem_append.1 ht' with ht' | ht'
    · exact hl t ht'
    · unfold logU at ht'
      obtain ⟨p, hp, rfl⟩ := List.mem_map.1 ht'
      have hp' := List.mem_reverse.1 hp
      have hr := h0
      unfold refM at hr
      rw [if_neg (by omega), if_neg (by omega), if_neg (by omega), if_pos h4] at hr
      split at hr
      · cases hr
      split at hr
      · cases hr
      rename_i hs
      have hm := he.use h4
      have hm1 := he.m1
      have hsum : lgS (useT A e).2.2 = e.mn := by
        have := takeO_sum e.mn.toNat A.left (A.row e.fd) [] (h.nd _) (by omega)
        unfold useT
        rw [this]
        show 0 + (e.mn.toNat : Int) = e.mn
        omega
      obtain ⟨_, _, c3, _⟩ := takeO_cons (h.nd e.fd) e.mn.toNat A.left (A.row e.fd) [] (fun x hx => hx) (fun p hp => by simp at hp)
      obtain ⟨_, g2⟩ := lgS_ge (useT A e).2.2 fun q hq => (c3 q hq).1
      have h1 := (c3 p hp').1
      have h2 := g2 p hp'
      exact ⟨⟨by show 0 ≤ p.2; omega, by show p.2 ≤ 100000; omega⟩, he.fd⟩
  · exact hl
structure UwI (lo hi : Int) (A : Mdl) (k : Nat) : Prop where
  inv : InvM A k
  bd : ∀ p ∈ usedL lo hi [] A.log, 0 ≤ p.2 ∧ p.2 ≤ 100000 * k
  fw : ∃ L U, FwI lo hi A k L U
  lg : LgM A
theorem UwI.step {lo hi : Int} {A : Mdl} {k : Nat} (h : UwI lo hi A k) {e : Fed} (he : FedR e) (i : Int) : UwI lo hi (stepM A i e) (k + 1) := by
  obtain ⟨L, U, hf⟩ := h.fw
  refine ⟨h.inv.step he i, ?_, hf.step h.inv he i, h.lg.step h.inv he i⟩
  have hst := used_step (lo := lo) (hi := hi) h.inv he i
  rw [hst]
  split
  · intro p hp
    have := addU_bd h.bd (by omega) e.fd he.m0 he.m1 p hp
    omega
  · intro p hp
    have := h.bd p hp
    omega
theorem UwI.mono1 {lo hi : Int} {A : Mdl} {k : Nat} (h : UwI lo hi A k) : UwI lo hi A (k + 1) := by
  obtain ⟨L, U, hf⟩ := h.fw
  exact ⟨h.inv.mono (Nat.le_succ k), fun p hp => by have := h.bd p hp; omega, ⟨L, U, hf.r, hf.s, hf.n, by have := hf.c; omega⟩, h.lg⟩
theorem UwI.run {lo hi : Int} (t : Int) : ∀ (l : List Fed) (A : Mdl) (k : Nat), UwI lo hi A k → (∀ e ∈ l, FedR e) → UwI lo hi (runM t A k l) (k + l.length)
  | [], _, _, h, _ => h
  | e :: l, A, k, h, hl => by
    rw [runM, List.length_cons, show k + (l.length + 1) = k + 1 + l.length by omega]
    split
    · exact UwI.run t l A (k + 1) h.mono1 fun x hx => hl x (List.mem_cons_of_mem _ hx)
    · exact UwI.run t l _ (k + 1) (h.step (hl e (List.mem_cons_self ..)) k) fun x hx => hl x (List.mem_cons_of_mem _ hx)
theorem used_small {rs : List Rel} {l : List Fed} (h : OkF rs l) (lo hi : Int) : (∀ p ∈ usedM rs l lo hi, 0 ≤ p.2 ∧ p.2 ≤ 100000 * l.length) ∧ 2 * (usedM rs l lo hi).length ≤ l.length ∧ LgM (runM 345686400000 (newM rs) 0 l) := by
  have h0 : UwI lo hi (newM rs) 0 := ⟨newM_inv fun x hx => (h.rz x hx).2, fun p hp => absurd hp (by simp [usedL, newM]), ⟨[], 0, fun f hf => absurd rfl hf, fun p hp => absurd hp (by simp [usedL, newM]), Nat.le_refl _, Nat.le_refl _⟩, fun t ht => by simp [newM] at ht⟩
  have h1 := UwI.run 345686400000 l (newM rs) 0 h0 h.lz
  rw [Nat.zero_add] at h1
  obtain ⟨L, U, hf⟩ := h1.fw
  refine ⟨h1.bd, ?_, h1.lg⟩
  have hn : (Sm.keys (usedM rs l lo hi)).Nodup := Sm.keys_nodup (usedL_ok lo hi _ _ Sm.Ok.nil)
  have hle : (Sm.keys (usedM rs l lo hi)).length ≤ L.length := List.Nodup.length_le_of_subset hn fun k hk => by
    obtain ⟨p, hp, rfl⟩ := List.mem_map.1 hk
    exact hf.s p hp
  rw [keys_len] at hle
  have h2 : (usedM rs l lo hi).length ≤ U := hf.n
  have h3 := hf.c
  omega
/-- a window's test by both. -/
theorem in_win (lo hi t : Int) : inB lo t (hi - 1) = winB lo hi t := by
  unfold inB winB
  rw [Bool.eq_iff_iff]
  simp only [Bool.and_eq_true, decide_eq_true_eq]
  omega
theorem usedL_snoc (lo hi : Int) {T : List Tkn} {k : Nat} {t : Tkn} (h : T[k]? = some t) : usedL lo hi [] (T.take (k + 1)) = if winB lo hi t.2.1 = true then addU (usedL lo hi [] (T.take k)) t.2.2.2.1 t.2.2.2.2.2 else usedL lo hi [] (T.take k) := by
  rw [List.take_add_one, h, Option.toList_some, usedL_app]
  rfl
end Go.Proofs.YtcfeoapbbkfbnaaGreatDoor
namespace Go.Proofs.YtcfeoapbbkfbnaaGreatDoor
open Go.RowKit Go.Sort Go.Maps

theorem bdL {lo hi : Int} : ∀ (T : List Tkn), (∀ t ∈ T, (0 ≤ t.2.2.2.2.2 ∧ t.2.2.2.2.2 ≤ 100000) ∧ t.2.2.2.1.size ≤ 1000) → ∀ (m : Sm Int) (B : Int), 0 ≤ B → (∀ p ∈ m, 0 ≤ p.2 ∧ p.2 ≤ B) → ∀ p ∈ usedL lo hi m T, 0 ≤ p.2 ∧ p.2 ≤ B + 100000 * T.length
  | [], _, m, B, hB, h => fun p hp => by have := h p hp; simp; omega
  | t :: T, hT, m, B, hB, h => fun p hp => by
    have ht := hT t (List.mem_cons_self ..)
    have h1 : ∀ p ∈ (if winB lo hi t.2.1 = true then addU m t.2.2.2.1 t.2.2.2.2.2 else m), 0 ≤ p.2 ∧ p.2 ≤ B + 100000 := by
      split
      · exact addU_bd h hB _ ht.1.1 ht.1.2
      · intro q hq; have := h q hq; omega
    have := bdL T (fun x hx => hT x (List.mem_cons_of_mem _ hx)) _ (B + 100000) (by omega) h1 p hp
    rw [List.length_cons]
    omega
theorem lenL {lo hi : Int} : ∀ (T : List Tkn) (m : Sm Int), (usedL lo hi m T).length ≤ m.length + T.length
  | [], m => Nat.le_refl _
  | t :: T, m => by
    have := lenL (lo := lo) (hi := hi) T (if winB lo hi t.2.1 = true then addU m t.2.2.2.1 t.2.2.2.2.2 else m)
    have h2 := addU_len m t.2.2.2.1 t.2.2.2.2.2
    rw [usedL, List.length_cons]
    split at this <;> simp_all <;> omega
set_option maxHeartbeats 8000000 in
set_option maxRecDepth 100000 in
theorem UsedOf_any (rs : List Rel) (l : List Fed) (lo hi : Int) (vr vl : Value) (w : World) (hTx : TxW w) (rr : RecR TRe w 0 vr rs) (rl : RecR TFe w 0 vl l) (h : OkF rs l) (hln : l.length ≤ 24) (hwn : isWB lo hi = true) :
    Calls Tryz.prog 58 #[vr, vl, .agg #[.int .i64 lo, .int .i64 hi]] w fun e w' => (∃ v, e = .returned v ∧ OwnR TPrQ w' w.heap.size v ((usedM rs l lo hi).map prOfQ)) ∧ Below w.heap.size w w' := by
  obtain ⟨w0, hw0⟩ : ∃ w0, w0 = w.alloc (.cells #[.int .i64 lo, .int .i64 hi] 95) := ⟨_, rfl⟩
  have hb0 : Below w.heap.size w w0 := by rw [hw0]; exact Bl.alloc (Below.refl _ _) _
  have hN0 : w0.heap[w.heap.size]? = some (.cells #[.int .i64 lo, .int .i64 hi] 95 (0, 0)) := by rw [hw0]; exact blk_new w _
  have HST := Lib.hid (stored_any rs l 345686400000 vr vl w0 (rr.below hb0) (rl.below hb0) h.rn h.rz (by omega) h.lz)
  obtain ⟨sm1, sm2, sm3⟩ := used_small h lo hi
  have HLN := Lib.hid hln
  have hwb : 0 ≤ lo ∧ lo ≤ hi ∧ hi ≤ 345686400000 := by
    unfold isWB inB at hwn
    simpa [and_assoc] using hwn
  obtain ⟨ra, rc, rfl, _, _⟩ := rr.form
  obtain ⟨la, lc, rfl, _, _⟩ := rl.form
  obtain ⟨T, hT⟩ : ∃ T, T = (runM 345686400000 (newM rs) 0 l).log := ⟨_, rfl⟩
  obtain ⟨m, hm⟩ : ∃ m, m = usedM rs l lo hi := ⟨_, rfl⟩
  have hmT : m = usedL lo hi [] T := by rw [hm, hT]; rfl
  unfold LgM at sm3
  rw [← hm] at sm1 sm2 ⊢
  rw [← hT] at sm3
  have HB0 := Lib.hid (And.intro hb0 hN0)
  have HTX := Lib.hid hTx
  have HSM : Hid ((∀ p ∈ m, 0 ≤ p.2 ∧ p.2 ≤ 1000000000) ∧ m.length ≤ 12 ∧ (∀ t ∈ T, (0 ≤ t.2.2.2.2.2 ∧ t.2.2.2.2.2 ≤ 100000) ∧ t.2.2.2.1.size ≤ 1000)) := Lib.hid ⟨fun p hp => by have := sm1 p hp; omega, by omega, sm3⟩
  have HMT := Lib.hid hmT
  have HTE := Lib.hid hT
  have e2 : IntKind.i64.wrap (hi - 1) = hi - 1 := IntWalk.i64_in _ (by omega)
  have E2 := Lib.hid e2
  clear rr rl h hln hb0 hN0 sm1 sm2 sm3 hm hmT hT hTx hwn e2
  go_enter Tryz.func58, Tryz.ntmps58
  go_wp2_with fail
  rw [← hw0]
  clear hw0
  refine HST.out.mono ?_
  rintro e w3 ⟨L, ov, wv, rfl, ⟨r, N, hS, hR⟩, hI, -, -, hb3⟩
  have hfew : T.length ≤ 1000000 := by
    have h2 := hI.ll
    have h3 : l.length * l.length ≤ 24 * 24 := Nat.mul_le_mul HLN.out HLN.out
    rw [HTE.out]; omega
  obtain ⟨tv, hbS, hO⟩ := hS.tv
  rw [hR.log, ← HTE.out] at hO
  obtain ⟨ta, tc, rfl, _, _⟩ := hO.form
  have hN3 := blk_below HB0.out.2 hb3
  obtain ⟨w4, hw4⟩ : ∃ w4, w4 = w3.alloc (.map #[] 0) := ⟨_, rfl⟩
  have hb4 : Below w3.heap.size w3 w4 := by rw [hw4]; exact Bl.alloc (Below.refl _ _) _
  have hM4 : MapS TMi w4 w3.heap.size [] := by rw [hw4]; exact MapS.made w3
  have hbS4 := blk_below hbS hb4
  have hN4 := blk_below hN3 hb4
  have hb04 := Bl.trans (Bl.trans HB0.out.1 hb3) hb4
  have HRT := Lib.hid (fun W (hW : Below w3.heap.size w3 W) => hO.rec0.below hW)
  have HB4 := Lib.hid (And.intro hb4 (And.intro (Bl.trans HB0.out.1 hb3) (And.intro hN3 (And.intro hM4 (blk_lt hN3)))))
  have c3 : w3.cell? ⟨L.S, 3, none⟩ = some (.slice ta T.length tc) := blk_cell hbS 3
  have lS := blk_lt hbS
  have HFW := Lib.hid hfew
  clear hS hR hI hb3 hO hbS hN3 hb4 hM4 hbS4 hN4 hb04 hfew HST
  have hmm := @run_makeMap Tryz.prog
  go_wp2_with fail
  rw [← hw4]
  clear hw4 hmm
  go_loopw [26] (fun i wr => ∃ k : Nat, k ≤ T.length ∧ i = .int .i64 k ∧ Hid (MapS TMi wr w3.heap.size (usedL lo hi [] (T.take k)) ∧ Below w3.heap.size w3 wr)) (fun i _ => T.length - (intOf i).toNat)
  case atStart => exact ⟨0, Nat.zero_le _, rfl, Lib.hid ⟨HB4.out.2.2.2.1, HB4.out.1⟩⟩
  case round =>
    obtain ⟨k, hk, rfl, HB⟩ := hrel
    by_cases hlt : k < T.length
    case neg =>
      obtain rfl : k = T.length := by omega
      rw [List.take_length, ← HMT.out] at HB
      have hbw := Bl.trans HB4.out.2.1 HB.out.2
      have HPS := Lib.hid (pairs_anyQ w3.heap.size m wr HB.out.1 (HTX.out.below hbw) HSM.out.2.1 HSM.out.1)
      have HBW := Lib.hid hbw
      clear hbw
      go_wp2_with fail
      refine HPS.out.mono ?_
      rintro e w9 ⟨⟨v, rfl, hO⟩, hb9⟩
      have HF := Lib.hid (And.intro (hO.base HBW.out.size) (Bl.trans HBW.out hb9))
      clear hO hb9 HPS
      go_wp2
      go_ret
      exact ⟨⟨_, rfl, HF.out.1⟩, HF.out.2⟩
    obtain ⟨t, ht⟩ : ∃ z, T[k]? = some z := ⟨_, List.getElem?_eq_getElem hlt⟩
    have HSN := Lib.hid (usedL_snoc lo hi ht)
    have htb := HSM.out.2.2 t (List.mem_of_getElem? ht)
    obtain ⟨b1, o1, hae, _, hb1', hc1'⟩ := (HRT.out wr HB.out.2).at TTk.ok.len ht TTk.ok.pos
    subst hae
    have HVB : Hid ((∀ p ∈ usedL lo hi [] (T.take k), 0 ≤ p.2 ∧ p.2 ≤ 1000000000000) ∧ (usedL lo hi [] (T.take k)).length ≤ 1000000) := Lib.hid (by
      have hlen : (T.take k).length = k := by rw [List.length_take]; omega
      refine ⟨fun p hp => ?_, ?_⟩
      · have := bdL (T.take k) (fun x hx => HSM.out.2.2 x (List.mem_of_mem_take hx)) [] 0 (Int.le_refl _) (fun p hp => by simp at hp) p hp
        have := HFW.out
        omega
      · have := lenL (lo := lo) (hi := hi) (T.take k) []
        have := HFW.out
        have h0 : ([] : Sm Int).length = 0 := rfl
        omega)
    obtain ⟨m', hm'⟩ : ∃ m', m' = usedL lo hi [] (T.take k) := ⟨_, rfl⟩
    rw [← hm'] at HSN HVB HB
    obtain ⟨ti, ta, tb, tf, tr, tm⟩ := t
    simp only at htb HSN
    have c0 : wr.cell? ⟨b1, o1 + k * 6, none⟩ = some (.int .i64 ti) := hc1' 0 _ rfl
    have c1 : wr.cell? ⟨b1, o1 + k * 6 + 1, none⟩ = some (.int .i64 ta) := hc1' 1 _ rfl
    have c2 : wr.cell? ⟨b1, o1 + k * 6 + 2, none⟩ = some (.string tb) := hc1' 2 _ rfl
    have c3' : wr.cell? ⟨b1, o1 + k * 6 + 3, none⟩ = some (.string tf) := hc1' 3 _ rfl
    have c4 : wr.cell? ⟨b1, o1 + k * 6 + 4, none⟩ = some (.string tr) := hc1' 4 _ rfl
    have c5 : wr.cell? ⟨b1, o1 + k * 6 + 5, none⟩ = some (.int .i64 tm) := hc1' 5 _ rfl
    have hw1 : IntKind.i64.wrap ((k : Int) + 1) = ((k + 1 : Nat) : Int) := by have := HFW.out; rw [IntWalk.i64_in _ (by omega)]; omega
    obtain ⟨w5, hw5⟩ : ∃ w5, w5 = wr.alloc (.cells #[.int .i64 ti, .int .i64 ta, .string tb, .string tf, .string tr, .int .i64 tm] 171) := ⟨_, rfl⟩
    have hb5 : Below wr.heap.size wr w5 := by rw [hw5]; exact Bl.alloc (Below.refl _ _) _
    have hX5 : w5.heap[wr.heap.size]? = some (.cells #[.int .i64 ti, .int .i64 ta, .string tb, .string tf, .string tr, .int .i64 tm] 171 (0, 0)) := by rw [hw5]; exact blk_new wr _
    have hr5 := HB.out.2.trans (hb5.mono HB.out.2.size)
    have hN5 := HB4.out.2.2.1
    have hM5 := HB.out.1.below hb5
    have q0 : wr.cell? ⟨w.heap.size, 0, none⟩ = some (.int .i64 lo) := (HB.out.2.cell (p := ⟨w.heap.size, 0, none⟩) HB4.out.2.2.2.2).trans (blk_cell hN5 0)
    have q1 : wr.cell? ⟨w.heap.size, 1, none⟩ = some (.int .i64 hi) := (HB.out.2.cell (p := ⟨w.heap.size, 1, none⟩) HB4.out.2.2.2.2).trans (blk_cell hN5 1)
    have lW5 : w.heap.size < wr.heap.size := Nat.lt_of_lt_of_le HB4.out.2.2.2.2 HB.out.2.size
    have y1 : w5.cell? ⟨wr.heap.size, 1, none⟩ = some (.int .i64 ta) := blk_cell hX5 1
    have y3 : w5.cell? ⟨wr.heap.size, 3, none⟩ = some (.string tf) := blk_cell hX5 3
    have y5 : w5.cell? ⟨wr.heap.size, 5, none⟩ = some (.int .i64 tm) := blk_cell hX5 5
    have lX5 := blk_lt hX5
    have e2 := E2.out
    have HR5 := Lib.hid (And.intro hM5 hr5)
    have HW5 := Lib.hid hw5
    have HIN := Lib.hid (in_win lo hi ta)
    have HTF : Hid (tf.size ≤ maxLen) := Lib.hid (by unfold maxLen; omega)
    have HTB := Lib.hid htb
    clear ht hc1' hb1' hb5 hX5 hr5 hN5 hM5 htb hm' hw5
    cases hw : winB lo hi ta
    case false =>
      have HS2 : Hid (usedL lo hi [] (T.take (k + 1)) = m') := Lib.hid (by rw [HSN.out, hw]; rfl)
      have HWN := Lib.hid hw
      clear hw
      go_wp2_with fail
      rw [← HW5.out]
      refine (in_any _ _ _ _).mono ?_
      rintro e w' ⟨rfl, rfl⟩
      rw [HIN.out, HWN.out]
      go_wp2
      go_roundw
      case rel => exact ⟨k + 1, by omega, by go_num, Lib.hid ⟨by rw [HS2.out]; exact HR5.out.1, HR5.out.2⟩⟩
      case measure => simp [intOf]; omega
    case true =>
      have HS2 : Hid (usedL lo hi [] (T.take (k + 1)) = addU m' tf tm) := Lib.hid (by rw [HSN.out, hw]; rfl)
      have HWN := Lib.hid hw
      clear hw
      go_wp2_with fail
      rw [← HW5.out]
      refine (in_any _ _ _ _).mono ?_
      rintro e w' ⟨rfl, rfl⟩
      rw [HIN.out, HWN.out]
      obtain ⟨rb, hrb⟩ : ∃ rb, rb = (m'.get tf.data.toList).getD 0 := ⟨_, rfl⟩
      have hrbb := val_bd HVB.out.1 (by omega) tf.data.toList
      rw [← hrb] at hrbb
      have htm := HTB.out.1
      have hlk : (Instr.lookup 128 (.map (some w3.heap.size)) (.string tf) false).run Tryz.prog w5 = .ok (.int .i64 rb) w5 := by
        rw [hrb]; exact HR5.out.1.look TMi.ok tf HTF.out
      obtain ⟨w6, hup, hM6, ht6⟩ := MapS.put HR5.out.1 TMi.ok tf HTF.out (rb + tm) (by unfold maxLen; have := HVB.out.2; omega)
      have hup2 : (Instr.mapUpdate 128 (.map (some w3.heap.size)) (.string tf) (.int .i64 (rb + tm))).run Tryz.prog w5 = .ok () w6 := hup
      have hwr : IntKind.i64.wrap (rb + tm) = rb + tm := IntWalk.i64_in _ (by omega)
      have HF6 : Hid (MapS TMi w6 w3.heap.size (addU m' tf tm) ∧ Below w3.heap.size w3 w6) := Lib.hid ⟨by unfold addU; rw [← hrb]; exact hM6, HR5.out.2.trans (Turned.below ht6 (Nat.le_refl _) HR5.out.2.size)⟩
      clear hup hM6 ht6 hrb hrbb htm
      go_wp2
      go_roundw
      case rel => exact ⟨k + 1, by omega, by go_num, Lib.hid ⟨by rw [HS2.out]; exact HF6.out.1, HF6.out.2⟩⟩
      case measure => simp [intOf]; omega
end Go.Proofs.YtcfeoapbbkfbnaaGreatDoor
