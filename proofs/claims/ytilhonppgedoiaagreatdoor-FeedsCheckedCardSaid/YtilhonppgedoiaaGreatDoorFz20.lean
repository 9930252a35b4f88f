/- Texts of the proof of a law, put together, part 20 of 46. Conditions: none beyond those that each theorem names. -/
import Derived.Test.YtilhonppgedoiaaGreatDoorFz18
namespace Go.Proofs.YtilhonppgedoiaaGreatDoor
open Go.RowKit Go.Sort Go.Maps
/-! the plain law: word after word -/
abbrev Tks := List ByteArray × Bool
def nxT (s : Tks) : Tks := (s.1.tail, s.2 && !s.1.isEmpty)
def hdT (s : Tks) : ByteArray := s.1.headD ⟨#[]⟩
def fwA (u : Bool) (s : Tks) : ByteArray × Tks := if u = true then (hdT s, nxT s) else (⟨#[]⟩, s)
def fwN (m : Nat) (u : Bool) (s : Tks) : Int × Tks := if u = true then ((numT m (bsOf (hdT s))).getD 0, ((nxT s).1, (nxT s).2 && (numT m (bsOf (hdT s))).isSome)) else (0, s)
/-- an event's fields, one after the other; what is left. -/
def fwE (m : Nat) (k : Int) (r : List ByteArray) : Fed × Tks :=
  let a := fwA (uF k) (r, true)
  let b := fwA (uR k) a.2
  let n := fwN m (uM k) b.2
  let d := fwA (uB k) n.2
  ((0, k, a.1, b.1, n.1, d.1), d.2)
def fwOk (m : Nat) (k : Int) (r : List ByteArray) : Bool := (fwE m k r).2.2 && (fwE m k r).2.1.isEmpty && decide (textF (fwE m k r).1 = 0)
/-- which kind a word is, by its place. -/
theorem idxF_is (x : ByteArray) : Lib.idxOfS kwFB x = if bsOf x = kwFof 0 then 0 else if bsOf x = kwFof 1 then 1 else if bsOf x = kwFof 2 then 2 else if bsOf x = kwFof 3 then 3 else if bsOf x = kwFof 4 then 4 else if bsOf x = kwFof 5 then 5 else -1 := by
  have h : ∀ k : Bs, (baOf k = x) ↔ (bsOf x = k) := fun k => ⟨fun h => by rw [← h, bsOf_baOf], fun h => by rw [← h, baOf_bsOf]⟩
  show Lib.idxFromS [baOf (kwFof 0), baOf (kwFof 1), baOf (kwFof 2), baOf (kwFof 3), baOf (kwFof 4), baOf (kwFof 5)] x 0 = _
  simp only [Lib.idxFromS, h]
  rfl
theorem idxF_at {x : ByteArray} {k : Int} (hk : 1 ≤ k ∧ k ≤ 5) : Lib.idxOfS kwFB x = k ↔ bsOf x = kwFof k := by
  rw [idxF_is]
  by_cases h0 : bsOf x = kwFof 0
  · rw [h0, if_pos rfl]; rcases five hk with rfl | rfl | rfl | rfl | rfl <;> decide
  rw [if_neg h0]
  by_cases h1 : bsOf x = kwFof 1
  · rw [h1, if_pos rfl]; rcases five hk with rfl | rfl | rfl | rfl | rfl <;> decide
  rw [if_neg h1]
  by_cases h2 : bsOf x = kwFof 2
  · rw [h2, if_pos rfl]; rcases five hk with rfl | rfl | rfl | rfl | rfl <;> decide
  rw [if_neg h2]
  by_cases h3 : bsOf x = kwFof 3
  · rw [h3, if_pos rfl]; rcases five hk with rfl | rfl | rfl | rfl | rfl <;> decide
  rw [if_neg h3]
  by_cases h4 : bsOf x = kwFof 4
  · rw [h4, if_pos rfl]; rcases five hk with rfl | rfl | rfl | rfl | rfl <;> decide
  rw [if_neg h4]
  by_cases h5 : bsOf x = kwFof 5
  · rw [h5, if_pos rfl]; rcases five hk with rfl | rfl | rfl | rfl | rfl <;> decide
  rw [if_neg h5]
  constructor
  · intro e; exfalso; omega
  · intro e; exfalso
    rcases five hk with rfl | rfl | rfl | rfl | rfl
    · exact h1 e
    · exact h2 e
    · exact h3 e
    · exact h4 e
    · exact h5 e
theorem frFd_kind {m : Nat} {x : ByteArray} {r : List Bs} {p : FdP} (h : frFd m (bsOf x :: r) = some p) : Lib.idxOfS kwFB x = p.1 ∧ 1 ≤ p.1 ∧ p.1 ≤ 5 := by
  unfold frFd at h
  split at h
  · rename_i w a e
    injection e with e1 _
    unfold fr2 at h
    split at h
    · rename_i q; injection h with h; subst h
      exact ⟨(idxF_at (k := 3) (by decide)).2 (e1.trans q.1), by show (1 : Int) ≤ 3 ∧ (3 : Int) ≤ 5; decide⟩
    · cases h
  · rename_i w a b e
    injection e with e1 _
    unfold fr3 at h
    split at h
    · rename_i q; injection h with h; subst h
      exact ⟨(idxF_at (k := 1) (by decide)).2 (e1.trans q.1), by show (1 : Int) ≤ 1 ∧ (1 : Int) ≤ 5; decide⟩
    split at h
    · rename_i q; injection h with h; subst h
      exact ⟨(idxF_at (k := 2) (by decide)).2 (e1.trans q.1), by show (1 : Int) ≤ 2 ∧ (2 : Int) ≤ 5; decide⟩
    split at h
    · rename_i q
      cases hn : numT m b with
      | none => rw [hn] at h; cases h
      | some n => rw [hn] at h; injection h with h; subst h; exact ⟨(idxF_at (k := 5) (by decide)).2 (e1.trans q.1), by show (1 : Int) ≤ 5 ∧ (5 : Int) ≤ 5; decide⟩
    · cases h
  · rename_i w a b c e
    injection e with e1 _
    unfold fr4 at h
    split at h
    · rename_i q
      cases hn : numT m b with
      | none => rw [hn] at h; cases h
      | some n => rw [hn] at h; injection h with h; subst h; exact ⟨(idxF_at (k := 4) (by decide)).2 (e1.trans q.1), by show (1 : Int) ≤ 4 ∧ (4 : Int) ≤ 5; decide⟩
    · cases h
  · cases h
theorem drew_heap9 (w : World) : w.drew.heap = w.heap := rfl
/-- the program reads what the words tell. -/
theorem fw_law {m : Nat} {k : Int} {x : ByteArray} (hk : 1 ≤ k ∧ k ≤ 5) (hx : bsOf x = kwFof k) (r : List ByteArray) : (frFd m (bsOf x :: r.map bsOf)).isSome = fwOk m k r ∧ ∀ p, frFd m (bsOf x :: r.map bsOf) = some p → (fwE m k r).1 = (0, p) := by
  have kn : ∀ {i j : Int}, kwFof i ≠ kwFof j → (kwFof i = kwFof j) = False := fun h => eq_false h
  rw [hx]
  match r with
  | [] =>
    refine ⟨?_, fun p hp => by simp [frFd] at hp⟩
    rcases five hk with rfl | rfl | rfl | rfl | rfl <;> simp [frFd, fwOk, fwE, fwA, fwN, nxT, hdT, uF, uR, uM, uB]
  | [a] =>
    rcases five hk with rfl | rfl | rfl | rfl | rfl
    · exact ⟨by simp [frFd, fr2, kn (show kwFof 1 ≠ kwFof 3 by decide), fwOk, fwE, fwA, fwN, nxT, hdT, uF, uR, uM, uB], fun p hp => by simp [frFd, fr2, kn (show kwFof 1 ≠ kwFof 3 by decide)] at hp⟩
    · exact ⟨by simp [frFd, fr2, kn (show kwFof 2 ≠ kwFof 3 by decide), fwOk, fwE, fwA, fwN, nxT, hdT, uF, uR, uM, uB], fun p hp => by simp [frFd, fr2, kn (show kwFof 2 ≠ kwFof 3 by decide)] at hp⟩
    · cases ha : keyB a
      · exact ⟨by simp [frFd, fr2, baOf_bsOf, ha, fwOk, fwE, fwA, fwN, nxT, hdT, uF, uR, uM, uB, textF, formB, keysBad, inB], fun p hp => by simp [frFd, fr2, baOf_bsOf, ha] at hp⟩
      · exact ⟨by simp [frFd, fr2, baOf_bsOf, ha, fwOk, fwE, fwA, fwN, nxT, hdT, uF, uR, uM, uB, textF, formB, keysBad, inB], fun p hp => by simp [frFd, fr2, baOf_bsOf, ha] at hp; subst hp; rfl⟩
    · exact ⟨by simp [frFd, fr2, kn (show kwFof 4 ≠ kwFof 3 by decide), fwOk, fwE, fwA, fwN, nxT, hdT, uF, uR, uM, uB], fun p hp => by simp [frFd, fr2, kn (show kwFof 4 ≠ kwFof 3 by decide)] at hp⟩
    · exact ⟨by simp [frFd, fr2, kn (show kwFof 5 ≠ kwFof 3 by decide), fwOk, fwE, fwA, fwN, nxT, hdT, uF, uR, uM, uB], fun p hp => by simp [frFd, fr2, kn (show kwFof 5 ≠ kwFof 3 by decide)] at hp⟩
  | [a, b] =>
    rcases five hk with rfl | rfl | rfl | rfl | rfl
    · cases ha : keyB a <;> cases hb : keyB b
      all_goals exact ⟨by simp [frFd, fr3, baOf_bsOf, ha, hb, kn (show kwFof 1 ≠ kwFof 2 by decide), kn (show kwFof 1 ≠ kwFof 5 by decide), fwOk, fwE, fwA, fwN, nxT, hdT, uF, uR, uM, uB, textF, formB, keysBad, inB], fun p hp => by simp [frFd, fr3, baOf_bsOf, ha, hb, kn (show kwFof 1 ≠ kwFof 2 by decide), kn (show kwFof 1 ≠ kwFof 5 by decide)] at hp <;> (subst hp; rfl)⟩
    · cases ha : keyB a <;> cases hb : keyB b
      all_goals exact ⟨by simp [frFd, fr3, baOf_bsOf, ha, hb, kn (show kwFof 2 ≠ kwFof 1 by decide), kn (show kwFof 2 ≠ kwFof 5 by decide), fwOk, fwE, fwA, fwN, nxT, hdT, uF, uR, uM, uB, textF, formB, keysBad, inB], fun p hp => by simp [frFd, fr3, baOf_bsOf, ha, hb, kn (show kwFof 2 ≠ kwFof 1 by decide), kn (show kwFof 2 ≠ kwFof 5 by decide)] at hp <;> (subst hp; rfl)⟩
    · exact ⟨by simp [frFd, fr3, kn (show kwFof 3 ≠ kwFof 1 by decide), kn (show kwFof 3 ≠ kwFof 2 by decide), kn (show kwFof 3 ≠ kwFof 5 by decide), fwOk, fwE, fwA, fwN, nxT, hdT, uF, uR, uM, uB], fun p hp => by simp [frFd, fr3, kn (show kwFof 3 ≠ kwFof 1 by decide), kn (show kwFof 3 ≠ kwFof 2 by decide), kn (show kwFof 3 ≠ kwFof 5 by decide)] at hp⟩
    · exact ⟨by simp [frFd, fr3, kn (show kwFof 4 ≠ kwFof 1 by decide), kn (show kwFof 4 ≠ kwFof 2 by decide), kn (show kwFof 4 ≠ kwFof 5 by decide), fwOk, fwE, fwA, fwN, nxT, hdT, uF, uR, uM, uB], fun p hp => by simp [frFd, fr3, kn (show kwFof 4 ≠ kwFof 1 by decide), kn (show kwFof 4 ≠ kwFof 2 by decide), kn (show kwFof 4 ≠ kwFof 5 by decide)] at hp⟩
    · cases ha : keyB a <;> cases hn : numT m (bsOf b)
      all_goals exact ⟨by simp [frFd, fr3, baOf_bsOf, ha, hn, kn (show kwFof 5 ≠ kwFof 1 by decide), kn (show kwFof 5 ≠ kwFof 2 by decide), fwOk, fwE, fwA, fwN, nxT, hdT, uF, uR, uM, uB, textF, formB, keysBad, inB], fun p hp => by simp [frFd, fr3, baOf_bsOf, ha, hn, kn (show kwFof 5 ≠ kwFof 1 by decide), kn (show kwFof 5 ≠ kwFof 2 by decide)] at hp <;> (subst hp; simp [fwE, fwA, fwN, nxT, hdT, uF, uR, uM, uB, hn] <;> rfl)⟩
  | [a, b, c] =>
    rcases five hk with rfl | rfl | rfl | rfl | rfl
    · exact ⟨by simp [frFd, fr4, kn (show kwFof 1 ≠ kwFof 4 by decide), fwOk, fwE, fwA, fwN, nxT, hdT, uF, uR, uM, uB], fun p hp => by simp [frFd, fr4, kn (show kwFof 1 ≠ kwFof 4 by decide)] at hp⟩
    · exact ⟨by simp [frFd, fr4, kn (show kwFof 2 ≠ kwFof 4 by decide), fwOk, fwE, fwA, fwN, nxT, hdT, uF, uR, uM, uB], fun p hp => by simp [frFd, fr4, kn (show kwFof 2 ≠ kwFof 4 by decide)] at hp⟩
    · exact ⟨by simp [frFd, fr4, kn (show kwFof 3 ≠ kwFof 4 by decide), fwOk, fwE, fwA, fwN, nxT, hdT, uF, uR, uM, uB], fun p hp => by simp [frFd, fr4, kn (show kwFof 3 ≠ kwFof 4 by decide)] at hp⟩
    · cases ha : keyB a <;> cases hc : keyB c <;> cases hn : numT m (bsOf b)
      all_goals exact ⟨by simp [frFd, fr4, baOf_bsOf, ha, hc, hn, fwOk, fwE, fwA, fwN, nxT, hdT, uF, uR, uM, uB, textF, formB, keysBad, inB], fun p hp => by simp [frFd, fr4, baOf_bsOf, ha, hc, hn] at hp <;> (subst hp; simp [fwE, fwA, fwN, nxT, hdT, uF, uR, uM, uB, hn] <;> rfl)⟩
    · exact ⟨by simp [frFd, fr4, kn (show kwFof 5 ≠ kwFof 4 by decide), fwOk, fwE, fwA, fwN, nxT, hdT, uF, uR, uM, uB], fun p hp => by simp [frFd, fr4, kn (show kwFof 5 ≠ kwFof 4 by decide)] at hp⟩
  | a :: b :: c :: d :: t =>
    refine ⟨?_, fun p hp => by simp [frFd] at hp⟩
    rcases five hk with rfl | rfl | rfl | rfl | rfl <;> simp [frFd, fwOk, fwE, fwA, fwN, nxT, hdT, uF, uR, uM, uB]
/-! the state of the call -/
structure FwO (w : World) (Bw Br A Bf U : Nat) : Prop where
  h0 : w.heap.size ≤ Bw
  h1 : Bw < Br
  h2 : Br < A
  h3 : A < Bf
  h4 : Bf < U
structure FwM (w : World) (Bw Br A Bf U : Nat) (uf ur um ub : Bool) (f : Fed) (s : Tks) (W : World) : Prop where
  bel : Below w.heap.size w W
  bw : ∃ v, RecR TS w 0 v s.1 ∧ W.heap[Bw]? = some (.cells #[v] 63 (0, 0))
  br : W.heap[Br]? = some (.cells #[.int .i64 0, .int .i64 0, .string ⟨#[]⟩, .string ⟨#[]⟩, .int .i64 0, .string ⟨#[]⟩] 37 (0, 0))
  fa : W.heap[A]? = some (.cells #[.int .i64 f.at, .int .i64 f.kd, .string f.fd, .string f.rl, .int .i64 f.mn, .string f.bd] 37 (0, 0))
  bf : W.heap[Bf]? = some (.cells #[.bool s.2] 4 (0, 0))
  us : W.heap[U]? = some (.cells #[.bool uf, .bool ur, .bool um, .bool ub] 123 (0, 0))
section
variable {w W : World} {Bw Br A Bf U : Nat} {uf ur um ub : Bool} {f : Fed} {s : Tks}
theorem FwM.below {W' : World} (h : FwM w Bw Br A Bf U uf ur um ub f s W) (hb : Below W.heap.size W W') : FwM w Bw Br A Bf U uf ur um ub f s W' := by
  obtain ⟨v, h1, h2⟩ := h.bw
  exact ⟨Bl.trans h.bel hb, ⟨v, h1, blk_below h2 hb⟩, blk_below h.br hb, blk_below h.fa hb, blk_below h.bf hb, blk_below h.us hb⟩
theorem FwM.put {f' : Fed} {j : Nat} {u : Value} (ho : FwO w Bw Br A Bf U) (h : FwM w Bw Br A Bf U uf ur um ub f s W) (hu : (#[.int .i64 f.at, .int .i64 f.kd, .string f.fd, .string f.rl, .int .i64 f.mn, .string f.bd]).setIfInBounds j u = #[.int .i64 f'.at, .int .i64 f'.kd, .string f'.fd, .string f'.rl, .int .i64 f'.mn, .string f'.bd]) : FwM w Bw Br A Bf U uf ur um ub f' s (W.setCell ⟨A, j, none⟩ u) := by
  obtain ⟨v, h1, h2⟩ := h.bw
  obtain ⟨o0, o1, o2, o3, o4⟩ := ho
  refine ⟨Bl.set h.bel A j (by omega) u, ⟨v, h1, blk_far h2 A j u (by omega)⟩, blk_far h.br A j u (by omega), ?_, blk_far h.bf A j u (by omega), blk_far h.us A j u (by omega)⟩
  rw [← hu]
  exact blk_set h.fa j u
theorem FwM.fine (ho : FwO w Bw Br A Bf U) (h : FwM w Bw Br A Bf U uf ur um ub f s W) (b : Bool) : FwM w Bw Br A Bf U uf ur um ub f (s.1, b) (W.setCell ⟨Bf, 0, none⟩ (.bool b)) := by
  obtain ⟨v, h1, h2⟩ := h.bw
  obtain ⟨o0, o1, o2, o3, o4⟩ := ho
  exact ⟨Bl.set h.bel Bf 0 (by omega) _, ⟨v, h1, blk_far h2 Bf 0 _ (by omega)⟩, blk_far h.br Bf 0 _ (by omega), blk_far h.fa Bf 0 _ (by omega), blk_set h.bf 0 _, blk_far h.us Bf 0 _ (by omega)⟩
theorem FwM.row (ho : FwO w Bw Br A Bf U) (h : FwM w Bw Br A Bf U uf ur um ub f s W) (v : Value) (l : List ByteArray) (hv : RecR TS w 0 v l) : FwM w Bw Br A Bf U uf ur um ub f (l, s.2) (W.setCell ⟨Bw, 0, none⟩ v) := by
  obtain ⟨_, _, h2⟩ := h.bw
  obtain ⟨o0, o1, o2, o3, o4⟩ := ho
  exact ⟨Bl.set h.bel Bw 0 o0 _, ⟨v, hv, blk_set h2 0 _⟩, blk_far h.br Bw 0 _ (by omega), blk_far h.fa Bw 0 _ (by omega), blk_far h.bf Bw 0 _ (by omega), blk_far h.us Bw 0 _ (by omega)⟩
set_option maxHeartbeats 4000000 in
set_option maxRecDepth 100000 in
theorem take_any (ho : FwO w Bw Br A Bf U) (h : FwM w Bw Br A Bf U uf ur um ub f s W) :
    Calls Tryz.prog 119 #[.pointer (some ⟨Bw, 0, none⟩), .pointer (some ⟨Bf, 0, none⟩)] W fun e w' => e = .returned (.string (hdT s)) ∧ FwM w Bw Br A Bf U uf ur um ub f (nxT s) w' := by
  obtain ⟨l, b⟩ := s
  obtain ⟨v, h1, h2⟩ := h.bw
  obtain ⟨a, cap, rfl, hc1, hc2⟩ := h1.form
  have p0 : W.cell? ⟨Bw, 0, none⟩ = some (.slice a l.length cap) := blk_cell h2 0
  have p1 := blk_free h2 0
  have p2 : W.cell? ⟨Bf, 0, none⟩ = some (.bool b) := blk_cell h.bf 0
  have p3 := blk_free h.bf 0
  cases l with
  | nil =>
    have HR := Lib.hid (h.fine ho false)
    clear h h1 h2 ho
    go_enter Tryz.func119, Tryz.ntmps119
    go_wp2
    go_ret
    refine ⟨rfl, ?_⟩
    have := HR.out
    simpa [nxT] using this
  | cons x r =>
    obtain ⟨g, o, rfl, _, hg, hc⟩ := str_at h1 (k := 0) (x := x) rfl
    have hx : W.cell? ⟨g, o, none⟩ = some (.string x) := ((bcell h.bel).1 g o hg).trans hc
    have HS := Lib.hid fun (a : Option Addr) (c : Nat) (h2 : r ≠ [] → a = some ⟨g, o + 1, none⟩) (h3 : r.length ≤ c) (h4 : c ≤ 9223372036854775807) => h.row ho (.slice a r.length c) r (strs_tail h1 a h2 c h3 h4)
    obtain ⟨n, hn⟩ : ∃ n, n = (x :: r).length := ⟨_, rfl⟩
    have HN : Hid (n = r.length + 1) := Lib.hid hn
    rw [← hn] at p0 hc1
    have e0 : ¬ (n : Int) = 0 := by rw [HN.out]; omega
    have e1 : (0 : Int) < (n : Int) := by rw [HN.out]; omega
    have e2 : (1 : Int) ≤ (n : Int) := by rw [HN.out]; omega
    have e3 : n ≤ cap := hc1
    clear h h1 h2 ho hn hc
    go_enter Tryz.func119, Tryz.ntmps119
    go_wp2_with fail
    case' inl =>
      have HF := Lib.hid (HS.out (some ⟨g, o, none⟩) 0 (by intro h; exfalso; have h1 := HN.out; have h2 := List.length_pos_iff.2 h; omega) (by have h1 := HN.out; omega) (by omega))
    case' inr =>
      have HF := Lib.hid (HS.out (some ⟨g, o + 1, none⟩) (cap - 1) (fun _ => rfl) (by have h1 := HN.out; omega) (by omega))
    all_goals (
      have e4 : n - 1 = r.length := by rw [HN.out]; rfl
      rw [e4] at *
      go_wp2
      go_ret
      refine ⟨rfl, ?_⟩
      have := HF.out
      simpa [nxT] using this)
end
end Go.Proofs.YtilhonppgedoiaaGreatDoor
