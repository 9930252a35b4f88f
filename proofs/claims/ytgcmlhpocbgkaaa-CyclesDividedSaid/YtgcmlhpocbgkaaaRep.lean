/- The contract of Repeat at one point, and its copy. Condition: 1 to 100 times. -/
import Derived.Test.YtgcmlhpocbgkaaaMake2
import Derived.Deep.RegionLaw
import Derived.Laws.CopyOwn
namespace Go.Proofs.Ytgcmlhpocbgkaaa
open Go.RowKit Go.Sort

theorem run_copy_rowS {P : Program} (w : World) (dT sT ty elem : TypeId) (g o dLen dCap : Nat) (a : Addr) (sLen sCap size n : Nat) (cur : Array Value) (t : TypeId) (cs : List Value)
    (hu : P.underlying dT = some (.slice elem)) (hs : (P.info? elem).map (·.size) = some size)
    (hg : w.heap[g]? = some (.cells cur t (0, 0))) (hmin : Nat.min sLen dLen = n) (hn : cs.length = n * size)
    (hsrc : ∀ j v, cs[j]? = some v → w.cell? (a.add j) = some v) (hfit : o + cs.length ≤ cur.size) (h1 : ∀ v ∈ cs, v.oneCell' = true) :
    (Builtin.copy_ #[dT, sT] ty #[.slice (some ⟨g, o, none⟩) dLen dCap, .slice (some a) sLen sCap]).run P w =
      .ok (goInt n) (w.setRow g (cur.toList.take o ++ cs ++ cur.toList.drop (o + cs.length)).toArray) := by
  have hf := run_firstCells_some (P := P) w size n a sLen sCap cs hn hsrc
  have hst := run_storeCells_at P g o t cs 0 cur w hg (by simpa using hfit) h1
  simp only [Nat.add_zero] at hst
  cases hq : P.info? elem with
  | none => simp [hq] at hs
  | some i =>
    have hi : i.size = size := by simpa [hq] using hs
    simp [Builtin.copy_, run_underlying hu, Builtin.lenOf, sizeOf, typeInfo, hq, hi, hmin, hf, hst]

theorem wp_copyS {P : Program} {w : World} {ops : Array Oper} {rest : List Oper} {o : Oper} {a : Act} {Q : Exit → Act → World → Prop} (hgd : o.guard = none) (d s : Operand) (dT sT : TypeId)
    (ho : o.op = .call { callee := .builtin .copy, args := #[d, s], argTypes := #[dT, sT] }) (elem : TypeId) (size : Nat) (hu : P.underlying dT = some (.slice elem)) (hs : (P.info? elem).map (·.size) = some size)
    (g off dLen dCap : Nat) (ad : Addr) (sLen sCap n : Nat) (hd : a.eval d = .slice (some ⟨g, off, none⟩) dLen dCap) (hs' : a.eval s = .slice (some ad) sLen sCap)
    (cur : List Value) (t : TypeId) (hg : w.heap[g]? = some (.cells cur.toArray t (0, 0))) (hmin : Nat.min sLen dLen = n) (cs : List Value) (hn : cs.length = n * size)
    (hsrc : ∀ j v, cs[j]? = some v → w.cell? (ad.add j) = some v) (hfit : off + cs.length ≤ cur.length) (h1 : ∀ v ∈ cs, v.oneCell' = true) (B : Nat) (hB : B ≤ g)
    (h : ∀ w', w'.heap[g]? = some (.cells (splice cur off cs).toArray t (0, 0)) → Below B w w' → wpList P ops Q rest (a.put o.dst (goInt n)) w') :
    wpList P ops Q (o :: rest) a w := by
  refine wpList_plain hgd fun K hK => ?_
  have hrun := run_copy_rowS (P := P) w dT sT o.type elem g off dLen dCap ad sLen sCap size n cur.toArray t cs hu hs hg hmin hn hsrc (by simpa using hfit) h1
  unfold Oper.wp
  simp [execOp, ho, resolve, invoke, builtin, hd, hs', hrun, Result.andThen]
  exact hK _ _ (h _ (show _ = _ by simpa [splice] using setRow_heap w g _ _ t _ hg) (below_setRow (Below.refl _ _) hB _))

theorem step_copyS {P : Program} {ops : Array Oper} {o : Oper} {a : Act} {w : World} {K : Act → World → Prop} {Q : Exit → Act → World → Prop} {E : Prop} (hgd : o.guard = none) (d s : Operand) (dT sT : TypeId)
    (ho : o.op = .call { callee := .builtin .copy, args := #[d, s], argTypes := #[dT, sT] }) (elem : TypeId) (size : Nat) (hu : P.underlying dT = some (.slice elem)) (hs : (P.info? elem).map (·.size) = some size)
    (g off dLen dCap : Nat) (ad : Addr) (sLen sCap n : Nat) (hd : a.eval d = .slice (some ⟨g, off, none⟩) dLen dCap) (hs' : a.eval s = .slice (some ad) sLen sCap)
    (cur : List Value) (t : TypeId) (hg : w.heap[g]? = some (.cells cur.toArray t (0, 0))) (hmin : Nat.min sLen dLen = n) (cs : List Value) (hn : cs.length = n * size)
    (hsrc : ∀ j v, cs[j]? = some v → w.cell? (ad.add j) = some v) (hfit : off + cs.length ≤ cur.length) (h1 : ∀ v ∈ cs, v.oneCell' = true) (B : Nat) (hB : B ≤ g)
    (h : ∀ w', w'.heap[g]? = some (.cells (splice cur off cs).toArray t (0, 0)) → Below B w w' → K (a.put o.dst (goInt n)) w') :
    if Region.wanted o (yielded ops a.tmps) = true then Oper.wp P o a w K Q else E := by
  have hw : Region.wanted o (yielded ops a.tmps) = true := by simp [Region.wanted, hgd]
  rw [if_pos hw]
  have hrun := run_copy_rowS (P := P) w dT sT o.type elem g off dLen dCap ad sLen sCap size n cur.toArray t cs hu hs hg hmin hn hsrc (by simpa using hfit) h1
  unfold Oper.wp
  simp [execOp, ho, resolve, invoke, builtin, hd, hs', hrun, Result.andThen]
  exact h _ (show _ = _ by simpa [splice] using setRow_heap w g _ _ t _ hg) (below_setRow (Below.refl _ _) hB _)

theorem pcs_one (p : Pt) (k : Nat) : ∀ v ∈ pcs (List.replicate k p), v.oneCell' = true := by
  intro v hv
  induction k with
  | zero => simp [pcs] at hv
  | succ k ih =>
    rw [List.replicate_succ] at hv
    simp only [pcs, List.mem_cons] at hv
    rcases hv with rfl | rfl | h
    · rfl
    · rfl
    · exact ih h

theorem made_zero (z : Value) (n : Nat) : madeCells #[z, z] n = (List.replicate n z).toArray := by
  apply Array.ext_getElem?
  intro i
  unfold madeCells
  by_cases h : i < n
  · simp [h]
    have : i % 2 = 0 ∨ i % 2 = 1 := by omega
    rcases this with h | h <;> simp [h]
  · simp [h]

set_option maxHeartbeats 1000000 in
set_option maxRecDepth 100000 in
theorem Repeat_any (p : Pt) (N : Nat) (v : Value) (w : World) (h1 : 1 ≤ N) (h2 : N ≤ 100) (rp : Pts w 0 v [p]) :
    Calls Try.prog 9 #[v, .int .i64 N] w fun e w' => ∃ v', e = .returned v' ∧ OwnP w' w.heap.size v' (List.replicate N p) ∧ Below w.heap.size w w' := by
  obtain ⟨a, cap, rfl, hc1, hc2⟩ := Pts.form rp
  obtain ⟨b, o, rfl, _, hb, hx1, hx2⟩ := Pts.at rp (k := 0) (x := p) rfl
  obtain ⟨i, hi, hz0, hz1, hz2⟩ := info_parts info_pt
  have hmk : ∀ W : World, (Instr.makeSlice 29 (.int .i64 (N : Int)) (.int .i64 (N : Int))).run Try.prog W = .ok (.slice (some ⟨W.heap.size, 0, none⟩) N N) (W.alloc (.cells (madeCells #[.int .i64 0, .int .i64 0] (N * 2)) 27)) := fun W => by
    have := run_make_rowN (P := Try.prog) 29 27 i _ Try.underlying29 hi hz0 .i64 .i64 N N (Nat.le_refl _) (by rw [hz2]; omega) (by omega) W
    rw [hz1] at this
    exact this
  have e1 : 1 * N / 18446744073709551616 = 0 := by omega
  have e2 : 1 * N % 18446744073709551616 = N := by omega
  have E1 := Lib.hid e1
  have E2 := Lib.hid e2
  clear e1 e2
  have hN : (N : Int) ≤ 100 := by omega
  have hneg : decide ((N : Int) < 0) = false := by simp
  have hbig : decide ((9223372036854775807 : Int) < (N : Int)) = false := by simp; omega
  go_enter Try.func9, Try.ntmps9
  have hx2' : w.cell? ⟨b, o + 1, none⟩ = some (.int .i64 p.2) := by simpa using hx2
  have hx1' : w.cell? ⟨b, o, none⟩ = some (.int .i64 p.1) := by simpa using hx1
  clear hx1 hx2
  go_wp2_with fail
  refine (Try.bits_Mul 1 N (by omega) (by omega) w).mono ?_
  rintro e w1 ⟨he, hw1⟩
  rw [hw1]
  clear hw1 w1
  rw [E1.out, E2.out] at he
  subst he
  have hs2 : (Try.prog.info? 27).map (·.size) = some 2 := by rw [hi]; simp [hz1]
  go_wp2_with (with_reducible refine wp_copyS (P := Try.prog) rfl (.tmp 31) (.tmp 32) 29 29 rfl 27 2 ?c1 ?c2 w.heap.size 0 N N ⟨b, o, none⟩ 1 cap 1 ?c3 ?c4 (List.replicate (N * 2) (.int .i64 0)) 27 ?c5 ?c6 (pcs [p]) ?c7 ?c8 ?c9 ?c10 w.heap.size (Nat.le_refl _) ?_)
  case c1 => exact Try.underlying29
  case c2 => exact hs2
  case c3 => rfl
  case c4 => rfl
  case c5 => rw [← made_zero]; exact blk_new w _
  case c6 => show min 1 N = 1; omega
  case c7 => rfl
  case c8 =>
    intro j v hj
    match j with
    | 0 => simp [pcs] at hj; subst hj; simpa [Addr.add, World.cell?_alloc_past _ _ _ hb] using hx1'
    | 1 => simp [pcs] at hj; subst hj; simpa [Addr.add, World.cell?_alloc_past _ _ _ hb] using hx2'
    | j + 2 => simp [pcs] at hj
  case c9 => simp [pcs]; omega
  case c10 => exact pcs_one p 1
  intro w1 hw1 hb1
  have hb1' : Below w.heap.size w w1 := ((Below.refl w.heap.size w).alloc (Nat.le_refl _) _).trans hb1
  have hw2 : ∃ rest : List Value, rest.length = (N - 1) * 2 ∧ w1.heap[w.heap.size]? = some (.cells (pcs (List.replicate 1 p) ++ rest).toArray 27 (0, 0)) :=
    ⟨(List.replicate (N * 2) (.int .i64 0)).drop 2, by simp; omega, by rw [hw1]; simp [splice, pcs]⟩
  have HW2 := Lib.hid hw2
  clear hw1 hw2 hb1 hx1' hx2'
  go_wp2
  go_loopw [8] (fun i wr => ∃ (k : Nat), 1 ≤ k ∧ k ≤ N ∧ i = .int .i64 k ∧ Hid (∃ rest : List Value, rest.length = (N - k) * 2 ∧ wr.heap[w.heap.size]? = some (.cells (pcs (List.replicate k p) ++ rest).toArray 27 (0, 0))) ∧ Below w.heap.size w wr) (fun i _ => N - (intOf i).toNat)
  case atStart => exact ⟨1, Nat.le_refl _, h1, rfl, HW2, hb1'⟩
  case round =>
    obtain ⟨k, hk1, hk2, rfl, hrest, hbr⟩ := hrel
    by_cases hlt : k < N
    · have hne : ¬ N = k := by omega
      go_wp2
      obtain ⟨rest, hr1, hr2⟩ := hrest.out
      obtain ⟨m, hm⟩ : ∃ m, m = min k (N - k) := ⟨_, rfl⟩
      have HM := Lib.hid hm
      have hm1 : m ≤ k := by omega
      have hm2 : m ≤ N - k := by omega
      have hm3 : 1 ≤ m := by omega
      clear hm
      have hcs : (pcs (List.replicate m p)).length = m * 2 := by rw [pcs_length, List.length_replicate]
      have hsrc : ∀ j v, (pcs (List.replicate m p))[j]? = some v → wr.cell? ((⟨w.heap.size, 0, none⟩ : Addr).add j) = some v := by
        intro j v hj
        have hj2 : j < m * 2 := by rw [← hcs]; exact (List.getElem?_eq_some_iff.1 hj).1
        rw [Addr.add_lit, Nat.zero_add]
        have := blk_cell hr2 j
        rw [this]
        simp only [List.getElem?_toArray]
        rw [List.getElem?_append_left (by rw [pcs_length, List.length_replicate]; omega)]
        have e : List.replicate k p = List.replicate m p ++ List.replicate (k - m) p := by rw [List.replicate_append_replicate]; congr 1; omega
        rw [e, pcs_append, List.getElem?_append_left (by omega)]
        exact hj
      have hfit : k * 2 + (pcs (List.replicate m p)).length ≤ (pcs (List.replicate k p) ++ rest).length := by rw [List.length_append, pcs_length, pcs_length, List.length_replicate, List.length_replicate, hr1]; omega
      have HF := Lib.hid hfit
      have HSR : Hid (∀ j v, (pcs (List.replicate m p))[j]? = some v → wr.drew.cell? ((⟨w.heap.size, 0, none⟩ : Addr).add j) = some v) := Lib.hid hsrc
      have HR2 : Hid (wr.drew.heap[w.heap.size]? = some (.cells (pcs (List.replicate k p) ++ rest).toArray 27 (0, 0))) := Lib.hid hr2
      have HCS := Lib.hid hcs
      clear hfit hsrc hr2 hcs
      go_region_law (refine step_copyS (P := Try.prog) rfl (.tmp 41) (.tmp 44) 29 29 rfl 27 2 Try.underlying29 hs2 w.heap.size (k * 2) (N - k) (N - k) ⟨w.heap.size, 0, none⟩ k N m (by simp [Act.eval, Act.put]) (by simp [Act.eval, Act.put]) (pcs (List.replicate k p) ++ rest) 27 HR2.out HM.out.symm (pcs (List.replicate m p)) HCS.out HSR.out HF.out (pcs_one p m) w.heap.size (Nat.le_refl _) ?_; intro w2 hw2 hb2)
      have hr2 := HR2.out
      have hcs := HCS.out
      have HW : Hid (∃ rest : List Value, rest.length = (N - (k + m)) * 2 ∧ w2.heap[w.heap.size]? = some (.cells (pcs (List.replicate (k + m) p) ++ rest).toArray 27 (0, 0))) := Lib.hid ⟨rest.drop (m * 2), by rw [List.length_drop, hr1]; omega, by
        rw [hw2]
        have e : splice (pcs (List.replicate k p) ++ rest) (k * 2) (pcs (List.replicate m p)) = pcs (List.replicate (k + m) p) ++ rest.drop (m * 2) := by
          have hk : (pcs (List.replicate k p)).length = k * 2 := by rw [pcs_length, List.length_replicate]
          unfold splice
          rw [hcs, List.take_left' hk, List.drop_append, List.drop_eq_nil_of_le (by omega), hk, ← pcs_append, List.replicate_append_replicate, List.nil_append]
          congr 2; omega
        rw [e]⟩
      clear hw2 hr2 hr1
      have hwrap : IntKind.i64.wrap ((k : Int) + (m : Int)) = ((k + m : Nat) : Int) := by rw [IntWalk.i64_in _ (by omega)]; rfl
      go_simp
      rw [← Int.natCast_add]
      go_wp2
      go_roundw
      case rel => exact ⟨k + m, by omega, by omega, by go_num, HW, (Below.drew hbr).trans hb2⟩
      case measure => simp [intOf]; omega
    · have hk3 : k = N := by omega
      subst hk3
      go_wp2
      go_ret
      obtain ⟨rest, hr1, hr2⟩ := hrest.out
      refine ⟨_, rfl, ?_, hbr⟩
      have e0 : rest = [] := List.eq_nil_of_length_eq_zero (by omega)
      subst e0
      rw [List.append_nil] at hr2
      refine ⟨pcs_length _, .inr ⟨w.heap.size, k, _, by rw [List.length_replicate]; rfl, Nat.le_refl _, hr2, by rw [List.length_replicate]; omega, by unfold maxLen; omega, by simp [pcs_length], ?_⟩⟩
      rw [List.length_replicate]
      exact List.take_of_length_le (by simp [pcs_length])
end Go.Proofs.Ytgcmlhpocbgkaaa
