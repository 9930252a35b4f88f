/- Texts of the proof of a law, put together, part 17 of 46. Conditions: none beyond those that each theorem names. -/
import Derived.Test.YtilhonppgedoiaaGreatDoorFz1
import Derived.Test.YtilhonppgedoiaaGreatDoorFz4
import Derived.Test.YtilhonppgedoiaaGreatDoorFz5
import Derived.Test.YtilhonppgedoiaaGreatDoorFz6
import Derived.Test.YtilhonppgedoiaaGreatDoorFz7
import Derived.Deep.RegionLaw
namespace Go.Proofs.YtilhonppgedoiaaGreatDoor
open Go.RowKit Go.Sort
section
variable {α : Type} {T : Rty α}
theorem recs_cells {w : World} {lo : Nat} {q : Addr} {n c : Nat} {ys : List α} (h : RecR T w lo (.slice (some q) n c) ys) : ∀ j u, (ys.flatMap T.f)[j]? = some u → w.cell? (q.add j) = some u := by
  obtain ⟨a, cap, hv, _, _, h3⟩ := h
  injection hv with ha _ _
  intro j u hj
  obtain ⟨b, o, hab, _, _, hc⟩ := h3 j u hj
  rw [← ha] at hab
  injection hab with hq
  subst hq
  by_cases h0 : j = 0
  · subst h0; simpa [Addr.add] using hc
  · simpa [Addr.add, h0] using hc
/-- the same in a region that draws its order. -/
theorem step_app_recs (hT : T.Ok) {ops : Array Oper} {o : Oper} {a : Act} {w : World} {K : Act → World → Prop} {Q : Exit → Act → World → Prop} {E : Prop}
    (hg : o.guard = none) (s x : Operand) (hop : o.op = Op.call { callee := Callee.builtin Builtin.append, args := #[s, x], argTypes := #[T.S, T.S] })
    (B : Nat) (v : Value) (l : List α) (hs : a.eval s = v) (hown : OwnR T w B v l)
    (q : Addr) (c : Nat) (ys : List α) (hx : a.eval x = .slice (some q) ys.length c) (hcell : ∀ j u, (ys.flatMap T.f)[j]? = some u → w.cell? (q.add j) = some u) (hlen : l.length + ys.length ≤ 1000000) (hB : B ≤ w.heap.size)
    (hK : ∀ v' w', OwnR T w' B v' (l ++ ys) → w.grownBy w' v.ownBlock → Below B w w' → K (a.put o.dst v') w') :
    if Region.wanted o (yielded ops a.tmps) = true then Oper.wp Tryz.prog o a w K Q else E := by
  have hw : Region.wanted o (yielded ops a.tmps) = true := by simp [Region.wanted, hg]
  rw [if_pos hw]
  obtain ⟨i, hi, hz0, hz1, hz2⟩ := info_parts hT.info
  obtain ⟨v', w', hrun, r1, r2, _⟩ := run_append_own (P := Tryz.prog) w B T.S o.type T.e i _ T.k T.b hT.sl hi hz0 hz1 hz2 hT.zs hT.pos v l.length (l.flatMap T.f) hown q ys.length c (ys.flatMap T.f) (flat_len hT.len ys) hcell (fun u hu => by obtain ⟨y, _, hy⟩ := List.mem_flatMap.1 hu; exact hT.one y u hy) (by unfold maxLen; omega) (by have := Nat.mul_le_mul (show l.length + ys.length ≤ 1000000 by omega) hT.small; omega) hB
  unfold Oper.wp
  simp [execOp, hop, resolve, invoke, builtin, hs, hx, hrun, Result.andThen]
  refine hK v' w' ?_ r2 (app_belowR hown r2 hB)
  unfold OwnR
  rw [List.length_append, List.flatMap_append]
  exact r1
end
end Go.Proofs.YtilhonppgedoiaaGreatDoor
namespace Go.Proofs.YtilhonppgedoiaaGreatDoor
open Go.RowKit Go.Sort Go.Maps
/-- a literal row of strings. -/
theorem ownS_new (w : World) (B n : Nat) (l : List ByteArray) (hB : B ≤ w.heap.size) (hn : l.length = n) (hm : n ≤ 1000000) : OwnR TS (w.alloc (.cells (l.map Value.string).toArray 9)) B (.slice (some ⟨w.heap.size, 0, none⟩) n n) l := by
  subst hn
  refine OwnR.of_blk (T := TS) hB (blk_new w _) (Nat.le_refl _) (by unfold maxLen; omega) (by show ((l.map Value.string).toArray).size = l.length * 1; simp) ?_ (by rw [flat_len TS.ok.len])
  have h1 : l.flatMap TS.f = l.map Value.string := by
    clear hm
    induction l with
    | nil => rfl
    | cons x r ih => rw [List.flatMap_cons, ih]; rfl
  rw [h1, show TS.k = 1 from rfl, Nat.mul_one, List.toList_toArray]
  exact List.take_of_length_le (by rw [List.length_map]; exact Nat.le_refl _)
/-- the front of a row. -/
theorem RecR.take {α : Type} {T : Rty α} {w : World} {lo n cap : Nat} {a : Option Addr} {l : List α} (h : RecR T w lo (.slice a n cap) l) (k : Nat) (hk : k ≤ l.length) : RecR T w lo (.slice a k cap) (l.take k) := by
  obtain ⟨a', cap', hv, h1, h2, h3⟩ := h
  injection hv with e1 e2 e3
  subst e1; subst e3
  refine ⟨a, cap, by rw [List.length_take, Nat.min_eq_left hk], by rw [List.length_take]; omega, h2, fun j x hj => h3 j x ?_⟩
  have e : l.flatMap T.f = (l.take k).flatMap T.f ++ (l.drop k).flatMap T.f := by rw [← List.flatMap_append, List.take_append_drop]
  rw [e, List.getElem?_append_left (List.getElem?_eq_some_iff.1 hj).1]
  exact hj
/-- the rest of a row of strings. -/
theorem strs_tail {w : World} {lo b o n cap : Nat} {x : ByteArray} {l : List ByteArray} (h : RecR TS w lo (.slice (some ⟨b, o, none⟩) n cap) (x :: l)) (a : Option Addr) (ha : l ≠ [] → a = some ⟨b, o + 1, none⟩) (c : Nat) (hc : l.length ≤ c) (hc2 : c ≤ 9223372036854775807) : RecR TS w lo (.slice a l.length c) l := by
  refine ⟨a, c, rfl, hc, hc2, fun j u hj => ?_⟩
  have hne : l ≠ [] := by rintro rfl; simp at hj
  obtain ⟨a', cap', hv, h1, h2, h3⟩ := h
  injection hv with e1 e2 e3
  subst e1
  obtain ⟨b', o', e, hlo, hb, hcell⟩ := h3 (j + 1) u (by
    rw [List.flatMap_cons, List.getElem?_append_right (by show 1 ≤ j + 1; omega)]
    exact hj)
  injection e with e
  injection e with e1 e2
  subst e1; subst e2
  exact ⟨b, o + 1, ha hne, hlo, hb, by rw [show o + 1 + j = o + (j + 1) by omega]; exact hcell⟩
theorem splitS_le (c : UInt8) : ∀ (l : List UInt8), ∀ z ∈ splitL c l, z.length ≤ l.length
  | [], z, h => by simp [splitL] at h; subst h; simp
  | b :: r, z, h => by
    have ih := splitS_le c r
    simp only [splitL] at h
    split at h
    · rcases List.mem_cons.1 h with rfl | h
      · simp
      · have := ih z h; simp; omega
    · split at h
      · rename_i e; exact absurd e (splitL_ne c r)
      · rename_i y ys e
        rw [e] at ih
        rcases List.mem_cons.1 h with rfl | h
        · have := ih y (by simp); simp; omega
        · have := ih z (List.mem_cons_of_mem _ h); simp; omega
theorem ba_ne {x : ByteArray} (h : ¬ x.size = 0) : x.toList.isEmpty = false ∧ ¬ x.toList = [] := by
  have hne : x.data.toList ≠ [] := by
    intro e
    have : x.data.toList.length = x.size := Array.length_toList
    rw [e] at this; exact h this.symm
  rw [ByteArray.toList_eq]
  exact ⟨by cases h : x.data.toList with | nil => exact absurd h hne | cons => rfl, hne⟩
set_option maxHeartbeats 4000000 in
set_option maxRecDepth 100000 in
theorem KWords_any (s : ByteArray) (w : World) (hT : TxW w) (hs : s.size ≤ 1000000) :
    Calls Tryz.prog 76 #[.string s] w fun e w' => ∃ v, e = .returned (.tuple #[v, .bool (decide ([] ∉ splitL 32 (bsOf s)))]) ∧ ([] ∉ splitL 32 (bsOf s) → ∃ l, OwnR TS w' w.heap.size v l ∧ l.map bsOf = splitL 32 (bsOf s) ∧ l.length ≤ 1000001) ∧ Below w.heap.size w w' := by
  have HSP := Lib.hid (Split_any s 32 w hT hs)
  obtain ⟨Ls, hLs⟩ : ∃ Ls, Ls = splitL 32 (bsOf s) := ⟨_, rfl⟩
  have HLS := Lib.hid hLs
  rw [← hLs]
  clear hLs hT hs
  go_enter Tryz.func76, Tryz.ntmps76
  go_wp2_with fail
  refine HSP.out.mono ?_
  rintro e w1 ⟨v, l, rfl, hO, hm, hl1, hb⟩
  obtain ⟨sa, scap, rfl, hc1, hc2⟩ := hO.form
  have hm' : l.map bsOf = Ls := by rw [HLS.out]; exact hm
  have HO := Lib.hid (And.intro hO (And.intro hm' hl1))
  have HB := Lib.hid hb
  clear hO hm hm' hb HSP
  go_wp2_with fail
  go_loopw [11] (fun i wr => ∃ k : Nat, k ≤ l.length ∧ i = .int .i64 k ∧ Hid ([] ∉ Ls.take k) ∧ w1 = wr) (fun i _ => l.length - (intOf i).toNat)
  case atStart => exact ⟨0, Nat.zero_le _, rfl, Lib.hid (by simp), rfl⟩
  case round =>
    obtain ⟨k, hk, rfl, HN, rfl⟩ := hrel
    by_cases hlt : k < l.length
    · obtain ⟨x, hx⟩ : ∃ x, l[k]? = some x := ⟨_, List.getElem?_eq_getElem hlt⟩
      have hLx : Ls[k]? = some (bsOf x) := by rw [← HO.out.2.1, List.getElem?_map, hx]; rfl
      obtain ⟨b, o, rfl, _, hbb, c0⟩ := str_at HO.out.1.rec hx
      have hw1 : IntKind.i64.wrap ((k : Int) + 1) = ((k + 1 : Nat) : Int) := by rw [IntWalk.i64_in _ (by omega)]; omega
      by_cases h0 : x.size = 0
      · obtain rfl := ba_empty h0
        have hmem : [] ∈ Ls := List.mem_of_getElem? hLx
        have HR : Hid (decide ([] ∉ Ls) = false ∧ [] ∈ Ls) := Lib.hid ⟨by simp [hmem], hmem⟩
        clear hx hLx h0 hmem
        go_wp2
        go_ret2
        exact ⟨_, by rw [HR.out.1] <;> rfl, fun h => absurd HR.out.2 h, HB.out⟩
      · have HN2 : Hid ([] ∉ Ls.take (k + 1)) := Lib.hid (by
          rw [List.take_add_one, hLx]
          intro hm
          rcases List.mem_append.1 hm with hm | hm
          · exact HN.out hm
          · have hz : bsOf x = [] := by simpa using hm
            have := bsOf_len x
            rw [hz] at this
            exact h0 this.symm)
        obtain ⟨e1, e2⟩ := ba_ne h0
        clear hx hLx h0
        go_wp2
        go_roundw
        case rel => exact ⟨k + 1, by omega, by go_num, HN2, by first | trivial | rfl⟩
        case measure => simp [intOf]; omega
    · obtain rfl : k = l.length := by omega
      have hLl : Ls.length = l.length := by rw [← HO.out.2.1, List.length_map]
      have hno : [] ∉ Ls := by
        have := HN.out
        rw [← hLl, List.take_length] at this
        exact this
      have HR : Hid (decide ([] ∉ Ls) = true) := Lib.hid (by simp [hno])
      clear hLl hno
      go_wp2
      go_ret2
      exact ⟨_, by rw [HR.out] <;> rfl, fun _ => ⟨l, HO.out⟩, HB.out⟩
theorem linesS_le (t : List UInt8) : ∀ z ∈ (linesK t).1, z.length ≤ t.length := by
  intro z hz
  unfold linesK at hz
  split at hz
  · simp at hz
  · split at hz
    · have := splitS_le 10 _ z hz
      simp at this; omega
    · exact splitS_le 10 _ z hz
theorem linesS_len (t : List UInt8) : (linesK t).1.length ≤ t.length + 1 := by
  unfold linesK
  split
  · simp
  · split
    · have h1 := splitL_len 10 t.dropLast
      have h2 := List.count_le_length (a := (10 : UInt8)) (l := t.dropLast)
      simp only
      rw [h1]
      simp at h2
      omega
    · have h1 := splitL_len 10 t
      have h2 := List.count_le_length (a := (10 : UInt8)) (l := t)
      simp only
      rw [h1]
      omega
end Go.Proofs.YtilhonppgedoiaaGreatDoor
namespace Go.Proofs.YtilhonppgedoiaaGreatDoor
open Go.RowKit Go.Sort
/-- a call of a Go function, as one step of a region that draws. -/
theorem step_goN {ops : Array Oper} {o : Oper} {a : Act} {w : World} {K : Act → World → Prop} {Q : Exit → Act → World → Prop} {E : Prop}
    (hg : o.guard = none) (f : Nat) (xs : Array Operand) (ts : Array TypeId) (hop : o.op = Op.call { callee := Callee.value (Operand.func f), args := xs, argTypes := ts }) (hent : ∀ args w, (callFunc f args).run Tryz.prog w = .ok (.enter f args) w)
    (vs : Array Value) (hx : xs.map a.eval = vs) (R : Ending → World → Prop) (hc : Calls Tryz.prog f vs w R) (hR : ∀ e w', R e w' → ∃ v, e = .returned v ∧ K (a.put o.dst v) w') :
    if Region.wanted o (yielded ops a.tmps) = true then Oper.wp Tryz.prog o a w K Q else E := by
  have hw : Region.wanted o (yielded ops a.tmps) = true := by simp [Region.wanted, hg]
  rw [if_pos hw]
  have hrun : (execOp a.eval o).run Tryz.prog w = .ok (.enter f vs) w := by
    rw [← hx]
    simp [execOp, hop, resolve, invoke, go_sem, hent]
  unfold Oper.wp
  rw [hrun, Oper.upon_enter]
  refine hc.mono fun e w' h => ?_
  obtain ⟨v, rfl, hk⟩ := hR e w' h
  exact hk
end Go.Proofs.YtilhonppgedoiaaGreatDoor
