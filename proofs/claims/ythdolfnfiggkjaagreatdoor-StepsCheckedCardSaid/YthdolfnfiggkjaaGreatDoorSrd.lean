/- append of a whole slice of records to a slice of the call's own; literal slices of strings. No conditions. · The words of steps: kindWords, Words. Condition: the kind is one. · rework.FromWords. Conditions: at most 2^20 words. · kit.Words, rework.readLine. Conditions: what lies in the library (TxW); lines of at most 10^6 bytes. · rework.Read. Conditions: what lies in the library (TxW); texts of at most 10^6 bytes. -/
import Derived.Test.YthdolfnfiggkjaaGreatDoorRec
import Derived.Test.YthdolfnfiggkjaaGreatDoorSpr
import Derived.Test.YthdolfnfiggkjaaGreatDoorStrs
import Derived.Test.YthdolfnfiggkjaaGreatDoorStc
import Derived.Deep.RegionLaw
import Derived.Test.YthdolfnfiggkjaaGreatDoorTcl
namespace Go.Proofs.YthdolfnfiggkjaaGreatDoor
open Go.RowKit Go.Sort

section
variable {α : Type} {T : Rty α}
theorem recs_cells {w : World} {lo : Nat} {q : Addr} {n c : Nat} {ys : List α} (h : RecR T w lo (.slice (some q) n c) ys) : ∀ j u, (ys.flatMap T.f)[j]? = some u → w.cell? (q.add j) = some u := by
  obtain ⟨a, cap, hv, _, _, h3⟩ := h
  injection hv with ha _ _
  intro j u hj
  obtain ⟨b, o, hab, _, _, hc⟩ := h3 j u hj
  rw [← ha] at hab
  injection hab with hq
  subst hq
  by_cases h0 : j = 0
  · subst h0; simpa [Addr.add] using hc
  · simpa [Addr.add, h0] using hc
theorem wp_app_recs (hT : T.Ok) {w : World} {ops : Array Oper} {rest : List Oper} {o : Oper} {a : Act} {Q : Exit → Act → World → Prop} (hgd : o.guard = none) (s x : Operand)
    (ho : o.op = .call { callee := .builtin .append, args := #[s, x], argTypes := #[T.S, T.S] }) (B : Nat) (v : Value) (l : List α) (hs : a.eval s = v) (hown : OwnR T w B v l)
    (q : Addr) (c : Nat) (ys : List α) (hx : a.eval x = .slice (some q) ys.length c) (hcell : ∀ j u, (ys.flatMap T.f)[j]? = some u → w.cell? (q.add j) = some u) (hlen : l.length + ys.length ≤ 1000000) (hB : B ≤ w.heap.size)
    (h : ∀ v' w', OwnR T w' B v' (l ++ ys) → w.grownBy w' v.ownBlock → Below B w w' → wpList Tryz.prog ops Q rest (a.put o.dst v') w') : wpList Tryz.prog ops Q (o :: rest) a w := by
  obtain ⟨i, hi, hz0, hz1, hz2⟩ := info_parts hT.info
  refine wpList_append_own w hgd s x T.S ho B T.e i _ T.k T.b hT.sl hi hz0 hz1 hz2 hT.zs hT.pos v l.length (l.flatMap T.f) hs hown q ys.length c (ys.flatMap T.f) hx (flat_len hT.len ys) hcell (fun u hu => by obtain ⟨y, _, hy⟩ := List.mem_flatMap.1 hu; exact hT.one y u hy) (by unfold maxLen; omega) (by have := Nat.mul_le_mul (show l.length + ys.length ≤ 1000000 by omega) hT.small; omega) hB ?_
  intro v' w' h1 h2 _
  refine h v' w' ?_ h2 (app_belowR hown h2 hB)
  unfold OwnR
  rw [List.length_append, List.flatMap_append]
  exact h1
/-- the same in a region that draws its order. -/
theorem step_app_recs (hT : T.Ok) {ops : Array Oper} {o : Oper} {a : Act} {w : World} {K : Act → World → Prop} {Q : Exit → Act → World → Prop} {E : Prop}
    (hg : o.guard = none) (s x : Operand) (hop : o.op = Op.call { callee := Callee.builtin Builtin.append, args := #[s, x], argTypes := #[T.S, T.S] })
    (B : Nat) (v : Value) (l : List α) (hs : a.eval s = v) (hown : OwnR T w B v l)
    (q : Addr) (c : Nat) (ys : List α) (hx : a.eval x = .slice (some q) ys.length c) (hcell : ∀ j u, (ys.flatMap T.f)[j]? = some u → w.cell? (q.add j) = some u) (hlen : l.length + ys.length ≤ 1000000) (hB : B ≤ w.heap.size)
    (hK : ∀ v' w', OwnR T w' B v' (l ++ ys) → w.grownBy w' v.ownBlock → Below B w w' → K (a.put o.dst v') w') :
    if Region.wanted o (yielded ops a.tmps) = true then Oper.wp Tryz.prog o a w K Q else E := by
  have hw : Region.wanted o (yielded ops a.tmps) = true := by simp [Region.wanted, hg]
  rw [if_pos hw]
  obtain ⟨i, hi, hz0, hz1, hz2⟩ := info_parts hT.info
  obtain ⟨v', w', hrun, r1, r2, _⟩ := run_append_own (P := Tryz.prog) w B T.S o.type T.e i _ T.k T.b hT.sl hi hz0 hz1 hz2 hT.zs hT.pos v l.length (l.flatMap T.f) hown q ys.length c (ys.flatMap T.f) (flat_len hT.len ys) hcell (fun u hu => by obtain ⟨y, _, hy⟩ := List.mem_flatMap.1 hu; exact hT.one y u hy) (by unfold maxLen; omega) (by have := Nat.mul_le_mul (show l.length + ys.length ≤ 1000000 by omega) hT.small; omega) hB
  unfold Oper.wp
  simp [execOp, hop, resolve, invoke, builtin, hs, hx, hrun, Result.andThen]
  refine hK v' w' ?_ r2 (app_belowR hown r2 hB)
  unfold OwnR
  rw [List.length_append, List.flatMap_append]
  exact r1
end
end Go.Proofs.YthdolfnfiggkjaaGreatDoor
namespace Go.Proofs.YthdolfnfiggkjaaGreatDoor
open Go.RowKit Go.Sort Go.Maps

/-- the words of kinds as they lie in memory. -/
def kwB : List ByteArray := [⟨#[]⟩, ⟨#[114, 101, 102, 108, 111, 119]⟩, ⟨#[102, 97, 105, 108]⟩, ⟨#[112, 97, 115, 115]⟩, ⟨#[114, 101, 112, 97, 105, 114]⟩, ⟨#[115, 99, 114, 97, 112]⟩, ⟨#[115, 104, 105, 112]⟩]
theorem kwB_is : kwB.map bsOf = kwL := rfl
theorem kwB_at {k : Int} (h : 0 ≤ k ∧ k ≤ 6) : kwB[k.toNat]? = some (baOf (kwOf k)) := by
  have : k = 0 ∨ k = 1 ∨ k = 2 ∨ k = 3 ∨ k = 4 ∨ k = 5 ∨ k = 6 := by omega
  rcases this with rfl | rfl | rfl | rfl | rfl | rfl | rfl <;> rfl
/-- a literal row of strings. -/
theorem ownS_new (w : World) (B n : Nat) (l : List ByteArray) (hB : B ≤ w.heap.size) (hn : l.length = n) (hm : n ≤ 1000000) : OwnR TS (w.alloc (.cells (l.map Value.string).toArray 9)) B (.slice (some ⟨w.heap.size, 0, none⟩) n n) l := by
  subst hn
  refine OwnR.of_blk (T := TS) hB (blk_new w _) (Nat.le_refl _) (by unfold maxLen; omega) (by show ((l.map Value.string).toArray).size = l.length * 1; simp) ?_ (by rw [flat_len TS.ok.len])
  have h1 : l.flatMap TS.f = l.map Value.string := by
    clear hm
    induction l with
    | nil => rfl
    | cons x r ih => rw [List.flatMap_cons, ih]; rfl
  rw [h1, show TS.k = 1 from rfl, Nat.mul_one, List.toList_toArray]
  exact List.take_of_length_le (by rw [List.length_map]; exact Nat.le_refl _)
set_option maxRecDepth 100000 in
theorem kindWords_any (w : World) : Calls Tryz.prog 142 #[] w fun e w' => e = .returned (.slice (some ⟨w.heap.size, 0, none⟩) 7 7) ∧ OwnR TS w' w.heap.size (.slice (some ⟨w.heap.size, 0, none⟩) 7 7) kwB ∧ Below w.heap.size w w' := by
  have HF := Lib.hid (And.intro (ownS_new w w.heap.size 7 kwB (Nat.le_refl _) rfl (by decide)) (Bl.alloc (Below.refl w.heap.size w) (.cells (kwB.map Value.string).toArray 9)))
  go_enter Tryz.func142, Tryz.ntmps142
  go_wp2
  go_ret
  exact ⟨rfl, HF.out.1, HF.out.2⟩
set_option maxHeartbeats 4000000 in
set_option maxRecDepth 100000 in
theorem Words_any (s : Stp) (w : World) (hk : 0 ≤ s.kd ∧ s.kd ≤ 6) :
    Calls Tryz.prog 74 #[stpV s] w fun e w' => ∃ v l, e = .returned v ∧ OwnR TS w' w.heap.size v l ∧ l.map bsOf = wordsS s ∧ Below w.heap.size w w' := by
  obtain ⟨at', bd, kd, co⟩ := s
  obtain ⟨kn, rfl⟩ : ∃ kn : Nat, kd = kn := ⟨kd.toNat, by have : 0 ≤ kd := hk.1; omega⟩
  have hkn : kn < 7 := by have : (kn : Int) ≤ 6 := hk.2; omega
  have HKA : Hid (kwB[kn]? = some (baOf (kwOf (kn : Int)))) := Lib.hid (kwB_at hk)
  clear hk
  obtain ⟨w0, hw0⟩ : ∃ w0, w0 = w.alloc (.cells #[.int .i64 at', .string bd, .int .i64 kn, .string co] 50) := ⟨_, rfl⟩
  have hA : Below w.heap.size w w0 := by rw [hw0]; exact Bl.alloc (Below.refl _ _) _
  have hX0 : w0.heap[w.heap.size]? = some (.cells #[.int .i64 at', .string bd, .int .i64 kn, .string co] 50 (0, 0)) := by rw [hw0]; exact blk_new w _
  change Calls _ _ #[.agg #[.int .i64 at', .string bd, .int .i64 kn, .string co]] _ _
  obtain ⟨wd, hwd⟩ : ∃ wd, wd = baOf (kwOf (kn : Int)) := ⟨_, rfl⟩
  have HWD := Lib.hid hwd
  clear hwd
  have HKW : Hid (Calls Tryz.prog 142 #[] w0.drew fun e w' => e = .returned (.slice (some ⟨w0.heap.size, 0, none⟩) 7 7) ∧ w'.cell? ⟨w0.heap.size, kn, none⟩ = some (.string wd) ∧ Below w0.heap.size w0 w') := Lib.hid (by
    refine (kindWords_any w0.drew).mono ?_
    rintro e w' ⟨rfl, hO, hb⟩
    refine ⟨rfl, ?_, Below.trans (Below.drew (Below.refl _ _)) hb⟩
    obtain ⟨b, o, he, _, _, hc⟩ := str_at hO.rec (k := kn) (x := wd) (by rw [HWD.out]; exact HKA.out)
    injection he with he
    injection he with h1 h2
    subst h1; subst h2
    rw [Nat.zero_add] at hc
    exact hc)
  have c1 : w0.cell? ⟨w.heap.size, 1, none⟩ = some (.string bd) := blk_cell hX0 1
  have c2 : w0.cell? ⟨w.heap.size, 2, none⟩ = some (.int .i64 kn) := blk_cell hX0 2
  have lX := blk_lt hX0
  have hk7 : (kn : Int) < 7 := by omega
  have HX0 := Lib.hid hX0
  have HA0 := Lib.hid hA
  clear hX0 hA
  go_enter Tryz.func74, Tryz.ntmps74
  go_wp2
  rw [← hw0]
  clear hw0
  go_region_law (refine step_goN rfl 142 #[] _ rfl (enters_of Tryz.func142 (by kernel_rfl) rfl) #[] (by simp [Act.eval, Act.put]) (fun e w' => e = .returned (.slice (some ⟨w0.heap.size, 0, none⟩) 7 7) ∧ w'.cell? ⟨w0.heap.size, kn, none⟩ = some (.string wd) ∧ Below w0.heap.size w0 w') (by (have hh := HKW.out; exact hh)) ?_; rintro e w1 ⟨rfl, d0, hb1⟩; refine ⟨_, rfl, ?_⟩; have d1 := (hb1.cell (p := ⟨w.heap.size, 1, none⟩) lX).trans c1; have d2 := (hb1.cell (p := ⟨w.heap.size, 2, none⟩) lX).trans c2)
  all_goals (
    have HB1 := Lib.hid (Below.trans HA0.out (hb1.mono (Nat.le_of_lt lX)))
    have hz1 := hb1.size
    have hO0 := ownS_new w1 w.heap.size 2 [bd, wd] (by omega) rfl (by decide)
    change OwnR TS (w1.alloc (.cells #[.string bd, .string wd] 9)) _ _ _ at hO0
    have HO0 := Lib.hid hO0
    have HHC := Lib.hid fun (U : World) => hasComp_any (kn : Int) U
    have d3 := (hb1.cell (p := ⟨w.heap.size, 3, none⟩) lX).trans (blk_cell HX0.out 3)
    simp at d3
    have lX1 : w.heap.size < w1.heap.size := by omega
    clear hO0 hb1 HKW d0 c1 c2
    cases hn : namB (kn : Int)
    · rw [hn] at HHC
      have HW : Hid (wordsS (at', bd, (kn : Int), co) = [bsOf bd, kwOf (kn : Int)]) := Lib.hid (by unfold wordsS; rw [if_neg (by show ¬ namB (kn : Int) = true; rw [hn]; decide)]; rfl)
      clear hn
      go_wp2_with fail
      refine (HHC.out _).mono ?_
      rintro e w2 ⟨rfl, rfl⟩
      go_wp2
      go_ret
      exact ⟨_, [bd, wd], rfl, HO0.out, by rw [HW.out, HWD.out]; simp [bsOf_baOf], Bl.alloc HB1.out _⟩
    · rw [hn] at HHC
      have HW : Hid (wordsS (at', bd, (kn : Int), co) = [bsOf bd, kwOf (kn : Int), bsOf co]) := Lib.hid (by unfold wordsS; rw [if_pos (show namB (kn : Int) = true from hn)]; rfl)
      clear hn
      go_wp2_with fail
      refine (HHC.out _).mono ?_
      rintro e w2 ⟨rfl, rfl⟩
      go_wp2_with (at_builtin; refine wp_app_rec TS.ok rfl _ _ rfl w.heap.size _ [bd, wd] rfl (HO0.out.alloc _) (w1.heap.size + 1) 1 co rfl (blk_new' _ _ (by simp)) rfl (by simp) (by simp; omega) ?_)
      intro v3 w3 hO3 hA3 hb3
      have HF := Lib.hid (And.intro hO3 (Below.trans (Bl.alloc (Bl.alloc HB1.out _) _) hb3))
      clear hO3 hA3 hb3
      go_wp2
      go_ret
      exact ⟨_, [bd, wd] ++ [co], rfl, HF.out.1, by rw [HW.out, HWD.out]; simp [bsOf_baOf], HF.out.2⟩)
end Go.Proofs.YthdolfnfiggkjaaGreatDoor
namespace Go.Proofs.YthdolfnfiggkjaaGreatDoor
open Go.RowKit Go.Sort Go.Maps

/-- which kind a word is, by its place. -/
theorem kdOf_idx (x : ByteArray) : kdOf (bsOf x) = (if 1 ≤ Lib.idxOfS kwB x ∧ Lib.idxOfS kwB x ≤ 6 then some (Lib.idxOfS kwB x) else none) := by
  have h : ∀ k : Bs, (baOf k = x) ↔ (bsOf x = k) := fun k => ⟨fun h => by rw [← h, bsOf_baOf], fun h => by rw [← h, baOf_bsOf]⟩
  have e : Lib.idxOfS kwB x = if bsOf x = kwOf 0 then 0 else if bsOf x = kwOf 1 then 1 else if bsOf x = kwOf 2 then 2 else if bsOf x = kwOf 3 then 3 else if bsOf x = kwOf 4 then 4 else if bsOf x = kwOf 5 then 5 else if bsOf x = kwOf 6 then 6 else -1 := by
    show Lib.idxFromS [baOf (kwOf 0), baOf (kwOf 1), baOf (kwOf 2), baOf (kwOf 3), baOf (kwOf 4), baOf (kwOf 5), baOf (kwOf 6)] x 0 = _
    simp only [Lib.idxFromS, h]
    rfl
  rw [e]
  unfold kdOf
  by_cases h0 : bsOf x = kwOf 0
  · rw [h0]; decide
  by_cases h1 : bsOf x = kwOf 1
  · rw [h1]; decide
  by_cases h2 : bsOf x = kwOf 2
  · rw [h2]; decide
  by_cases h3 : bsOf x = kwOf 3
  · rw [h3]; decide
  by_cases h4 : bsOf x = kwOf 4
  · rw [h4]; decide
  by_cases h5 : bsOf x = kwOf 5
  · rw [h5]; decide
  by_cases h6 : bsOf x = kwOf 6
  · rw [h6]; decide
  simp only [if_neg h0, if_neg h1, if_neg h2, if_neg h3, if_neg h4, if_neg h5, if_neg h6]
  rfl
theorem idx_range (x : ByteArray) : -1 ≤ Lib.idxOfS kwB x ∧ Lib.idxOfS kwB x ≤ 6 := by
  show -1 ≤ Lib.idxFromS [baOf (kwOf 0), baOf (kwOf 1), baOf (kwOf 2), baOf (kwOf 3), baOf (kwOf 4), baOf (kwOf 5), baOf (kwOf 6)] x 0 ∧ Lib.idxFromS [baOf (kwOf 0), baOf (kwOf 1), baOf (kwOf 2), baOf (kwOf 3), baOf (kwOf 4), baOf (kwOf 5), baOf (kwOf 6)] x 0 ≤ 6
  simp only [Lib.idxFromS]
  repeat' split
  all_goals decide
/-- the front of a row. -/
theorem RecR.take {α : Type} {T : Rty α} {w : World} {lo n cap : Nat} {a : Option Addr} {l : List α} (h : RecR T w lo (.slice a n cap) l) (k : Nat) (hk : k ≤ l.length) : RecR T w lo (.slice a k cap) (l.take k) := by
  obtain ⟨a', cap', hv, h1, h2, h3⟩ := h
  injection hv with e1 e2 e3
  subst e1; subst e3
  refine ⟨a, cap, by rw [List.length_take, Nat.min_eq_left hk], by rw [List.length_take]; omega, h2, fun j x hj => h3 j x ?_⟩
  have e : l.flatMap T.f = (l.take k).flatMap T.f ++ (l.drop k).flatMap T.f := by rw [← List.flatMap_append, List.take_append_drop]
  rw [e, List.getElem?_append_left (List.getElem?_eq_some_iff.1 hj).1]
  exact hj
/-- the rest of a row of strings. -/
theorem strs_tail {w : World} {lo b o n cap : Nat} {x : ByteArray} {l : List ByteArray} (h : RecR TS w lo (.slice (some ⟨b, o, none⟩) n cap) (x :: l)) (a : Option Addr) (ha : l ≠ [] → a = some ⟨b, o + 1, none⟩) (c : Nat) (hc : l.length ≤ c) (hc2 : c ≤ 9223372036854775807) : RecR TS w lo (.slice a l.length c) l := by
  refine ⟨a, c, rfl, hc, hc2, fun j u hj => ?_⟩
  have hne : l ≠ [] := by rintro rfl; simp at hj
  obtain ⟨a', cap', hv, h1, h2, h3⟩ := h
  injection hv with e1 e2 e3
  subst e1
  obtain ⟨b', o', e, hlo, hb, hcell⟩ := h3 (j + 1) u (by
    rw [List.flatMap_cons, List.getElem?_append_right (by show 1 ≤ j + 1; omega)]
    exact hj)
  injection e with e
  injection e with e1 e2
  subst e1; subst e2
  exact ⟨b, o + 1, ha hne, hlo, hb, by rw [show o + 1 + j = o + (j + 1) by omega]; exact hcell⟩
theorem IndexK_any (kb : Nat) (y : ByteArray) (U : World) (h : RecR TS U 0 (.slice (some ⟨kb, 0, none⟩) 7 7) kwB) :
    Calls Tryz.prog 153 #[.slice (some ⟨kb, 0, none⟩) 7 7, .string y] U fun e w' => e = .returned (.int .i64 (Lib.idxOfS kwB y)) ∧ U = w' := by
  have := Tryz.slices_Index_string kb 0 7 7 kwB y U (Nat.le_refl _) (by decide) (str_cells h)
  rw [show kwB.take 7 = kwB from rfl] at this
  exact this.mono fun e w' ⟨h1, h2⟩ => ⟨h1, h2.symm⟩
/-- what is read of words. -/
def fwS (ws : List Bs) : Stp := match frW ws with | some q => (0, q.1, q.2.1, q.2.2) | none => (0, ⟨#[]⟩, 0, ⟨#[]⟩)
theorem frW_short {ws : List Bs} (h : ws.length < 2) : frW ws = none := by
  match ws, h with
  | [], _ => rfl
  | [a], _ => rfl
theorem frW_cons {x y : ByteArray} {r : List ByteArray} : frW (bsOf x :: bsOf y :: r.map bsOf) =
    if inB 1 (Lib.idxOfS kwB y) 6 = true ∧ r.length = (if namB (Lib.idxOfS kwB y) = true then 1 else 0) then some (x, Lib.idxOfS kwB y, r.headD ⟨#[]⟩) else none := by
  have hi : inB 1 (Lib.idxOfS kwB y) 6 = true ↔ (1 ≤ Lib.idxOfS kwB y ∧ Lib.idxOfS kwB y ≤ 6) := by
    unfold inB; simp
  match r with
  | [] =>
    show (match kdOf (bsOf y) with | some i => if namB i = false then some (baOf (bsOf x), i, (⟨#[]⟩ : ByteArray)) else none | none => none) = _
    rw [kdOf_idx]
    by_cases h : 1 ≤ Lib.idxOfS kwB y ∧ Lib.idxOfS kwB y ≤ 6
    · rw [if_pos h]
      have h' := hi.2 h
      cases hn : namB (Lib.idxOfS kwB y) <;> simp [hn, h', baOf_bsOf]
    · rw [if_neg h, if_neg (fun e => h (hi.1 e.1))]
  | [c] =>
    show (match kdOf (bsOf y) with | some i => if namB i = true then some (baOf (bsOf x), i, baOf (bsOf c)) else none | none => none) = _
    rw [kdOf_idx]
    by_cases h : 1 ≤ Lib.idxOfS kwB y ∧ Lib.idxOfS kwB y ≤ 6
    · rw [if_pos h]
      have h' := hi.2 h
      cases hn : namB (Lib.idxOfS kwB y) <;> simp [hn, h', baOf_bsOf]
    · rw [if_neg h, if_neg (fun e => h (hi.1 e.1))]
  | c :: d :: t =>
    rw [if_neg]
    · rfl
    · rintro ⟨_, h⟩
      split at h <;> simp at h
set_option maxHeartbeats 4000000 in
set_option maxRecDepth 100000 in
theorem FromWords_any (v : Value) (ws : List ByteArray) (w : World) (rl : RecR TS w 0 v ws) (hl : ws.length ≤ 1000001) :
    Calls Tryz.prog 148 #[v] w fun e w' => e = .returned (.tuple #[stpV (fwS (ws.map bsOf)), .bool (frW (ws.map bsOf)).isSome]) ∧ Below w.heap.size w w' := by
  obtain ⟨a, cap, rfl, hc1, hc2⟩ := rl.form
  have hX := blk_new w (.cells #[.int .i64 0, .string ⟨#[]⟩, .int .i64 0, .string ⟨#[]⟩] 50)
  have hA := Bl.alloc (Below.refl w.heap.size w) (.cells #[.int .i64 0, .string ⟨#[]⟩, .int .i64 0, .string ⟨#[]⟩] 50)
  obtain ⟨w1, hw1⟩ : ∃ w1, w1 = w.alloc (.cells #[.int .i64 0, .string ⟨#[]⟩, .int .i64 0, .string ⟨#[]⟩] 50) := ⟨_, rfl⟩
  rw [← hw1] at hX hA
  have RL := Lib.hid (rl.below hA)
  have lR := blk_lt hX
  clear rl
  by_cases h2 : ws.length < 2
  · have HR : Hid (fwS (ws.map bsOf) = (0, ⟨#[]⟩, 0, ⟨#[]⟩) ∧ (frW (ws.map bsOf)).isSome = false) := Lib.hid (by
      have h := frW_short (ws := ws.map bsOf) (by rw [List.length_map]; exact h2)
      unfold fwS
      rw [h]
      exact ⟨rfl, rfl⟩)
    have hlt : (ws.length : Int) < 2 := by omega
    have r0 : w1.cell? ⟨w.heap.size, 0, none⟩ = some (.int .i64 0) := blk_cell hX 0
    have r1 : w1.cell? ⟨w.heap.size, 1, none⟩ = some (.string ⟨#[]⟩) := blk_cell hX 1
    have r2 : w1.cell? ⟨w.heap.size, 2, none⟩ = some (.int .i64 0) := blk_cell hX 2
    have r3 : w1.cell? ⟨w.heap.size, 3, none⟩ = some (.string ⟨#[]⟩) := blk_cell hX 3
    go_enter Tryz.func148, Tryz.ntmps148
    go_wp2
    rw [← hw1]
    refine bodyPost_ret (v := .tuple #[.agg #[.int .i64 0, .string ⟨#[]⟩, .int .i64 0, .string ⟨#[]⟩], .bool false]) (by simp [results, Tryz.results148, go_sem, r0, r1, r2, r3]) rfl ?_
    exact ⟨by rw [HR.out.1, HR.out.2] <;> rfl, hA⟩
  · obtain ⟨x, y, r, rfl⟩ : ∃ x y r, ws = x :: y :: r := by
      clear hX hA RL lR hw1 hc1 hl
      match ws, h2 with
      | [], h => exact absurd (show 0 < 2 by omega) h
      | [_], h => exact absurd (show 1 < 2 by omega) h
      | x :: y :: r, _ => exact ⟨x, y, r, rfl⟩
    have HFC := Lib.hid (frW_cons (x := x) (y := y) (r := r))
    have HKW : Hid (∀ U : World, Calls Tryz.prog 142 #[] U fun e w' => ∃ kb : Nat, e = .returned (.slice (some ⟨kb, 0, none⟩) 7 7) ∧ Hid (RecR TS w' 0 (.slice (some ⟨kb, 0, none⟩) 7 7) kwB) ∧ Below U.heap.size U w') := Lib.hid fun U => by
      refine (kindWords_any U).mono ?_
      rintro e w' ⟨rfl, hO, hb⟩
      exact ⟨_, rfl, Lib.hid hO.rec0, hb⟩
    obtain ⟨b, o, hab, _, hbb, c0⟩ := str_at RL.out (k := 0) (x := x) rfl
    subst hab
    obtain ⟨b', o', hab, _, _, c1⟩ := str_at RL.out (k := 1) (x := y) rfl
    injection hab with hab
    injection hab with e1 e2
    subst e1; subst e2
    rw [Nat.add_zero] at c0
    obtain ⟨ki, hki⟩ : ∃ ki, ki = Lib.idxOfS kwB y := ⟨_, rfl⟩
    have hkr := idx_range y
    rw [← hki] at hkr HFC
    obtain ⟨ib, hib⟩ : ∃ ib, ib = inB 1 ki 6 := ⟨_, rfl⟩
    rw [← hib] at HFC
    have HIK : Hid (∀ U : World, Calls Tryz.prog 137 #[.int .i64 ki] U fun e w' => e = .returned (.bool ib) ∧ U = w') := Lib.hid fun U => by rw [hib]; exact isKind_any ki U
    have HBAD : Hid (¬ (ib = true ∧ r.length = (if namB ki = true then 1 else 0)) → fwS ((x :: y :: r).map bsOf) = (0, ⟨#[]⟩, 0, ⟨#[]⟩) ∧ (frW ((x :: y :: r).map bsOf)).isSome = false) := Lib.hid fun h => by
      have e := HFC.out
      rw [if_neg h] at e
      unfold fwS
      rw [show frW ((x :: y :: r).map bsOf) = none from e]
      exact ⟨rfl, rfl⟩
    have HGOOD : Hid ((ib = true ∧ r.length = (if namB ki = true then 1 else 0)) → fwS ((x :: y :: r).map bsOf) = (0, x, ki, r.headD ⟨#[]⟩) ∧ (frW ((x :: y :: r).map bsOf)).isSome = true) := Lib.hid fun h => by
      have e := HFC.out
      rw [if_pos h] at e
      unfold fwS
      rw [show frW ((x :: y :: r).map bsOf) = some (x, ki, r.headD ⟨#[]⟩) from e]
      exact ⟨rfl, rfl⟩
    have HIX : Hid (∀ (kb : Nat) (U : World), RecR TS U 0 (.slice (some ⟨kb, 0, none⟩) 7 7) kwB → Calls Tryz.prog 153 #[.slice (some ⟨kb, 0, none⟩) 7 7, .string y] U fun e w' => e = .returned (.int .i64 ki) ∧ U = w') := Lib.hid fun kb U h => by rw [hki]; exact IndexK_any kb y U h
    obtain ⟨n, hnl⟩ : ∃ n, n = (x :: y :: r).length := ⟨_, rfl⟩
    have hnr : n = r.length + 2 := hnl
    rw [← hnl] at hc1 RL ⊢
    have HKI := Lib.hid hki
    have HIB := Lib.hid hib
    clear hib
    clear hki
    have hlt : ¬ (n : Int) < 2 := by omega
    have hn2 : 2 ≤ n := by omega
    have hi0 : 0 < n := by omega
    have hi1 : 1 < n := by omega
    have hidx0 : (0 : Int) < (n : Int) := by omega
    have hidx1 : (1 : Int) < (n : Int) := by omega
    have HNR := Lib.hid hnr
    clear hnl hnr hl
    go_enter Tryz.func148, Tryz.ntmps148
    go_upto_region 3 with fail
    rw [← hw1]
    clear hw1
    have HXX := Lib.hid hX
    have HAA := Lib.hid hA
    clear hX hA
    go_cut [4] from 10 to 18 (fun v4 wx => ∃ A : Nat, v4 = .pointer (some ⟨A, 0, none⟩) ∧ Hid (wx.heap[A]? = some (.cells #[.int .i64 0, .string x, .int .i64 ki, .string ⟨#[]⟩] 50 (0, 0)) ∧ Below w1.heap.size w1 wx ∧ w.heap.size < A))
    case first =>
      go_region_law (first
        | (refine step_goN rfl 142 #[] _ rfl (enters_of Tryz.func142 (by kernel_rfl) rfl) #[] (by simp [Act.eval, Act.put]) _ (by have hh := HKW.out; exact hh _) ?_; rintro e w2 ⟨kb, rfl, HK, hb2⟩; refine ⟨_, rfl, ?_⟩; have hbU : Below w1.heap.size w1 w2 := (by first | exact Bl.trans (Below.drew (Below.refl _ _)) hb2 | exact Bl.trans (Bl.alloc (Below.drew (Below.refl _ _)) _) hb2); have d0 := (hbU.cell (p := ⟨b, o, none⟩) hbb).trans c0; have d1 := (hbU.cell (p := ⟨b, o + 1, none⟩) hbb).trans c1; have hbb2 : b < w2.heap.size := Nat.lt_of_lt_of_le hbb hbU.size; have HBU := Lib.hid hbU; (first | (have hP0 : w2.heap[w1.heap.size]? = some (.cells #[.int .i64 0, .string ⟨#[]⟩, .int .i64 0, .string ⟨#[]⟩] 50 (0, 0)) := blk_below (blk_new w1.drew (.cells #[.int .i64 0, .string ⟨#[]⟩, .int .i64 0, .string ⟨#[]⟩] 50)) hb2; have r0 : w2.cell? ⟨w1.heap.size, 0, none⟩ = some (.int .i64 0) := blk_cell hP0 0; have r1 : w2.cell? ⟨w1.heap.size, 1, none⟩ = some (.string ⟨#[]⟩) := blk_cell hP0 1; have r2 : w2.cell? ⟨w1.heap.size, 2, none⟩ = some (.int .i64 0) := blk_cell hP0 2; have r3 : w2.cell? ⟨w1.heap.size, 3, none⟩ = some (.string ⟨#[]⟩) := blk_cell hP0 3; have f0 := blk_free hP0 0; have f1 := blk_free hP0 1; have f2 := blk_free hP0 2; have f3 := blk_free hP0 3; have HP0 := Lib.hid hP0; clear hP0) | skip); clear hb2 hbU)
        | (refine step_goN rfl 153 #[.tmp 13, .tmp 16] _ rfl (enters_of Tryz.func153 (by kernel_rfl) rfl) #[.slice (some ⟨kb, 0, none⟩) 7 7, .string y] (by simp [Act.eval, Act.put]) _ (by have hh := HIX.out kb; first | exact hh _ HK.out | exact hh _ (HK.out.alloc _)) ?_; rintro e w3 ⟨rfl, rfl⟩; refine ⟨_, rfl, ?_⟩; (first
          | (have hq := HP0.out; obtain ⟨W, hW⟩ : ∃ W, (((w2.setCell ⟨w1.heap.size, 0, none⟩ (.int .i64 0)).setCell ⟨w1.heap.size, 1, none⟩ (.string x)).setCell ⟨w1.heap.size, 2, none⟩ (.int .i64 ki)).setCell ⟨w1.heap.size, 3, none⟩ (.string ⟨#[]⟩) = W := ⟨_, rfl⟩; obtain ⟨A, hA⟩ : ∃ A, w1.heap.size = A := ⟨_, rfl⟩; have HWX : Hid (W.heap[A]? = some (.cells #[.int .i64 0, .string x, .int .i64 ki, .string ⟨#[]⟩] 50 (0, 0))) := Lib.hid (by rw [← hW, ← hA]; exact blk_set (blk_set (blk_set (blk_set hq 0 (.int .i64 0)) 1 (.string x)) 2 (.int .i64 ki)) 3 (.string ⟨#[]⟩)); have HWB : Hid (Below w1.heap.size w1 W) := Lib.hid (by rw [← hW]; exact Bl.set (Bl.set (Bl.set (Bl.set HBU.out _ 0 (Nat.le_refl _) _) _ 1 (Nat.le_refl _) _) _ 2 (Nat.le_refl _) _) _ 3 (Nat.le_refl _) _); have HW := Lib.hid hW; have HA := Lib.hid hA; have HAR0 : Hid (w.heap.size ≠ A) := Lib.hid (by omega); have HAR1 : Hid (w.heap.size ≤ A) := Lib.hid (by omega); clear hW hA hq)
          | (obtain ⟨W, hW⟩ : ∃ W, w2.alloc (.cells #[.int .i64 0, .string x, .int .i64 ki, .string ⟨#[]⟩] 50) = W := ⟨_, rfl⟩; obtain ⟨A, hA⟩ : ∃ A, w2.heap.size = A := ⟨_, rfl⟩; have HWX : Hid (W.heap[A]? = some (.cells #[.int .i64 0, .string x, .int .i64 ki, .string ⟨#[]⟩] 50 (0, 0))) := Lib.hid (by rw [← hW, ← hA]; exact blk_new _ _); have HWB : Hid (Below w1.heap.size w1 W) := Lib.hid (by rw [← hW]; exact Bl.alloc HBU.out _); have HW := Lib.hid hW; have HA := Lib.hid hA; have hzz := HBU.out.size; have HAR0 : Hid (w.heap.size ≠ A) := Lib.hid (by omega); have HAR1 : Hid (w.heap.size ≤ A) := Lib.hid (by omega); clear hW hA hzz))))
      all_goals (
        rw [HW.out, HA.out]
        have HF : Hid (W.heap[A]? = some (.cells #[.int .i64 0, .string x, .int .i64 ki, .string ⟨#[]⟩] 50 (0, 0)) ∧ Below w1.heap.size w1 W ∧ w.heap.size < A) := Lib.hid ⟨HWX.out, HWB.out, by have h8 := HAR0.out; have h9 := HAR1.out; omega⟩
        go_wp2
        go_meet
        case rel => exact ⟨A, rfl, HF⟩)
    case rest =>
      obtain ⟨A, rfl, HF⟩ := hcut
      obtain ⟨W, rfl⟩ : ∃ W : World, W = wc := ⟨_, rfl⟩
      have HWX := Lib.hid HF.out.1
      have HWB := Lib.hid HF.out.2.1
      have HAR0 : Hid (w.heap.size ≠ A) := Lib.hid (by have := HF.out.2.2; omega)
      have HAR1 : Hid (w.heap.size ≤ A) := Lib.hid (by have := HF.out.2.2; omega)
      have hRX : W.heap[w.heap.size]? = some (.cells #[.int .i64 0, .string ⟨#[]⟩, .int .i64 0, .string ⟨#[]⟩] 50 (0, 0)) := blk_below HXX.out HWB.out
      have hBW := Bl.trans HAA.out HWB.out
      have lA := blk_lt HWX.out
      have lW := blk_lt hRX
      have g0 : W.cell? ⟨A, 0, none⟩ = some (.int .i64 0) := blk_cell HWX.out 0
      have g1 : W.cell? ⟨A, 1, none⟩ = some (.string x) := blk_cell HWX.out 1
      have g2 : W.cell? ⟨A, 2, none⟩ = some (.int .i64 ki) := blk_cell HWX.out 2
      have g3 : W.cell? ⟨A, 3, none⟩ = some (.string ⟨#[]⟩) := blk_cell HWX.out 3
      have k0 : W.cell? ⟨w.heap.size, 0, none⟩ = some (.int .i64 0) := blk_cell hRX 0
      have k1 : W.cell? ⟨w.heap.size, 1, none⟩ = some (.string ⟨#[]⟩) := blk_cell hRX 1
      have k2 : W.cell? ⟨w.heap.size, 2, none⟩ = some (.int .i64 0) := blk_cell hRX 2
      have k3 : W.cell? ⟨w.heap.size, 3, none⟩ = some (.string ⟨#[]⟩) := blk_cell hRX 3
      have q0 := blk_free hRX 0
      have q1 := blk_free hRX 1
      have q2 := blk_free hRX 2
      have q3 := blk_free hRX 3
      have HRX := Lib.hid hRX
      have HAR : Hid (w.heap.size ≠ A) := Lib.hid HAR0.out
      have HAR2 : Hid (w.heap.size ≤ A) := Lib.hid HAR1.out
      clear hRX c0 c1
      go_wp2_with fail
      refine (hasComp_any ki _).mono ?_
      rintro e w5 ⟨rfl, rfl⟩
      cases hn : namB ki
      · have hmz : (if namB ki = true then 1 else 0 : Nat) = 0 := by rw [hn]; rfl
        have HG1 : Hid (ib = true ∧ n = 2 → fwS ((x :: y :: r).map bsOf) = (0, x, ki, r.headD ⟨#[]⟩) ∧ (frW ((x :: y :: r).map bsOf)).isSome = true) := Lib.hid fun h => HGOOD.out (by rw [hmz]; have := HNR.out; exact ⟨h.1, by omega⟩)
        have HB1 : Hid (¬ (ib = true ∧ n = 2) → fwS ((x :: y :: r).map bsOf) = (0, ⟨#[]⟩, 0, ⟨#[]⟩) ∧ (frW ((x :: y :: r).map bsOf)).isSome = false) := Lib.hid fun h => HBAD.out (by rw [hmz]; have := HNR.out; exact fun e => h ⟨e.1, by omega⟩)
        clear hmz
        have hcase : (ib = false ∨ (ib = true ∧ n ≠ 2)) ∨ (ib = true ∧ n = 2) := by
          by_cases h9 : n = 2 <;> cases ib <;> simp [h9]
        rcases hcase with (rfl | ⟨rfl, hne⟩) | ⟨rfl, rfl⟩
        · have HR := Lib.hid (HB1.out (by simp))
          have hZ := blk_set (blk_set (blk_set (blk_set HRX.out 0 (.int .i64 0)) 1 (.string ⟨#[]⟩)) 2 (.int .i64 0)) 3 (.string ⟨#[]⟩)
          have hbZ := Bl.set (Bl.set (Bl.set (Bl.set hBW w.heap.size 0 (Nat.le_refl _) (.int .i64 0)) w.heap.size 1 (Nat.le_refl _) (.string ⟨#[]⟩)) w.heap.size 2 (Nat.le_refl _) (.int .i64 0)) w.heap.size 3 (Nat.le_refl _) (.string ⟨#[]⟩)
          go_wp2_with fail
          refine (HIK.out _).mono ?_
          rintro e w6 ⟨rfl, rfl⟩
          go_wp2
          generalize (((W.setCell ⟨w.heap.size, 0, none⟩ (.int .i64 0)).setCell ⟨w.heap.size, 1, none⟩ (.string ⟨#[]⟩)).setCell ⟨w.heap.size, 2, none⟩ (.int .i64 0)).setCell ⟨w.heap.size, 3, none⟩ (.string ⟨#[]⟩) = w9 at *
          have r0 : w9.cell? ⟨w.heap.size, 0, none⟩ = some (.int .i64 0) := blk_cell hZ 0
          have r1 : w9.cell? ⟨w.heap.size, 1, none⟩ = some (.string ⟨#[]⟩) := blk_cell hZ 1
          have r2 : w9.cell? ⟨w.heap.size, 2, none⟩ = some (.int .i64 0) := blk_cell hZ 2
          have r3 : w9.cell? ⟨w.heap.size, 3, none⟩ = some (.string ⟨#[]⟩) := blk_cell hZ 3
          refine bodyPost_ret (v := .tuple #[.agg #[.int .i64 0, .string ⟨#[]⟩, .int .i64 0, .string ⟨#[]⟩], .bool false]) (by simp [results, Tryz.results148, go_sem, r0, r1, r2, r3]) rfl ?_
          exact ⟨by rw [HR.out.1, HR.out.2] <;> rfl, hbZ⟩
        · have HR := Lib.hid (HB1.out (fun h => hne h.2))
          have hne1 : ¬ (n : Int) = 2 := by omega
          clear hne
          have hZ := blk_set (blk_set (blk_set (blk_set HRX.out 0 (.int .i64 0)) 1 (.string ⟨#[]⟩)) 2 (.int .i64 0)) 3 (.string ⟨#[]⟩)
          have hbZ := Bl.set (Bl.set (Bl.set (Bl.set hBW w.heap.size 0 (Nat.le_refl _) (.int .i64 0)) w.heap.size 1 (Nat.le_refl _) (.string ⟨#[]⟩)) w.heap.size 2 (Nat.le_refl _) (.int .i64 0)) w.heap.size 3 (Nat.le_refl _) (.string ⟨#[]⟩)
          go_wp2_with fail
          refine (HIK.out _).mono ?_
          rintro e w6 ⟨rfl, rfl⟩
          go_wp2
          generalize (((W.setCell ⟨w.heap.size, 0, none⟩ (.int .i64 0)).setCell ⟨w.heap.size, 1, none⟩ (.string ⟨#[]⟩)).setCell ⟨w.heap.size, 2, none⟩ (.int .i64 0)).setCell ⟨w.heap.size, 3, none⟩ (.string ⟨#[]⟩) = w9 at *
          have r0 : w9.cell? ⟨w.heap.size, 0, none⟩ = some (.int .i64 0) := blk_cell hZ 0
          have r1 : w9.cell? ⟨w.heap.size, 1, none⟩ = some (.string ⟨#[]⟩) := blk_cell hZ 1
          have r2 : w9.cell? ⟨w.heap.size, 2, none⟩ = some (.int .i64 0) := blk_cell hZ 2
          have r3 : w9.cell? ⟨w.heap.size, 3, none⟩ = some (.string ⟨#[]⟩) := blk_cell hZ 3
          refine bodyPost_ret (v := .tuple #[.agg #[.int .i64 0, .string ⟨#[]⟩, .int .i64 0, .string ⟨#[]⟩], .bool false]) (by simp [results, Tryz.results148, go_sem, r0, r1, r2, r3]) rfl ?_
          exact ⟨by rw [HR.out.1, HR.out.2] <;> rfl, hbZ⟩
        · have hr0 : r = [] := List.eq_nil_of_length_eq_zero (by have := HNR.out; omega)
          have HR0 := HG1.out ⟨rfl, rfl⟩
          rw [show r.headD ⟨#[]⟩ = ⟨#[]⟩ by rw [hr0]; rfl] at HR0
          have HR := Lib.hid HR0
          clear HR0 hr0
          have hZ := blk_set (blk_set (blk_set (blk_set HRX.out 0 (.int .i64 0)) 1 (.string x)) 2 (.int .i64 ki)) 3 (.string ⟨#[]⟩)
          have hbZ := Bl.set (Bl.set (Bl.set (Bl.set hBW w.heap.size 0 (Nat.le_refl _) (.int .i64 0)) w.heap.size 1 (Nat.le_refl _) (.string x)) w.heap.size 2 (Nat.le_refl _) (.int .i64 ki)) w.heap.size 3 (Nat.le_refl _) (.string ⟨#[]⟩)
          go_wp2_with fail
          refine (HIK.out _).mono ?_
          rintro e w6 ⟨rfl, rfl⟩
          go_wp2
          generalize (((W.setCell ⟨w.heap.size, 0, none⟩ (.int .i64 0)).setCell ⟨w.heap.size, 1, none⟩ (.string x)).setCell ⟨w.heap.size, 2, none⟩ (.int .i64 ki)).setCell ⟨w.heap.size, 3, none⟩ (.string ⟨#[]⟩) = w9 at *
          have r0 : w9.cell? ⟨w.heap.size, 0, none⟩ = some (.int .i64 0) := blk_cell hZ 0
          have r1 : w9.cell? ⟨w.heap.size, 1, none⟩ = some (.string x) := blk_cell hZ 1
          have r2 : w9.cell? ⟨w.heap.size, 2, none⟩ = some (.int .i64 ki) := blk_cell hZ 2
          have r3 : w9.cell? ⟨w.heap.size, 3, none⟩ = some (.string ⟨#[]⟩) := blk_cell hZ 3
          refine bodyPost_ret (v := .tuple #[.agg #[.int .i64 0, .string x, .int .i64 ki, .string ⟨#[]⟩], .bool true]) (by simp [results, Tryz.results148, go_sem, r0, r1, r2, r3]) rfl ?_
          exact ⟨by rw [HR.out.1, HR.out.2] <;> rfl, hbZ⟩
      · have hmz : (if namB ki = true then 1 else 0 : Nat) = 1 := by rw [hn]; rfl
        have HG1 : Hid (ib = true ∧ n = 3 → fwS ((x :: y :: r).map bsOf) = (0, x, ki, r.headD ⟨#[]⟩) ∧ (frW ((x :: y :: r).map bsOf)).isSome = true) := Lib.hid fun h => HGOOD.out (by rw [hmz]; have := HNR.out; exact ⟨h.1, by omega⟩)
        have HB1 : Hid (¬ (ib = true ∧ n = 3) → fwS ((x :: y :: r).map bsOf) = (0, ⟨#[]⟩, 0, ⟨#[]⟩) ∧ (frW ((x :: y :: r).map bsOf)).isSome = false) := Lib.hid fun h => HBAD.out (by rw [hmz]; have := HNR.out; exact fun e => h ⟨e.1, by omega⟩)
        clear hmz
        have hcase : (ib = false ∨ (ib = true ∧ n ≠ 3)) ∨ (ib = true ∧ n = 3) := by
          by_cases h9 : n = 3 <;> cases ib <;> simp [h9]
        rcases hcase with (rfl | ⟨rfl, hne⟩) | ⟨rfl, rfl⟩
        · have HR := Lib.hid (HB1.out (by simp))
          have hZ := blk_set (blk_set (blk_set (blk_set HRX.out 0 (.int .i64 0)) 1 (.string ⟨#[]⟩)) 2 (.int .i64 0)) 3 (.string ⟨#[]⟩)
          have hbZ := Bl.set (Bl.set (Bl.set (Bl.set hBW w.heap.size 0 (Nat.le_refl _) (.int .i64 0)) w.heap.size 1 (Nat.le_refl _) (.string ⟨#[]⟩)) w.heap.size 2 (Nat.le_refl _) (.int .i64 0)) w.heap.size 3 (Nat.le_refl _) (.string ⟨#[]⟩)
          go_wp2_with fail
          refine (HIK.out _).mono ?_
          rintro e w6 ⟨rfl, rfl⟩
          go_wp2
          generalize (((W.setCell ⟨w.heap.size, 0, none⟩ (.int .i64 0)).setCell ⟨w.heap.size, 1, none⟩ (.string ⟨#[]⟩)).setCell ⟨w.heap.size, 2, none⟩ (.int .i64 0)).setCell ⟨w.heap.size, 3, none⟩ (.string ⟨#[]⟩) = w9 at *
          have r0 : w9.cell? ⟨w.heap.size, 0, none⟩ = some (.int .i64 0) := blk_cell hZ 0
          have r1 : w9.cell? ⟨w.heap.size, 1, none⟩ = some (.string ⟨#[]⟩) := blk_cell hZ 1
          have r2 : w9.cell? ⟨w.heap.size, 2, none⟩ = some (.int .i64 0) := blk_cell hZ 2
          have r3 : w9.cell? ⟨w.heap.size, 3, none⟩ = some (.string ⟨#[]⟩) := blk_cell hZ 3
          refine bodyPost_ret (v := .tuple #[.agg #[.int .i64 0, .string ⟨#[]⟩, .int .i64 0, .string ⟨#[]⟩], .bool false]) (by simp [results, Tryz.results148, go_sem, r0, r1, r2, r3]) rfl ?_
          exact ⟨by rw [HR.out.1, HR.out.2] <;> rfl, hbZ⟩
        · have HR := Lib.hid (HB1.out (fun h => hne h.2))
          have hne1 : ¬ (n : Int) = 3 := by omega
          clear hne
          have hZ := blk_set (blk_set (blk_set (blk_set HRX.out 0 (.int .i64 0)) 1 (.string ⟨#[]⟩)) 2 (.int .i64 0)) 3 (.string ⟨#[]⟩)
          have hbZ := Bl.set (Bl.set (Bl.set (Bl.set hBW w.heap.size 0 (Nat.le_refl _) (.int .i64 0)) w.heap.size 1 (Nat.le_refl _) (.string ⟨#[]⟩)) w.heap.size 2 (Nat.le_refl _) (.int .i64 0)) w.heap.size 3 (Nat.le_refl _) (.string ⟨#[]⟩)
          go_wp2_with fail
          refine (HIK.out _).mono ?_
          rintro e w6 ⟨rfl, rfl⟩
          go_wp2
          generalize (((W.setCell ⟨w.heap.size, 0, none⟩ (.int .i64 0)).setCell ⟨w.heap.size, 1, none⟩ (.string ⟨#[]⟩)).setCell ⟨w.heap.size, 2, none⟩ (.int .i64 0)).setCell ⟨w.heap.size, 3, none⟩ (.string ⟨#[]⟩) = w9 at *
          have r0 : w9.cell? ⟨w.heap.size, 0, none⟩ = some (.int .i64 0) := blk_cell hZ 0
          have r1 : w9.cell? ⟨w.heap.size, 1, none⟩ = some (.string ⟨#[]⟩) := blk_cell hZ 1
          have r2 : w9.cell? ⟨w.heap.size, 2, none⟩ = some (.int .i64 0) := blk_cell hZ 2
          have r3 : w9.cell? ⟨w.heap.size, 3, none⟩ = some (.string ⟨#[]⟩) := blk_cell hZ 3
          refine bodyPost_ret (v := .tuple #[.agg #[.int .i64 0, .string ⟨#[]⟩, .int .i64 0, .string ⟨#[]⟩], .bool false]) (by simp [results, Tryz.results148, go_sem, r0, r1, r2, r3]) rfl ?_
          exact ⟨by rw [HR.out.1, HR.out.2] <;> rfl, hbZ⟩
        · obtain ⟨z, rfl⟩ : ∃ z, r = [z] := by
            have h9 := HNR.out
            match r, h9 with
            | [z], _ => exact ⟨z, rfl⟩
          have HR := Lib.hid (HG1.out ⟨rfl, rfl⟩)
          obtain ⟨b', o', hab, _, hbz, cz⟩ := str_at RL.out (k := 2) (x := z) rfl
          injection hab with hab
          injection hab with e1 e2
          subst e1; subst e2
          have cz1 := (HWB.out.cell (p := ⟨b, o + 2, none⟩) hbz).trans cz
          have hAR : w.heap.size ≠ A := HAR.out
          have hp0 := blk_free HWX.out 3
          have hX3 := blk_set HWX.out 3 (.string z)
          have hR3 : (W.setCell ⟨A, 3, none⟩ (.string z)).heap[w.heap.size]? = _ := (Below.heap_setCell W ⟨A, 3, none⟩ (.string z) w.heap.size hAR).trans HRX.out
          have hb3 := Bl.set hBW A 3 (by have := HAR2.out; omega) (.string z)
          have m0 := blk_cell hX3 0
          have m1 := blk_cell hX3 1
          have m2 := blk_cell hX3 2
          have m3 := blk_cell hX3 3
          have v0 := blk_cell hR3 0
          have v1 := blk_cell hR3 1
          have v2 := blk_cell hR3 2
          have v3 := blk_cell hR3 3
          have u0 := blk_free hR3 0
          have u1 := blk_free hR3 1
          have u2 := blk_free hR3 2
          have u3 := blk_free hR3 3
          simp at m0 m1 m2 m3 v0 v1 v2 v3
          have hZ := blk_set (blk_set (blk_set (blk_set hR3 0 (.int .i64 0)) 1 (.string x)) 2 (.int .i64 ki)) 3 (.string z)
          have hbZ := Bl.set (Bl.set (Bl.set (Bl.set hb3 w.heap.size 0 (Nat.le_refl _) (.int .i64 0)) w.heap.size 1 (Nat.le_refl _) (.string x)) w.heap.size 2 (Nat.le_refl _) (.int .i64 ki)) w.heap.size 3 (Nat.le_refl _) (.string z)
          clear hX3 hR3 hb3 cz
          go_wp2_with fail
          refine (HIK.out _).mono ?_
          rintro e w6 ⟨rfl, rfl⟩
          go_wp2
          generalize ((((W.setCell ⟨A, 3, none⟩ (.string z)).setCell ⟨w.heap.size, 0, none⟩ (.int .i64 0)).setCell ⟨w.heap.size, 1, none⟩ (.string x)).setCell ⟨w.heap.size, 2, none⟩ (.int .i64 ki)).setCell ⟨w.heap.size, 3, none⟩ (.string z) = w9 at *
          have r0 : w9.cell? ⟨w.heap.size, 0, none⟩ = some (.int .i64 0) := blk_cell hZ 0
          have r1 : w9.cell? ⟨w.heap.size, 1, none⟩ = some (.string x) := blk_cell hZ 1
          have r2 : w9.cell? ⟨w.heap.size, 2, none⟩ = some (.int .i64 ki) := blk_cell hZ 2
          have r3 : w9.cell? ⟨w.heap.size, 3, none⟩ = some (.string z) := blk_cell hZ 3
          refine bodyPost_ret (v := .tuple #[.agg #[.int .i64 0, .string x, .int .i64 ki, .string z], .bool true]) (by simp [results, Tryz.results148, go_sem, r0, r1, r2, r3]) rfl ?_
          exact ⟨by rw [HR.out.1, HR.out.2] <;> rfl, hbZ⟩
end Go.Proofs.YthdolfnfiggkjaaGreatDoor
namespace Go.Proofs.YthdolfnfiggkjaaGreatDoor
open Go.RowKit Go.Sort Go.Maps

theorem splitS_le (c : UInt8) : ∀ (l : List UInt8), ∀ z ∈ splitL c l, z.length ≤ l.length
  | [], z, h => by simp [splitL] at h; subst h; simp
  | b :: r, z, h => by
    have ih := splitS_le c r
    simp only [splitL] at h
    split at h
    · rcases List.mem_cons.1 h with rfl | h
      · simp
      · have := ih z h; simp; omega
    · split at h
      · rename_i e; exact absurd e (splitL_ne c r)
      · rename_i y ys e
        rw [e] at ih
        rcases List.mem_cons.1 h with rfl | h
        · have := ih y (by simp); simp; omega
        · have := ih z (List.mem_cons_of_mem _ h); simp; omega
theorem ba_ne {x : ByteArray} (h : ¬ x.size = 0) : x.toList.isEmpty = false ∧ ¬ x.toList = [] := by
  have hne : x.data.toList ≠ [] := by
    intro e
    have : x.data.toList.length = x.size := Array.length_toList
    rw [e] at this; exact h this.symm
  rw [ByteArray.toList_eq]
  exact ⟨by cases h : x.data.toList with | nil => exact absurd h hne | cons => rfl, hne⟩
set_option maxHeartbeats 4000000 in
set_option maxRecDepth 100000 in
theorem KWords_any (s : ByteArray) (w : World) (hT : TxW w) (hs : s.size ≤ 1000000) :
    Calls Tryz.prog 146 #[.string s] w fun e w' => ∃ v, e = .returned (.tuple #[v, .bool (decide ([] ∉ splitL 32 (bsOf s)))]) ∧ ([] ∉ splitL 32 (bsOf s) → ∃ l, OwnR TS w' w.heap.size v l ∧ l.map bsOf = splitL 32 (bsOf s) ∧ l.length ≤ 1000001) ∧ Below w.heap.size w w' := by
  have HSP := Lib.hid (Split_any s 32 w hT hs)
  obtain ⟨Ls, hLs⟩ : ∃ Ls, Ls = splitL 32 (bsOf s) := ⟨_, rfl⟩
  have HLS := Lib.hid hLs
  rw [← hLs]
  clear hLs hT hs
  go_enter Tryz.func146, Tryz.ntmps146
  go_wp2_with fail
  refine HSP.out.mono ?_
  rintro e w1 ⟨v, l, rfl, hO, hm, hl1, hb⟩
  obtain ⟨sa, scap, rfl, hc1, hc2⟩ := hO.form
  have hm' : l.map bsOf = Ls := by rw [HLS.out]; exact hm
  have HO := Lib.hid (And.intro hO (And.intro hm' hl1))
  have HB := Lib.hid hb
  clear hO hm hm' hb HSP
  go_wp2_with fail
  go_loopw [11] (fun i wr => ∃ k : Nat, k ≤ l.length ∧ i = .int .i64 k ∧ Hid ([] ∉ Ls.take k) ∧ w1 = wr) (fun i _ => l.length - (intOf i).toNat)
  case atStart => exact ⟨0, Nat.zero_le _, rfl, Lib.hid (by simp), rfl⟩
  case round =>
    obtain ⟨k, hk, rfl, HN, rfl⟩ := hrel
    by_cases hlt : k < l.length
    · obtain ⟨x, hx⟩ : ∃ x, l[k]? = some x := ⟨_, List.getElem?_eq_getElem hlt⟩
      have hLx : Ls[k]? = some (bsOf x) := by rw [← HO.out.2.1, List.getElem?_map, hx]; rfl
      obtain ⟨b, o, rfl, _, hbb, c0⟩ := str_at HO.out.1.rec hx
      have hw1 : IntKind.i64.wrap ((k : Int) + 1) = ((k + 1 : Nat) : Int) := by rw [IntWalk.i64_in _ (by omega)]; omega
      by_cases h0 : x.size = 0
      · obtain rfl := ba_empty h0
        have hmem : [] ∈ Ls := List.mem_of_getElem? hLx
        have HR : Hid (decide ([] ∉ Ls) = false ∧ [] ∈ Ls) := Lib.hid ⟨by simp [hmem], hmem⟩
        clear hx hLx h0 hmem
        go_wp2
        go_ret2
        exact ⟨_, by rw [HR.out.1] <;> rfl, fun h => absurd HR.out.2 h, HB.out⟩
      · have HN2 : Hid ([] ∉ Ls.take (k + 1)) := Lib.hid (by
          rw [List.take_add_one, hLx]
          intro hm
          rcases List.mem_append.1 hm with hm | hm
          · exact HN.out hm
          · have hz : bsOf x = [] := by simpa using hm
            have := bsOf_len x
            rw [hz] at this
            exact h0 this.symm)
        obtain ⟨e1, e2⟩ := ba_ne h0
        clear hx hLx h0
        go_wp2
        go_roundw
        case rel => exact ⟨k + 1, by omega, by go_num, HN2, by first | trivial | rfl⟩
        case measure => simp [intOf]; omega
    · obtain rfl : k = l.length := by omega
      have hLl : Ls.length = l.length := by rw [← HO.out.2.1, List.length_map]
      have hno : [] ∉ Ls := by
        have := HN.out
        rw [← hLl, List.take_length] at this
        exact this
      have HR : Hid (decide ([] ∉ Ls) = true) := Lib.hid (by simp [hno])
      clear hLl hno
      go_wp2
      go_ret2
      exact ⟨_, by rw [HR.out] <;> rfl, fun _ => ⟨l, HO.out⟩, HB.out⟩
theorem rdW_parts {z : Bs} {r : List Bs} (h : [] ∉ z :: r) : (rdW (z :: r)).isSome = ((numT 15 z).isSome && (frW r).isSome) ∧ ∀ p, rdW (z :: r) = some p → p = ((numT 15 z).getD 0, (fwS r).2.1, (fwS r).2.2.1, (fwS r).2.2.2) := by
  unfold rdW
  rw [if_neg h]
  show (match numT 15 z, frW r with | some a, some (b, k, c) => some (a, b, k, c) | _, _ => none : Option Stp).isSome = _ ∧ ∀ p, (match numT 15 z, frW r with | some a, some (b, k, c) => some (a, b, k, c) | _, _ => none : Option Stp) = some p → _
  unfold fwS
  cases hn : numT 15 z with
  | none => exact ⟨rfl, fun p hp => by cases hp⟩
  | some a =>
    cases hf : frW r with
    | none => exact ⟨rfl, fun p hp => by cases hp⟩
    | some q =>
      obtain ⟨b, k, c⟩ := q
      exact ⟨rfl, fun p hp => by injection hp with hp; exact hp.symm⟩
set_option maxHeartbeats 4000000 in
set_option maxRecDepth 100000 in
theorem readLine_any (s : ByteArray) (w : World) (hT : TxW w) (hs : s.size ≤ 1000000) :
    Calls Tryz.prog 81 #[.string s] w fun e w' => ∃ (a : Int) (b : ByteArray) (k : Int) (c : ByteArray), e = .returned (.tuple #[.agg #[.int .i64 a, .string b, .int .i64 k, .string c], .bool (rdS (bsOf s)).isSome]) ∧ (∀ p, rdS (bsOf s) = some p → p = (a, b, k, c)) ∧ Below w.heap.size w w' := by
  have hX := blk_new w (.cells #[.int .i64 0, .string ⟨#[]⟩, .int .i64 0, .string ⟨#[]⟩] 50)
  have hA := Bl.alloc (Below.refl w.heap.size w) (.cells #[.int .i64 0, .string ⟨#[]⟩, .int .i64 0, .string ⟨#[]⟩] 50)
  obtain ⟨w1, hw1⟩ : ∃ w1, w1 = w.alloc (.cells #[.int .i64 0, .string ⟨#[]⟩, .int .i64 0, .string ⟨#[]⟩] 50) := ⟨_, rfl⟩
  rw [← hw1] at hX hA
  have HKW := Lib.hid (KWords_any s w1 (hT.below hA) hs)
  obtain ⟨Ls, hLs⟩ : ∃ Ls, Ls = splitL 32 (bsOf s) := ⟨_, rfl⟩
  have HRD : Hid (rdS (bsOf s) = rdW Ls) := Lib.hid (by rw [hLs]; rfl)
  have HLE : Hid (∀ z ∈ Ls, z.length ≤ 1000000) := Lib.hid fun z hz => by
    have h1 := splitS_le 32 (bsOf s) z (by rw [← hLs]; exact hz)
    have h2 := bsOf_len s
    omega
  have HNE : Hid (Ls ≠ []) := Lib.hid fun h => by
    have := splitL_len 32 (bsOf s)
    rw [← hLs, h] at this
    simp at this
  rw [← hLs] at HKW
  have HX := Lib.hid hX
  have HA := Lib.hid hA
  clear hLs hT hX hA
  go_enter Tryz.func81, Tryz.ntmps81
  go_wp2_with fail
  rw [← hw1]
  clear hw1
  refine HKW.out.mono ?_
  rintro e w2 ⟨v, rfl, hv, hb2⟩
  have hX2 := blk_below HX.out hb2
  have hB2 := Bl.trans HA.out hb2
  by_cases hm : [] ∈ Ls
  · have hd : decide ([] ∉ Ls) = false := by simp [hm]
    rw [hd]
    have HR : Hid (rdS (bsOf s) = none) := Lib.hid (by rw [HRD.out]; unfold rdW; rw [if_pos hm])
    have k0 : w2.cell? ⟨w.heap.size, 0, none⟩ = some (.int .i64 0) := blk_cell hX2 0
    have k1 : w2.cell? ⟨w.heap.size, 1, none⟩ = some (.string ⟨#[]⟩) := blk_cell hX2 1
    have k2 : w2.cell? ⟨w.heap.size, 2, none⟩ = some (.int .i64 0) := blk_cell hX2 2
    have k3 : w2.cell? ⟨w.heap.size, 3, none⟩ = some (.string ⟨#[]⟩) := blk_cell hX2 3
    have q0 := blk_free hX2 0
    have q1 := blk_free hX2 1
    have q2 := blk_free hX2 2
    have q3 := blk_free hX2 3
    have hZ := blk_set (blk_set (blk_set (blk_set hX2 0 (.int .i64 0)) 1 (.string ⟨#[]⟩)) 2 (.int .i64 0)) 3 (.string ⟨#[]⟩)
    have hbZ := Bl.set (Bl.set (Bl.set (Bl.set hB2 w.heap.size 0 (Nat.le_refl _) (.int .i64 0)) w.heap.size 1 (Nat.le_refl _) (.string ⟨#[]⟩)) w.heap.size 2 (Nat.le_refl _) (.int .i64 0)) w.heap.size 3 (Nat.le_refl _) (.string ⟨#[]⟩)
    clear hX2 hB2 hv hb2 hm hd HKW
    go_wp2
    generalize (((w2.setCell ⟨w.heap.size, 0, none⟩ (.int .i64 0)).setCell ⟨w.heap.size, 1, none⟩ (.string ⟨#[]⟩)).setCell ⟨w.heap.size, 2, none⟩ (.int .i64 0)).setCell ⟨w.heap.size, 3, none⟩ (.string ⟨#[]⟩) = w9 at *
    have r0 : w9.cell? ⟨w.heap.size, 0, none⟩ = some (.int .i64 0) := blk_cell hZ 0
    have r1 : w9.cell? ⟨w.heap.size, 1, none⟩ = some (.string ⟨#[]⟩) := blk_cell hZ 1
    have r2 : w9.cell? ⟨w.heap.size, 2, none⟩ = some (.int .i64 0) := blk_cell hZ 2
    have r3 : w9.cell? ⟨w.heap.size, 3, none⟩ = some (.string ⟨#[]⟩) := blk_cell hZ 3
    refine bodyPost_ret (v := .tuple #[.agg #[.int .i64 0, .string ⟨#[]⟩, .int .i64 0, .string ⟨#[]⟩], .bool false]) (by simp [results, Tryz.results81, go_sem, r0, r1, r2, r3]) rfl ?_
    exact ⟨0, ⟨#[]⟩, 0, ⟨#[]⟩, by rw [HR.out] <;> rfl, fun p hp => (by rw [HR.out] at hp; cases hp), hbZ⟩
  · have hd : decide ([] ∉ Ls) = true := by simp [hm]
    rw [hd]
    obtain ⟨l, hO, hml, hl1⟩ := hv hm
    obtain ⟨z, r, rfl⟩ : ∃ z r, l = z :: r := by
      cases l with
      | nil => exact absurd hml.symm HNE.out
      | cons z r => exact ⟨z, r, rfl⟩
    subst hml
    have HP := Lib.hid (rdW_parts hm)
    have hzs : z.size ≤ 1000000 := by
      have h1 := HLE.out (bsOf z) (by simp)
      rw [bsOf_len] at h1
      exact h1
    obtain ⟨g, c, cur, rfl, _, hgb, hc1, hc2, _⟩ := hO.blk (by simp)
    obtain ⟨n, hn⟩ : ∃ n, n = (z :: r).length := ⟨_, rfl⟩
    rw [← hn] at hc1 hl1 hO
    have HNR : Hid (n = r.length + 1) := Lib.hid hn
    have hnp : (0 : Int) < (n : Int) := by rw [HNR.out]; omega
    have hnp1 : (1 : Int) ≤ (n : Int) := by rw [HNR.out]; omega
    have hcm : c ≤ 9223372036854775807 := by unfold maxLen at hc2; omega
    obtain ⟨_, _, e0, _, hgl, c0⟩ := str_at hO.rec (k := 0) (x := z) rfl
    injection e0 with e0
    injection e0 with e1 e2
    subst e1; subst e2
    have HOR := Lib.hid hO.rec0
    have HX2 := Lib.hid hX2
    have HB2 := Lib.hid hB2
    obtain ⟨nv, hnv⟩ : ∃ nv, nv = (numT 15 (bsOf z)).getD 0 := ⟨_, rfl⟩
    obtain ⟨ok, hok⟩ : ∃ ok, ok = (numT 15 (bsOf z)).isSome := ⟨_, rfl⟩
    have HNU0 : Calls Tryz.prog 147 #[.string z, .int .i64 (15 : Nat)] w2 fun e w' => e = .returned (.tuple #[.int .i64 nv, .bool ok]) ∧ Below w2.heap.size w2 w' := by rw [hnv, hok]; exact Number_any z 15 w2 (by omega) (by decide)
    have HNU := Lib.hid HNU0
    obtain ⟨fs, hfs⟩ : ∃ fs, fs = (frW (r.map bsOf)).isSome := ⟨_, rfl⟩
    obtain ⟨fq, hfq⟩ : ∃ fq, fq = fwS (r.map bsOf) := ⟨_, rfl⟩
    obtain ⟨fa, fb, fk, fc⟩ := fq
    have HFW : Hid (∀ (a : Option Addr) (c' : Nat), (r ≠ [] → a = some ⟨g, 0 + 1, none⟩) → r.length ≤ c' → c' ≤ 9223372036854775807 → ∀ U, Below w2.heap.size w2 U → Calls Tryz.prog 148 #[.slice a (n - 1) c'] U fun e w' => e = .returned (.tuple #[.agg #[.int .i64 fa, .string fb, .int .i64 fk, .string fc], .bool fs]) ∧ Below U.heap.size U w') := Lib.hid fun a c' h1 h2 h3 U hU => by
      have h4 : n - 1 = r.length := by rw [HNR.out]; rfl
      rw [h4, hfs]
      have h5 := FromWords_any (.slice a r.length c') r U (strs_tail (HOR.out.below hU) a h1 c' h2 h3) (by have := HNR.out; omega)
      rw [← hfq] at h5
      exact h5
    have HFIN : Hid (∀ b : Bool, b = (ok && fs) → Ending.returned (.tuple #[.agg #[.int .i64 nv, .string fb, .int .i64 fk, .string fc], .bool b]) = .returned (.tuple #[.agg #[.int .i64 nv, .string fb, .int .i64 fk, .string fc], .bool (rdS (bsOf s)).isSome]) ∧ ∀ p, rdS (bsOf s) = some p → p = (nv, fb, fk, fc)) := Lib.hid fun b hb => by
      have h1 := HP.out
      rw [← hfq, ← hnv, ← hok, ← hfs] at h1
      rw [HRD.out, hb]
      refine ⟨?_, h1.2⟩
      rw [List.map_cons, h1.1]
    clear hX2 hB2 hv hb2 hm hd hO hgb hc2 HKW HNU0 hnv hok hfs hfq HP HRD
    rw [← hn]
    clear hn
    go_wp2_with fail
    refine HNU.out.mono ?_
    rintro e w3 ⟨rfl, hb3⟩
    have HB3 := Lib.hid hb3
    clear hb3
    go_wp2_with fail
    case' inl =>
      have HC4 := HFW.out (some ⟨g, 0, none⟩) 0 (by intro h; exfalso; have h1 := HNR.out; have h2 := List.length_pos_iff.2 h; omega) (by have h1 := HNR.out; omega) (by omega) w3 HB3.out
    case' inr =>
      have HC4 := HFW.out (some ⟨g, 1, none⟩) (c - 1) (fun _ => rfl) (by have h1 := HNR.out; omega) (by omega) w3 HB3.out
    all_goals (
      refine HC4.mono ?_
      rintro e w4 ⟨rfl, hb4⟩
      have hB4 := Bl.trans HB3.out hb4
      have hX4 := blk_below HX2.out hB4
      have lR := blk_lt hX4
      have k0 : w4.cell? ⟨w.heap.size, 0, none⟩ = some (.int .i64 0) := blk_cell hX4 0
      have k1 : w4.cell? ⟨w.heap.size, 1, none⟩ = some (.string ⟨#[]⟩) := blk_cell hX4 1
      have k2 : w4.cell? ⟨w.heap.size, 2, none⟩ = some (.int .i64 0) := blk_cell hX4 2
      have k3 : w4.cell? ⟨w.heap.size, 3, none⟩ = some (.string ⟨#[]⟩) := blk_cell hX4 3
      have q0 := blk_free hX4 0
      have q1 := blk_free hX4 1
      have q2 := blk_free hX4 2
      have q3 := blk_free hX4 3
      have hZ := blk_old (blk_set (blk_set (blk_set (blk_set hX4 0 (.int .i64 nv)) 1 (.string fb)) 2 (.int .i64 fk)) 3 (.string fc)) (.cells #[.int .i64 nv, .string fb, .int .i64 fk, .string fc] 50)
      have hbZ := Bl.alloc (Bl.set (Bl.set (Bl.set (Bl.set (Bl.trans HB2.out hB4) w.heap.size 0 (Nat.le_refl _) (.int .i64 nv)) w.heap.size 1 (Nat.le_refl _) (.string fb)) w.heap.size 2 (Nat.le_refl _) (.int .i64 fk)) w.heap.size 3 (Nat.le_refl _) (.string fc)) (.cells #[.int .i64 nv, .string fb, .int .i64 fk, .string fc] 50)
      clear hX4 hB4 hb4 HC4
      cases ok
      · go_wp2
        generalize ((((w4.setCell ⟨w.heap.size, 0, none⟩ (.int .i64 nv)).setCell ⟨w.heap.size, 1, none⟩ (.string fb)).setCell ⟨w.heap.size, 2, none⟩ (.int .i64 fk)).setCell ⟨w.heap.size, 3, none⟩ (.string fc)).alloc (.cells #[.int .i64 nv, .string fb, .int .i64 fk, .string fc] 50) = w9 at *
        have r0 : w9.cell? ⟨w.heap.size, 0, none⟩ = some (.int .i64 nv) := blk_cell hZ 0
        have r1 : w9.cell? ⟨w.heap.size, 1, none⟩ = some (.string fb) := blk_cell hZ 1
        have r2 : w9.cell? ⟨w.heap.size, 2, none⟩ = some (.int .i64 fk) := blk_cell hZ 2
        have r3 : w9.cell? ⟨w.heap.size, 3, none⟩ = some (.string fc) := blk_cell hZ 3
        refine bodyPost_ret (v := .tuple #[.agg #[.int .i64 nv, .string fb, .int .i64 fk, .string fc], .bool false]) (by simp [results, Tryz.results81, go_sem, r0, r1, r2, r3]) rfl ?_
        have h9 := HFIN.out false rfl
        exact ⟨nv, fb, fk, fc, h9.1, h9.2, hbZ⟩
      · go_wp2
        generalize ((((w4.setCell ⟨w.heap.size, 0, none⟩ (.int .i64 nv)).setCell ⟨w.heap.size, 1, none⟩ (.string fb)).setCell ⟨w.heap.size, 2, none⟩ (.int .i64 fk)).setCell ⟨w.heap.size, 3, none⟩ (.string fc)).alloc (.cells #[.int .i64 nv, .string fb, .int .i64 fk, .string fc] 50) = w9 at *
        have r0 : w9.cell? ⟨w.heap.size, 0, none⟩ = some (.int .i64 nv) := blk_cell hZ 0
        have r1 : w9.cell? ⟨w.heap.size, 1, none⟩ = some (.string fb) := blk_cell hZ 1
        have r2 : w9.cell? ⟨w.heap.size, 2, none⟩ = some (.int .i64 fk) := blk_cell hZ 2
        have r3 : w9.cell? ⟨w.heap.size, 3, none⟩ = some (.string fc) := blk_cell hZ 3
        refine bodyPost_ret (v := .tuple #[.agg #[.int .i64 nv, .string fb, .int .i64 fk, .string fc], .bool fs]) (by simp [results, Tryz.results81, go_sem, r0, r1, r2, r3]) rfl ?_
        have h9 := HFIN.out fs rfl
        exact ⟨nv, fb, fk, fc, h9.1, h9.2, hbZ⟩)
end Go.Proofs.YthdolfnfiggkjaaGreatDoor
namespace Go.Proofs.YthdolfnfiggkjaaGreatDoor
open Go.RowKit Go.Sort Go.Maps

theorem linesS_le (t : List UInt8) : ∀ z ∈ (linesK t).1, z.length ≤ t.length := by
  intro z hz
  unfold linesK at hz
  split at hz
  · simp at hz
  · split at hz
    · have := splitS_le 10 _ z hz
      simp at this; omega
    · exact splitS_le 10 _ z hz
theorem linesS_len (t : List UInt8) : (linesK t).1.length ≤ t.length + 1 := by
  unfold linesK
  split
  · simp
  · split
    · have h1 := splitL_len 10 t.dropLast
      have h2 := List.count_le_length (a := (10 : UInt8)) (l := t.dropLast)
      simp only
      rw [h1]
      simp at h2
      omega
    · have h1 := splitL_len 10 t
      have h2 := List.count_le_length (a := (10 : UInt8)) (l := t)
      simp only
      rw [h1]
      omega
set_option maxHeartbeats 4000000 in
set_option maxRecDepth 100000 in
theorem StRead_any (s : ByteArray) (w : World) (hT : TxW w) (hs : s.size ≤ 1000000) :
    Calls Tryz.prog 20 #[.string s] w fun e w' => ∃ v, e = .returned (.tuple #[v, .int .i64 (stepsRead (bsOf s)).2.1, .int .i64 (stepsRead (bsOf s)).2.2]) ∧ OwnR TSt w' w.heap.size v (stepsRead (bsOf s)).1 ∧ Below w.heap.size w w' := by
  have hsz : (bsOf s).length = s.size := bsOf_len s
  by_cases hbig : 200000 < s.size
  · have HV : Hid (stepsRead (bsOf s) = ([], 0, 2)) := Lib.hid (by unfold stepsRead; rw [if_pos (by omega)])
    have hb1 : (200000 : Int) < (s.size : Int) := by omega
    clear hsz
    go_enter Tryz.func20, Tryz.ntmps20
    go_wp2
    go_ret3
    exact ⟨_, by rw [HV.out] <;> rfl, by rw [HV.out]; exact OwnR.nil _ _, Below.refl _ _⟩
  · have HV : Hid (stepsRead (bsOf s) = rdEndS (readK rdS (linesK (bsOf s)).2 0 (linesK (bsOf s)).1)) := Lib.hid (by unfold stepsRead; rw [if_neg (by omega), readK_eq])
    have hb1 : ¬ (200000 : Int) < (s.size : Int) := by omega
    have HLI := Lib.hid (Lines_any s w hT hs)
    have hle := linesS_le (bsOf s)
    have hln := linesS_len (bsOf s)
    have HLE := Lib.hid hle
    obtain ⟨bo, hbo⟩ : ∃ bo, bo = (linesK (bsOf s)).2 := ⟨_, rfl⟩
    obtain ⟨Ls, hLs⟩ : ∃ Ls, Ls = (linesK (bsOf s)).1 := ⟨_, rfl⟩
    change Hid (Calls _ _ _ _ fun e w' => ∃ v l, e = .returned (.tuple #[v, .bool (linesK (bsOf s)).2]) ∧ OwnR TS w' w.heap.size v l ∧ l.map bsOf = (linesK (bsOf s)).1 ∧ l.length ≤ 1000001 ∧ Below w.heap.size w w') at HLI
    rw [← hbo, ← hLs] at HV HLI
    rw [← hLs] at HLE hln
    have HT := Lib.hid hT
    clear hbo hLs hT hle
    go_enter Tryz.func20, Tryz.ntmps20
    go_wp2_with fail
    refine HLI.out.mono ?_
    rintro e w1 ⟨v, l, rfl, hO, hm, _, hb⟩
    obtain ⟨sa, scap, rfl, hc1, hc2⟩ := hO.form
    have hll : l.length = Ls.length := by rw [← hm, List.length_map]
    have hl1 : l.length ≤ 200001 := by omega
    have HO := Lib.hid hO
    have HM := Lib.hid hm
    have HLL := Lib.hid hll
    have hz1 := hb.size
    have hT1 := HT.out.below hb
    have HT1 := Lib.hid hT1
    have HB := Lib.hid hb
    clear hO hm hll hln hT1 hb
    go_wp2_with fail
    go_loopw [7, 23] (fun v i wr => ∃ (k : Nat) (ss : List Stp), k ≤ l.length ∧ i = .int .i64 k ∧ OwnR TSt wr w1.heap.size v ss ∧ Hid (ss.length = k ∧ StpZ ss ∧ ontoS [] (readK rdS bo 0 Ls) = ontoS ss (readK rdS bo k (Ls.drop k))) ∧ Below w1.heap.size w1 wr) (fun _ i _ => l.length - (intOf i).toNat)
    case atStart =>
      exact ⟨0, [], Nat.zero_le _, rfl, OwnR.nil _ _, Lib.hid ⟨rfl, (fun s hs => by cases hs), rfl⟩, Below.refl _ _⟩
    case round =>
      obtain ⟨k, ss, hk, rfl, hOp, hP, hB⟩ := hrel
      by_cases hlt : k < l.length
      · obtain ⟨x, hx⟩ : ∃ x, l[k]? = some x := ⟨_, List.getElem?_eq_getElem hlt⟩
        have hLx : Ls[k]? = some (bsOf x) := by rw [← HM.out, List.getElem?_map, hx]; rfl
        obtain ⟨hkl, hLk⟩ := List.getElem?_eq_some_iff.1 hLx
        have hdr : Ls.drop k = bsOf x :: Ls.drop (k + 1) := by rw [List.drop_eq_getElem_cons hkl, hLk]
        have hxs : x.size ≤ 200000 := by
          have h1 := HLE.out _ (List.mem_of_getElem? hLx)
          have h2 := bsOf_len x
          omega
        obtain ⟨b, o, rfl, _, hb, c0⟩ := str_at (HO.out.rec.below hB) hx
        have hw1 : IntKind.i64.wrap ((k : Int) + 1) = ((k + 1 : Nat) : Int) := by rw [IntWalk.i64_in _ (by omega)]; omega
        have hw2 : IntKind.i64.wrap ((l.length : Int) - 1) = ((l.length - 1 : Nat) : Int) := by rw [IntWalk.i64_in _ (by omega)]; omega
        have HRL := Lib.hid fun (U : World) (hU : TxW U) => readLine_any x U hU (by omega)
        have HDR := Lib.hid hdr
        clear hx hLx hkl hLk hdr
        have HTk := Lib.hid (HT1.out.below hB)
        have HBAD := Lib.hid (show (rdS (bsOf x) = none ∨ (bo = false ∧ Ls.drop (k + 1) = [])) → stepsRead (bsOf s) = ([], (k : Int), 9) from fun h => by
          have h1 := hP.out.2.2
          rw [HDR.out, readKS_bad h, ontoS_nil] at h1
          rw [HV.out, h1]; rfl)
        have HXS : Hid (∀ q, rdS (bsOf x) = some q → q.bd.size ≤ 140737488355328 ∧ q.co.size ≤ 140737488355328) := Lib.hid fun q hq => by
          have h1 := rdS_small hq
          rw [bsOf_len] at h1
          omega
        go_wp2_with fail
        refine (HRL.out _ HTk.out).mono ?_
        rintro e w2 ⟨qa, qb, qk, qc, rfl, hq, hb2⟩
        obtain ⟨ob, hob⟩ : ∃ ob, ob = (rdS (bsOf x)).isSome := ⟨_, rfl⟩
        rw [← hob]
        have HOB := Lib.hid (And.intro hob hq)
        have hB2 := Bl.trans hB hb2
        have hOp2 := hOp.below hb2
        have hz2 := hB2.size
        obtain ⟨pa, pcap, rfl, _, _⟩ := hOp2.form
        have HOp := Lib.hid hOp2
        have HB2 := Lib.hid hB2
        have HB3 := Lib.hid (HB.out.trans ((Bl.alloc hB2 (.cells #[.int .i64 qa, .string qb, .int .i64 qk, .string qc] 50)).mono hz1))
        clear hOp hOp2 hB hb2 hob hq hB2 HRL c0
        cases ob
        · have HR : Hid (stepsRead (bsOf s) = ([], (k : Int), 9)) := Lib.hid (HBAD.out (.inl (by
            have h1 := HOB.out.1
            cases h : rdS (bsOf x) with
            | none => rfl
            | some q => rw [h] at h1; cases h1)))
          clear HBAD
          go_wp2
          go_ret3
          exact ⟨_, by rw [HR.out] <;> rfl, by rw [HR.out]; exact OwnR.nil _ _, HB3.out⟩
        · have HP2 : Hid (rdS (bsOf x) = some (qa, qb, qk, qc)) := Lib.hid (by
            have h1 := HOB.out
            cases h : rdS (bsOf x) with
            | none => rw [h] at h1; cases h1.1
            | some q => rw [h1.2 q h])
          by_cases hlast : bo = false ∧ k + 1 = l.length
          · obtain ⟨rfl, hl9⟩ := hlast
            have HR : Hid (stepsRead (bsOf s) = ([], (k : Int), 9)) := Lib.hid (HBAD.out (.inr ⟨rfl, by rw [List.drop_eq_nil_iff]; have := HLL.out; omega⟩))
            have hqb : ((k : Int) == ((l.length - 1 : Nat) : Int)) = true := by simp; omega
            have hqc : (k : Int) = ((l.length - 1 : Nat) : Int) := by omega
            have HQC := Lib.hid hqc
            clear hl9 hqc HBAD
            go_wp2
            go_ret3
            exact ⟨_, by rw [HR.out] <;> rfl, by rw [HR.out]; exact OwnR.nil _ _, HB3.out⟩
          · have hgood : ¬(bo = false ∧ Ls.drop (k + 1) = []) := fun h => hlast ⟨h.1, by have h2 := h.2; rw [List.drop_eq_nil_iff] at h2; have := HLL.out; omega⟩
            have HP3 : Hid ((ss ++ [(qa, qb, qk, qc)]).length = k + 1 ∧ StpZ (ss ++ [(qa, qb, qk, qc)]) ∧ ontoS [] (readK rdS bo 0 Ls) = ontoS (ss ++ [(qa, qb, qk, qc)]) (readK rdS bo (k + 1) (Ls.drop (k + 1)))) := Lib.hid ⟨by rw [List.length_append, hP.out.1]; rfl, (fun q hq => by
              rcases List.mem_append.1 hq with hq | hq
              · exact hP.out.2.1 q hq
              · rw [List.mem_singleton.1 hq]
                exact HXS.out _ HP2.out), by rw [hP.out.2.2, HDR.out, readKS_good HP2.out hgood]⟩
            have hpk : ss.length ≤ 200001 := by rw [hP.out.1]; omega
            have hqq : bo = true ∨ (bo = false ∧ ((k : Int) == ((l.length - 1 : Nat) : Int)) = false ∧ ¬ (k : Int) = ((l.length - 1 : Nat) : Int)) := by
              cases bo with
              | true => exact .inl rfl
              | false =>
                have h9 : ¬ (k : Int) = ((l.length - 1 : Nat) : Int) := fun e => hlast ⟨rfl, by omega⟩
                exact .inr ⟨rfl, by simpa using h9, h9⟩
            clear hlast hgood HBAD hP
            rcases hqq with rfl | ⟨rfl, hq1, hq2⟩
            all_goals
              go_wp2_with (at_builtin; refine wp_app_rec TSt.ok rfl _ _ rfl w1.heap.size _ ss rfl ((HOp.out.alloc _).alloc _) (w2.heap.size + 1) 1 (qa, qb, qk, qc) rfl (blk_new' _ _ (by simp)) rfl (by omega) (by simp; omega) ?_)
              intro v4 w4 hO4 hg4 hb4
              have HO4 := Lib.hid (And.intro hO4 (Below.trans (Bl.alloc (Bl.alloc HB2.out _) _) hb4))
              clear hO4 hg4 hb4
              go_wp2
              go_roundw
              case rel => exact ⟨k + 1, ss ++ [(qa, qb, qk, qc)], by omega, by go_num, HO4.out.1, HP3, HO4.out.2⟩
              case measure => simp [intOf]; omega
      · obtain rfl : k = l.length := by omega
        have HR : Hid (readK rdS bo 0 Ls = .ok ss) := Lib.hid (by
          have h1 := hP.out.2.2
          rw [HLL.out, List.drop_length, ontoS_nil] at h1
          rw [h1]; simp [readK, ontoS])
        have hpl : ss.length ≤ 300000 := by rw [hP.out.1]; omega
        have HPo := Lib.hid hOp
        obtain ⟨pa, pcap, rfl, _, _⟩ := hOp.form
        have HC := Lib.hid (CheckSteps_any ss (.slice pa ss.length pcap) wr (by omega) HPo.out.rec0 hP.out.2.1)
        obtain ⟨f, hf⟩ : ∃ f, f = stepsF ss := ⟨_, rfl⟩
        rw [← hf] at HC
        have HV1 : Hid (stepsRead (bsOf s) = if f = 0 then (ss, 0, 0) else ([], 0, f)) := Lib.hid (by rw [HV.out, HR.out, hf]; rfl)
        have hBw := HB.out.trans (hB.mono hz1)
        clear hf HV hOp hP hB
        by_cases h0 : f = 0
        · have HV0 : Hid (stepsRead (bsOf s) = (ss, 0, 0)) := Lib.hid (by rw [HV1.out, if_pos h0])
          clear HV1
          subst h0
          go_wp2_with fail
          refine HC.out.mono ?_
          rintro e w2 ⟨rfl, hb2⟩
          have HO2 := Lib.hid (HPo.out.below hb2)
          have hB2 := Bl.trans hBw hb2
          go_wp2
          go_ret3
          exact ⟨_, by rw [HV0.out] <;> rfl, by rw [HV0.out]; exact OwnR.base HO2.out hz1, hB2⟩
        · go_wp2_with fail
          refine HC.out.mono ?_
          rintro e w2 ⟨rfl, hb2⟩
          have hB2 := Bl.trans hBw hb2
          go_wp2
          go_ret3
          exact ⟨_, by rw [HV1.out, if_neg h0] <;> rfl, by rw [HV1.out, if_neg h0]; exact OwnR.nil _ _, hB2⟩
end Go.Proofs.YthdolfnfiggkjaaGreatDoor
