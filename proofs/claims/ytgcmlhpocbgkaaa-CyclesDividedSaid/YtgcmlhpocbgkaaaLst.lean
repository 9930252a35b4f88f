/- Rows of slices of ints that a call owns; Clone of one; append of one; a store into one. The contract of cycle. Conditions: at most a million elements; at most 9 points. -/
import Derived.Test.YtgcmlhpocbgkaaaCmp
namespace Go.Proofs.Ytgcmlhpocbgkaaa
open Go.RowKit Go.Sort

/-- a row of slices of ints that the call owns: its cells. -/
def OwnV (w : World) (B : Nat) (v : Value) (vs : List Value) : Prop := w.ownsRow B 22 1 v vs.length vs
theorem OwnV.nil (w : World) (B : Nat) : OwnV w B (.slice none 0 0) [] := World.ownsRow_nil w B _ 1
theorem OwnV.rd {w : World} {B : Nat} {v : Value} {vs : List Value} (h : OwnV w B v vs) : Rd w B v vs.length vs := Rd.of_own h
theorem OwnV.below {w w' : World} {B : Nat} {v : Value} {vs : List Value} (h : OwnV w B v vs) (hb : Below w.heap.size w w') : OwnV w' B v vs := own_belowA h hb
theorem OwnV.alloc {w : World} {B : Nat} {v : Value} {vs : List Value} (h : OwnV w B v vs) (o : Obj) : OwnV (w.alloc o) B v vs := h.below ((Below.refl _ _).alloc (Nat.le_refl _) _)
theorem OwnV.set {w : World} {B g n cap : Nat} {vs : List Value} (h : OwnV w B (.slice (some ⟨g, 0, none⟩) n cap) vs) (hn : n = vs.length) (j : Nat) (x : Value) : OwnV (w.setCell ⟨g, j, none⟩ x) B (.slice (some ⟨g, 0, none⟩) n cap) (vs.set j x) := by
  subst hn
  have hs := (World.ownsRow.stored h j x).1
  unfold OwnV
  rw [List.length_set]; exact hs
theorem OwnV.nonnil {w : World} {B : Nat} {v : Value} {vs : List Value} (h : OwnV w B v vs) (h0 : vs ≠ []) : ∃ g cap, v = .slice (some ⟨g, 0, none⟩) vs.length cap ∧ B ≤ g ∧ g < w.heap.size ∧ vs.length ≤ cap := by
  rcases h.2 with ⟨_, h1⟩ | ⟨g, cap, cur, rfl, hb, hg, h1, h2, h3, h4⟩
  · exact absurd (List.eq_nil_of_length_eq_zero h1) h0
  · exact ⟨g, cap, rfl, hb, blk_lt hg, h1⟩
theorem OwnV.free {w : World} {B g n cap : Nat} {vs : List Value} (h : OwnV w B (.slice (some ⟨g, 0, none⟩) n cap) vs) (hn : n = vs.length) (j : Nat) : w.frozen? ⟨g, j, none⟩ = false := by
  subst hn
  exact World.ownsRow.frozenAt h j
theorem OwnV.base {w : World} {B B' : Nat} {v : Value} {vs : List Value} (h : OwnV w B v vs) (hb : B' ≤ B) : OwnV w B' v vs := by
  refine ⟨h.1, ?_⟩
  rcases h.2 with hn | ⟨g, cap, cur, hv, hb2, hg, rest⟩
  · exact .inl hn
  · exact .inr ⟨g, cap, cur, hv, by omega, hg, rest⟩
theorem OwnV.lists {w : World} {B lo : Nat} {v : Value} {vs : List Value} {ls : List (List Int)} (h : OwnV w B v vs) (hl : vs.length = ls.length) (hlo : lo ≤ B) (hv : ∀ (j : Nat) (x : Value) (l : List Int), vs[j]? = some x → ls[j]? = some l → Ints w lo x l) : Lists w lo v ls :=
  ⟨vs, hl, hl ▸ (h.rd.mono hlo), hv⟩

theorem info_ii : (Try.prog.info? 22).map (fun i => (i.zero, i.size, i.bytes)) = some (some (.slice none 0 0), 1, 24) := by kernel_rfl
theorem wp_app_row {w : World} {ops : Array Oper} {rest : List Oper} {o : Oper} {a : Act} {Q : Exit → Act → World → Prop} (hgd : o.guard = none) (s x : Operand)
    (ho : o.op = .call { callee := .builtin .append, args := #[s, x], argTypes := #[51, 51] }) (B : Nat) (v : Value) (vs : List Value) (hs : a.eval s = v) (hown : OwnV w B v vs)
    (g c : Nat) (y : Value) (hx : a.eval x = .slice (some ⟨g, 0, none⟩) 1 c) (hc : w.cell? ⟨g, 0, none⟩ = some y) (hy : y.oneCell' = true) (hlen : vs.length ≤ 1000000) (hB : B ≤ w.heap.size)
    (h : ∀ v' w', OwnV w' B v' (vs ++ [y]) → w.grownBy w' v.ownBlock → Below B w w' → wpList Try.prog ops Q rest (a.put o.dst v') w') : wpList Try.prog ops Q (o :: rest) a w := by
  obtain ⟨i, hi, hz0, hz1, hz2⟩ := info_parts info_ii
  refine wpList_append_own w hgd s x 51 ho B 22 i _ 1 24 Try.underlying51 hi hz0 hz1 hz2 rfl (by decide) v vs.length vs hs hown ⟨g, 0, none⟩ 1 c [y] hx rfl ?_ ?_ (by unfold maxLen; omega) (by omega) hB ?_
  · intro j u hj
    cases j with
    | zero => simp at hj; subst hj; simpa [Addr.add] using hc
    | succ j => simp at hj
  · intro u hu; simp at hu; subst hu; exact hy
  · intro v' w' h1 h2 _
    refine h v' w' ?_ h2 (app_below hown h2 hB)
    unfold OwnV
    rw [List.length_append]
    exact h1
theorem step_app_row {ops : Array Oper} {o : Oper} {a : Act} {w : World} {K : Act → World → Prop} {Q : Exit → Act → World → Prop} {E : Prop}
    (hg : o.guard = none) (s x : Operand) (hop : o.op = Op.call { callee := Callee.builtin Builtin.append, args := #[s, x], argTypes := #[51, 51] })
    (B : Nat) (v : Value) (vs : List Value) (hs : a.eval s = v) (hown : OwnV w B v vs)
    (g c : Nat) (y : Value) (hx : a.eval x = .slice (some ⟨g, 0, none⟩) 1 c) (hc : w.cell? ⟨g, 0, none⟩ = some y) (hy : y.oneCell' = true) (hlen : vs.length ≤ 1000000) (hB : B ≤ w.heap.size)
    (hK : ∀ v' w', OwnV w' B v' (vs ++ [y]) → w.grownBy w' v.ownBlock → Below B w w' → K (a.put o.dst v') w') :
    if Region.wanted o (yielded ops a.tmps) = true then Oper.wp Try.prog o a w K Q else E := by
  have hw : Region.wanted o (yielded ops a.tmps) = true := by simp [Region.wanted, hg]
  rw [if_pos hw]
  obtain ⟨i, hi, hz0, hz1, hz2⟩ := info_parts info_ii
  obtain ⟨v', w', hrun, r1, r2, _⟩ := run_append_own (P := Try.prog) w B 51 o.type 22 i _ 1 24 Try.underlying51 hi hz0 hz1 hz2 rfl (by decide) v vs.length vs hown ⟨g, 0, none⟩ 1 c [y] rfl (by
    intro j u hj
    cases j with
    | zero => simp at hj; subst hj; simpa [Addr.add] using hc
    | succ j => simp at hj) (by intro u hu; simp at hu; subst hu; exact hy) (by unfold maxLen; omega) (by omega) hB
  unfold Oper.wp
  simp [execOp, hop, resolve, invoke, builtin, hs, hx, hrun, Result.andThen]
  refine hK v' w' ?_ r2 (app_below hown r2 hB)
  unfold OwnV
  rw [List.length_append]
  exact r1

set_option maxHeartbeats 400000 in
set_option maxRecDepth 100000 in
theorem CloneV_any (v : Value) (vs : List Value) (w : World) (hlen : vs.length ≤ 1000000) (hv : ∀ x ∈ vs, x.oneCell' = true) (h0 : vs = [] → v = .slice none 0 0) (rl : Rd w 0 v vs.length vs) :
    Calls Try.prog 54 #[v] w fun e w' => ∃ v', e = .returned v' ∧ OwnV w' w.heap.size v' vs ∧ Below w.heap.size w w' := by
  have q51 : ∀ (w : World) (a : Option Addr) (n c n' c' : Nat), (binOp .eql 51 (.slice a n c) (.slice none n' c')).run Try.prog w = .ok (.bool a.isNone) w := fun w a n c n' c' => Lib.run_eql_slice_nil w _ _ a n c n' c' Try.underlying51
  by_cases hn : vs = []
  · subst hn
    obtain rfl := h0 rfl
    go_enter Try.func54, Try.ntmps54
    go_wp2
    go_ret
    exact ⟨_, rfl, OwnV.nil _ _, Below.refl _ _⟩
  · obtain ⟨a, cap, rfl, h1, h2, h3⟩ := rl
    obtain ⟨x, hx⟩ : ∃ x, vs[0]? = some x := by cases vs with | nil => exact absurd rfl hn | cons x r => exact ⟨x, rfl⟩
    obtain ⟨b, o, rfl, _, hb, _⟩ := h3 0 x hx
    have hc : ∀ j u, vs[j]? = some u → w.cell? ((⟨b, o, none⟩ : Addr).add j) = some u := by
      intro j u hj
      obtain ⟨b', o', e, _, _, hcell⟩ := h3 j u hj
      injection e with e
      injection e with e1 e2 _
      subst e1 e2
      have : (⟨b, o, none⟩ : Addr).add j = ⟨b, o + j, none⟩ := by unfold Addr.add; split <;> simp_all
      rw [this]; exact hcell
    clear h3 hx
    obtain ⟨i, hi, hz0, hz1, hz2⟩ := info_parts info_ii
    have HC : Hid (∀ j u, vs[j]? = some u → w.cell? ((⟨b, o, none⟩ : Addr).add j) = some u) := Lib.hid hc
    have HV := Lib.hid hv
    have HL := Lib.hid hlen
    clear hc hv h0
    go_enter Try.func54, Try.ntmps54
    go_wp2_with (at_builtin; refine wpList_append_own _ rfl _ _ 51 rfl w.heap.size 22 i _ 1 24 Try.underlying51 hi hz0 hz1 hz2 rfl (by decide) _ 0 [] rfl (World.ownsRow_made w #[] 0 (Nat.le_refl _) (by decide) rfl) ⟨b, o, none⟩ vs.length cap vs rfl (by simp) ?c1 HV.out (by unfold maxLen; have := HL.out; omega) (by have := HL.out; omega) (by simp) ?c2)
    case c1 =>
      intro j u hj
      have := HC.out j u hj
      have e : (⟨b, o, none⟩ : Addr).add j = ⟨b, o + j, none⟩ := by unfold Addr.add; split <;> simp_all
      rw [e] at this ⊢
      exact (World.cell?_alloc_past _ _ _ hb).trans this
    case c2 =>
      intro v' w' h4 h5 _
      have hbw : Below w.heap.size w w' := by
        have hg := h5
        refine ⟨hg.os, hg.tape, hg.output, Nat.le_trans (by simp) hg.size, fun k hk => ?_⟩
        rw [hg.block k (by simp; omega) (by simp [Value.ownBlock]; omega)]
        exact heap_alloc_old w _ hk
      go_wp2
      go_ret
      exact ⟨_, rfl, by unfold OwnV; simpa using h4, hbw⟩

theorem tlist_le (st : Pt) (P : List Pt) : ∀ (f : Nat) (a : Pt) (s : Nat), (tlist st P f a s).length ≤ f
  | 0, _, _ => Nat.le_refl _
  | f + 1, a, s => by
    simp only [tlist]
    split
    · simp
    · rw [List.length_cons]; have := tlist_le st P f (pt P (nextW st P a s).1.toNat) (clr s (nextW st P a s).1.toNat); omega
theorem tl_lt {st : Pt} {Q : List Pt} (hn : Q.length ≤ 16) : ∀ j ∈ tlist st Q Q.length st (pw Q.length - 1), j < Q.length := by
  intro j hj
  rw [tlist_mem hn j Q.length _ st (Few.start (sub_full _)) (sub_full _), full_bit] at hj
  simpa using hj
set_option maxHeartbeats 2000000 in
set_option maxRecDepth 100000 in
theorem cycle_any (st : Pt) (P : List Pt) (g : List Nat) (vp vg : Value) (w : World) (hst : Bd st) (hPb : ∀ p ∈ P, Bd p) (hn : P.length ≤ 9) (rp : Pts w 0 vp P) (rg : Ints w 0 vg (nats g)) (hg : g.Pairwise (· < ·)) (hlt : ∀ i ∈ g, i < P.length) :
    Calls Try.prog 55 #[ptv st, vp, vg] w fun e w' => (∃ vr, e = .returned (.tuple #[vr, .int .i64 (V st P st (mask g))]) ∧ Own w' w.heap.size vr (nats (tlist st P P.length st (mask g)))) ∧ Below w.heap.size w w' := by
  have hgl := asc_len hg hlt
  have hQb : ∀ p ∈ g.map (pt P), Bd p := by
    intro p hp
    obtain ⟨i, hi, rfl⟩ := List.mem_map.1 hp
    exact hPb _ (getD_mem (hlt i hi))
  have HE := Lib.hid (cycle_eq st P g (by omega) hg hlt)
  have HQ := Lib.hid hQb
  obtain ⟨sx, sy⟩ := st
  obtain ⟨va, cap, rfl, hc1, hc2⟩ := Pts.form rp
  obtain ⟨ga, gcap, rfl, hg1, hg2⟩ := Ints.form rg
  rw [nats_len] at rg hg1 ⊢
  have HL := Lib.hid hlt
  clear hQb hlt hg
  unfold ptv
  go_enter Try.func55, Try.ntmps55
  go_wp2_with fail
  go_loopw [8, 18] (fun v i wr => ∃ k : Nat, k ≤ g.length ∧ i = .int .i64 k ∧ OwnP wr (w.heap.size + 1) v ((g.map (pt P)).take k) ∧ wr.heap[w.heap.size]? = some (.cells #[.int .i64 sx, .int .i64 sy] 27 (0, 0)) ∧ w.heap.size + 1 ≤ wr.heap.size ∧ Below w.heap.size w wr) (fun _ i _ => g.length - (intOf i).toNat)
  case atStart => exact ⟨0, Nat.zero_le _, rfl, OwnP.nil _ _, blk_new _ _, by simp, Bl.alloc (Below.refl _ _) _⟩
  case round =>
    obtain ⟨k, hk, rfl, hO, hS, hz, hb⟩ := hrel
    by_cases hltk : k < g.length
    · obtain ⟨i, hi⟩ : ∃ i, g[k]? = some i := ⟨_, List.getElem?_eq_getElem hltk⟩
      have hin := HL.out i (List.mem_of_getElem? hi)
      obtain ⟨p, hp⟩ : ∃ p, P[i]? = some p := ⟨_, List.getElem?_eq_getElem hin⟩
      obtain ⟨b2, o2, rfl, _, hl2, hx2⟩ := Ints.at (rg.below hb) (nats_at hi)
      obtain ⟨b3, o3, rfl, _, hl3, hy2, hy3⟩ := Pts.at (rp.below hb) hp
      have HS : Hid ((g.map (pt P)).take (k + 1) = (g.map (pt P)).take k ++ [p]) := Lib.hid (by
        refine take_snoc ?_
        rw [List.getElem?_map, hi]
        unfold pt; simp [List.getD_eq_getElem?_getD, hp])
      obtain ⟨px, py⟩ := p
      clear hi hp
      go_wp2_with (at_builtin; refine wp_app_pt rfl _ _ rfl (w.heap.size + 1) _ ((g.map (pt P)).take k) rfl (hO.alloc _) wr.heap.size 1 (px, py) rfl (by rw [blk_cell (blk_new wr _) 0]; rfl) (by rw [blk_cell (blk_new wr _) 1]; rfl) (by simp; omega) (by simp; omega) ?_)
      intro v' w3 hO3 hA3 hb3
      go_wp2
      go_roundw
      case rel => exact ⟨k + 1, by omega, by go_num, by rw [HS.out]; exact hO3, (hb3.block w.heap.size (Nat.lt_succ_self _)).trans (blk_old hS _), Nat.le_trans (by simp; omega) hb3.size, Below.trans (Bl.alloc hb _) (hb3.mono (by omega))⟩
      case measure => simp [intOf]; omega
    · have HS : Hid ((g.map (pt P)).take k = g.map (pt P)) := Lib.hid (by rw [List.take_of_length_le (by simp; omega)])
      rw [HS.out] at hO
      clear HS
      obtain ⟨qa, qcap, rfl, hq1, hq2⟩ := Pts.form hO.pts
      rw [List.length_map] at hO hq1
      obtain ⟨z1, z2⟩ := blk2 hS
      go_wp2_with fail
      refine (ShortestOf_any (sx, sy) (g.map (pt P)) _ _ hst HQ.out (by simp; omega) (hO.pts.mono (Nat.zero_le _))).mono ?_
      rintro e w4 ⟨⟨vr, rfl, hR⟩, hb4⟩
      rw [HE.out.1]
      have hTl := tl_lt (st := (sx, sy)) (Q := g.map (pt P)) (by simp; omega)
      have HE2 := Lib.hid HE.out.2
      have hTn := tlist_le (sx, sy) (g.map (pt P)) (g.map (pt P)).length (sx, sy) (pw (g.map (pt P)).length - 1)
      generalize tlist (sx, sy) (g.map (pt P)) (g.map (pt P)).length (sx, sy) (pw (g.map (pt P)).length - 1) = T at *
      rw [List.length_map] at hTl hTn
      have HT := Lib.hid hTl
      have hb4' := Bl.trans hb hb4
      obtain ⟨ra, rcap, rfl, hr1, hr2⟩ := Ints.form hR.ints
      rw [nats_len] at *
      clear hTl HE
      go_wp2
      go_loopw [13, 38] (fun v i wx => ∃ k : Nat, k ≤ T.length ∧ i = .int .i64 k ∧ Own wx w4.heap.size v (nats ((T.map fun j => g.getD j 0).take k)) ∧ Below w4.heap.size w4 wx) (fun _ i _ => T.length - (intOf i).toNat)
      case atStart => exact ⟨0, Nat.zero_le _, rfl, Own.nil _ _, Below.refl _ _⟩
      case round =>
        obtain ⟨k, hk, rfl, hO, hbx⟩ := hrel
        by_cases hltk : k < T.length
        · obtain ⟨j, hj⟩ : ∃ j, T[k]? = some j := ⟨_, List.getElem?_eq_getElem hltk⟩
          have hjg := HT.out j (List.mem_of_getElem? hj)
          obtain ⟨i, hi⟩ : ∃ i, g[j]? = some i := ⟨_, List.getElem?_eq_getElem hjg⟩
          obtain ⟨b2, o2, rfl, _, hl2, hx2⟩ := Ints.at (hR.ints0.below hbx) (nats_at hj)
          obtain ⟨b3, o3, rfl, _, hl3, hy2⟩ := Ints.at (rg.below (Bl.trans hb4' hbx)) (nats_at hi)
          have HS : Hid (nats ((T.map fun j => g.getD j 0).take (k + 1)) = nats ((T.map fun j => g.getD j 0).take k) ++ [(i : Int)]) := Lib.hid (by
            rw [take_snoc (x := i) (by rw [List.getElem?_map, hj]; simp [List.getD_eq_getElem?_getD, hi])]
            simp [nats])
          clear hi hj
          have hzx := hbx.size
          go_wp2_with (at_builtin; refine wp_app_int rfl _ _ rfl w4.heap.size _ (nats ((T.map fun j => g.getD j 0).take k)) rfl (hO.alloc _) wr.heap.size 1 i rfl (by rw [blk_cell (blk_new wr _) 0]; rfl) (by simp [nats]; omega) (by simp; omega) ?_)
          intro v' w3 hO3 hA3 hb3
          go_wp2
          go_roundw
          case rel => exact ⟨k + 1, by omega, by go_num, by rw [HS.out]; exact hO3, Below.trans (Bl.alloc hbx _) hb3⟩
          case measure => simp [intOf]; omega
        · have HS : Hid (nats ((T.map fun j => g.getD j 0).take k) = nats (tlist (sx, sy) P P.length (sx, sy) (mask g))) := Lib.hid (by rw [List.take_of_length_le (by simp; omega), HE2.out])
          rw [HS.out] at hO
          have hz4 := hb4'.size
          go_wp2
          go_ret2
          exact ⟨⟨_, rfl, own_base hO (by omega)⟩, Bl.trans hb4' hbx⟩
end Go.Proofs.Ytgcmlhpocbgkaaa
