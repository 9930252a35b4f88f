/- The contract of StrokesOf: it finds what the program finds. Conditions: 1 to 8 slots from 0 to 1000. · The contract of StrokesOf, its search. Conditions: 1 to 8 slots from 0 to 1000. -/
import Derived.Test.YtbkglhakhahfpaaGreatDoorMpb
import Derived.Test.YtbkglhakhahfpaaGreatDoorSt1
import Derived.Test.YtbkglhakhahfpaaGreatDoorNear2
import Derived.Maps.RangeWalk
import Derived.Deep.RegionHeld2
import Derived.Laws.EntriesVeiled
namespace Go.Proofs.YtbkglhakhahfpaaGreatDoor
open Go.RowKit Go.Sort Go.Maps

/-- different numbers of a list, each once. -/
def ddL : List Int → List Int
  | [] => []
  | x :: l => if x ∈ l then ddL l else x :: ddL l
theorem ddL_mem (x : Int) : ∀ l, x ∈ ddL l ↔ x ∈ l
  | [] => Iff.rfl
  | y :: l => by
    rw [ddL]
    by_cases h : y ∈ l
    · rw [if_pos h, ddL_mem x l]
      constructor
      · exact List.mem_cons_of_mem _
      · intro hx; rcases List.mem_cons.1 hx with rfl | hx
        · exact h
        · exact hx
    · rw [if_neg h, List.mem_cons, List.mem_cons, ddL_mem x l]
theorem ddL_nodup : ∀ l, (ddL l).Nodup
  | [] => List.nodup_nil
  | y :: l => by
    rw [ddL]
    by_cases h : y ∈ l
    · rw [if_pos h]; exact ddL_nodup l
    · rw [if_neg h, List.nodup_cons, ddL_mem]; exact ⟨h, ddL_nodup l⟩
theorem ddL_len : ∀ l, (ddL l).length = dcount l
  | [] => rfl
  | y :: l => by
    rw [ddL, dcount]
    by_cases h : y ∈ l
    · rw [if_pos h, if_pos h, ddL_len l]
    · rw [if_neg h, if_neg h, List.length_cons, ddL_len l]
theorem dcount_same {a b : List Int} (h : ∀ x, x ∈ a ↔ x ∈ b) : dcount a = dcount b := by
  rw [← ddL_len, ← ddL_len]
  exact ((List.perm_ext_iff_of_nodup (ddL_nodup a) (ddL_nodup b)).2 fun x => by rw [ddL_mem, ddL_mem, h]).length_eq
theorem MapB.same {w : World} {g : Nat} {a b : List Int} (h : MapB w g a) (hs : ∀ x, x ∈ a ↔ x ∈ b) : MapB w g b := by
  obtain ⟨D, h1, h2, h3⟩ := h
  exact ⟨D, h1, h2.trans (dcount_same hs), fun k hk => by rw [h3 k hk]; simp only [hs k]⟩
theorem MapB.keepB {w w' : World} {g : Nat} {ks : List Int} (h : MapB w g ks) (hk : w'.heap[g]? = w.heap[g]?) : MapB w' g ks := by
  obtain ⟨D, ⟨es, clock, hb, h2⟩, h3⟩ := h
  exact ⟨D, ⟨es, clock, hk.trans hb, h2⟩, h3⟩
theorem MapB.below {w w' : World} {g : Nat} {ks : List Int} (h : MapB w g ks) (hb : Below w.heap.size w w') : MapB w' g ks := h.keepB (hb.block g h.lt)
/-- what a search changes: two boxes, and nothing else of old. -/
structure Tz (gB gL : Nat) (w w' : World) : Prop where
  os : w'.os = w.os
  tape : w'.tape = w.tape
  output : w'.output = w.output
  size : w.heap.size ≤ w'.heap.size
  block : ∀ i, i < w.heap.size → i ≠ gB → i ≠ gL → w'.heap[i]? = w.heap[i]?
theorem Tz.refl (gB gL : Nat) (w : World) : Tz gB gL w w := ⟨rfl, rfl, rfl, Nat.le_refl _, fun _ _ _ _ => rfl⟩
theorem Tz.of_below {gB gL : Nat} {w w' : World} (h : Below w.heap.size w w') : Tz gB gL w w' := ⟨h.os, h.tape, h.output, h.size, fun i hi _ _ => h.block i hi⟩
theorem Tz.trans {gB gL : Nat} {a b c : World} (h : Tz gB gL a b) (k : Tz gB gL b c) : Tz gB gL a c :=
  ⟨k.os.trans h.os, k.tape.trans h.tape, k.output.trans h.output, Nat.le_trans h.size k.size, fun i hi h1 h2 => (k.block i (Nat.lt_of_lt_of_le hi h.size) h1 h2).trans (h.block i hi h1 h2)⟩
theorem Tz.below {gB gL B : Nat} {w w' : World} (k : Tz gB gL w w') (h1 : B ≤ gB) (h2 : B ≤ gL) (h3 : B ≤ w.heap.size) : Below B w w' :=
  ⟨k.os, k.tape, k.output, k.size, fun i hi => k.block i (by omega) (by omega) (by omega)⟩
theorem Tz.blk {gB gL g : Nat} {w w' : World} {o : Obj} (k : Tz gB gL w w') (h : w.heap[g]? = some o) (h1 : g ≠ gB) (h2 : g ≠ gL) : w'.heap[g]? = some o := (k.block g (blk_lt h) h1 h2).trans h
theorem Tz.own {gB gL lo : Nat} {w w' : World} {v : Value} {l : List Int} (k : Tz gB gL w w') (h : Own w lo v l) (h1 : gB < lo) (h2 : gL < lo) : Own w' lo v l := by
  refine ⟨h.1, ?_⟩
  rcases h.2 with hn | ⟨g, cap, cur, hv, hb, hg, rest⟩
  · exact .inl hn
  · exact .inr ⟨g, cap, cur, hv, hb, k.blk hg (by omega) (by omega), rest⟩
theorem Tz.map {gB gL g : Nat} {w w' : World} {ks : List Int} (k : Tz gB gL w w') (h : MapB w g ks) (h1 : g ≠ gB) (h2 : g ≠ gL) : MapB w' g ks := h.keepB (k.block g h.lt h1 h2)
/-- a step of a range over a map from ints to bools. -/
theorem next_ib {w : World} {ops : Array Oper} {rest : List Oper} {o : Oper} {a : Act} {Q : Exit → Act → World → Prop}
    (hg : o.guard = none) (it : Operand) (hop : o.op = Op.next it false) {b r n : Nat} {D : DataW Unit} {left : Lit → Bool} {cnt : Nat}
    (hit : a.eval it = .pointer (some ⟨r, 0, none⟩)) (h : w.ranges Tryz.prog 3 (plainElem Tryz.prog 4) b r n D left cnt)
    (hDone : cnt = 0 → (∀ kl, left kl = false) → wpList Tryz.prog ops Q rest (a.put o.dst (.tuple #[.bool false])) w)
    (hMore : ∀ (x : Int) (y : Value) (w' : World) (cnt' : Nat), Rg x → left (.int .i64 x) = true → Maps.has D (.int .i64 x) = true → w'.ranges Tryz.prog 3 (plainElem Tryz.prog 4) b r n D (fun z => left z && !z.sameKey (.int .i64 x)) cnt' → cnt' < cnt →
      w.grownBy w' (some r) → w'.heap.size = w.heap.size → (Instr.entry (.pointer (some ⟨r, 0, none⟩))).run Tryz.prog w' = .ok (.tuple #[.int .i64 x, y]) w' → wpList Tryz.prog ops Q rest (a.put o.dst (.tuple #[.bool true, .int .i64 x, y])) w') :
    wpList Tryz.prog ops Q (o :: rest) a w :=
  wpList_next_ranges w hg it hop 3 intK (plainElem Tryz.prog 4) (Value.int .i64) id (fun key kl hkey => by obtain ⟨x, rfl, _⟩ := Maps.keyOf_int_inv Tryz.underlying3 hkey; exact ⟨x, rfl⟩) (fun v y _ => ⟨v, rfl⟩)
    b r n D left cnt hit h hDone (fun x cv kl y w' cnt' hkey hlk hv hat hrg hlt hgr hsz hen => by
      obtain ⟨x', ex, rfl, hwx⟩ := Maps.keyOf_int_inv Tryz.underlying3 hkey
      cases ex
      have hr : Rg x := by
        simp only [Lit.wf, Bool.and_eq_true, decide_eq_true_eq] at hwx
        exact hwx
      exact hMore x cv w' cnt' hr hlk (has_true_of_atKey hat) hrg hlt hgr hsz hen)
theorem step_app_i1 {ops : Array Oper} {o : Oper} {a : Act} {w : World} {K : Act → World → Prop} {Q : Exit → Act → World → Prop} {E : Prop}
    (hg : o.guard = none) (s x : Operand) (hop : o.op = Op.call { callee := Callee.builtin Builtin.append, args := #[s, x], argTypes := #[22, 22] })
    (B : Nat) (v : Value) (l : List Int) (hs : a.eval s = v) (hown : Own w B v l)
    (g c : Nat) (y : Int) (hx : a.eval x = .slice (some ⟨g, 0, none⟩) 1 c) (hc : w.cell? ⟨g, 0, none⟩ = some (.int .i64 y)) (hlen : l.length ≤ 1000000) (hB : B ≤ w.heap.size)
    (hK : ∀ v' w', Own w' B v' (l ++ [y]) → Below B w w' → K (a.put o.dst v') w') :
    if Region.wanted o (yielded ops a.tmps) = true then Oper.wp Tryz.prog o a w K Q else E := by
  have hw : Region.wanted o (yielded ops a.tmps) = true := by simp [Region.wanted, hg]
  rw [if_pos hw]
  obtain ⟨i, hi, hz0, hz1, hz2⟩ := info_parts info_int
  obtain ⟨v', w', hrun, r1, r2, _⟩ := run_append_own (P := Tryz.prog) w B 22 o.type 3 i _ 1 8 Tryz.underlying22 hi hz0 hz1 hz2 rfl (by decide) v l.length (ics l) hown ⟨g, 0, none⟩ 1 c [.int .i64 y] rfl (by
    intro j u hj
    cases j with
    | zero => simp at hj; subst hj; simpa [Addr.add] using hc
    | succ j => simp at hj) (by intro u hu; simp at hu; subst hu; rfl) (by unfold maxLen; omega) (by omega) hB
  unfold Oper.wp
  simp [execOp, hop, resolve, invoke, builtin, hs, hx, hrun, Result.andThen]
  refine hK v' w' ?_ (app_below hown r2 hB)
  unfold Own
  rw [List.length_append, show ics (l ++ [y]) = ics l ++ [.int .i64 y] by simp [ics]]
  exact r1
/-- the least number of strokes so far. -/
def leastS (S : List Int) (a : List Nat × Nat) : Nat := if a.1 = [] then S.length + 1 else a.2
theorem few_le (S : List Int) (o : List Nat) : few S o ≤ o.length := by unfold few; have := dcount_le (strk S o); rw [strk_len] at this; exact this
theorem prune_iff {S : List Int} {o : List Nat} (acc : List Nat × Nat) (ho : o.length ≤ S.length) : leastS S acc ≤ few S o ↔ acc.1 ≠ [] ∧ acc.2 ≤ few S o := by
  unfold leastS
  have := few_le S o
  by_cases h : acc.1 = []
  · rw [if_pos h]; exact ⟨fun h1 => by omega, fun h1 => absurd h h1.1⟩
  · rw [if_neg h]; exact ⟨fun h1 => ⟨h, h1⟩, fun h1 => h1.2⟩
theorem strk_rg {S : List Int} (hb : ∀ x ∈ S, 0 ≤ x ∧ x ≤ 1000) : ∀ o : List Nat, o.length ≤ S.length → (∀ k ∈ o, k < 8) → ∀ x ∈ strk S o, Rg x
  | [], _, _, x, hx => by simp [strk] at hx
  | k :: o, hl, hk, x, hx => by
    simp only [List.length_cons] at hl
    simp only [strk, List.mem_cons] at hx
    rcases hx with rfl | hx
    · have h1 : S[o.length]? = some (S[o.length]'(by omega)) := List.getElem?_eq_getElem (by omega)
      have h2 := hb _ (List.getElem_mem (by omega : o.length < S.length))
      have h3 := hk k (by simp)
      unfold Rg
      rw [List.getD_eq_getElem?_getD, h1, Option.getD_some]
      omega
    · exact strk_rg hb o (by omega) (fun j hj => hk j (List.mem_cons_of_mem _ hj)) x hx
/-- the boxes of the search. -/
structure Srx (w : World) (lo gL gS gB gT : Nat) (sa : Option Addr) (scap : Nat) (S : List Int) (acc : List Nat × Nat) : Prop where
  hlo : lo ≤ w.heap.size
  ord : gS < gB ∧ gB < gL ∧ gL < gT ∧ gT < lo
  hS : w.heap[gS]? = some (.cells #[.slice sa S.length scap] 22 (0, 0))
  hB : ∃ vb, w.heap[gB]? = some (.cells #[vb] 22 (0, 0)) ∧ Own w lo vb (nats acc.1.reverse)
  hL : w.heap[gL]? = some (.cells #[.int .i64 (leastS S acc : Nat)] 3 (0, 0))
  hT : w.heap[gT]? = some (.cells #[.func (.func 137) #[] #[.pointer (some ⟨gL, 0, none⟩), .pointer (some ⟨gS, 0, none⟩), .pointer (some ⟨gB, 0, none⟩), .pointer (some ⟨gT, 0, none⟩)]] 204 (0, 0))
theorem Srx.below {w w' : World} {lo gL gS gB gT : Nat} {sa : Option Addr} {scap : Nat} {S : List Int} {acc : List Nat × Nat} (h : Srx w lo gL gS gB gT sa scap S acc) (hb : Below w.heap.size w w') : Srx w' lo gL gS gB gT sa scap S acc := by
  obtain ⟨a, b, c, ⟨vb, d, e⟩, f, g⟩ := h
  exact ⟨Nat.le_trans a hb.size, b, blk_below c hb, ⟨vb, blk_below d hb, e.below hb⟩, blk_below f hb, blk_below g hb⟩
theorem Srx.put {w : World} {lo gL gS gB gT : Nat} {sa : Option Addr} {scap : Nat} {S : List Int} {acc acc' : List Nat × Nat} (h : Srx w lo gL gS gB gT sa scap S acc) {vo : Value} (ho : Own w lo vo (nats acc'.1.reverse)) :
    Srx ((w.setCell ⟨gB, 0, none⟩ vo).setCell ⟨gL, 0, none⟩ (.int .i64 (leastS S acc' : Nat))) lo gL gS gB gT sa scap S acc' ∧ Tz gB gL w ((w.setCell ⟨gB, 0, none⟩ vo).setCell ⟨gL, 0, none⟩ (.int .i64 (leastS S acc' : Nat))) := by
  obtain ⟨a, ⟨g1, g2, g3, g4⟩, c, ⟨vb, e1, e2⟩, f, g⟩ := h
  refine ⟨⟨by simpa [World.setCell] using a, ⟨g1, g2, g3, g4⟩, blk_far (blk_far c gB 0 _ (by omega)) gL 0 _ (by omega), ⟨vo, blk_far ?_ gL 0 _ (by omega), ?_⟩, ?_, blk_far (blk_far g gB 0 _ (by omega)) gL 0 _ (by omega)⟩, ?_⟩
  · have := blk_set e1 0 vo
    simpa using this
  · exact ownsRow_setCell_below (ownsRow_setCell_below ho (by show gB < lo; omega) _) (by show gL < lo; omega) _
  · have := blk_set (blk_far f gB 0 vo (by omega)) 0 (.int .i64 (leastS S acc' : Nat))
    simpa using this
  · exact ⟨rfl, rfl, rfl, by simp [World.setCell], fun i hi h1 h2 => (Below.heap_setCell _ ⟨gL, 0, none⟩ _ i h2).trans (Below.heap_setCell _ ⟨gB, 0, none⟩ _ i h1)⟩
end Go.Proofs.YtbkglhakhahfpaaGreatDoor
namespace Go.Proofs.YtbkglhakhahfpaaGreatDoor
open Go.RowKit Go.Sort Go.Maps

set_option maxHeartbeats 8000000 in
set_option maxRecDepth 100000 in
theorem strTry_any (lo gL gS gB gT : Nat) (sa : Option Addr) (scap : Nat) (S : List Int) (hS1 : 1 ≤ S.length) (hS : S.length ≤ 8) (hb : ∀ x ∈ S, 0 ≤ x ∧ x ≤ 1000) (w00 : World) (rS : Ints w00 0 (.slice sa S.length scap) S) (hg0 : w00.heap.size ≤ gS) : ∀ (f : Nat) (o : List Nat) (acc : List Nat × Nat) (vl : Value) (gm : Nat) (w : World), o.length + f = S.length → (∀ k ∈ o, k < S.length) → Below w00.heap.size w00 w → Srx w lo gL gS gB gT sa scap S acc → Own w lo vl (nats o.reverse) → MapB w gm (strk S o) → lo ≤ gm →
    Calls Tryz.prog 137 #[vl, .map (some gm), .pointer (some ⟨gL, 0, none⟩), .pointer (some ⟨gS, 0, none⟩), .pointer (some ⟨gB, 0, none⟩), .pointer (some ⟨gT, 0, none⟩)] w fun e w' => e = .returned (.tuple #[]) ∧ Srx w' lo gL gS gB gT sa scap S (tryP S f o acc) ∧ Tz gB gL w w' := by
  intro f
  induction f with
  | zero =>
    intro o acc vl gm w hlen hlt hw0 hx hO hM hgm
    obtain ⟨la, lcap, rfl, _, _⟩ := Ints.form hO.ints
    have hrl : (nats o.reverse).length = o.length := by rw [nats_len, List.length_reverse]
    obtain ⟨ln, hln⟩ : ∃ n, n = (nats o.reverse).length := ⟨_, rfl⟩
    rw [← hln] at hO ⊢
    have hll : ln = o.length := hln.trans hrl
    have hml : ∀ ty, (Builtin.len_ #[205] ty #[.map (some gm)]).run Tryz.prog w = .ok (.int .i64 (few S o : Nat)) w := fun ty => hM.len ty
    have cL : w.cell? ⟨gL, 0, none⟩ = some (.int .i64 (leastS S acc : Nat)) := blk_cell hx.hL 0
    have cS : w.cell? ⟨gS, 0, none⟩ = some (.slice sa S.length scap) := blk_cell hx.hS 0
    obtain ⟨vb, hB, _⟩ := hx.hB
    have cB : w.cell? ⟨gB, 0, none⟩ = some vb := blk_cell hB 0
    have fB := blk_free hB 0
    have fL : (w.setCell ⟨gB, 0, none⟩ (.slice la ln lcap)).frozen? ⟨gL, 0, none⟩ = false := blk_free (blk_far hx.hL gB 0 _ (by have := hx.ord; omega)) 0
    have cL2 : (w.setCell ⟨gB, 0, none⟩ (.slice la ln lcap)).cell? ⟨gL, 0, none⟩ = some (.int .i64 (leastS S acc : Nat)) := blk_cell (blk_far hx.hL gB 0 _ (by have := hx.ord; omega)) 0
    have hpr := prune_iff (S := S) (o := o) acc (by omega)
    have HX := Lib.hid hx
    have HO := Lib.hid hO
    obtain ⟨fw, hfw⟩ : ∃ n, n = few S o := ⟨_, rfl⟩
    obtain ⟨lw, hlw⟩ : ∃ n, n = leastS S acc := ⟨_, rfl⟩
    have HFW := Lib.hid (And.intro hfw hlw)
    rw [← hfw] at hml hpr
    rw [← hlw] at cL cL2 hpr
    have HPR := Lib.hid hpr
    have hw1 : ((ln : Int) == (S.length : Int)) = true := by simp; omega
    have hge : fw ≤ 8 := by have := few_le S o; omega
    clear hln hrl hM hB hx hO hpr hfw hlw hll
    by_cases hp : lw ≤ fw
    · have hp1 : ((lw : Nat) : Int) ≤ (fw : Nat) := by omega
      have HR : Hid (tryP S 0 o acc = acc) := Lib.hid (by rw [tryP, if_pos (by rw [← HFW.out.1]; exact HPR.out.1 hp)])
      clear hp
      go_enter Tryz.func137, Tryz.ntmps137
      go_wp2
      refine bodyPost_ret (results_none rfl _ _ _) rfl ?_
      rw [HR.out]
      exact ⟨rfl, HX.out, Tz.refl _ _ _⟩
    · have hp1 : ¬ ((lw : Nat) : Int) ≤ (fw : Nat) := by omega
      have HR : Hid (tryP S 0 o acc = (o, few S o)) := Lib.hid (by rw [tryP, if_neg (by rw [← HFW.out.1]; exact fun h => hp (HPR.out.2 h))])
      have hle : leastS S (o, few S o) = fw := by
        unfold leastS
        rw [if_neg (by intro e; have e : o = [] := e; rw [e] at hlen; simp at hlen; omega), HFW.out.1]
      have hP := HX.out.put (acc' := (o, few S o)) (vo := .slice la ln lcap) HO.out
      rw [hle] at hP
      have HP := Lib.hid hP
      clear hp hP hle
      go_enter Tryz.func137, Tryz.ntmps137
      go_wp2
      refine bodyPost_ret (results_none rfl _ _ _) rfl ?_
      rw [HR.out]
      exact ⟨rfl, HP.out.1, HP.out.2⟩
  | succ f ih =>
    intro o acc vl gm w hlen hlt hw0 hx hO hM hgm
    obtain ⟨la, lcap, rfl, _, _⟩ := Ints.form hO.ints
    have hrl : (nats o.reverse).length = o.length := by rw [nats_len, List.length_reverse]
    obtain ⟨ln, hln⟩ : ∃ n, n = (nats o.reverse).length := ⟨_, rfl⟩
    rw [← hln] at hO ⊢
    have hll : ln = o.length := hln.trans hrl
    have hml : ∀ ty, (Builtin.len_ #[205] ty #[.map (some gm)]).run Tryz.prog w = .ok (.int .i64 (few S o : Nat)) w := fun ty => hM.len ty
    have cL : w.cell? ⟨gL, 0, none⟩ = some (.int .i64 (leastS S acc : Nat)) := blk_cell hx.hL 0
    have cS : w.cell? ⟨gS, 0, none⟩ = some (.slice sa S.length scap) := blk_cell hx.hS 0
    have hpr := prune_iff (S := S) (o := o) acc (by omega)
    have HX := Lib.hid hx
    have HO := Lib.hid hO
    have HM := Lib.hid hM
    have HIH := Lib.hid ih
    have HW := Lib.hid hw0
    have HRS := Lib.hid rS
    have HRV := Lib.hid hln
    obtain ⟨fw, hfw⟩ : ∃ n, n = few S o := ⟨_, rfl⟩
    obtain ⟨lw, hlw⟩ : ∃ n, n = leastS S acc := ⟨_, rfl⟩
    have HFW := Lib.hid (And.intro hfw hlw)
    rw [← hfw] at hml hpr
    rw [← hlw] at cL hpr
    have HPR := Lib.hid hpr
    have hw1 : ((ln : Int) == (S.length : Int)) = false := by rw [beq_eq_false_iff_ne]; omega
    have hge : fw ≤ 8 := by have := few_le S o; omega
    have hln8 : ln < S.length := by omega
    have HLL := Lib.hid hll
    clear hln hrl hM hx hO hpr hfw hlw ih hw0 rS hll
    by_cases hp : lw ≤ fw
    · have hp1 : ((lw : Nat) : Int) ≤ (fw : Nat) := by omega
      have HR : Hid (tryP S (f + 1) o acc = acc) := Lib.hid (by rw [tryP, if_pos (by rw [← HFW.out.1]; exact HPR.out.1 hp)])
      clear hp
      go_enter Tryz.func137, Tryz.ntmps137
      go_wp2
      refine bodyPost_ret (results_none rfl _ _ _) rfl ?_
      rw [HR.out]
      exact ⟨rfl, HX.out, Tz.refl _ _ _⟩
    · have hp1 : ¬ ((lw : Nat) : Int) ≤ (fw : Nat) := by omega
      have HR : Hid (tryP S (f + 1) o acc = (List.range S.length).foldl (fun a k => if k ∈ o then a else tryP S f (k :: o) a) acc) := Lib.hid (by rw [tryP, if_neg (by rw [← HFW.out.1]; exact fun h => hp (HPR.out.2 h))])
      clear hp
      have hmm := @run_makeMap Tryz.prog
      go_enter Tryz.func137, Tryz.ntmps137
      go_wp2_with fail
      go_loopw [25] (fun i wr => ∃ (k : Nat) (a : List Nat × Nat), k ≤ S.length ∧ i = .int .i64 k ∧ Hid (a = (List.range k).foldl (fun a k => if k ∈ o then a else tryP S f (k :: o) a) acc) ∧ Hid (Srx wr lo gL gS gB gT sa scap S a) ∧ Hid (Tz gB gL w wr)) (fun i _ => S.length - (intOf i).toNat)
      case atStart => exact ⟨0, acc, Nat.zero_le _, rfl, Lib.hid rfl, HX, Lib.hid (Tz.refl _ _ _)⟩
      case round =>
        obtain ⟨k, a, hk, rfl, HA, HXr, HZ⟩ := hrel
        clear cL cS hml
        by_cases hkn : k < S.length
        · have ho4 := HXr.out.ord
          have hmr : MapB wr gm (strk S o) := HZ.out.map HM.out (by omega) (by omega)
          have hor : Own wr lo (.slice la ln lcap) (nats o.reverse) := HZ.out.own HO.out (by omega) (by omega)
          have HMr := Lib.hid hmr
          have HOr := Lib.hid hor
          have HBr := Lib.hid (show Below w00.heap.size w00 wr from Below.trans HW.out (HZ.out.below (by omega) (by omega) HW.out.size))
          have HCO := Lib.hid (Contains_any (nats o.reverse) k (.slice la ln lcap) wr (by rw [← HRV.out]; omega) hor.ints0)
          have hw2 : IntKind.i64.wrap ((k : Int) + 1) = ((k + 1 : Nat) : Int) := by rw [IntWalk.i64_in _ (by omega)]; omega
          have HA2 : Hid ((List.range (k + 1)).foldl (fun a k => if k ∈ o then a else tryP S f (k :: o) a) acc = if k ∈ o then a else tryP S f (k :: o) a) := Lib.hid (by rw [List.range_succ, List.foldl_append, ← HA.out]; rfl)
          clear hmr hor
          by_cases hko : k ∈ o
          · rw [show memB (k : Int) (nats o.reverse) = true from memB_yes (by unfold nats; exact List.mem_map.2 ⟨k, by simpa using hko, rfl⟩)] at HCO
            have HF : Hid (a = (List.range (k + 1)).foldl (fun a k => if k ∈ o then a else tryP S f (k :: o) a) acc) := Lib.hid (by rw [HA2.out, if_pos hko])
            clear hko
            go_wp2_with fail
            refine HCO.out.mono ?_
            rintro e w' ⟨rfl, rfl⟩
            go_wp2
            go_roundw
            case rel => exact ⟨k + 1, a, by omega, by go_num, HF, HXr, HZ⟩
            case measure => simp [intOf]; omega
          · rw [show memB (k : Int) (nats o.reverse) = false from memB_nats.2 (by simpa using hko)] at HCO
            have HKO := Lib.hid hko
            obtain ⟨x, hx0⟩ : ∃ x, S[ln]? = some x := ⟨_, List.getElem?_eq_getElem hln8⟩
            have hxb := hb x (List.mem_of_getElem? hx0)
            obtain ⟨bs, os, hae, _, hls, hcx⟩ := (HRS.out.below HBr.out).at hx0
            subst hae
            obtain ⟨st, hst⟩ : ∃ st : Int, st = x - k := ⟨_, rfl⟩
            have hwst : IntKind.i64.wrap (x - k) = st := by rw [hst, IntWalk.i64_in _ (by omega)]
            have hRg : Rg st := by unfold Rg; omega
            have HST : Hid (strk S (k :: o) = st :: strk S o) := Lib.hid (by simp only [strk]; rw [List.getD_eq_getElem?_getD, ← HLL.out, hx0, hst]; rfl)
            obtain ⟨w2, hupd, hm2, hg2⟩ := (MapB.made wr).put (k := st) true hRg (by simp [dcount])
            have hA1 : Below wr.heap.size wr w2 := Below.trans (Bl.alloc (Below.refl wr.heap.size wr) (.map #[] 0)) (Gr.below hg2 (Nat.le_refl _) (by simp))
            have cS : wr.cell? ⟨gS, 0, none⟩ = some (.slice (some ⟨bs, os, none⟩) S.length scap) := blk_cell HXr.out.hS 0
            have cSA : (wr.alloc (.map #[] 0)).cell? ⟨gS, 0, none⟩ = some (.slice (some ⟨bs, os, none⟩) S.length scap) := blk_cell (blk_old HXr.out.hS _) 0
            have hcxA : (wr.alloc (.map #[] 0)).cell? ⟨bs, os + ln, none⟩ = some (.int .i64 x) := ((bcell (Bl.alloc (Below.refl wr.heap.size wr) (.map #[] 0))).1 _ _ hls).trans hcx
            have HA1 := Lib.hid (And.intro hA1 hm2)
            obtain ⟨D, hD1, hD2, hD3⟩ := HMr.out.below hA1
            have HD3 := Lib.hid hD3
            clear hst hx0 hxb hA1 hm2 hD3 hg2
            have HD1 := Lib.hid hD1
            clear hD1
            go_wp2_with fail
            refine HCO.out.mono ?_
            rintro e w' ⟨rfl, hq⟩
            obtain rfl : wr = w' := hq.symm
            clear hq
            go_wp2_with (first
              | (at_range; refine wpList_range_own _ rfl _ 205 rfl 3 4 intK Tryz.underlying205 _ gm (Maps.size D) D rfl HD1.out ?_; intro w3 hrg0 hg0 hs0)
              | go_in)
            have hsz : Maps.size D ≤ 8 := by rw [hD2]; have := few_le S o; unfold few at this; have := HLL.out; omega
            have hz2 := HA1.out.1.size
            have hg1 := HA1.out.2.lt
            have HB3 := Lib.hid (Below.trans HA1.out.1 ((Gr.below_none hg0).mono hz2))
            have HM3 := Lib.hid (show MapB w3 wr.heap.size ([] ++ [st]) from HA1.out.2.kept hg0 (by simp))
            have HI0 : Hid ((∀ y, Rg y → (y ∈ ([] : List Int) ↔ y ∈ strk S o ∧ Maps.has D (.int .i64 y) = false)) ∧ (∀ y ∈ ([] : List Int), Rg y)) := Lib.hid ⟨fun y hy => by rw [HD3.out y hy]; simp, fun y hy => by cases hy⟩
            clear hg0 hD2
            obtain ⟨wo, rfl⟩ : ∃ wo : World, wo = wr := ⟨_, rfl⟩
            go_frame
            go_loopw [10] (fun sv wx => ∃ (vis : List Int) (left : Lit → Bool) (cnt : Nat), wx.ranges Tryz.prog 3 (plainElem Tryz.prog 4) gm w2.heap.size (Maps.size D) D left cnt ∧ vis.length + cnt ≤ Maps.size D ∧ Hid (MapB wx wo.heap.size (vis ++ [st])) ∧ Hid ((∀ y, Rg y → (y ∈ vis ↔ y ∈ strk S o ∧ left (.int .i64 y) = false)) ∧ (∀ y ∈ vis, Rg y)) ∧ Hid (Below wo.heap.size wo wx) ∧ w2.heap.size < wx.heap.size) (fun _ wx => wx.rangeLeft gm w2.heap.size)
            case atStart => exact ⟨[], _, _, hrg0, by simp, HM3, HI0, HB3, by omega⟩
            case round =>
              clear hrg0 HM3 HI0 HB3 hs0
              obtain ⟨vis, left, cnt, hrg, hvc, HMx, HIx, HBx, hszx⟩ := hrel
              obtain ⟨wx, rfl⟩ : ∃ wx : World, wx = wr := ⟨_, rfl⟩
              go_wp2_with (first
                | (at_next; refine next_ib rfl _ rfl rfl hrg ?_ ?_)
                | go_in)
              · intro _ hl0
                have HMN : Hid (MapB wx wo.heap.size (strk S (k :: o))) := Lib.hid (HMx.out.same fun y => by
                  rw [HST.out, List.mem_append, List.mem_singleton, List.mem_cons]
                  constructor
                  · rintro (hy | rfl)
                    · exact .inr ((HIx.out.1 y (HIx.out.2 y hy)).1 hy).1
                    · exact .inl rfl
                  · rintro (rfl | hy)
                    · exact .inr rfl
                    · exact .inl ((HIx.out.1 y (strk_rg hb o (by have := HLL.out; omega) (fun j hj => Nat.lt_of_lt_of_le (hlt j hj) hS) y hy)).2 ⟨hy, hl0 _⟩))
                have hbx := HBx.out
                have hX8 := HXr.out.below hbx
                have hO8 := HOr.out.below hbx
                have cT : wx.cell? ⟨gT, 0, none⟩ = some (.func (.func 137) #[] #[.pointer (some ⟨gL, 0, none⟩), .pointer (some ⟨gS, 0, none⟩), .pointer (some ⟨gB, 0, none⟩), .pointer (some ⟨gT, 0, none⟩)]) := blk_cell hX8.hT 0
                have lT := blk_lt hX8.hT
                have HX8 := Lib.hid hX8
                have HO8 := Lib.hid hO8
                have hnl : (nats o.reverse).length ≤ 1000000 := by rw [← HRV.out]; omega
                have HClone := Lib.hid (show ∀ W, Below wx.heap.size wx W → Calls Tryz.prog 47 #[.slice la ln lcap] W fun e w' => (∃ a' c', e = .returned (.slice a' ln c') ∧ Own w' wx.heap.size (.slice a' ln c') (nats o.reverse)) ∧ Below W.heap.size W w' ∧ Below wx.heap.size wx w' from fun W hW =>
                  (Clone_any (nats o.reverse) _ W hnl (HO8.out.ints0.below hW)).mono fun e w' ⟨v', g1, g2, g3⟩ => by
                    obtain ⟨a', c', rfl, _, _⟩ := Ints.form g2.ints
                    rw [← HRV.out] at g1 g2
                    exact ⟨⟨a', c', g1, own_base g2 hW.size⟩, g3, Bl.trans hW g3⟩)
                have hrv : nats o.reverse ++ [(k : Int)] = nats (k :: o).reverse := by rw [List.reverse_cons, nats_snoc]
                have HRVS := Lib.hid hrv
                have HSelf := Lib.hid (show ∀ W v, Below wx.heap.size wx W → Own W wx.heap.size v (nats o.reverse ++ [(k : Int)]) → Calls Tryz.prog 137 #[v, .map (some wo.heap.size), .pointer (some ⟨gL, 0, none⟩), .pointer (some ⟨gS, 0, none⟩), .pointer (some ⟨gB, 0, none⟩), .pointer (some ⟨gT, 0, none⟩)] W fun e w' => e = .returned (.tuple #[]) ∧ Srx w' lo gL gS gB gT (some ⟨bs, os, none⟩) scap S (tryP S f (k :: o) a) ∧ Tz gB gL wx w' from fun W v hW hv => by
                  rw [HRVS.out] at hv
                  exact (HIH.out (k :: o) a v wo.heap.size W (by simp; omega) (fun j hj => by
                    rcases List.mem_cons.1 hj with rfl | hj
                    · exact hkn
                    · exact hlt j hj) (Bl.trans (Bl.trans HBr.out HBx.out) hW) (HX8.out.below hW) (own_base hv HX8.out.hlo) (HMN.out.below hW) HXr.out.hlo).mono fun e w' ⟨g1, g2, g3⟩ => ⟨g1, g2, (Tz.of_below hW).trans g3⟩)
                have HCs := Lib.hid (show ∀ W, Below wx.heap.size wx W → W.cell? ⟨gT, 0, none⟩ = some (.func (.func 137) #[] #[.pointer (some ⟨gL, 0, none⟩), .pointer (some ⟨gS, 0, none⟩), .pointer (some ⟨gB, 0, none⟩), .pointer (some ⟨gT, 0, none⟩)]) from fun W hW => ((bcell hW).1 _ _ lT).trans cT)
                have HCz := Lib.hid (show ∀ W, Tz gB gL wx W → W.cell? ⟨gT, 0, none⟩ = some (.func (.func 137) #[] #[.pointer (some ⟨gL, 0, none⟩), .pointer (some ⟨gS, 0, none⟩), .pointer (some ⟨gB, 0, none⟩), .pointer (some ⟨gT, 0, none⟩)]) from fun W hW => blk_cell (hW.blk HX8.out.hT (by omega) (by omega)) 0)
                have HGd := Lib.hid (show ∀ w2, Below (wx.alloc (.cells #[.int .i64 k] 3)).drew.heap.size (wx.alloc (.cells #[.int .i64 k] 3)).drew w2 → w2.heap[wx.heap.size]? = some (.cells #[.int .i64 k] 3 (0, 0)) from fun w2 h => blk_below (show (wx.alloc (.cells #[.int .i64 k] 3)).drew.heap[wx.heap.size]? = _ from blk_new wx _) h)
                have HGl := Lib.hid (show ∀ W w2, Below (World.alloc W (.cells #[.int .i64 k] 3)).heap.size (W.alloc (.cells #[.int .i64 k] 3)) w2 → w2.heap[W.heap.size]? = some (.cells #[.int .i64 k] 3 (0, 0)) from fun W w2 h => blk_below (blk_new W _) h)
                have HFA : Hid (tryP S f (k :: o) a = (List.range (k + 1)).foldl (fun a k => if k ∈ o then a else tryP S f (k :: o) a) acc) := Lib.hid (by rw [HA2.out, if_neg HKO.out])
                have HZx := Lib.hid (HZ.out.trans (Tz.of_below hbx))
                have hB := Below.refl wx.heap.size wx
                have hBd := Below.drew (Below.refl wx.heap.size wx)
                have hBe := Below.drew (Bl.alloc (Below.refl wx.heap.size wx) (.cells #[.int .i64 k] 3))
                clear hbx hX8 hO8 hrg hrv hl0
                go_wp2
                go_region_held2 (fun W : World => W.cell? ⟨gT, 0, none⟩ = some (.func (.func 137) #[] #[.pointer (some ⟨gL, 0, none⟩), .pointer (some ⟨gS, 0, none⟩), .pointer (some ⟨gB, 0, none⟩), .pointer (some ⟨gT, 0, none⟩)]))
                  (first | exact HCz.out _ hSelf.2 | exact HCs.out _ hB | exact HCs.out _ hBd | exact HCs.out _ hBe | exact HCs.out _ (Bl.alloc hB _))
                  (first
                    | (refine step_app_i1 rfl (.tmp 50) (.tmp 52) rfl wx.heap.size _ (nats o.reverse) rfl (by first | exact hO | exact hO.alloc _) _ _ k rfl (by first | exact blk_cell hG 0 | (rw [blk_cell (blk_new _ _) 0]; rfl)) hnl (by first | exact hB.size | exact (Bl.alloc hB _).size) ?_; intro vA wA hOA hbA; have hB := (by first | exact hB.trans hbA | exact (Bl.alloc hB _).trans hbA))
                    | (go_at_call 47; refine (HClone.out _ (by first | exact hB | exact hBd | exact hBe | exact Bl.alloc hB _)).mono ?_; rintro e wC ⟨⟨aC, cC, rfl, hO⟩, hb, hB⟩; first | have hG := HGd.out _ hb | have hG := HGl.out _ _ hb | have hG := blk_below hG hb | skip)
                    | (go_at_call 137; refine (HSelf.out _ _ hB hOA).mono ?_; rintro e wE ⟨rfl, hSelf⟩))
                all_goals (
                  have HF1 := Lib.hid hSelf.1
                  have HF2 := Lib.hid (HZx.out.trans hSelf.2)
                  clear hSelf
                  go_wp2
                  go_roundw
                  case rel => exact ⟨k + 1, _, by omega, by go_num, HFA, HF1, HF2⟩
                  case measure => simp [intOf]; omega)
              · intro x1 y w4 cnt1 hx1 hlk hhas hrg1 hlt1 hg4 hsz4 hen
                have hg1 := HA1.out.2.lt
                have hgm1 := HMr.out.lt
                have hin : x1 ∈ strk S o := by have h := HD3.out x1 hx1; rw [hhas] at h; simpa using h.symm
                have hm4 := HMx.out.kept hg4 (by intro e; injection e with e; omega)
                obtain ⟨w5, hupd5, hm5, hg5⟩ := hm4.put (k := x1) true hx1 (by have := dcount_le (vis ++ [st]); simp at this; omega)
                have hrg5 := hrg1.kept hg5 (by intro e; injection e with e; omega) (by intro e; injection e with e; omega)
                have HM5 : Hid (MapB w5 wo.heap.size ((x1 :: vis) ++ [st])) := Lib.hid hm5
                have HB5 := Lib.hid (Below.trans HBx.out (Below.trans (Gr.below hg4 (Nat.le_of_lt hg1) (by omega)) (Gr.below hg5 (Nat.le_refl _) (by omega))))
                have hz5 := hg5.size
                have HI5 : Hid ((∀ y, Rg y → (y ∈ x1 :: vis ↔ y ∈ strk S o ∧ (left (.int .i64 y) && !(Lit.int .i64 y).sameKey (.int .i64 x1)) = false)) ∧ (∀ y ∈ x1 :: vis, Rg y)) := Lib.hid ⟨fun y hy => by
                  have hs : (Lit.int .i64 y).sameKey (.int .i64 x1) = decide (y = x1) := by simp [Lit.sameKey]
                  rw [hs, List.mem_cons, HIx.out.1 y hy]
                  by_cases e : y = x1
                  · subst e; simp [hin]
                  · simp [e], fun y hy => by
                  rcases List.mem_cons.1 hy with rfl | hy
                  · exact hx1
                  · exact HIx.out.2 y hy⟩
                clear hm4 hm5 hg4 hg5 hrg1
                go_wp2
                go_roundw
                case rel => exact ⟨x1 :: vis, _, cnt1, hrg5, by simp; omega, HM5, HI5, HB5, by omega⟩
                case measure => rw [hrg5.left_eq, hrg.left_eq]; exact hlt1
        · obtain rfl : k = S.length := by omega
          go_wp2
          go_end0
          exact ⟨rfl, by rw [HR.out, ← HA.out]; exact HXr.out, HZ.out⟩
set_option maxHeartbeats 2000000 in
set_option maxRecDepth 100000 in
theorem StrokesOf_any (S : List Int) (v : Value) (w : World) (hF : slotF S = 0) (rl : Ints w 0 v S) :
    Calls Tryz.prog 41 #[v] w fun e w' => (∃ vr, e = .returned (.tuple #[vr, .int .i64 ((bestP S).2 : Nat)]) ∧ Own w' w.heap.size vr (nats (bestP S).1.reverse)) ∧ Below w.heap.size w w' := by
  obtain ⟨sa, scap, rfl, _, _⟩ := Ints.form rl
  obtain ⟨h0, h8, hb⟩ := slotF_zero hF
  have hS1 : 1 ≤ S.length := List.length_pos_iff.2 h0
  have hmf : ∀ (fn : Fn) (first cap : Array Value) (w : World), (Instr.makeFunc fn first cap).run Tryz.prog w = .ok (.func fn first cap) w := fun _ _ _ _ => rfl
  have hmm := @run_makeMap Tryz.prog
  obtain ⟨fv, hfv⟩ : ∃ fv : Value, fv = .func (.func 137) #[] #[.pointer (some ⟨w.heap.size + 1 + 1, 0, none⟩), .pointer (some ⟨w.heap.size, 0, none⟩), .pointer (some ⟨w.heap.size + 1, 0, none⟩), .pointer (some ⟨w.heap.size + 1 + 1 + 1, 0, none⟩)] := ⟨_, rfl⟩
  obtain ⟨w1, hw1⟩ : ∃ w1, w1 = w.alloc (.cells #[.slice sa S.length scap] 22) := ⟨_, rfl⟩
  obtain ⟨w2, hw2⟩ : ∃ w2, w2 = w1.alloc (.cells #[.slice none 0 0] 22) := ⟨_, rfl⟩
  obtain ⟨w3, hw3⟩ : ∃ w3, w3 = w2.alloc (.cells #[.int .i64 ((S.length : Int) + 1)] 3) := ⟨_, rfl⟩
  obtain ⟨w4, hw4⟩ : ∃ w4, w4 = w3.alloc (.cells #[fv] 204) := ⟨_, rfl⟩
  obtain ⟨w5, hw5⟩ : ∃ w5, w5 = w4.alloc (.map #[] 0) := ⟨_, rfl⟩
  have z1 : w1.heap.size = w.heap.size + 1 := by rw [hw1]; simp
  have z2 : w2.heap.size = w.heap.size + 1 + 1 := by rw [hw2]; simp [z1]
  have z3 : w3.heap.size = w.heap.size + 1 + 1 + 1 := by rw [hw3]; simp [z2]
  have z4 : w4.heap.size = w.heap.size + 1 + 1 + 1 + 1 := by rw [hw4]; simp [z3]
  have a1 : w1.heap[w.heap.size]? = some (.cells #[.slice sa S.length scap] 22 (0, 0)) := by rw [hw1]; exact blk_new w _
  have a2 : w2.heap[w.heap.size + 1]? = some (.cells #[.slice none 0 0] 22 (0, 0)) := by rw [hw2]; exact blk_new' w1 _ z1.symm
  have a3 : w3.heap[w.heap.size + 1 + 1]? = some (.cells #[.int .i64 ((S.length : Int) + 1)] 3 (0, 0)) := by rw [hw3]; exact blk_new' w2 _ z2.symm
  have a4 : w4.heap[w.heap.size + 1 + 1 + 1]? = some (.cells #[fv] 204 (0, 0)) := by rw [hw4]; exact blk_new' w3 _ z3.symm
  have b12 : Below w1.heap.size w1 w2 := by rw [hw2]; exact Bl.alloc (Below.refl _ _) _
  have b23 : Below w2.heap.size w2 w3 := by rw [hw3]; exact Bl.alloc (Below.refl _ _) _
  have b34 : Below w3.heap.size w3 w4 := by rw [hw4]; exact Bl.alloc (Below.refl _ _) _
  have b45 : Below w4.heap.size w4 w5 := by rw [hw5]; exact Bl.alloc (Below.refl _ _) _
  have b01 : Below w.heap.size w w1 := by rw [hw1]; exact Bl.alloc (Below.refl _ _) _
  have b25 := Bl.trans b23 (Bl.trans b34 b45)
  have b05 := Bl.trans b01 (Bl.trans b12 b25)
  have hls : leastS S ([], 0) = S.length + 1 := if_pos rfl
  have hx : Srx w5 (w.heap.size + 1 + 1 + 1 + 1) (w.heap.size + 1 + 1) w.heap.size (w.heap.size + 1) (w.heap.size + 1 + 1 + 1) sa scap S ([], 0) :=
    ⟨by rw [← z4]; exact b45.size, by omega, blk_below a1 (Bl.trans b12 b25), ⟨_, blk_below a2 b25, Own.nil _ _⟩, by rw [hls]; exact blk_below a3 (Bl.trans b34 b45), by rw [← hfv]; exact blk_below a4 b45⟩
  have hM : MapB w5 (w.heap.size + 1 + 1 + 1 + 1) (strk S []) := by rw [hw5, ← z4]; exact MapB.made w4
  have HT := Lib.hid (strTry_any (w.heap.size + 1 + 1 + 1 + 1) (w.heap.size + 1 + 1) w.heap.size (w.heap.size + 1) (w.heap.size + 1 + 1 + 1) sa scap S hS1 h8 hb w rl (Nat.le_refl _) S.length [] ([], 0) (.slice none 0 0) (w.heap.size + 1 + 1 + 1 + 1) w5 (by simp) (by simp) b05 hx (Own.nil _ _) hM (Nat.le_refl _))
  have HBS : Hid (tryP S S.length [] ([], 0) = bestP S) := Lib.hid rfl
  have HLE : Hid (leastS S (bestP S) = (bestP S).2) := Lib.hid (if_neg (tryP_some S hS1 S.length [] ([], 0) (by simp) List.nodup_nil (by simp)))
  have HB05 := Lib.hid b05
  have HW := Lib.hid (And.intro hw1 (And.intro hw2 (And.intro hw3 (And.intro hw4 hw5))))
  have c1 : w2.cell? ⟨w.heap.size, 0, none⟩ = some (.slice sa S.length scap) := blk_cell (blk_below a1 b12) 0
  have c4 : w4.cell? ⟨w.heap.size + 1 + 1 + 1, 0, none⟩ = some fv := blk_cell a4 0
  have hwr : IntKind.i64.wrap ((S.length : Int) + 1) = (S.length : Int) + 1 := IntWalk.i64_in _ (by omega)
  have HFV := Lib.hid hfv
  clear hx hM a1 a2 a3 a4 b12 b23 b34 b45 b01 b25 b05 hls hb rl hF h0
  subst hw1 hw2 hw3 hw4 hw5 hfv
  go_enter Tryz.func41, Tryz.ntmps41
  go_wp2_with fail
  refine HT.out.mono ?_
  rintro e w6 ⟨rfl, hx6, hz6⟩
  rw [HBS.out] at hx6
  obtain ⟨vb, hB6, hO6⟩ := hx6.hB
  have hL6 := hx6.hL
  rw [HLE.out] at hL6
  obtain ⟨ba, bcap, hvb, _, _⟩ := Ints.form hO6.ints
  obtain ⟨bn, hbn⟩ : ∃ n, n = (nats (bestP S).1.reverse).length := ⟨_, rfl⟩
  rw [← hbn] at hvb
  subst hvb
  obtain ⟨bq, hbq⟩ : ∃ z, z = (bestP S).2 := ⟨_, rfl⟩
  rw [← hbq] at hL6
  have cB : w6.cell? ⟨w.heap.size + 1, 0, none⟩ = some (.slice ba bn bcap) := blk_cell hB6 0
  have cL : w6.cell? ⟨w.heap.size + 1 + 1, 0, none⟩ = some (.int .i64 (bq : Nat)) := blk_cell hL6 0
  have HF := Lib.hid (And.intro hbq (And.intro (Below.trans HB05.out (hz6.below (by omega) (by omega) HB05.out.size)) (own_base hO6 (show w.heap.size ≤ _ by omega))))
  clear hx6 hz6 hB6 hL6 hO6 hbn hbq c1 c4 HT
  go_wp2
  go_quiet (fail)
  go_wp2
  go_ret2
  exact ⟨⟨_, by rw [HF.out.1] <;> rfl, HF.out.2.2.below (Bl.drewN (Below.refl _ _) _)⟩, Bl.drewN HF.out.2.1 _⟩
end Go.Proofs.YtbkglhakhahfpaaGreatDoor
