/- The contract of taker.try: all ways to give the further slots nozzles, in order. Condition: at most 8 slots, each of 0 to 1000. -/
import Derived.Test.YtbkglhakhahfpaaGreatDoorSt2
import Derived.Test.YtbkglhakhahfpaaGreatDoorSt3
import Derived.Test.YtbkglhakhahfpaaGreatDoorNext
import Derived.BigRegion
import Derived.Lib.LazyBuf
import Derived.Maps.AppendAt
import Derived.Deep.RegionHeld3
import Derived.Laws.EntriesVeiled
namespace Go.Proofs.YtbkglhakhahfpaaGreatDoor
open Go.RowKit Go.Sort Go.Maps

/-- the nozzles in use, as bits. -/
def useM (o : List Nat) : Nat := o.foldr (fun k s => s ||| 2 ^ k) 0
theorem useM_bit (o : List Nat) (i : Nat) : (useM o).testBit i = decide (i ∈ o) := by
  induction o with
  | nil => simp [useM]
  | cons k o ih =>
    have e : useM (k :: o) = useM o ||| 2 ^ k := rfl
    rw [e, Nat.testBit_or, ih, Nat.testBit_two_pow]
    by_cases h : k = i
    · subst h; simp
    · simp [h, Ne.symm h]
theorem useM_lt {n : Nat} (hn : n ≤ 8) {o : List Nat} (h : ∀ k ∈ o, k < n) : useM o < 256 := by
  have : useM o < 2 ^ 8 := Nat.lt_pow_two_of_testBit _ fun i hi => by
    rw [useM_bit]
    simp only [decide_eq_false_iff_not]
    intro hm
    have := h i hm
    omega
  exact this
theorem bits_or (s k : Nat) (hs : s < 4611686018427387904) (hk : k ≤ 60) : bits .or .i64 (s : Int) ((pw k : Nat) : Int) = ((s ||| 2 ^ k : Nat) : Int) := by
  have h1 := pw_le hk
  show IntKind.i64.wrap ((BitVec.ofInt 64 (s : Int) ||| BitVec.ofInt 64 ((pw k : Nat) : Int)).toNat : Int) = _
  rw [BitVec.toNat_or, ofInt_i64 _ (by omega), ofInt_i64 _ (by omega)]
  have h3 : s ||| pw k < 2 ^ 62 := Nat.or_lt_two_pow (by omega) (by omega)
  show IntKind.i64.wrap ((s ||| pw k : Nat) : Int) = ((s ||| pw k : Nat) : Int)
  rw [IntWalk.i64_in _ (by omega)]
theorem useM_clr {n : Nat} (hn : n ≤ 8) {o : List Nat} {k : Nat} (h : ∀ j ∈ k :: o, j < n) (hk : k ∉ o) : clr (useM (k :: o)) k = useM o := by
  have h1 := useM_lt hn h
  refine Nat.eq_of_testBit_eq fun i => ?_
  rw [clr_bit (by omega) (by have := h k (by simp); omega), useM_bit, useM_bit]
  by_cases e : i = k
  · subst e; simp [hk]
  · simp [e]
/-- what a taker has in memory: the slots, the order so far, the strokes, the best order. -/
structure Tk (w : World) (gm T : Nat) (sa : Option Addr) (scap : Nat) (S : List Int) (o : List Nat) (acc : List Nat × Nat) : Prop where
  ex : ∃ ov bv, w.heap[T]? = some (.cells #[.slice sa S.length scap, ov, .int .i64 (useM o : Nat), .map (some gm), bv, .int .i64 (acc.2 : Nat)] 202 (0, 0)) ∧
    Own w (T + 1) ov (nats o.reverse) ∧ Own w (T + 1) bv (nats acc.1.reverse) ∧ (bv = .slice none 0 0 ↔ acc.1 = []) ∧ (∀ g, ov.ownBlock = some g → bv.ownBlock ≠ some g)
  mp : MapI w gm (strk S o)
  lt : gm < T
  sl : Ints w 0 (.slice sa S.length scap) S
  slg : ∀ b, sa = some b → b.block < gm

theorem Own.off {w w' : World} {B : Nat} {v : Value} {l : List Int} {row : Option Nat} (h : Own w B v l) (hg : w.grownBy w' row) (hne : ∀ g, v.ownBlock = some g → some g ≠ row) : Own w' B v l := by
  refine ⟨h.1, h.2.imp id ?_⟩
  rintro ⟨b, cap, cur, hv, hb, hc, rest⟩
  exact ⟨b, cap, cur, hv, hb, (hg.block b (blk_lt hc) (hne b (by rw [hv]; rfl))).trans hc, rest⟩
theorem Own.baseI {w : World} {B B' : Nat} {v : Value} {l : List Int} (h : Own w B v l) (hB : B' ≤ B) : Own w B' v l := by
  refine ⟨h.1, h.2.imp id ?_⟩
  rintro ⟨b, cap, cur, hv, hb, rest⟩
  exact ⟨b, cap, cur, hv, Nat.le_trans hB hb, rest⟩
theorem Own.above {w : World} {B : Nat} {v : Value} {l : List Int} (h : Own w B v l) : ∀ k, v.ownBlock = some k → B ≤ k ∧ k < w.heap.size := World.ownsRow.lt h
theorem Ints.held {w w' : World} {gm : Nat} {sa : Option Addr} {n scap : Nat} {S : List Int} (h : Ints w 0 (.slice sa n scap) S) (hg : ∀ b, sa = some b → b.block < gm) (hb : Below gm w w') : Ints w' 0 (.slice sa n scap) S := by
  obtain ⟨a, cap, hv, h1, h2, h3⟩ := h
  obtain ⟨rfl, rfl, rfl⟩ := Value.slice.inj hv
  refine ⟨_, _, rfl, h1, h2, fun j x hj => ?_⟩
  obtain ⟨b, o, ha, h0, hl, hc⟩ := h3 j x hj
  exact ⟨b, o, ha, h0, Nat.lt_of_lt_of_le hl hb.size, (hb.cell (p := ⟨b, o + j, none⟩) (hg ⟨b, o, none⟩ ha)).trans hc⟩
/-- a row of the call's own, shorter. -/
theorem Own.cut {w : World} {B g n cap : Nat} {l : List Int} (h : Own w B (.slice (some ⟨g, 0, none⟩) n cap) l) (hn : n = l.length) {k : Nat} (hk : k ≤ l.length) : Own w B (.slice (some ⟨g, 0, none⟩) k cap) (l.take k) := by
  subst hn
  rcases h.2 with ⟨hh, _⟩ | ⟨g', cap', cur, hv, hB, hc, h1, h2, h3, h4⟩
  · cases hh
  · injection hv with ha hnn hcc
    injection ha with ha
    injection ha with hg _ _
    subst hg hcc
    have hl : (l.take k).length = k := by rw [List.length_take]; omega
    refine ⟨by unfold ics; simp, .inr ⟨g, cap, cur, by rw [hl], hB, hc, by omega, h2, h3, ?_⟩⟩
    rw [hl, Nat.mul_one]
    have : cur.toList.take k = (cur.toList.take (l.length * 1)).take k := by rw [List.take_take, Nat.mul_one, Nat.min_eq_left hk]
    rw [this, h4]
    unfold ics
    rw [List.map_take]
theorem wp_app_lie {w : World} {ops : Array Oper} {rest : List Oper} {o : Oper} {a : Act} {Q : Exit → Act → World → Prop} (hgd : o.guard = none) (s x : Operand)
    (ho : o.op = .call { callee := .builtin .append, args := #[s, x], argTypes := #[22, 22] }) (B : Nat) (v : Value) (l : List Int) (hs : a.eval s = v) (hown : Own w B v l)
    (g c : Nat) (y : Int) (hx : a.eval x = .slice (some ⟨g, 0, none⟩) 1 c) (hc : w.cell? ⟨g, 0, none⟩ = some (.int .i64 y)) (hlen : l.length ≤ 1000000) (hB : B ≤ w.heap.size)
    (h : ∀ v' w', Own w' B v' (l ++ [y]) → w.grownBy w' v.ownBlock → Below B w w' → (v'.ownBlock = v.ownBlock ∨ v'.ownBlock = some w.heap.size) → wpList Tryz.prog ops Q rest (a.put o.dst v') w') : wpList Tryz.prog ops Q (o :: rest) a w := by
  obtain ⟨i, hi, hz0, hz1, hz2⟩ := info_parts info_int
  refine wpList_append_own_at w hgd s x 22 ho B 3 i _ 1 8 Tryz.underlying22 hi hz0 hz1 hz2 rfl (by decide) v l.length (ics l) hs hown ⟨g, 0, none⟩ 1 c [.int .i64 y] hx rfl ?_ ?_ (by unfold maxLen; omega) (by omega) hB ?_
  · intro j u hj
    cases j with
    | zero => simp at hj; subst hj; simpa [Addr.add] using hc
    | succ j => simp at hj
  · intro u hu; simp at hu; subst hu; rfl
  · intro v' w' h1 h2 _ h4
    refine h v' w' ?_ h2 (app_below hown h2 hB) h4
    unfold Own
    rw [List.length_append, show ics (l ++ [y]) = ics l ++ [.int .i64 y] by simp [ics]]
    exact h1
theorem Tk.drew {w : World} {gm T : Nat} {sa : Option Addr} {scap : Nat} {S : List Int} {o : List Nat} {acc : List Nat × Nat} (h : Tk w gm T sa scap S o acc) : Tk w.drew gm T sa scap S o acc := ⟨h.ex, h.mp, h.lt, h.sl, h.slg⟩
def prB (S : List Int) (o : List Nat) (acc : List Nat × Nat) : Bool := decide (acc.1 ≠ [] ∧ acc.2 ≤ few S o)
set_option maxHeartbeats 8000000 in
set_option maxRecDepth 100000 in
theorem takerTry_any (gm T : Nat) (sa : Option Addr) (scap : Nat) (S : List Int) (hS1 : 1 ≤ S.length) (hS : S.length ≤ 8) (hb : ∀ x ∈ S, 0 ≤ x ∧ x ≤ 1000) : ∀ (f : Nat) (o : List Nat) (acc : List Nat × Nat) (w : World), o.length + f = S.length → o.Nodup → (∀ k ∈ o, k < S.length) → Tk w gm T sa scap S o acc →
    Calls Tryz.prog 135 #[.pointer (some ⟨T, 0, none⟩)] w fun e w' => e = .returned (.tuple #[]) ∧ Tk w' gm T sa scap S o (tryP S f o acc) ∧ Below gm w w' := by
  intro f
  induction f with
  | zero =>
    intro o acc w hlen hnd hlt h
    have q22 : ∀ (w : World) (a : Option Addr) (n c : Nat), (binOp .neq 22 (.slice a n c) (.slice none 0 0)).run Tryz.prog w = .ok (.bool (!a.isNone)) w := fun w a n c => run_neq_slice_nil w _ _ a n c Tryz.underlying22
    have HT := Lib.hid h
    obtain ⟨⟨ov, bv, hT, hO, hB, hn, hne⟩, hm, hgt, hsl, hslg⟩ := h
    obtain ⟨oa, ocap, rfl, ho1, ho2⟩ := Ints.form hO.ints
    obtain ⟨ba, bcap, rfl, hb1, hb2⟩ := Ints.form hB.ints
    have c0 : w.cell? ⟨T, 0, none⟩ = some (.slice sa S.length scap) := blk_cell hT 0
    have c1 : w.cell? ⟨T, 1, none⟩ = some (.slice oa (nats o.reverse).length ocap) := blk_cell hT 1
    have c3 : w.cell? ⟨T, 3, none⟩ = some (.map (some gm)) := blk_cell hT 3
    have c4 : w.cell? ⟨T, 4, none⟩ = some (.slice ba (nats acc.1.reverse).length bcap) := blk_cell hT 4
    have c5 : w.cell? ⟨T, 5, none⟩ = some (.int .i64 (acc.2 : Nat)) := blk_cell hT 5
    have hml : ∀ ty, (Builtin.len_ #[200] ty #[.map (some gm)]).run Tryz.prog w.drew = .ok (.int .i64 (few S o : Nat)) w.drew := fun ty => MapN.len (w := w.drew) (show MapN w.drew gm _ _ from hm) ty
    have hrl : (nats o.reverse).length = o.length := by rw [nats_len, List.length_reverse]
    rw [hrl] at c1
    have hbl : (nats acc.1.reverse).length = acc.1.length := by rw [nats_len, List.length_reverse]
    rw [hbl] at c4
    go_enter Tryz.func135, Tryz.ntmps135
    go_upto_region 0 with fail
    go_cut [21] from 5 to 20 (fun v21 wx => v21 = .bool (prB S o acc) ∧ w.drew = wx)
    case first =>
      by_cases ha : acc.1 = []
      · have hbn := hn.2 ha
        injection hbn with hb3 hb4 hb5
        subst hb3
        have HP : Hid (prB S o acc = false) := Lib.hid (by unfold prB; simp [ha])
        clear hn hO hB hm
        go_wp2
        go_region
        go_wp2
        go_meet
        case rel => exact ⟨by rw [HP.out], rfl⟩
      · cases ba with
        | none =>
          exfalso
          rcases Own.nonnil hB (by intro e; have := congrArg List.length e; rw [nats_len, List.length_reverse] at this; exact ha (List.eq_nil_of_length_eq_zero (by simpa using this))) with ⟨g, cap, hh, _⟩
          injection hh with hh _ _
          cases hh
        | some ba =>
          by_cases hp : acc.2 ≤ few S o
          · have HP : Hid (prB S o acc = true) := Lib.hid (by unfold prB; simp [ha, hp])
            have e1 : ((acc.2 : Nat) : Int) ≤ (few S o : Nat) := by omega
            clear hn hO hB hm
            go_wp2
            go_region
            go_wp2
            go_meet
            case rel => exact ⟨by rw [HP.out], rfl⟩
          · have HP : Hid (prB S o acc = false) := Lib.hid (by unfold prB; simp [hp])
            have e1 : ¬ ((acc.2 : Nat) : Int) ≤ (few S o : Nat) := by omega
            clear hn hO hB hm
            go_wp2
            go_region
            go_wp2
            go_meet
            case rel => exact ⟨by rw [HP.out], rfl⟩
    case rest =>
      obtain ⟨rfl, rfl⟩ := hcut
      cases hp : prB S o acc
      · have hTD := HT.out.drew
        have HR : Hid (tryP S 0 o acc = (o, few S o)) := Lib.hid (by
          unfold prB at hp
          rw [tryP, if_neg (by simpa using hp)])
        have e0 : ((o.length : Int) == (S.length : Int)) = true := by simp; omega
        have hbd := Below.drew (Below.refl gm w)
        have hgz : gm < w.drew.heap.size := hm.lt
        clear hml c0 c1 c3 c4 c5 hT hO hB hn hne hm hp HT ho1 ho2 hb1 hb2 hbl
        clear oa ocap hrl
        generalize w.drew = w1 at *
        obtain ⟨⟨ov, bv, hT, hO, _⟩, hm, _⟩ := id hTD
        obtain ⟨oa, ocap, rfl, _, _⟩ := Ints.form hO.ints
        have hrl : (nats o.reverse).length = o.length := by rw [nats_len, List.length_reverse]
        rw [hrl] at hT hO
        have c0 : w1.cell? ⟨T, 0, none⟩ = some (.slice sa S.length scap) := blk_cell hT 0
        have c1 : w1.cell? ⟨T, 1, none⟩ = some (.slice oa o.length ocap) := blk_cell hT 1
        have c3 : w1.cell? ⟨T, 3, none⟩ = some (.map (some gm)) := blk_cell hT 3
        have hml : ∀ ty, (Builtin.len_ #[200] ty #[.map (some gm)]).run Tryz.prog w1.drew = .ok (.int .i64 (few S o : Nat)) w1.drew := fun ty => MapN.len (w := w1.drew) (show MapN w1.drew gm _ _ from hm) ty
        go_wp2
        go_region_with (go_at_call 47; refine (Clone_any (nats o.reverse) _ _ (by rw [hrl]; omega) (show Ints w1.drew 0 _ _ from hO.ints0)).mono ?_; rintro e w2 ⟨v2, rfl, hB2, hb2⟩; obtain ⟨ba2, bc2, hv2, _, _⟩ := Ints.form hB2.ints; rw [hrl] at hv2; subst hv2; have hT2 := blk_below (show w1.drew.heap[T]? = _ from hT) hb2; have d1 : w2.cell? ⟨T, 1, none⟩ = some (.slice oa o.length ocap) := blk_cell hT2 1; have d3 : w2.cell? ⟨T, 3, none⟩ = some (.map (some gm)) := blk_cell hT2 3; have g4 := blk_free hT2 4; have g5 := blk_free hT2 5; have d4 : w2.cell? ⟨T, 4, none⟩ = some bv := blk_cell hT2 4; have d5 : w2.cell? ⟨T, 5, none⟩ = some (.int .i64 (acc.2 : Nat)) := blk_cell hT2 5; have hm2 := (show MapN w1.drew gm _ _ from hm).kept (Gr.of_below hb2 none) (by simp); have hml2 : ∀ ty, (Builtin.len_ #[200] ty #[.map (some gm)]).run Tryz.prog w2 = .ok (.int .i64 (few S o : Nat)) w2 := fun ty => MapN.len hm2 ty)
        all_goals (
          have hz1 : T < w1.heap.size := blk_lt hT
          have hTW := blk_set (blk_set hT2 4 (.slice ba2 o.length bc2)) 5 (.int .i64 (few S o : Nat))
          have hg1 := Gr.set (Gr.set (Gr.refl w2 (some T)) T 4 (.inl rfl) (.slice ba2 o.length bc2)) T 5 (.inl rfl) (.int .i64 (few S o : Nat))
          have hO2 := ((show Own w1.drew _ _ _ from hO).below hb2).off hg1 fun g hg => by have := (hO.above g hg).1; intro e; injection e; omega
          have hB3 := (Own.baseI hB2 (show T + 1 ≤ w1.heap.size from hz1)).off hg1 fun g hg => by have := (hB2.above g hg).1; intro e; injection e; simp at this; omega
          have hm3 := hm2.kept hg1 (by intro e; injection e; omega)
          have hbW := Below.trans (Below.trans (Below.drew hbd) (hb2.mono (Nat.le_of_lt hgz))) (Gr.below hg1 (Nat.le_of_lt hgt) (Nat.le_of_lt hm2.lt))
          have hnn : ∃ x, ba2 = some x := by
            rcases Own.nonnil hB2 (by intro e; rw [e] at hrl; simp at hrl; omega) with ⟨g, cap, hh, _⟩
            injection hh with hh _ _
            exact ⟨_, hh⟩
          obtain ⟨bx, rfl⟩ := hnn
          have ho0 : o ≠ [] := fun e => by rw [e] at hlen; simp at hlen; omega
          have hTkW : Tk ((w2.setCell ⟨T, 4, none⟩ (.slice (some bx) o.length bc2)).setCell ⟨T, 5, none⟩ (.int .i64 (few S o : Nat))) gm T sa scap S o (o, few S o) :=
            ⟨⟨_, _, hTW, hO2, hB3, ⟨fun e => (by injection e with e _ _; cases e), fun e => absurd (show o = [] from e) ho0⟩, fun g hg hbg => by
              have h1 := (hO.above g hg).2
              have h2 := (hB2.above g hbg).1
              simp at h2
              omega⟩, hm3, hgt, hsl.held hslg hbW, hslg⟩
          clear hTW hg1 hO2 hB3 hm3 hT2 d1 d3 d4 d5 g4 g5 hm2 hml2 hml hB2 hb2 hT hO hm c0 c1 c3 hTD
          go_wp2
          refine bodyPost_ret (results_none rfl _ _ _) rfl ?_
          rw [HR.out]
          exact ⟨rfl, hTkW, hbW⟩)
      · go_wp2
        refine bodyPost_ret (results_none rfl _ _ _) rfl ?_
        refine ⟨rfl, ?_, Below.drew (Below.refl _ _)⟩
        have : tryP S 0 o acc = acc := by
          unfold prB at hp
          rw [tryP, if_pos (by simpa using hp)]
        rw [this]
        exact HT.out.drew
  | succ f ih =>
    intro o acc w hlen hnd hlt h
    have q22 : ∀ (w : World) (a : Option Addr) (n c : Nat), (binOp .neq 22 (.slice a n c) (.slice none 0 0)).run Tryz.prog w = .ok (.bool (!a.isNone)) w := fun w a n c => run_neq_slice_nil w _ _ a n c Tryz.underlying22
    have HT := Lib.hid h
    obtain ⟨⟨ov, bv, hT, hO, hB, hn, hne⟩, hm, hgt, hsl, hslg⟩ := h
    obtain ⟨oa, ocap, rfl, ho1, ho2⟩ := Ints.form hO.ints
    obtain ⟨ba, bcap, rfl, hb1, hb2⟩ := Ints.form hB.ints
    have c0 : w.cell? ⟨T, 0, none⟩ = some (.slice sa S.length scap) := blk_cell hT 0
    have c1 : w.cell? ⟨T, 1, none⟩ = some (.slice oa (nats o.reverse).length ocap) := blk_cell hT 1
    have c3 : w.cell? ⟨T, 3, none⟩ = some (.map (some gm)) := blk_cell hT 3
    have c4 : w.cell? ⟨T, 4, none⟩ = some (.slice ba (nats acc.1.reverse).length bcap) := blk_cell hT 4
    have c5 : w.cell? ⟨T, 5, none⟩ = some (.int .i64 (acc.2 : Nat)) := blk_cell hT 5
    have hml : ∀ ty, (Builtin.len_ #[200] ty #[.map (some gm)]).run Tryz.prog w.drew = .ok (.int .i64 (few S o : Nat)) w.drew := fun ty => MapN.len (w := w.drew) (show MapN w.drew gm _ _ from hm) ty
    have hrl : (nats o.reverse).length = o.length := by rw [nats_len, List.length_reverse]
    rw [hrl] at c1
    have hbl : (nats acc.1.reverse).length = acc.1.length := by rw [nats_len, List.length_reverse]
    rw [hbl] at c4
    go_enter Tryz.func135, Tryz.ntmps135
    go_upto_region 0 with fail
    go_cut [21] from 5 to 20 (fun v21 wx => v21 = .bool (prB S o acc) ∧ w.drew = wx)
    case first =>
      by_cases ha : acc.1 = []
      · have hbn := hn.2 ha
        injection hbn with hb3 hb4 hb5
        subst hb3
        have HP : Hid (prB S o acc = false) := Lib.hid (by unfold prB; simp [ha])
        clear hn hO hB hm
        go_wp2
        go_region
        go_wp2
        go_meet
        case rel => exact ⟨by rw [HP.out], rfl⟩
      · cases ba with
        | none =>
          exfalso
          rcases Own.nonnil hB (by intro e; have := congrArg List.length e; rw [nats_len, List.length_reverse] at this; exact ha (List.eq_nil_of_length_eq_zero (by simpa using this))) with ⟨g, cap, hh, _⟩
          injection hh with hh _ _
          cases hh
        | some ba =>
          by_cases hp : acc.2 ≤ few S o
          · have HP : Hid (prB S o acc = true) := Lib.hid (by unfold prB; simp [ha, hp])
            have e1 : ((acc.2 : Nat) : Int) ≤ (few S o : Nat) := by omega
            clear hn hO hB hm
            go_wp2
            go_region
            go_wp2
            go_meet
            case rel => exact ⟨by rw [HP.out], rfl⟩
          · have HP : Hid (prB S o acc = false) := Lib.hid (by unfold prB; simp [hp])
            have e1 : ¬ ((acc.2 : Nat) : Int) ≤ (few S o : Nat) := by omega
            clear hn hO hB hm
            go_wp2
            go_region
            go_wp2
            go_meet
            case rel => exact ⟨by rw [HP.out], rfl⟩
    case rest =>
      obtain ⟨rfl, rfl⟩ := hcut
      cases hp : prB S o acc
      · have hTD := HT.out.drew
        have HR : Hid (tryP S (f + 1) o acc = (List.range S.length).foldl (fun a k => if k ∈ o then a else tryP S f (k :: o) a) acc) := Lib.hid (by
          unfold prB at hp
          rw [tryP, if_neg (by simpa using hp)])
        have e0 : ((o.length : Int) == (S.length : Int)) = false := by rw [beq_eq_false_iff_ne]; omega
        have hbd := Below.drew (Below.refl gm w)
        have hgz : gm < w.drew.heap.size := hm.lt
        clear hml c0 c1 c3 c4 c5 hT hO hB hn hne hm hp HT ho1 ho2 hb1 hb2 hbl
        clear oa ocap hrl
        generalize w.drew = w1 at *
        obtain ⟨⟨ov, bv, hT, hO, _⟩, _⟩ := id hTD
        obtain ⟨oa, ocap, rfl, _, _⟩ := Ints.form hO.ints
        have hrl : (nats o.reverse).length = o.length := by rw [nats_len, List.length_reverse]
        have c0 : w1.cell? ⟨T, 0, none⟩ = some (.slice sa S.length scap) := blk_cell hT 0
        have c1 : w1.cell? ⟨T, 1, none⟩ = some (.slice oa (nats o.reverse).length ocap) := blk_cell hT 1
        rw [hrl] at c1
        clear hT hO
        go_wp2_with fail
        go_loopw [55] (fun i wr => ∃ (k : Nat) (a : List Nat × Nat), k ≤ S.length ∧ i = .int .i64 k ∧ Hid (a = (List.range k).foldl (fun a k => if k ∈ o then a else tryP S f (k :: o) a) acc) ∧ Tk wr gm T sa scap S o a ∧ Below gm w wr ∧ gm < wr.heap.size) (fun i _ => S.length - (intOf i).toNat)
        case atStart => exact ⟨0, acc, Nat.zero_le _, rfl, Lib.hid rfl, hTD, hbd, hgz⟩
        case round =>
          obtain ⟨k, a, hk, rfl, HA, hTk, hbr, hgr⟩ := hrel
          clear c0 c1 hTD hbd hgz
          by_cases hkn : k < S.length
          · obtain ⟨⟨ov, bv, hT, hO, hB, hn, hne⟩, hm, _, hslr, _⟩ := id hTk
            obtain ⟨ora, orc, rfl, _, _⟩ := Ints.form hO.ints
            rw [hrl] at hT hO hne
            have c0 : wr.cell? ⟨T, 0, none⟩ = some (.slice sa S.length scap) := blk_cell hT 0
            have c1 : wr.cell? ⟨T, 1, none⟩ = some (.slice ora o.length orc) := blk_cell hT 1
            have c2 : wr.cell? ⟨T, 2, none⟩ = some (.int .i64 (useM o : Nat)) := blk_cell hT 2
            have c3 : wr.cell? ⟨T, 3, none⟩ = some (.map (some gm)) := blk_cell hT 3
            have hul := useM_lt hS hlt
            have r2 := bits_and1' (useM o) k (by omega)
            have r4 := wrap_pw k (by omega)
            have hw1 : IntKind.i64.wrap ((k : Int) + 1) = ((k + 1 : Nat) : Int) := by rw [IntWalk.i64_in _ (by omega)]; omega
            have HA2 : Hid ((List.range (k + 1)).foldl (fun a k => if k ∈ o then a else tryP S f (k :: o) a) acc = if k ∈ o then a else tryP S f (k :: o) a) := Lib.hid (by rw [List.range_succ, List.foldl_append, ← HA.out]; rfl)
            by_cases hko : k ∈ o
            · have e1 : (((bitN (useM o) k : Nat) : Int) == 1) = true := by unfold bitN; rw [useM_bit]; simp [hko]
              clear hT hO hB hn hne hm
              go_wp2
              go_roundw
              case rel => exact ⟨k + 1, a, by omega, by go_num, Lib.hid (by rw [HA2.out, if_pos hko]), hTk, hbr, hgr⟩
              case measure => simp [intOf]; omega
            · have e1 : (((bitN (useM o) k : Nat) : Int) == 1) = false := by unfold bitN; rw [useM_bit]; simp [hko]
              obtain ⟨x, hx⟩ : ∃ x, S[o.length]? = some x := ⟨_, List.getElem?_eq_getElem (by omega)⟩
              have hxb := hb x (List.mem_of_getElem? hx)
              obtain ⟨bs, os, hae, _, hls, hcx⟩ := hslr.at hx
              subst hae
              obtain ⟨st, hst⟩ : ∃ st : Int, st = x - k := ⟨_, rfl⟩
              have hwst : IntKind.i64.wrap (x - k) = st := by rw [hst, IntWalk.i64_in _ (by omega)]
              have hRg : Rg st := by unfold Rg; omega
              have HST : Hid (strk S (k :: o) = st :: strk S o) := Lib.hid (by simp only [strk]; rw [List.getD_eq_getElem?_getD, hx, hst]; rfl)
              have r6 := bits_or (useM o) k (by omega) (by omega)
              have hU : useM o ||| 2 ^ k = useM (k :: o) := rfl
              rw [hU] at r6
              have f1 := blk_free hT 1
              have f2 := blk_free hT 2
              have hU2 := useM_lt hS (o := k :: o) (fun j hj => by rcases List.mem_cons.1 hj with rfl | hj; exact hkn; exact hlt j hj)
              clear hst hx hU
              go_wp2
              go_region
              have hgd := Gr.set (Gr.refl wr (some T)) T 2 (.inl rfl) (.int .i64 (useM (k :: o) : Nat))
              have hg2 : wr.grownBy (wr.setCell ⟨T, 2, none⟩ (.int .i64 (useM (k :: o) : Nat))).drew (some T) := ⟨hgd.os, hgd.tape, hgd.output, hgd.size, hgd.block⟩
              have hT2 : (wr.setCell ⟨T, 2, none⟩ (.int .i64 (useM (k :: o) : Nat))).drew.heap[T]? = _ := blk_set hT 2 (.int .i64 (useM (k :: o) : Nat))
              have hO2 := hO.off hg2 fun g hg => by have := (hO.above g hg).1; intro e; injection e; omega
              have hB2 := hB.off hg2 fun g hg => by have := (hB.above g hg).1; intro e; injection e; omega
              have hm2 := hm.kept hg2 (by intro e; injection e; omega)
              have hb2 := Below.trans hbr (Gr.below hg2 (Nat.le_of_lt hgt) (Nat.le_of_lt hgr))
              have hz2 := hg2.size
              clear hgd hg2 hT hO hB hm hslr hTk f2 c0 c1 c2 c3 r2 r4 r6 e1 hcx
              generalize (wr.setCell ⟨T, 2, none⟩ (.int .i64 (useM (k :: o) : Nat))).drew = w2 at *
              have d1 : w2.cell? ⟨T, 1, none⟩ = some (.slice ora o.length orc) := blk_cell hT2 1
              have g1 := blk_free hT2 1
              have lT2 := blk_lt hT2
              have hol : (nats o.reverse).length ≤ 1000000 := by rw [hrl]; omega
              clear f1
              go_wp2_with (at_builtin; refine wp_app_lie rfl _ _ rfl (T + 1) _ (nats o.reverse) rfl (hO2.alloc _) w2.heap.size 1 k rfl (by rw [blk_cell (blk_new w2 _) 0]; rfl) hol (by simp; omega) ?_)
              intro v3 w3 hO3 hg3 hb3 hl3
              have hT3 := (hb3.block T (Nat.lt_succ_self _)).trans (blk_old hT2 (.cells #[.int .i64 (k : Int)] 3))
              have hB3 := (hB2.alloc (.cells #[.int .i64 (k : Int)] 3)).off hg3 fun g hg e => hne g e.symm hg
              have hm3 := (hm2.kept (World.grownBy_alloc w2 (.cells #[.int .i64 (k : Int)] 3) none) (by simp)).kept hg3 (fun e => by have := (hO2.above gm e.symm).1; omega)
              have hz3 : gm ≤ w3.heap.size := by have := blk_lt hT3; omega
              have hne3 : ∀ g, v3.ownBlock = some g → bv.ownBlock ≠ some g := fun g hg hbg => by
                rcases hl3 with e | e
                · exact hne g (e.symm.trans hg) hbg
                · have h1 := (hB2.above g hbg).2
                  rw [e] at hg
                  injection hg with hg
                  omega
              have hb3' := Below.trans hb2 (Below.trans (Bl.alloc (Below.refl w2.heap.size w2) (.cells #[.int .i64 (k : Int)] 3) |>.mono (by omega)) (hb3.mono (by omega)))
              have g3 := blk_free hT3 1
              have d3 : w3.cell? ⟨T, 1, none⟩ = some (.slice ora o.length orc) := blk_cell hT3 1
              obtain ⟨a3, cp3, hv3, hcp1, hcp2⟩ := Ints.form hO3.ints
              have hl1 : (nats o.reverse ++ [(k : Int)]).length = o.length + 1 := by rw [List.length_append, hrl]; rfl
              rw [hl1] at hv3 hcp1
              subst hv3
              have hg4 := Gr.set (Gr.refl w3 (some T)) T 1 (.inl rfl) (.slice a3 (o.length + 1) cp3)
              have hT4 := blk_set hT3 1 (.slice a3 (o.length + 1) cp3)
              have hO4 := hO3.off hg4 fun g hg => by have := (hO3.above g hg).1; intro e; injection e; omega
              have hB4 := hB3.off hg4 fun g hg => by have := (hB3.above g hg).1; intro e; injection e; omega
              have hm4 := hm3.kept hg4 (by intro e; injection e; omega)
              have hb4 := Below.trans hb3' (Gr.below hg4 (Nat.le_of_lt hgt) hz3)
              clear hT2 hO2 hB2 hm2 hb2 hg3 hb3 hl3 hT3 hB3 hm3 hb3' hne d1 g1 hO3
              clear hcp1 hl1
              have hsll : (strk S o).length ≤ 1000 := by rw [strk_len]; omega
              go_upto_region 11 with fail
              generalize w3.setCell ⟨T, 1, none⟩ (.slice a3 (o.length + 1) cp3) = w4 at *
              have c3 : w4.cell? ⟨T, 3, none⟩ = some (.map (some gm)) := blk_cell hT4 3
              have hlook : (Instr.lookup 200 (.map (some gm)) (.int .i64 st) false).run Tryz.prog w4 = .ok (.int .i64 ((strk S o).count st : Nat)) w4 := hm4.look hRg
              obtain ⟨w5, hupd, hm5, hg5⟩ := MapI.more hm4 hRg hsll
              have hcl := List.count_le_length (a := st) (l := strk S o)
              have hwc : IntKind.i64.wrap (((strk S o).count st : Nat) + 1) = ((strk S o).count st : Nat) + 1 := IntWalk.i64_in _ (by omega)
              have hT5 := Gr.blk hg5 hT4 (by omega)
              have hO5 := hO4.off hg5 fun g hg => by have := (hO4.above g hg).1; intro e; injection e; omega
              have hB5 := hB4.off hg5 fun g hg => by have := (hB4.above g hg).1; intro e; injection e; omega
              have hz4 : gm ≤ w4.heap.size := Nat.le_of_lt hm4.lt
              have hb5 := Below.trans hb4 (Gr.below hg5 (Nat.le_refl _) hz4)
              rw [← HST.out] at hm5
              have hrv : nats o.reverse ++ [(k : Int)] = nats (k :: o).reverse := by rw [List.reverse_cons]; unfold nats; rw [List.map_append]; rfl
              rw [hrv] at hO5
              have hTk5 : Tk w5 gm T (some ⟨bs, os, none⟩) scap S (k :: o) a := ⟨⟨_, bv, hT5, hO5, hB5, hn, hne3⟩, hm5, hgt, hsl.held hslg hb5, hslg⟩
              have HI := Lib.hid (ih (k :: o) a w5 (by simp only [List.length_cons]; omega) (List.nodup_cons.2 ⟨hko, hnd⟩) (fun j hj => by rcases List.mem_cons.1 hj with rfl | hj; exact hkn; exact hlt j hj) hTk5)
              have hz5 : gm ≤ w5.heap.size := Nat.le_of_lt hm5.lt
              clear hT4 hO4 hB4 hm4 hb4 hg4 hg5 hT5 hO5 hB5 hm5 hTk5 hn hne3 hrv g3 d3 hcl
              go_wp2_with fail
              refine HI.out.mono ?_
              rintro e w6 ⟨rfl, hTk6, hb6⟩
              obtain ⟨a', ha'⟩ : ∃ a', a' = tryP S f (k :: o) a := ⟨_, rfl⟩
              rw [← ha'] at hTk6
              obtain ⟨⟨ov6, bv6, hT6, hO6, hB6, hn6, hne6⟩, hm6, _, _, _⟩ := hTk6
              have hrl6 : (nats (k :: o).reverse).length = o.length + 1 := by rw [nats_len, List.length_reverse, List.length_cons]
              obtain ⟨g6, cp6, hv6, hg6a, hg6b, hcp6⟩ := Own.nonnil hO6 (by intro e; rw [e] at hrl6; simp at hrl6)
              rw [hrl6] at hv6 hcp6
              subst hv6
              have hz6 : gm ≤ w6.heap.size := Nat.le_of_lt hm6.lt
              rw [HST.out] at hm6
              have c3' : w6.cell? ⟨T, 3, none⟩ = some (.map (some gm)) := blk_cell hT6 3
              have hcl := List.count_le_length (a := st) (l := strk S o)
              have hlk6 : (Instr.lookup 200 (.map (some gm)) (.int .i64 st) false).run Tryz.prog w6 = .ok (.int .i64 (((strk S o).count st : Nat) + 1)) w6 := by
                have := hm6.look hRg
                simp only [List.count_cons_self] at this
                rw [this]
                congr 2
              have hwm : IntKind.i64.wrap ((((strk S o).count st : Nat) : Int) + 1 - 1) = ((strk S o).count st : Nat) := by rw [IntWalk.i64_in _ (by omega)]; omega
              obtain ⟨w7, hup7, hm7, hg7⟩ := MapI.less hm6 hRg hsll
              have hT7 := Gr.blk hg7 hT6 (by omega)
              have hO7 := hO6.off hg7 fun g hg => by have := (hO6.above g hg).1; intro e; injection e; omega
              have hB7 := hB6.off hg7 fun g hg => by have := (hB6.above g hg).1; intro e; injection e; omega
              have hb7 := Below.trans (Below.trans hb5 hb6) (Gr.below hg7 (Nat.le_refl _) hz6)
              have c37 : w7.cell? ⟨T, 3, none⟩ = some (.map (some gm)) := blk_cell hT7 3
              have hlk7 : (Instr.lookup 200 (.map (some gm)) (.int .i64 st) false).run Tryz.prog w7 = .ok (.int .i64 ((strk S o).count st : Nat)) w7 := hm7.look hRg
              clear hT6 hO6 hB6 hm6 hb6 hg7 HI c3 hlook hupd hwc hb5
              by_cases hc : st ∈ strk S o
              · have e3 : ((((strk S o).count st : Nat) : Int) == 0) = false := by
                  have := List.count_pos_iff.2 hc
                  rw [beq_eq_false_iff_ne]; omega
                have hm8 := hm7.still hc
                obtain ⟨w8, hw8⟩ : ∃ w8, w8 = w7 := ⟨_, rfl⟩
                go_upto_region 16 with fail
                rw [← hw8]
                have hT8 := hT7
                have hO8 := hO7
                have hB8 := hB7
                have hb8 := hb7
                rw [← hw8] at hT8 hO8 hB8 hb8 hm8
                clear hw8 hT7 hO7 hB7 hb7 hm7
                clear hlk6 hup7 hlk7 c3' c37 hwm
                have d1 : w8.cell? ⟨T, 1, none⟩ = some (.slice (some ⟨g6, 0, none⟩) (o.length + 1) cp6) := blk_cell hT8 1
                have q1 := blk_free hT8 1
                have hle : (o.length : Int) ≤ cp6 := by omega
                have hg9 := Gr.set (Gr.refl w8 (some T)) T 1 (.inl rfl) (.slice (some ⟨g6, 0, none⟩) o.length cp6)
                have hT9 := blk_set hT8 1 (.slice (some ⟨g6, 0, none⟩) o.length cp6)
                have hO9 := (hO8.cut hrl6.symm (show o.length ≤ _ by rw [hrl6]; omega)).off hg9 fun g hg => by have := (hO8.above g hg).1; intro e; injection e; omega
                have hB9 := hB8.off hg9 fun g hg => by have := (hB8.above g hg).1; intro e; injection e; omega
                have hm9 := hm8.kept hg9 (by intro e; injection e; omega)
                have hb9 := Below.trans hb8 (Gr.below hg9 (Nat.le_of_lt hgt) (Nat.le_of_lt hm8.lt))
                have htk : (nats (k :: o).reverse).take o.length = nats o.reverse := by
                  have : nats (k :: o).reverse = nats o.reverse ++ [(k : Int)] := by rw [List.reverse_cons]; unfold nats; rw [List.map_append]; rfl
                  rw [this, List.take_append_of_le_length (by rw [hrl]; omega), List.take_of_length_le (by rw [hrl]; omega)]
                rw [htk] at hO9
                clear hT8 hO8 hB8 hm8 hb8 htk hg9
                go_upto_region 17 with fail
                generalize w8.setCell ⟨T, 1, none⟩ (.slice (some ⟨g6, 0, none⟩) o.length cp6) = w9 at *
                have e2 : w9.cell? ⟨T, 2, none⟩ = some (.int .i64 (useM (k :: o) : Nat)) := blk_cell hT9 2
                have q2 := blk_free hT9 2
                have r4 := wrap_pw k (by omega)
                have r5 := bits_clr (useM (k :: o)) k (by omega) (by omega)
                rw [useM_clr hS (fun j hj => by rcases List.mem_cons.1 hj with rfl | hj; exact hkn; exact hlt j hj) hko] at r5
                have hgd := Gr.set (Gr.refl w9 (some T)) T 2 (.inl rfl) (.int .i64 (useM o : Nat))
                have hgA : w9.grownBy (w9.setCell ⟨T, 2, none⟩ (.int .i64 (useM o : Nat))).drew (some T) := ⟨hgd.os, hgd.tape, hgd.output, hgd.size, hgd.block⟩
                have hTA : (w9.setCell ⟨T, 2, none⟩ (.int .i64 (useM o : Nat))).drew.heap[T]? = _ := blk_set hT9 2 (.int .i64 (useM o : Nat))
                have hOA := hO9.off hgA fun g hg => by have := (hO9.above g hg).1; intro e; injection e; omega
                have hBA := hB9.off hgA fun g hg => by have := (hB9.above g hg).1; intro e; injection e; omega
                have hmA := hm9.kept hgA (by intro e; injection e; omega)
                have hbA := Below.trans hb9 (Gr.below hgA (Nat.le_of_lt hgt) (Nat.le_of_lt hm9.lt))
                have hTkA : Tk (w9.setCell ⟨T, 2, none⟩ (.int .i64 (useM o : Nat))).drew gm T (some ⟨bs, os, none⟩) scap S o a' := ⟨⟨_, bv6, hTA, hOA, hBA, hn6, fun g hg => hne6 g hg⟩, hmA, hgt, hsl.held hslg hbA, hslg⟩
                have hgz := hmA.lt
                clear hT9 hO9 hB9 hm9 hb9 hgd hgA hTA hOA hBA hmA hn6 hne6
                go_wp2
                go_region
                go_wp2
                go_roundw
                case rel => exact ⟨k + 1, a', by omega, by go_num, Lib.hid (by rw [HA2.out, if_neg hko, ha']), hTkA, hbA, hgz⟩
                case measure => simp [intOf]; omega
              · have e3 : ((((strk S o).count st : Nat) : Int) == 0) = true := by
                  rw [List.count_eq_zero.2 hc]; rfl
                obtain ⟨w8, hdel, hm8, hg8⟩ := hm7.gone hRg hc 0
                have hz7 : gm ≤ w7.heap.size := Nat.le_of_lt hm7.lt
                have hT8 := Gr.blk hg8 hT7 (by omega)
                have hO8 := hO7.off hg8 fun g hg => by have := (hO7.above g hg).1; intro e; injection e; omega
                have hB8 := hB7.off hg8 fun g hg => by have := (hB7.above g hg).1; intro e; injection e; omega
                have hb8 := Below.trans hb7 (Gr.below hg8 (Nat.le_refl _) hz7)
                go_upto_region 16 with fail
                clear hT7 hO7 hB7 hb7 hm7
                clear hlk6 hup7 hlk7 c3' c37 hwm hdel hg8
                have d1 : w8.cell? ⟨T, 1, none⟩ = some (.slice (some ⟨g6, 0, none⟩) (o.length + 1) cp6) := blk_cell hT8 1
                have q1 := blk_free hT8 1
                have hle : (o.length : Int) ≤ cp6 := by omega
                have hg9 := Gr.set (Gr.refl w8 (some T)) T 1 (.inl rfl) (.slice (some ⟨g6, 0, none⟩) o.length cp6)
                have hT9 := blk_set hT8 1 (.slice (some ⟨g6, 0, none⟩) o.length cp6)
                have hO9 := (hO8.cut hrl6.symm (show o.length ≤ _ by rw [hrl6]; omega)).off hg9 fun g hg => by have := (hO8.above g hg).1; intro e; injection e; omega
                have hB9 := hB8.off hg9 fun g hg => by have := (hB8.above g hg).1; intro e; injection e; omega
                have hm9 := hm8.kept hg9 (by intro e; injection e; omega)
                have hb9 := Below.trans hb8 (Gr.below hg9 (Nat.le_of_lt hgt) (Nat.le_of_lt hm8.lt))
                have htk : (nats (k :: o).reverse).take o.length = nats o.reverse := by
                  have : nats (k :: o).reverse = nats o.reverse ++ [(k : Int)] := by rw [List.reverse_cons]; unfold nats; rw [List.map_append]; rfl
                  rw [this, List.take_append_of_le_length (by rw [hrl]; omega), List.take_of_length_le (by rw [hrl]; omega)]
                rw [htk] at hO9
                clear hT8 hO8 hB8 hm8 hb8 htk hg9
                go_upto_region 17 with fail
                generalize w8.setCell ⟨T, 1, none⟩ (.slice (some ⟨g6, 0, none⟩) o.length cp6) = w9 at *
                have e2 : w9.cell? ⟨T, 2, none⟩ = some (.int .i64 (useM (k :: o) : Nat)) := blk_cell hT9 2
                have q2 := blk_free hT9 2
                have r4 := wrap_pw k (by omega)
                have r5 := bits_clr (useM (k :: o)) k (by omega) (by omega)
                rw [useM_clr hS (fun j hj => by rcases List.mem_cons.1 hj with rfl | hj; exact hkn; exact hlt j hj) hko] at r5
                have hgd := Gr.set (Gr.refl w9 (some T)) T 2 (.inl rfl) (.int .i64 (useM o : Nat))
                have hgA : w9.grownBy (w9.setCell ⟨T, 2, none⟩ (.int .i64 (useM o : Nat))).drew (some T) := ⟨hgd.os, hgd.tape, hgd.output, hgd.size, hgd.block⟩
                have hTA : (w9.setCell ⟨T, 2, none⟩ (.int .i64 (useM o : Nat))).drew.heap[T]? = _ := blk_set hT9 2 (.int .i64 (useM o : Nat))
                have hOA := hO9.off hgA fun g hg => by have := (hO9.above g hg).1; intro e; injection e; omega
                have hBA := hB9.off hgA fun g hg => by have := (hB9.above g hg).1; intro e; injection e; omega
                have hmA := hm9.kept hgA (by intro e; injection e; omega)
                have hbA := Below.trans hb9 (Gr.below hgA (Nat.le_of_lt hgt) (Nat.le_of_lt hm9.lt))
                have hTkA : Tk (w9.setCell ⟨T, 2, none⟩ (.int .i64 (useM o : Nat))).drew gm T (some ⟨bs, os, none⟩) scap S o a' := ⟨⟨_, bv6, hTA, hOA, hBA, hn6, fun g hg => hne6 g hg⟩, hmA, hgt, hsl.held hslg hbA, hslg⟩
                have hgz := hmA.lt
                clear hT9 hO9 hB9 hm9 hb9 hgd hgA hTA hOA hBA hmA hn6 hne6
                go_wp2
                go_region
                go_wp2
                go_roundw
                case rel => exact ⟨k + 1, a', by omega, by go_num, Lib.hid (by rw [HA2.out, if_neg hko, ha']), hTkA, hbA, hgz⟩
                case measure => simp [intOf]; omega
          · obtain rfl : k = S.length := by omega
            have hE : tryP S (f + 1) o acc = a := by rw [HR.out, ← HA.out]
            go_wp2
            go_end0
            rw [hE]
            exact ⟨rfl, hTk, hbr⟩
      · go_wp2
        refine bodyPost_ret (results_none rfl _ _ _) rfl ?_
        refine ⟨rfl, ?_, Below.drew (Below.refl _ _)⟩
        have : tryP S (f + 1) o acc = acc := by
          unfold prB at hp
          rw [tryP, if_pos (by simpa using hp)]
        rw [this]
        exact HT.out.drew
end Go.Proofs.YtbkglhakhahfpaaGreatDoor
