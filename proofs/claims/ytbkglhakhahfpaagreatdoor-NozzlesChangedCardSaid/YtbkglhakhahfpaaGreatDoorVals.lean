/- slices.Sorted(slices.Values(x)) of a slice of names: a new sorted slice. Conditions: at most 100000 names. -/
import Derived.RangeFuncNested
import Derived.RangeFuncBound
import Derived.RangeFuncCalls
import Derived.RangeFuncLeaves
import Derived.RangeFuncBox
import Derived.Shelf.Abstract
import Derived.WalkKit
import Derived.OwnWalkIn
import Derived.TacticsInMore
import Derived.LoopNIn
import Derived.LoopIn
import Derived.Maps.AppendAt
import Derived.Test.YtbkglhakhahfpaaGreatDoorHd1
import Derived.Test.YtbkglhakhahfpaaGreatDoorSortRow
namespace Go.Proofs.YtbkglhakhahfpaaGreatDoor
open Go.RowKit Go.Shelf Go.Sort
attribute [local go_sem] Oper.semAt_some

def uptoV {α : Type} (f : Nat → α) (k : Nat) : List α := (List.range k).map f
theorem uptoV_succ {α : Type} (f : Nat → α) (k : Nat) : uptoV f (k + 1) = uptoV f k ++ [f k] := by simp [uptoV, List.range_succ]
theorem uptoV_length {α : Type} (f : Nat → α) (k : Nat) : (uptoV f k).length = k := by simp [uptoV]
theorem uptoV_take (zs : List Nm) {k : Nat} (hk : k ≤ zs.length) : uptoV (fun j => zs[j]?.getD ByteArray.empty) k = zs.take k := by
  apply List.ext_getElem
  · simp [uptoV, hk]
  · intro i h1 h2
    have : i < zs.length := by simp [uptoV] at h1; omega
    simp [uptoV, this]
theorem uptoV_all (zs : List Nm) : uptoV (fun j => zs[j]?.getD ByteArray.empty) zs.length = zs := by rw [uptoV_take zs (Nat.le_refl _), List.take_length]
/-- the slice holds the names, in a block below n₀; or there are none. -/
def ValsAt (n₀ : Nat) (W : World) (sv : Value) (zs : List Nm) : Prop :=
  ∃ a cap, sv = .slice a zs.length cap ∧ ∀ j, j < zs.length → ∃ b off, a = some ⟨b, off, none⟩ ∧ b < n₀ ∧ W.cell? ⟨b, off + j, none⟩ = some (.string (zs[j]?.getD ByteArray.empty))
theorem ValsAt.below {n₀ : Nat} {A B : World} (h : Below n₀ A B) {sv : Value} {zs : List Nm} : ValsAt n₀ A sv zs → ValsAt n₀ B sv zs
  | ⟨a, cap, e, hc⟩ => ⟨a, cap, e, fun j hj => by
      obtain ⟨b, off, ha, hb, hx⟩ := hc j hj
      exact ⟨b, off, ha, hb, (h.cell (p := ⟨b, off + j, none⟩) hb).trans hx⟩⟩
theorem ValsAt.of_rec {w : World} {lo : Nat} {v : Value} {zs : List Nm} (h : RecR TS w lo v zs) : ValsAt w.heap.size w v zs := by
  obtain ⟨a, cap, rfl, _, _⟩ := h.form
  refine ⟨a, cap, rfl, fun j hj => ?_⟩
  obtain ⟨b, o, ha, _, hb, hc⟩ := strs_at h (k := j) (x := zs[j]?.getD ByteArray.empty) (by simp [hj])
  exact ⟨b, o, ha, hb, hc⟩
set_option maxRecDepth 100000 in
set_option maxHeartbeats 2000000 in
theorem vals1_in (n : Nat) (_ : 1 ≤ n) (l Bs n₀ : Nat) (sv : Value) (zs : List Nm) (hreach : zs.length ≤ 100000) (J Jx : List Nm → World → Prop)
    (hY : ∀ pre x W, J pre W → pre.length < zs.length → YieldAt Fence.wide (n - 1) Tryz.prog l #[.string x] W fun e W' =>
      (e = .returned (.bool true) ∧ J (pre ++ [x]) W' ∧ Below n₀ W W') ∨ (e = .returned (.bool false) ∧ Jx (pre ++ [x]) W'))
    (W : World) (hBs : W.cell? ⟨Bs, 0, none⟩ = some sv) (hI : ValsAt n₀ W sv zs) (h0 : J [] W) :
    CallsIn Fence.wide n Tryz.prog 205 #[.func (.yield l) #[] #[], .pointer (some ⟨Bs, 0, none⟩)] W fun e W' => (∃ v, e = .returned v) ∧
      ((∃ ys, ys = zs ∧ J ys W') ∨ (∃ pre, pre <+: zs ∧ Jx pre W')) := by
  obtain ⟨a, cap, rfl, hc⟩ := hI
  refine callsIn_of_wp Tryz.func205 rfl trivial ?_ rfl
  simp only [Tryz.ntmps205, List.size_toArray, List.length_cons, List.length_nil, Nat.reduceAdd, Nat.reduceSub, Array.replicate_succ, Array.replicate_zero, List.push_toArray, List.append_toArray, List.nil_append, List.cons_append]
  gi_wp2
  gi_loopw [7] (fun i wr => ∃ k : Nat, k ≤ zs.length ∧ i = .int .i64 k ∧ J (uptoV (fun j => zs[j]?.getD ByteArray.empty) k) wr ∧ Below n₀ W wr)
    (fun i _ => zs.length - (intOf i).toNat)
  case atStart => exact ⟨0, Nat.zero_le _, rfl, h0, Below.refl _ _⟩
  case round =>
    obtain ⟨k, hk, rfl, hJs, hnx⟩ := hrel
    by_cases hlt : k < zs.length
    · obtain ⟨b, off, rfl, hb, hx⟩ := hc k hlt
      have hcx' := (hnx.cell (p := ⟨b, off + k, none⟩) hb).trans hx
      have hsucc : uptoV (fun j => zs[j]?.getD ByteArray.empty) (k + 1) = uptoV (fun j => zs[j]?.getD ByteArray.empty) k ++ [zs[k]?.getD ByteArray.empty] := uptoV_succ _ k
      have htake := uptoV_take zs (show k + 1 ≤ zs.length by omega)
      generalize zs[k]?.getD ByteArray.empty = x at *
      have HSU := Lib.hid hsucc
      have HTK := Lib.hid htake
      obtain ⟨fn, tmps, assign, body, hy, hR⟩ := hY _ x wr hJs (by rw [uptoV_length]; exact hlt)
      clear hx hsucc htake
      gi_wp2
      refine hR.mono ?_
      rintro e W3 (⟨rfl, hJ3, hk3⟩ | ⟨rfl, hJx3⟩)
      · gi_wp2
        go_roundw
        case rel => exact ⟨k + 1, by omega, by simp, by rw [HSU.out]; exact hJ3, hnx.trans hk3⟩
        case measure => simp [intOf]; omega
      · gi_wp2
        refine bodyPost_ret (results_none rfl _ _ _) rfl ?_
        exact ⟨⟨_, rfl⟩, .inr ⟨_, by rw [← HSU.out, HTK.out]; exact List.take_prefix _ _, hJx3⟩⟩
    · obtain rfl : k = zs.length := by omega
      rw [uptoV_all] at hJs
      gi_wp2
      go_end0
      exact ⟨⟨_, rfl⟩, .inl ⟨_, rfl, hJs⟩⟩
theorem vals_stops (n : Nat) (hn : 1 ≤ n) (Bs n₀ : Nat) (sv : Value) (zs : List Nm) (hreach : zs.length ≤ 100000) (w : World) (hBs : Bs < w.heap.size) (hn₀ : n₀ ≤ w.heap.size)
    (hc : w.cell? ⟨Bs, 0, none⟩ = some sv) (hI : ValsAt n₀ w sv zs) :
    SeqStopsK Fence.wide n Tryz.prog 205 #[.pointer (some ⟨Bs, 0, none⟩)] (fun x : Nm => #[Value.string x]) (Below n₀) (fun ys => ys = zs) (fun pre => pre <+: zs) zs.length w := fun l J Jx W hW _ _ hY h0 =>
  vals1_in n hn l Bs n₀ sv zs hreach J Jx hY W ((hW.cell (p := ⟨Bs, 0, none⟩) hBs).trans hc) (hI.below (hW.mono hn₀)) h0
theorem infoS : (Tryz.prog.info? 9).map (fun i => (i.zero, i.size, i.bytes)) = some (some (.string ByteArray.empty), 1, 16) := by kernel_rfl
set_option maxRecDepth 100000 in
set_option maxHeartbeats 2000000 in
theorem AppendV_in (n : Nat) (hn : 3 ≤ n) (Bs : Nat) (sv : Value) (zs : List Nm) (hlen : zs.length ≤ 100000) (w : World) (hBs : Bs < w.heap.size) (hc : w.cell? ⟨Bs, 0, none⟩ = some sv) (hI : ValsAt w.heap.size w sv zs) :
    CallsIn Fence.wide n Tryz.prog 244 #[.slice none 0 0, .func (.func 205) #[] #[.pointer (some ⟨Bs, 0, none⟩)]] w fun e W' => ∃ v, e = .returned v ∧ W'.ownsRow w.heap.size 9 1 v zs.length (zs.map Value.string) ∧ Below w.heap.size w W' := by
  have h1 : 1 ≤ n := by omega
  obtain ⟨i0, hi, hz0, hz1, hz2⟩ := info_parts infoS
  refine callsIn_of_wp_marks Tryz.func244 rfl trivial ?_ rfl
  simp only [Tryz.ntmps244, List.size_toArray, List.length_cons, List.length_nil, Nat.reduceAdd, Nat.reduceSub, Array.replicate_succ, Array.replicate_zero, List.push_toArray, List.append_toArray, List.nil_append, List.cons_append]
  gi_wp2
  have bO := Boxed.new w 59 (.slice none 0 0)
  have hB0 : Below w.heap.size w (w.alloc (.cells #[.slice none 0 0] 59)) := (Below.refl _ w).alloc (Nat.le_refl _) _
  refine wpIn_rangeFunc_ownG rfl h1 (gf := 205) (lb := #[.pointer (some ⟨Bs, 0, none⟩)]) rfl trivial (enters_of Tryz.func205 (by kernel_rfl) rfl)
    (vals_stops (n - 1) (by omega) Bs w.heap.size sv zs hlen _ (by simp; omega) (by simp) ((hB0.cell (p := ⟨Bs, 0, none⟩) hBs).trans hc) (hI.below hB0)) belowK_t (belowK_b (by simp)) (Below.refl _ _) (fun _ => rfl)
    (fun pre W => (∃ v, Boxed W w.heap.size 59 v ∧ W.ownsRow w.heap.size 9 1 v pre.length (pre.map Value.string) ∧ True) ∧ Below w.heap.size w W)
    (fun _ _ _ => False)
    (OwnFrom.and (Own.from (holdsRow_own w.heap.size w.heap.size 59 9 1 (fun pre : List Nm => pre.length) (fun pre => pre.map Value.string) (fun _ _ => True)) _) (ownFrom_below (Nat.le_refl _) (by simp)))
    (fun _ _ _ _ _ hs _ _ => hs)
    ⟨⟨_, bO, World.ownsRow_nil _ _ _ _, trivial⟩, hB0⟩
    (fun x => { tmps := #[.slice none 0 0, .func (.func 205) #[] #[.pointer (some ⟨Bs, 0, none⟩)], .pointer (some ⟨w.heap.size, 0, none⟩), undef, .slice none 0 0, .string x, .func (.func 205) #[] #[.pointer (some ⟨Bs, 0, none⟩)], .string x, undef, undef, undef, undef, undef], defers := [] }) ?assign ?body ?done ?stop
  case assign =>
    intro l x W K hK
    gi_wp2
    exact hK
  case body =>
    rintro l pre x W ⟨⟨v, hv, hrow, _⟩, hB⟩ hlt
    have hc := hv.cell
    gi_wp2_with (gi_at_builtin; refine wpListIn_append_own _ rfl _ _ 59 rfl w.heap.size 9 i0 (.string ByteArray.empty) 1 16 Tryz.underlying59 hi hz0 hz1 hz2 rfl (by decide) _ _ _ rfl (hrow.alloc _) ⟨W.heap.size, 0, none⟩ 1 1 [.string x] rfl rfl (cell_one_new _ _ _) (by simp [Value.oneCell']) (by unfold maxLen; omega) (by omega) (by have := hB.size; simp; omega) ?_; intro v' w1 hown' hgrow _; obtain ⟨g', cap', rfl⟩ := ownsRow_succ hown'; obtain ⟨hv1, hv2, hr2, hk2, hb2⟩ := hv.appended (by decide) hrow hB.size (Nat.le_refl _) hown' hgrow; have hc1 := hv1.cell; have hf1 := hv1.frozen)
    exact ⟨hk2.from _, hb2, ⟨_, hv2, by simpa using hr2, trivial⟩, hB.trans hb2⟩
  case done =>
    rintro D ys W hD rfl ⟨⟨v, hv, hrow, _⟩, hB⟩ hK
    have hc := hv.cell
    gi_wp2
    refine ⟨by simp, .inl ⟨_, _, rfl, run_takeDeferred hK, ?_⟩⟩
    exact ⟨_, results_tmp rfl _ _ _, v, rfl, ownsRow_putObj hrow _ hK rfl, hB.trans (belowK_b (w := w) (Nat.le_refl _) W D _ _ (by simp at hD; omega) hK rfl rfl)⟩
  case stop =>
    rintro D c pre W _ _ h _
    exact h.elim
theorem own_str {w : World} {B : Nat} {v : Value} {l : List Nm} (h : w.ownsRow B 9 1 v l.length (l.map Value.string)) : OwnR TS w B v l := by
  unfold OwnR; rw [flat_str]; exact h
theorem str_own {w : World} {B : Nat} {v : Value} {l : List Nm} (h : OwnR TS w B v l) : w.ownsRow B 9 1 v l.length (l.map Value.string) := by
  unfold OwnR at h; rw [flat_str] at h; exact h
theorem map_enc (l : List Nm) : (l.map fun s => s.data.toList).map encStr = l.map Value.string := by
  rw [List.map_map]
  exact List.map_congr_left fun s _ => rfl
theorem enc_map (l : List (List UInt8)) : (l.map fun x => (⟨x.toArray⟩ : Nm)).map Value.string = l.map encStr := by
  rw [List.map_map]
  exact List.map_congr_left fun s _ => rfl
set_option maxRecDepth 100000 in
set_option maxHeartbeats 1000000 in
theorem Collect_any (Bs : Nat) (sv : Value) (zs : List Nm) (hlen : zs.length ≤ 100000) (w : World) (hBs : Bs < w.heap.size) (hc : w.cell? ⟨Bs, 0, none⟩ = some sv) (hI : ValsAt w.heap.size w sv zs) :
    Calls Tryz.prog 180 #[.func (.func 205) #[] #[.pointer (some ⟨Bs, 0, none⟩)]] w fun e W' => ∃ v, e = .returned v ∧ OwnR TS W' w.heap.size v zs ∧ Below w.heap.size w W' := by
  have HC := Lib.hid (callsIn_wide.1 (AppendV_in 5 (by omega) Bs sv zs hlen w hBs hc hI))
  go_enter Tryz.func180, Tryz.ntmps180
  go_wp2_with fail
  refine HC.out.mono ?_
  rintro e w1 ⟨v, rfl, hO, hb⟩
  go_wp2
  go_ret
  exact ⟨_, rfl, own_str hO, hb⟩
/-- the library's sort of names of the call's own. -/
theorem SortS_any {B : Nat} (l : List Nm) (v : Value) (w : World) (hlen : l.length ≤ 100000) (h : OwnR TS w B v l) :
    Calls Tryz.prog 133 #[v] w fun e w' => e = .returned (.tuple #[]) ∧ OwnR TS w' B v (sortN l) ∧ w.grownBy w' v.ownBlock := by
  by_cases h0 : l = []
  · subst h0
    obtain ⟨a, cap, rfl, _, _⟩ := h.form
    refine (Tryz.slices_Sort_string_none a cap w).mono ?_
    rintro e w' ⟨rfl, rfl⟩
    have hn : sortN [] = [] := List.eq_nil_of_length_eq_zero (sortN_len [])
    exact ⟨rfl, by rw [hn]; exact h, Gr.refl _ _⟩
  · obtain ⟨g, cap, cur, rfl, hB, hb, h1, h2, h3, h4⟩ := h.blk h0
    have hs := str_own h
    rw [← map_enc] at hs
    obtain ⟨hH, hlt, _⟩ := holds_own encStr (l := l.map fun s => s.data.toList) hs (by simp)
    have := Tryz.slices_Sort_string g 0 cap (l.map fun s => s.data.toList) w hH hlt (by simp; omega)
    rw [List.length_map] at this
    refine this.mono ?_
    rintro e w' ⟨rfl, n, os, rfl⟩
    refine ⟨rfl, own_str ?_, grownBy_resorted encStr _⟩
    have := own_resorted encStr (q := n) (os := os) (l := l.map fun s => s.data.toList) (m := (l.map fun s => s.data.toList).mergeSort fun x y => decide (x ≤ y)) hs (by simp) (List.mergeSort_perm _ _).length_eq
    rw [← enc_map] at this
    have hl : (sortN l).length = l.length := sortN_len l
    rw [hl]
    exact this
set_option maxRecDepth 100000 in
set_option maxHeartbeats 1000000 in
theorem SortedV_any (Bs : Nat) (sv : Value) (zs : List Nm) (hlen : zs.length ≤ 100000) (w : World) (hBs : Bs < w.heap.size) (hc : w.cell? ⟨Bs, 0, none⟩ = some sv) (hI : ValsAt w.heap.size w sv zs) :
    Calls Tryz.prog 96 #[.func (.func 205) #[] #[.pointer (some ⟨Bs, 0, none⟩)]] w fun e W' => ∃ v, e = .returned v ∧ OwnR TS W' w.heap.size v (sortN zs) ∧ Below w.heap.size w W' := by
  have HC := Lib.hid (Collect_any Bs sv zs hlen w hBs hc hI)
  go_enter Tryz.func96, Tryz.ntmps96
  go_wp2_with fail
  refine HC.out.mono ?_
  rintro e w1 ⟨v, rfl, hO, hb⟩
  have hbv : ∀ k, v.ownBlock = some k → w.heap.size ≤ k := fun k e => (World.ownsRow.lt hO k e).1
  go_wp2_with fail
  refine (SortS_any zs v w1 hlen hO).mono ?_
  rintro e w2 ⟨rfl, hO2, hg⟩
  go_wp2
  go_ret
  exact ⟨_, rfl, hO2, hb.grown hg hb.size fun k e => hbv k e⟩
set_option maxHeartbeats 1000000 in
theorem Values_any (sv : Value) (zs : List Nm) (w : World) (rl : RecR TS w 0 sv zs) :
    Calls Tryz.prog 125 #[sv] w fun e w' => e = .returned (.func (.func 205) #[] #[.pointer (some ⟨w.heap.size, 0, none⟩)]) ∧ w' = w.alloc (.cells #[sv] 59) := by
  obtain ⟨a, cap, rfl, _, _⟩ := rl.form
  have hmf : ∀ (fn : Fn) (first cap : Array Value) (w : World), (Instr.makeFunc fn first cap).run Tryz.prog w = .ok (.func fn first cap) w := fun _ _ _ _ => rfl
  go_enter Tryz.func125, Tryz.ntmps125
  go_wp2
  go_ret
  exact ⟨rfl, rfl⟩
end Go.Proofs.YtbkglhakhahfpaaGreatDoor
