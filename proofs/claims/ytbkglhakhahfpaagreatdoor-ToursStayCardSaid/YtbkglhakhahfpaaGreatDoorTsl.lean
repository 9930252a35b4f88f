/- slices.Clone and slices.Equal of points and names; what the call owns is written over: nothing else turns. Conditions: at most 100000 elements. -/
import Derived.Test.YtbkglhakhahfpaaGreatDoorHd8
import Derived.Test.YtbkglhakhahfpaaGreatDoorHol
import Derived.Test.YtbkglhakhahfpaaGreatDoorMake2
import Derived.Test.YtbkglhakhahfpaaGreatDoorDiv4
namespace Go.Proofs.YtbkglhakhahfpaaGreatDoor
open Go.RowKit Go.Sort

def TPq : Rty Pt := { e := 81, S := 82, k := 2, b := 16, z := .agg #[.int .i64 0, .int .i64 0], f := fun p => [.int .i64 p.1, .int .i64 p.2] }
theorem TPq.ok : TPq.Ok := ⟨by kernel_rfl, Tryz.underlying82, rfl, by decide, fun _ => rfl, fun x u hu => by simp [TPq] at hu; rcases hu with rfl | rfl <;> rfl, by decide⟩
theorem flat_pcq : ∀ l : List Pt, l.flatMap TPq.f = pcs l
  | [] => rfl
  | p :: l => by rw [List.flatMap_cons, flat_pcq l]; rfl
theorem OwnP.recq {w : World} {B : Nat} {v : Value} {l : List Pt} (h : OwnP w B v l) : RecR TPq w 0 v l := by
  have h2 : OwnR TPq w B v l := by unfold OwnR; rw [flat_pcq]; exact h
  exact h2.rec0
theorem Pts.recq {w : World} {v : Value} {l : List Pt} (h : Pts w 0 v l) : RecR TPq w 0 v l := by unfold RecR; rw [flat_pcq]; exact h
set_option maxHeartbeats 1000000 in
set_option maxRecDepth 100000 in
theorem ClonePt_any {l : List _} (v : Value) (w : World) (hlen : l.length ≤ 1000000) (rl : RecR TPq w 0 v l) :
    Calls Tryz.prog 46 #[v] w fun e w' => ∃ v', e = .returned v' ∧ OwnR TPq w' w.heap.size v' l ∧ Below w.heap.size w w' := by
  have q51 : ∀ (w : World) (a : Option Addr) (n c n' c' : Nat), (binOp .eql 82 (.slice a n c) (.slice none n' c')).run Tryz.prog w = .ok (.bool a.isNone) w := fun w a n c n' c' => Lib.run_eql_slice_nil w _ _ a n c n' c' Tryz.underlying82
  obtain ⟨a, cap, rfl, h1, h2⟩ := rl.form
  cases a with
  | none =>
    have hn : l = [] := by
      cases l with
      | nil => rfl
      | cons x r =>
        obtain ⟨b, o, e, _⟩ := rl.at TPq.ok.len (i := 0) (x := x) rfl TPq.ok.pos
        cases e
    subst hn
    clear rl
    go_enter Tryz.func46, Tryz.ntmps46
    go_wp2
    go_ret
    exact ⟨_, rfl, OwnR.nil _ _, Below.refl _ _⟩
  | some ad =>
    obtain ⟨_, _, hv, _, _, h3⟩ := rl
    obtain ⟨rfl, _, _⟩ := Value.slice.inj hv
    have HC : Hid (∀ j u, (l.flatMap TPq.f)[j]? = some u → (w.alloc (.cells #[] TPq.e)).cell? (ad.add j) = some u) := Lib.hid (by
      intro j u hj
      obtain ⟨b', o', e, _, hb, hcell⟩ := h3 j u hj
      injection e with e
      subst e
      have : (⟨b', o', none⟩ : Addr).add j = ⟨b', o' + j, none⟩ := by unfold Addr.add; split <;> simp_all
      rw [this]
      exact (World.cell?_alloc_past _ _ _ hb).trans hcell)
    obtain ⟨i, hi, hz0, hz1, hz2⟩ := info_parts TPq.ok.info
    have HL := Lib.hid hlen
    have HF := Lib.hid (flat_len TPq.ok.len l)
    have HO := Lib.hid (fun u (hu : u ∈ l.flatMap TPq.f) => by
      obtain ⟨x, _, hx⟩ := List.mem_flatMap.1 hu
      exact TPq.ok.one x u hx)
    have HB := Lib.hid (Nat.mul_le_mul (show l.length ≤ 1000000 from hlen) TPq.ok.small)
    clear hv h3 hlen
    go_enter Tryz.func46, Tryz.ntmps46
    go_wp2_with (at_builtin; refine wpList_append_own _ rfl _ _ TPq.S rfl w.heap.size TPq.e i _ TPq.k TPq.b TPq.ok.sl hi hz0 hz1 hz2 TPq.ok.zs TPq.ok.pos _ 0 [] rfl (World.ownsRow_made w #[] 0 (Nat.le_refl _) (by decide) rfl) ad l.length cap (l.flatMap TPq.f) rfl HF.out HC.out HO.out (by unfold maxLen; have := HL.out; omega) (by have := HB.out; rw [Nat.zero_add]; omega) (by simp) ?c2)
    case c2 =>
      intro v' w' h4 h5 _
      have hbw : Below w.heap.size w w' := by
        have hg := h5
        refine ⟨hg.os, hg.tape, hg.output, Nat.le_trans (by simp) hg.size, fun k hk => ?_⟩
        rw [hg.block k (by simp; omega) (by simp [Value.ownBlock]; omega)]
        exact heap_alloc_old w _ hk
      go_wp2
      go_ret
      exact ⟨_, rfl, by unfold OwnR; simpa using h4, hbw⟩
theorem neqPt_no (x1 x2 : _) (W : World) : (binOp .neq 81 (.agg #[.int .i64 x1, .int .i64 x2]) (.agg #[.int .i64 x1, .int .i64 x2])).run Tryz.prog W = .ok (.bool false) W := by
  go_simp
theorem neqPt_yes {x1 x2 y1 y2 : _} (hxy : ((x1, x2) : Int × Int) ≠ (y1, y2)) (W : World) : (binOp .neq 81 (.agg #[.int .i64 x1, .int .i64 x2]) (.agg #[.int .i64 y1, .int .i64 y2])).run Tryz.prog W = .ok (.bool true) W := by
  go_simp
  intro e1 e2
  first
    | (exact hxy (by subst e1; subst e2; rfl))
    | (exact hxy (by subst e1; subst e2; rfl))
set_option maxHeartbeats 4000000 in
set_option maxRecDepth 100000 in
theorem EqualPt_any (l m : List (Int × Int)) (v u : Value) (w : World) (_ : l.length ≤ 1000000) (hm : m.length ≤ 1000000) (rl : RecR TPq w 0 v l) (rm : RecR TPq w 0 u m) :
    Calls Tryz.prog 54 #[v, u] w fun e w' => e = .returned (.bool (decide (l = m))) ∧ Below w.heap.size w w' := by
  obtain ⟨a, ca, rfl, _, _⟩ := rl.form
  obtain ⟨b, cb, rfl, _, _⟩ := rm.form
  have RL := Lib.hid rl
  have RM := Lib.hid rm
  clear rl rm
  by_cases hlm : l.length = m.length
  · have HLM := Lib.hid hlm
    have hmk : ∀ k, k < l.length → k < m.length := fun k h => by omega
    rw [← hlm]
    clear hlm
    go_enter Tryz.func54, Tryz.ntmps54
    go_wp2_with fail
    go_loopw [13] (fun i wr => ∃ k : Nat, k ≤ l.length ∧ i = .int .i64 k ∧ Hid (l.take k = m.take k) ∧ Below w.heap.size w wr) (fun i _ => l.length - (intOf i).toNat)
    case atStart => exact ⟨0, Nat.zero_le _, rfl, Lib.hid (by simp), Below.refl _ _⟩
    case round =>
      obtain ⟨k, hk, rfl, hT, hB⟩ := hrel
      by_cases hlt : k < l.length
      · obtain ⟨x, hx⟩ : ∃ x, l[k]? = some x := ⟨_, List.getElem?_eq_getElem hlt⟩
        obtain ⟨y, hy⟩ : ∃ y, m[k]? = some y := ⟨_, List.getElem?_eq_getElem (hmk k hlt)⟩
        obtain ⟨b1, o1, rfl, _, _, hc1⟩ := (RL.out.below hB).at TPq.ok.len hx TPq.ok.pos
        obtain ⟨b2, o2, rfl, _, _, hc2⟩ := (RM.out.below hB).at TPq.ok.len hy TPq.ok.pos
        have HX := Lib.hid hx
        have HY := Lib.hid hy
        obtain ⟨x1, x2⟩ := x
        obtain ⟨y1, y2⟩ := y
        have cx0 : wr.cell? ⟨b1, o1 + k * 2, none⟩ = some (.int .i64 x1) := hc1 0 _ rfl
        have cx1 : wr.cell? ⟨b1, o1 + k * 2 + 1, none⟩ = some (.int .i64 x2) := hc1 1 _ rfl
        have cy0 : wr.cell? ⟨b2, o2 + k * 2, none⟩ = some (.int .i64 y1) := hc2 0 _ rfl
        have cy1 : wr.cell? ⟨b2, o2 + k * 2 + 1, none⟩ = some (.int .i64 y2) := hc2 1 _ rfl
        have hw1 : IntKind.i64.wrap ((k : Int) + 1) = ((k + 1 : Nat) : Int) := by rw [IntWalk.i64_in _ (by omega)]; omega
        clear hc1 hc2 hx hy
        by_cases hxy : ((x1, x2) : Int × Int) = (y1, y2)
        · have HT2 : Hid (l.take (k + 1) = m.take (k + 1)) := Lib.hid (by rw [List.take_add_one, List.take_add_one, hT.out, HX.out, HY.out, hxy])
          obtain ⟨e1, hxy⟩ := Prod.mk.inj hxy
          have e2 := hxy
          clear hxy
          subst e1; subst e2
          have hne := neqPt_no x1 x2
          go_wp2_with fail
          go_region
          all_goals (
            go_wp2
            go_roundw
            case rel => exact ⟨k + 1, by omega, by go_num, HT2, Below.drew hB⟩
            case measure => simp [intOf]; omega)
        · have HR : Hid (decide (l = m) = false) := Lib.hid (by
            rw [decide_eq_false_iff_not]
            rintro rfl
            have := HX.out.symm.trans HY.out
            injection this with this
            exact hxy this)
          have hne := neqPt_yes hxy
          clear hxy
          go_wp2_with fail
          go_region
          all_goals (
            go_wp2
            go_ret
            exact ⟨ret_bool HR.out.symm, Below.drew hB⟩)
      · obtain rfl : k = l.length := by omega
        have HR : Hid (decide (l = m) = true) := Lib.hid (by
          rw [decide_eq_true_eq]
          have := hT.out
          rw [List.take_length, HLM.out, List.take_length] at this
          exact this)
        go_wp2
        go_ret
        exact ⟨ret_bool HR.out.symm, hB⟩
  · have hi : ¬ ((l.length : Nat) : Int) = ((m.length : Nat) : Int) := by omega
    have HR : Hid (decide (l = m) = false) := Lib.hid (by
      rw [decide_eq_false_iff_not]
      intro h
      exact hlm (congrArg List.length h))
    go_enter Tryz.func54, Tryz.ntmps54
    go_wp2
    go_ret
    exact ⟨ret_bool HR.out.symm, Below.refl _ _⟩
/-- a row of numbers that the call owns, whatever they are. -/
def OwnSm (w : World) (B : Nat) (v : Value) (n : Nat) : Prop := ∃ l, l.length = n ∧ Own w B v l
theorem OwnSm.below {w w' : World} {B n : Nat} {v : Value} (h : OwnSm w B v n) (hb : Below w.heap.size w w') : OwnSm w' B v n := by
  obtain ⟨l, h1, h2⟩ := h
  exact ⟨l, h1, h2.below hb⟩
theorem OwnSm.set {w : World} {B n : Nat} {v : Value} (h : OwnSm w B v n) (g j : Nat) (x : Int) : OwnSm (w.setCell ⟨g, j, none⟩ (.int .i64 x)) B v n := by
  obtain ⟨l, rfl, h2⟩ := h
  by_cases hg : v.ownBlock = some g
  · rcases h2.2 with ⟨rfl, _⟩ | ⟨g2, cap, cur, rfl, _⟩
    · cases hg
    · obtain rfl : g2 = g := by simpa [Value.ownBlock] using hg
      exact ⟨l.set j x, List.length_set, h2.set rfl j x⟩
  · exact ⟨l, rfl, h2.far fun k hk e => hg (by rw [hk, e])⟩
set_option maxHeartbeats 2000000 in
theorem spoilNq_any (l : List Nm) (v : Value) (w : World) (B : Nat) (hlen : l.length ≤ 100000) (hO : OwnR TS w B v l) :
    Calls Tryz.prog 52 #[v] w fun e w' => e = .returned (.tuple #[]) ∧ w.grownBy w' v.ownBlock := by
  by_cases h0 : l = []
  · subst h0
    obtain ⟨a, cap, rfl, _, _⟩ := hO.form
    go_enter Tryz.func52, Tryz.ntmps52
    go_wp2_with fail
    go_loopw [5] (fun i wr => i = .int .i64 0 ∧ w = wr) (fun i _ => 0)
    case atStart => exact ⟨rfl, rfl⟩
    case round =>
      obtain ⟨rfl, rfl⟩ := hrel
      go_wp2
      go_end0
      exact ⟨rfl, Gr.refl _ _⟩
  · obtain ⟨g, cap, cur, rfl, hB, hb2, _⟩ := hO.blk h0
    obtain ⟨n, hn⟩ : ∃ n, n = l.length := ⟨_, rfl⟩
    rw [← hn] at hO hlen ⊢
    have HN := Lib.hid hn
    have HO := Lib.hid hO
    clear hO hn hb2
    go_enter Tryz.func52, Tryz.ntmps52
    go_wp2_with fail
    go_loopw [5] (fun i wr => ∃ (k : Nat) (l' : List Nm), k ≤ n ∧ i = .int .i64 k ∧ Hid (l'.length = n ∧ OwnR TS wr B (.slice (some ⟨g, 0, none⟩) n cap) l') ∧ w.grownBy wr (some g)) (fun i _ => n - (intOf i).toNat)
    case atStart => exact ⟨0, l, Nat.zero_le _, rfl, Lib.hid ⟨HN.out.symm, HO.out⟩, Gr.refl _ _⟩
    case round =>
      obtain ⟨k, l', hk, rfl, HI, hK⟩ := hrel
      by_cases hlt : k < n
      · obtain ⟨x, hx⟩ : ∃ x, l'[k]? = some x := ⟨_, List.getElem?_eq_getElem (by rw [HI.out.1]; exact hlt)⟩
        have c1 : wr.cell? ⟨g, k, none⟩ = some (.string x) := by
          have h2 := HI.out.2.rec0
          obtain ⟨b, o, e, _, _, h3⟩ := strs_at h2 hx
          injection e with e
          injection e with e1 e2 _
          subst e1 e2
          simpa using h3
        have f1 := OwnS.free HI.out.2 HI.out.1.symm k
        have hs := OwnS.set HI.out.2 HI.out.1.symm k ⟨#[115, 112, 111, 105, 108, 116]⟩
        have HS := Lib.hid hs
        have hK2 := Gr.set hK g k (.inl rfl) (.string ⟨#[115, 112, 111, 105, 108, 116]⟩)
        have hw1 : IntKind.i64.wrap ((k : Int) + 1) = ((k + 1 : Nat) : Int) := by rw [IntWalk.i64_in _ (by omega)]; omega
        have HL : Hid ((l'.set k ⟨#[115, 112, 111, 105, 108, 116]⟩).length = n) := Lib.hid (by rw [List.length_set]; exact HI.out.1)
        clear hs hx hK
        go_wp2
        go_roundw
        case rel => exact ⟨k + 1, _, by omega, by go_num, Lib.hid ⟨HL.out, HS.out⟩, hK2⟩
        case measure => simp [intOf]; omega
      · go_wp2
        go_end0
        exact ⟨rfl, hK⟩
set_option maxHeartbeats 2000000 in
theorem spoilIq_any (n : Nat) (v : Value) (w : World) (B : Nat) (hlen : n ≤ 100000) (hO : OwnSm w B v n) :
    Calls Tryz.prog 53 #[v] w fun e w' => e = .returned (.tuple #[]) ∧ w.grownBy w' v.ownBlock ∧ ∀ C u m, OwnSm w C u m → OwnSm w' C u m := by
  by_cases h0 : n = 0
  · subst h0
    obtain ⟨l, hl, hO⟩ := hO
    obtain rfl := List.eq_nil_of_length_eq_zero hl
    obtain ⟨a, cap, rfl, _, _⟩ := Ints.form hO.ints
    go_enter Tryz.func53, Tryz.ntmps53
    go_wp2_with fail
    go_loopw [5] (fun i wr => i = .int .i64 0 ∧ w = wr) (fun i _ => 0)
    case atStart => exact ⟨rfl, rfl⟩
    case round =>
      obtain ⟨rfl, rfl⟩ := hrel
      go_wp2
      go_end0
      exact ⟨rfl, Gr.refl _ _, fun _ _ _ h => h⟩
  · obtain ⟨l, hl, hO⟩ := hO
    obtain ⟨g, cap, rfl, hB, hb2, _⟩ := hO.nonnil (by intro e; rw [e] at hl; exact h0 hl.symm)
    rw [hl] at hO ⊢
    have HN := Lib.hid hl
    have HO := Lib.hid hO
    clear hO hl
    go_enter Tryz.func53, Tryz.ntmps53
    go_wp2_with fail
    go_loopw [5] (fun i wr => ∃ (k : Nat) (l' : List Int), k ≤ n ∧ i = .int .i64 k ∧ Hid (l'.length = n ∧ Own wr B (.slice (some ⟨g, 0, none⟩) n cap) l') ∧ w.grownBy wr (some g) ∧ Hid (∀ C u m, OwnSm w C u m → OwnSm wr C u m)) (fun i _ => n - (intOf i).toNat)
    case atStart => exact ⟨0, l, Nat.zero_le _, rfl, Lib.hid ⟨HN.out, HO.out⟩, Gr.refl _ _, Lib.hid fun _ _ _ h => h⟩
    case round =>
      obtain ⟨k, l', hk, rfl, HI, hK, HM⟩ := hrel
      by_cases hlt : k < n
      · obtain ⟨x, hx⟩ : ∃ x, l'[k]? = some x := ⟨_, List.getElem?_eq_getElem (by rw [HI.out.1]; exact hlt)⟩
        have hOI := HI.out.2
        have c1 : wr.cell? ⟨g, k, none⟩ = some (.int .i64 x) := by
          have h2 := HI.out.1
          have h3 := HI.out.2
          rw [← h2] at h3
          exact Own.cell h3 hx
        have f1 := Own.free hOI HI.out.1.symm k
        have HS := Lib.hid (Own.set hOI HI.out.1.symm k 777)
        have hK2 := Gr.set hK g k (.inl rfl) (.int .i64 777)
        have HM2 : Hid (∀ C u m, OwnSm w C u m → OwnSm (wr.setCell ⟨g, k, none⟩ (.int .i64 777)) C u m) := Lib.hid fun C u m h => (HM.out C u m h).set g k 777
        have hw1 : IntKind.i64.wrap ((k : Int) + 1) = ((k + 1 : Nat) : Int) := by rw [IntWalk.i64_in _ (by omega)]; omega
        have HL : Hid ((l'.set k 777).length = n) := Lib.hid (by rw [List.length_set]; exact HI.out.1)
        clear hx hK hOI
        go_wp2
        go_roundw
        case rel => exact ⟨k + 1, _, by omega, by go_num, Lib.hid ⟨HL.out, HS.out⟩, hK2, HM2⟩
        case measure => simp [intOf]; omega
      · go_wp2
        go_end0
        exact ⟨rfl, hK, HM.out⟩
end Go.Proofs.YtbkglhakhahfpaaGreatDoor
