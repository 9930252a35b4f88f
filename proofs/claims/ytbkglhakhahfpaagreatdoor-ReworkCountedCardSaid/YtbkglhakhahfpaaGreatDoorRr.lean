/- Rows of strings: Clone, Sort to the keys of a map, DeleteFunc with the reference's closure. Conditions: at most 10^5 strings. · The reference's shop: why it refuses a step. Conditions: names of at most 1000 bytes, fewer than 10^5 boards and open components, a kind that is one, states that are some. -/
import Derived.Test.YtbkglhakhahfpaaGreatDoorHls
import Derived.Test.YtbkglhakhahfpaaGreatDoorRb
import Derived.Test.YtbkglhakhahfpaaGreatDoorSortRow
import Derived.BigQuiet
import Derived.Deep.QuietTactic
namespace Go.Proofs.YtbkglhakhahfpaaGreatDoor
open Go.RowKit Go.Sort Go.Maps

theorem flat_str (l : List ByteArray) : l.flatMap TS.f = l.map Value.string := by
  induction l with
  | nil => rfl
  | cons a l ih => rw [List.flatMap_cons, ih]; rfl
theorem CloneS_any (l : List ByteArray) (v : Value) (w : World) (hl : l.length ≤ 100000) (rl : RecR TS w 0 v l) :
    Calls Tryz.prog 48 #[v] w fun e w' => ∃ v', e = .returned v' ∧ OwnR TS w' w.heap.size v' l ∧ Below w.heap.size w w' := by
  obtain ⟨a, cap, rfl, hc1, hc2⟩ := rl.form
  by_cases h0 : l = []
  · subst h0
    cases a with
    | none =>
      refine (Tryz.slices_Clone_string_nil _ cap w).mono ?_
      rintro e w' ⟨rfl, rfl⟩
      exact ⟨_, rfl, OwnR.nil _ _, Below.refl _ _⟩
    | some a =>
      refine (Tryz.slices_Clone_string_zero a cap w).mono ?_
      rintro e w' ⟨v', rfl, h1, _, h2⟩
      exact ⟨v', rfl, h1, h2⟩
  · obtain ⟨y, hy⟩ : ∃ y, l[0]? = some y := ⟨_, List.getElem?_eq_getElem (List.length_pos_iff.2 h0)⟩
    obtain ⟨b, o, rfl, _, _, _⟩ := str_at rl hy
    refine (Tryz.slices_Clone_string b o l.length cap l w (Nat.le_refl _) (by omega) (str_cells rl)).mono ?_
    rintro e w' ⟨v', rfl, h1, _, h2⟩
    refine ⟨v', rfl, ?_, h2⟩
    rw [List.take_length] at h1
    unfold OwnR
    rw [flat_str]
    exact h1
theorem SortK_any {α : Type} {m : Sm α} (hm : Sm.Ok m) (ss : List Bs) (hp : ss.Perm m.keys) (B : Nat) (v : Value) (w : World) (h : OwnR TS w B v (ss.map baOf)) (hl : ss.length ≤ 1000000) :
    Calls Tryz.prog 133 #[v] w fun e w' => e = .returned (.tuple #[]) ∧ OwnR TS w' B v (m.keys.map baOf) ∧ w.grownBy w' v.ownBlock := by
  by_cases h0 : ss = []
  · subst h0
    have hk : m.keys = [] := List.eq_nil_of_length_eq_zero (by rw [← hp.length_eq]; rfl)
    rw [hk]
    obtain ⟨a, cap, rfl, _, _⟩ := h.form
    exact (Tryz.slices_Sort_string_none a cap w).mono fun e w' ⟨he, hw⟩ => ⟨he, by subst hw; exact h, by subst hw; exact Gr.refl _ _⟩
  · obtain ⟨g, cap, cur, rfl, hB, hgb, _⟩ := h.blk (by intro e; exact h0 (List.map_eq_nil_iff.1 e))
    have h' : w.ownsRow B 9 1 (.slice (some ⟨g, 0, none⟩) ss.length cap) ss.length (ss.map encStr) := by
      have h9 := h
      unfold OwnR at h9
      rw [← flat_ba, List.length_map] at h9
      exact h9
    rw [List.length_map]
    obtain ⟨hH, hlt, _⟩ := holds_own encStr h' rfl
    refine (Tryz.slices_Sort_string g 0 cap ss w hH hlt (by omega)).mono ?_
    rintro e w' ⟨rfl, q, os, rfl⟩
    refine ⟨rfl, ?_, grownBy_resorted _ _⟩
    have := own_resorted (q := q) (os := os) encStr h' rfl (m := ss.mergeSort fun x y => decide (x ≤ y)) (by simp)
    exact own_keys hm hp this
abbrev doV (X : Nat) : Value := .func (.func 193) #[] #[.pointer (some ⟨X, 0, none⟩)]
/-- what is asked of the closure: it says q of each name, and turns nothing. -/
def DoQ (w : World) (B X : Nat) (ks : List Bs) (q : Bs → Bool) : Prop := ∀ W, Below B w W → ∀ k ∈ ks, Calls Tryz.prog 193 #[.string (baOf k), .pointer (some ⟨X, 0, none⟩)] W fun e w' => e = .returned (.bool (q k)) ∧ Below W.heap.size W w'
theorem doC_any (X : Nat) (c : ByteArray) (x : Bs) (W : World) (hX : W.cell? ⟨X, 3, none⟩ = some (.string c)) :
    Calls Tryz.prog 193 #[.string (baOf x), .pointer (some ⟨X, 0, none⟩)] W fun e w' => e = .returned (.bool (decide (x = c.data.toList))) ∧ Below W.heap.size W w' := by
  have hv : ((baOf x).toList == c.toList) = decide (x = c.data.toList) := by
    rw [ByteArray.toList_eq, ByteArray.toList_eq]
    have := bsOf_baOf x
    unfold bsOf at this
    rw [this]
    by_cases h : x = c.data.toList
    · rw [decide_eq_true h, beq_iff_eq]; exact h
    · rw [decide_eq_false h, beq_eq_false_iff_ne]; exact h
  obtain ⟨r, hr⟩ : ∃ r, r = decide (x = c.data.toList) := ⟨_, rfl⟩
  rw [← hr] at hv ⊢
  have HR := Lib.hid hr
  clear hr
  go_enter Tryz.func193, Tryz.ntmps193
  go_wp2
  go_ret
  exact ⟨rfl, Below.refl _ _⟩
set_option maxHeartbeats 1000000 in
theorem IndexD_any (w : World) (B X : Nat) (hB : B ≤ w.heap.size) (ks : List Bs) (q : Bs → Bool) (v : Value) (hlen : ks.length ≤ 100000) (rl : RecR TS w 0 v (ks.map baOf)) (hq : DoQ w B X ks q) :
    Calls Tryz.prog 207 #[v, doV X] w fun e w' => (∃ r : Int, e = .returned (.int .i64 r) ∧ ((r = -1 ∧ ks.filter (fun k => !q k) = ks) ∨ ∃ i : Nat, r = i ∧ i < ks.length ∧ (ks.take i).filter (fun k => !q k) = ks.take i ∧ (ks.take (i + 1)).filter (fun k => !q k) = ks.take i)) ∧ Below w.heap.size w w' := by
  obtain ⟨a, n, cap, hv, hn⟩ : ∃ a n cap, v = .slice a n cap ∧ n = ks.length := by obtain ⟨a, cap, hv, _, _⟩ := rl.form; exact ⟨a, _, cap, hv, List.length_map _⟩
  subst hv
  have HQ := Lib.hid hq
  have RL := Lib.hid rl
  have HNL := Lib.hid hn
  have hn5 : n ≤ 100000 := by omega
  clear hq rl hn hlen
  go_enter Tryz.func207, Tryz.ntmps207
  go_wp2
  go_loopw [8] (fun i wr => ∃ k : Nat, k ≤ n ∧ i = .int .i64 k ∧ Hid ((ks.take k).filter (fun k => !q k) = ks.take k) ∧ Below w.heap.size w wr) (fun i _ => n - (intOf i).toNat)
  case atStart => exact ⟨0, Nat.zero_le _, rfl, Lib.hid rfl, Below.refl _ _⟩
  case round =>
    obtain ⟨k, hk, rfl, hf, hb⟩ := hrel
    by_cases hlt : k < n
    · obtain ⟨t, ht⟩ : ∃ t, ks[k]? = some t := ⟨_, List.getElem?_eq_getElem (by rw [← HNL.out]; exact hlt)⟩
      have HS : Hid (ks.take (k + 1) = ks.take k ++ [t]) := Lib.hid (by rw [List.take_add_one, ht]; rfl)
      have HC := HQ.out wr (hb.mono hB) t (List.mem_of_getElem? ht)
      obtain ⟨b2', o2, rfl, _, hl2, hx2⟩ := str_at (RL.out.below hb) (k := k) (x := baOf t) (by simp [ht])
      clear ht
      cases hp : q t
      · rw [hp] at HC
        have HC := Lib.hid HC
        have HN : Hid ((ks.take (k + 1)).filter (fun k => !q k) = ks.take (k + 1)) := Lib.hid (by rw [HS.out, List.filter_append, hf.out]; simp [hp])
        clear hp
        go_wp2_with (go_at_call 193; refine HC.out.mono ?_; rintro e w2 ⟨rfl, hb2⟩)
        go_roundw
        case rel => exact ⟨k + 1, by omega, by go_num, HN, hb.trans (hb2.mono hb.size)⟩
        case measure => simp [intOf]; omega
      · rw [hp] at HC
        have HC := Lib.hid HC
        have HN : Hid ((ks.take (k + 1)).filter (fun k => !q k) = ks.take k) := Lib.hid (by rw [HS.out, List.filter_append, hf.out]; simp [hp])
        clear hp
        go_wp2_with (go_at_call 193; refine HC.out.mono ?_; rintro e w2 ⟨rfl, hb2⟩)
        go_ret
        exact ⟨⟨_, rfl, .inr ⟨k, rfl, by have := HNL.out; omega, hf.out, HN.out⟩⟩, hb.trans (hb2.mono hb.size)⟩
    · have hk2 : k = n := by omega
      subst hk2
      have hff := hf.out
      rw [HNL.out, List.take_length] at hff
      go_wp2
      go_ret
      exact ⟨⟨_, rfl, .inl ⟨rfl, hff⟩⟩, hb⟩
set_option maxHeartbeats 4000000 in
set_option maxRecDepth 100000 in
theorem DeleteD_any (w : World) (B X : Nat) (hB : B ≤ w.heap.size) (ks : List Bs) (q : Bs → Bool) (v : Value) (hlen : ks.length ≤ 100000) (hO : OwnR TS w B v (ks.map baOf)) (hq : DoQ w B X ks q) :
    Calls Tryz.prog 131 #[v, doV X] w fun e w' => (∃ v', e = .returned v' ∧ OwnR TS w' B v' ((ks.filter fun k => !q k).map baOf)) ∧ Below B w w' := by
  have HI := Lib.hid (IndexD_any w B X hB ks q v hlen hO.rec0 hq)
  have HQ := Lib.hid hq
  have HO := Lib.hid hO
  obtain ⟨a, n, cap, hv, hn⟩ : ∃ a n cap, v = .slice a n cap ∧ n = ks.length := by obtain ⟨a, cap, hv, _, _⟩ := hO.form; exact ⟨a, _, cap, hv, List.length_map _⟩
  subst hv
  have HN := Lib.hid hn
  have hn5 : n ≤ 100000 := by omega
  clear hq hO hn hlen
  go_enter Tryz.func131, Tryz.ntmps131
  go_wp2_with fail
  refine HI.out.mono ?_
  rintro e w1 ⟨⟨r, rfl, hr⟩, hb1⟩
  rcases hr with ⟨rfl, hall⟩ | ⟨i, rfl, hi, h1, h2⟩
  · have HR := Lib.hid (show OwnR TS w1 B (.slice a n cap) ((ks.filter fun k => !q k).map baOf) by rw [hall]; exact HO.out.below hb1)
    clear hall
    go_wp2
    go_ret
    exact ⟨⟨_, rfl, HR.out⟩, hb1.mono hB⟩
  · obtain ⟨g, cap', cur, hv2, hBg, hgb, hn1, hn2, _⟩ := HO.out.blk (by intro e; have := congrArg List.length e; rw [List.length_map, List.length_nil] at this; omega)
    obtain ⟨rfl, hxx, rfl⟩ := Value.slice.inj hv2
    clear hxx
    rw [List.length_map, ← HN.out] at hn1
    have hin : i < n := by have := HN.out; omega
    have hne : ((i : Int) == -1) = false := by simp
    have hw0 : IntKind.i64.wrap ((i : Int) + 1) = ((i + 1 : Nat) : Int) := by rw [IntWalk.i64_in _ (by omega)]; omega
    have HD0 : Hid (DelI w B g n cap i (i + 1) ks q w1 (ks.map baOf)) := Lib.hid ⟨by rw [List.length_map]; exact HN.out.symm, HO.out.below hb1, by rw [h2, List.map_take], fun _ _ => rfl⟩
    have hcap : cap ≤ 9223372036854775807 := by unfold maxLen at hn2; omega
    clear h1 h2 hgb hv2 hi
    go_wp2_with fail
    go_loopw [5, 6] (fun a b wr => ∃ (m j : Nat) (l' : List ByteArray), a = .int .i64 m ∧ b = .int .i64 j ∧ m < j ∧ j ≤ n ∧ Hid (DelI w B g n cap m j ks q wr l') ∧ Below B w wr) (fun _ b _ => n - (intOf b).toNat)
    case atStart => exact ⟨i, i + 1, _, rfl, by go_num, by omega, by omega, HD0, hb1.mono hB⟩
    case round =>
      obtain ⟨m, j, l', rfl, rfl, hmj, hjn, HD, hbr⟩ := hrel
      have hwj : IntKind.i64.wrap ((j : Int) + 1) = ((j + 1 : Nat) : Int) := by rw [IntWalk.i64_in _ (by omega)]; omega
      have hwm : IntKind.i64.wrap ((m : Int) + 1) = ((m + 1 : Nat) : Int) := by rw [IntWalk.i64_in _ (by omega)]; omega
      by_cases hlt : j < n
      · obtain ⟨t, ht⟩ : ∃ t, ks[j]? = some t := ⟨_, List.getElem?_eq_getElem (by rw [← HN.out]; exact hlt)⟩
        have HT := Lib.hid ht
        have HC := HQ.out wr hbr t (List.mem_of_getElem? ht)
        obtain ⟨c1, _⟩ := HD.out.own.cellf (fo := 0) (i := j) (x := baOf t) (v := .string (baOf t)) TS.ok HD.out.len.symm (by rw [HD.out.rest j (Nat.le_refl _)]; simp [ht]) rfl
        simp only [TS, Nat.mul_one, Nat.add_zero] at c1
        clear ht
        cases hp : q t
        · rw [hp] at HC
          have HC := Lib.hid HC
          have HP := Lib.hid hp
          clear hp
          go_wp2_with fail
          refine HC.out.mono ?_
          rintro e w2 ⟨rfl, hb2⟩
          have HK := Lib.hid (HD.out.keep HT.out HP.out hb2 hmj hlt)
          obtain ⟨y, hy⟩ : ∃ y, l'[m]? = some y := ⟨_, List.getElem?_eq_getElem (by rw [HD.out.len]; omega)⟩
          obtain ⟨d1, f1⟩ := (HD.out.own.below hb2).cellf (fo := 0) (i := m) (x := y) (v := .string y) TS.ok HD.out.len.symm hy rfl
          simp only [TS, Nat.mul_one, Nat.add_zero] at d1 f1
          have hb3 := Bl.set (hbr.trans (hb2.mono (Nat.le_trans hB hbr.size))) g m hBg (.string (baOf t))
          have hmn : m < n := by omega
          clear hy hb2
          go_wp2
          go_roundw
          case rel => exact ⟨m + 1, j + 1, _, by go_num, by go_num, by omega, by omega, HK, hb3⟩
          case measure => simp [intOf]; omega
        · rw [hp] at HC
          have HC := Lib.hid HC
          have HP := Lib.hid hp
          clear hp
          go_wp2_with fail
          refine HC.out.mono ?_
          rintro e w2 ⟨rfl, hb2⟩
          have HK := Lib.hid (HD.out.skip HT.out HP.out hb2)
          have hb3 := hbr.trans (hb2.mono (Nat.le_trans hB hbr.size))
          clear hb2
          go_wp2
          go_roundw
          case rel => exact ⟨m, j + 1, _, rfl, by go_num, by omega, by omega, HK, hb3⟩
          case measure => simp [intOf]; omega
      · obtain rfl : j = n := by omega
        have hcells : ∀ t, t < j → ∃ y, wr.cell? ⟨g, t, none⟩ = some (.string y) ∧ wr.frozen? ⟨g, t, none⟩ = false := fun t ht => by
          obtain ⟨y, hy⟩ : ∃ y, l'[t]? = some y := ⟨_, List.getElem?_eq_getElem (by rw [HD.out.len]; exact ht)⟩
          obtain ⟨d1, f1⟩ := HD.out.own.cellf (fo := 0) (i := t) (x := y) (v := .string y) TS.ok HD.out.len.symm hy rfl
          simp only [TS, Nat.mul_one, Nat.add_zero] at d1 f1
          exact ⟨y, d1, f1⟩
        have hcl : ∀ ty, (Builtin.clear_ #[59] ty #[.slice (some ⟨g, m, none⟩) (j - m) (cap - m)]).run Tryz.prog wr = .ok (.tuple #[]) (wr.setCells g m (List.replicate (j - m) (.string ByteArray.empty))) := fun ty =>
          Lib.run_clear_slice wr _ _ ty (.string ByteArray.empty) Tryz.underlying59 Tryz.zeroValue9 rfl rfl g m _ _ (by omega) (fun t ht => by obtain ⟨y, h, _⟩ := hcells (m + t) (by omega); rw [h]; rfl) (fun t ht => by obtain ⟨y, _, h⟩ := hcells (m + t) (by omega); exact h)
        have HT := Lib.hid (TopS.sets (List.replicate (j - m) (.string ByteArray.empty)) m (top_of HD.out.own HD.out.len (by omega) (by omega) (by rw [HD.out.top, HN.out, List.take_length]) : TopS wr B g m cap ((ks.filter fun k => !q k).map baOf)) (Nat.le_refl _)).own
        have hb4 := Bl.sets hBg (List.replicate (j - m) (.string ByteArray.empty)) m hbr
        clear hcells
        go_wp2
        go_ret
        exact ⟨⟨_, rfl, HT.out⟩, hb4⟩
end Go.Proofs.YtbkglhakhahfpaaGreatDoor
namespace Go.Proofs.YtbkglhakhahfpaaGreatDoor
open Go.RowKit Go.Sort Go.Maps

theorem open_has {op : Sm Bool} (hv : ∀ p ∈ op, p.2 = true) (c : ByteArray) : Lib.containsS (op.keys.map baOf) c = (op.get c.data.toList).getD false := by
  have h1 : Lib.containsS (op.keys.map baOf) c = true ↔ c.data.toList ∈ op.keys := by
    rw [Lib.containsS_iff, List.mem_map]
    constructor
    · rintro ⟨k, hk, rfl⟩
      have := bsOf_baOf k
      unfold bsOf at this
      rw [this]; exact hk
    · intro h
      exact ⟨_, h, bsOf_inj (bsOf_baOf _)⟩
  cases hg : op.get c.data.toList with
  | none =>
    have h2 : ¬ Lib.containsS (op.keys.map baOf) c = true := fun h => by
      have h3 := Sm.has_iff.2 (h1.1 h)
      unfold Sm.has at h3
      rw [hg] at h3; cases h3
    simpa using h2
  | some v =>
    have hv2 : v = true := hv _ (Sm.get_mem hg)
    have h2 : Lib.containsS (op.keys.map baOf) c = true := h1.2 (Sm.has_iff.1 (by unfold Sm.has; rw [hg]; rfl))
    rw [h2, hv2]; rfl
/-- the reference's spelling of why. -/
def refR (al ob hot rpb : Bool) (k : Int) : Int :=
  if al = false then 11 else if k = 2 ∧ ob = true then 6 else if k = 4 ∧ ob = false then 8 else if (k = 1 ∧ hot = true) ∨ (k = 4 ∧ (hot = true ∨ rpb = true)) then 16 else 0
theorem refB_is {rh rr : Int} {b : Bd0} {s : Stp} (hk : 1 ≤ s.kd ∧ s.kd ≤ 6) (hs : 1 ≤ b.st ∧ b.st ≤ 6) : refB rh rr b s = refR ((fromS s.kd).contains b.st) (b.isOp s.co) (decide (rh ≤ b.he)) (decide (rr ≤ b.reps s.co)) s.kd := by
  unfold refB refR fromS
  generalize s.kd = k at *
  generalize b.st = t at *
  generalize b.isOp s.co = ob at *
  generalize b.reps s.co = rb at *
  generalize b.he = he at *
  have hk' : k = 1 ∨ k = 2 ∨ k = 3 ∨ k = 4 ∨ k = 5 ∨ k = 6 := by omega
  have ht' : t = 1 ∨ t = 2 ∨ t = 3 ∨ t = 4 ∨ t = 5 ∨ t = 6 := by omega
  rcases hk' with rfl | rfl | rfl | rfl | rfl | rfl <;> rcases ht' with rfl | rfl | rfl | rfl | rfl | rfl <;> simp [List.contains, List.elem] <;> cases ob <;> simp
  all_goals (by_cases h1 : rh ≤ he <;> by_cases h2 : rr ≤ rb <;> simp [h1, h2])
theorem HasI_any (zs : List Int) (g : Nat) (x : Int) (W : World) (hb : W.heap[g]? = some (.cells (zs.map (Value.int .i64)).toArray 3 (0, 0))) (hz : zs.length ≤ 1000) :
    Calls Tryz.prog 138 #[.slice (some ⟨g, 0, none⟩) zs.length zs.length, .int .i64 x] W fun e w' => e = .returned (.bool (zs.contains x)) ∧ Below W.heap.size W w' := by
  have := Tryz.slices_Contains_int g 0 zs.length zs.length zs x W (Nat.le_refl _) (by omega) (fun j hj => by
    rw [blk_cell hb, Nat.zero_add]
    simp [List.getD_eq_getElem?_getD, List.getElem?_eq_getElem hj])
  rw [List.take_length] at this
  exact this.mono fun e w' ⟨h1, h2⟩ => ⟨h1, h2 ▸ Below.refl _ _⟩
theorem fromS_len (k : Int) : (fromS k).length ≤ 1000 := by
  unfold fromS
  repeat' split
  all_goals decide
set_option maxHeartbeats 4000000 in
set_option maxRecDepth 100000 in
theorem RRefuses_any (S : Nat) (rh rr : Int) (L : Sm BdM) (s : Stp) (w : World) (h : ShR w S rh rr L) (hbd : s.bd.size ≤ 1000) (hco : s.co.size ≤ 1000) (hkd : 1 ≤ s.kd ∧ s.kd ≤ 6) (hl : L.length ≤ 100000)
    (hst : ∀ p ∈ L, 1 ≤ p.2.2.st ∧ p.2.2.st ≤ 6) (hop : ∀ p ∈ L, p.2.2.op.length ≤ 100000) :
    Calls Tryz.prog 192 #[.pointer (some ⟨S, 0, none⟩), stpV s] w fun e w' => ∃ (g : Nat) (b : Bd0), e = .returned (.int .i64 (refB rh rr b s)) ∧ ShR w' S rh rr (L.put s.bd.data.toList (g, b)) ∧ (L.get s.bd.data.toList = some (g, b) ∨ L.get s.bd.data.toList = none ∧ b = newB ∧ w.heap.size + 1 ≤ g) ∧ Kp w w' (fun i => i = S - 1) := by
  obtain ⟨at', bs, kd, cs⟩ := s
  have hbs : bs.size ≤ 1000 := hbd
  have hcs : cs.size ≤ 1000 := hco
  have hk1 : 1 ≤ kd ∧ kd ≤ 6 := hkd
  have hlS := h.lt
  have h2 := h.two
  obtain ⟨w0, hw0⟩ : ∃ w0, w0 = w.alloc (.cells #[.int .i64 at', .string bs, .int .i64 kd, .string cs] 133) := ⟨_, rfl⟩
  have hA : Below w.heap.size w w0 := by rw [hw0]; exact Bl.alloc (Below.refl _ _) _
  have hX0 : w0.heap[w.heap.size]? = some (.cells #[.int .i64 at', .string bs, .int .i64 kd, .string cs] 133 (0, 0)) := by rw [hw0]; exact blk_new w _
  have hz0 : w.heap.size < w0.heap.size := blk_lt hX0
  have c1 : w0.cell? ⟨w.heap.size, 1, none⟩ = some (.string bs) := blk_cell hX0 1
  have HBD := Lib.hid (RBoard_any S rh rr L bs w0 (h.below hA) (by unfold maxLen; omega) (by omega))
  have HX0 := Lib.hid hX0
  have HA := Lib.hid hA
  change Calls _ _ #[_, .agg #[.int .i64 at', .string bs, .int .i64 kd, .string cs]] _ _
  have HLP := Lib.hid (And.intro hst hop)
  clear hX0 hA h hst hop
  go_enter Tryz.func192, Tryz.ntmps192
  go_wp2_with fail
  rw [← hw0]
  clear hw0
  refine HBD.out.mono ?_
  rintro e w1 ⟨g, b, rfl, hS1, hor⟩
  obtain ⟨k, hkk⟩ : ∃ k, k = bs.data.toList := ⟨_, rfl⟩
  have hK1 : Kp w0 w1 (fun i => i = S - 1) := by
    rcases hor with ⟨_, e⟩ | ⟨_, _, _, hk⟩
    · rw [← e]; exact Kp.refl _ _
    · exact hk
  have hor2 : (L.get bs.data.toList = some (g, b) ∨ L.get bs.data.toList = none ∧ b = newB ∧ w.heap.size + 1 ≤ g) := by
    rcases hor with ⟨e, _⟩ | ⟨e1, e2, e3, _⟩
    · exact .inl e
    · exact .inr ⟨e1, e2, by omega⟩
  have hbok : (1 ≤ b.st ∧ b.st ≤ 6) ∧ b.op.length ≤ 100000 := by
    rcases hor2 with e | ⟨_, e, _⟩
    · exact ⟨HLP.out.1 _ (Sm.get_mem e), HLP.out.2 _ (Sm.get_mem e)⟩
    · rw [e]; decide
  have hX1 := hK1.blk HX0.out (by omega)
  have hgm := hS1.brd _ (Sm.get_mem (Sm.get_put_same L bs.data.toList (g, b)))
  obtain ⟨hgS, hLf⟩ := hgm
  obtain ⟨hg1, hrp, hopk, v, hgb, hov⟩ := hLf
  obtain ⟨W1, W2, W3, W4, W5, W6, r1, r2, r3, r4, r5, r6, hFM, hB6⟩ := from_all w1
  obtain ⟨va, vc, rfl, _, _⟩ := hov.form
  obtain ⟨ol, hol⟩ : ∃ n, n = (b.op.keys.map baOf).length := ⟨_, rfl⟩
  rw [← hol] at hov hgb
  have hov6 := (hov.below hB6).rec0
  have hX6 := blk_below hX1 hB6
  have hg6 := blk_below hgb hB6
  have hS6 := hS1.below hB6
  have HF := Lib.hid (And.intro hS6 (And.intro hor2 ((Kp.of_below (X := fun i => i = S - 1) HA.out).trans (hK1.trans (Kp.of_below hB6)))))
  have HFM := Lib.hid hFM
  have HRP := Lib.hid (hrp.below hB6)
  have hmm := @run_makeMap Tryz.prog
  obtain ⟨ob, hob⟩ : ∃ ob, ob = b.isOp cs := ⟨_, rfl⟩
  have HHS := Lib.hid (fun (d : Nat) (os : Array Obj) => Calls.regrown_of (w := W6) (d := d) (os := os) (v := .bool ob) (by
    have h9 := HasS_any (b.op.keys.map baOf) (.slice va ol vc) cs (grow (redrawn W6 d) os) (by rw [List.length_map, keys_len]; exact hbok.2) (hov6.below (below_regrown W6 d os))
    rw [open_has hopk.2] at h9
    rw [hob]
    exact h9.mono fun e w' ⟨h1, h2⟩ => ⟨h1, h2 ▸ Below.refl _ _⟩))
  obtain ⟨hS6b, hcpy⟩ : ∃ hh, hh = hS6.blk := ⟨_, rfl⟩
  have hS6 := hS6b
  have HKB := Lib.hid (And.intro hbok hopk)
  have HOB := Lib.hid hob
  have HKK := Lib.hid hkk
  have hzg : g < W6.heap.size := blk_lt hg6
  clear hcpy hor hK1 hX1 hrp hFM hS1 hB6 hS6b hob hov hov6 hgb hkk hol hbok hopk
  have p0 : W6.cell? ⟨g, 0, none⟩ = some (.int .i64 b.st) := blk_cell hg6 0
  have p2 : W6.cell? ⟨g, 2, none⟩ = some (.int .i64 b.he) := blk_cell hg6 2
  have p3 : W6.cell? ⟨g, 3, none⟩ = some (.slice va ol vc) := blk_cell hg6 3
  have p4 : W6.cell? ⟨g, 4, none⟩ = some (.map (some (g - 1))) := blk_cell hg6 4
  have s0 : W6.cell? ⟨S, 0, none⟩ = some (.int .i64 rh) := blk_cell hS6 0
  have s1 : W6.cell? ⟨S, 1, none⟩ = some (.int .i64 rr) := blk_cell hS6 1
  have x2 : W6.cell? ⟨w.heap.size, 2, none⟩ = some (.int .i64 kd) := blk_cell hX6 2
  have x3 : W6.cell? ⟨w.heap.size, 3, none⟩ = some (.string cs) := blk_cell hX6 3
  have e0 := cell_regrown p0
  have e1 := cell_regrown p2
  have e2 := cell_regrown p3
  have e3 := cell_regrown p4
  have e4 := cell_regrown s0
  have e5 := cell_regrown s1
  have e6 := cell_regrown x2
  have e7 := cell_regrown x3
  go_wp2_with fail
  refine wp_region_quiet_below (by kernel_rfl) (by kernel_rfl) ?_
  repeat (go_big_quiet_step ((go_at_call 127; exact HHS.out _ _)))
  refine wpQuiet_nil ?_
  intro W7 hw'
  obtain ⟨⟨dq, osq⟩, hw''⟩ := hw'
  have hb7 : Below W6.heap.size W6 W7 := hw'' ▸ below_regrown W6 dq osq
  clear hw'' e0 e1 e2 e3 e4 e5 e6 e7 p0 p2 p3 p4 s0 s1 x2 x3
  have hX7 := blk_below hX6 hb7
  have hg7 := blk_below hg6 hb7
  have hS7 := blk_below hS6 hb7
  have p0 : W7.cell? ⟨g, 0, none⟩ = some (.int .i64 b.st) := blk_cell hg7 0
  have p2 : W7.cell? ⟨g, 2, none⟩ = some (.int .i64 b.he) := blk_cell hg7 2
  have p3 : W7.cell? ⟨g, 3, none⟩ = some (.slice va ol vc) := blk_cell hg7 3
  have p4 : W7.cell? ⟨g, 4, none⟩ = some (.map (some (g - 1))) := blk_cell hg7 4
  have s0 : W7.cell? ⟨S, 0, none⟩ = some (.int .i64 rh) := blk_cell hS7 0
  have s1 : W7.cell? ⟨S, 1, none⟩ = some (.int .i64 rr) := blk_cell hS7 1
  have x2 : W7.cell? ⟨w.heap.size, 2, none⟩ = some (.int .i64 kd) := blk_cell hX7 2
  have x3 : W7.cell? ⟨w.heap.size, 3, none⟩ = some (.string cs) := blk_cell hX7 3
  have e0 := cell_regrown p0
  have e1 := cell_regrown p2
  have e2 := cell_regrown p3
  have e3 := cell_regrown p4
  have e4 := cell_regrown s0
  have e5 := cell_regrown s1
  have e6 := cell_regrown x2
  have e7 := cell_regrown x3
  clear HHS
  go_wp2_with fail
  refine wp_region_quiet_below (by kernel_rfl) (by kernel_rfl) ?_
  repeat (go_big_quiet_step (fail))
  refine wpQuiet_nil ?_
  intro W8 hw'
  obtain ⟨⟨dq, osq⟩, hw''⟩ := hw'
  have hb8 : Below W7.heap.size W7 W8 := hw'' ▸ below_regrown W7 dq osq
  clear hw'' e0 e1 e2 e3 e4 e5 e6 e7 p0 p2 p3 p4 s0 s1 x2 x3
  have hX8 := blk_below hX7 hb8
  have hg8 := blk_below hg7 hb8
  have hS8 := blk_below hS7 hb8
  have p0 : W8.cell? ⟨g, 0, none⟩ = some (.int .i64 b.st) := blk_cell hg8 0
  have p2 : W8.cell? ⟨g, 2, none⟩ = some (.int .i64 b.he) := blk_cell hg8 2
  have p3 : W8.cell? ⟨g, 3, none⟩ = some (.slice va ol vc) := blk_cell hg8 3
  have p4 : W8.cell? ⟨g, 4, none⟩ = some (.map (some (g - 1))) := blk_cell hg8 4
  have s0 : W8.cell? ⟨S, 0, none⟩ = some (.int .i64 rh) := blk_cell hS8 0
  have s1 : W8.cell? ⟨S, 1, none⟩ = some (.int .i64 rr) := blk_cell hS8 1
  have x2 : W8.cell? ⟨w.heap.size, 2, none⟩ = some (.int .i64 kd) := blk_cell hX8 2
  have x3 : W8.cell? ⟨w.heap.size, 3, none⟩ = some (.string cs) := blk_cell hX8 3
  have e0 := cell_regrown p0
  have e1 := cell_regrown p2
  have e2 := cell_regrown p3
  have e3 := cell_regrown p4
  have e4 := cell_regrown s0
  have e5 := cell_regrown s1
  have e6 := cell_regrown x2
  have e7 := cell_regrown x3
  have hb68 := Bl.trans hb7 hb8
  obtain ⟨fg, fn, hlook, hfn, hfb⟩ := (HFM.out.below hb68).at' kd hk1
  subst hfn
  have HLK := Lib.hid hlook
  have HFB := Lib.hid hfb
  obtain ⟨al, hal⟩ : ∃ al, al = (fromS kd).contains b.st := ⟨_, rfl⟩
  have HAL := Lib.hid hal
  have HHI := Lib.hid (fun (d : Nat) (os : Array Obj) => Calls.regrown_of (w := W8) (d := d) (os := os) (v := .bool al) (by
    rw [hal]
    exact HasI_any (fromS kd) fg b.st (grow (redrawn W8 d) os) (blk_below hfb (below_regrown W8 d os)) (fromS_len kd)))
  have el : ∀ (d : Nat) (os : Array Obj), (Instr.lookup 322 (.map (some w1.heap.size)) (.int .i64 kd) false).run Tryz.prog (grow (redrawn W8 d) os) = .ok (.slice (some ⟨fg, 0, none⟩) (fromS kd).length (fromS kd).length) (grow (redrawn W8 d) os) := fun d os => hlook _ (below_regrown W8 d os)
  have HB8 := Lib.hid hb68
  clear hal hfb hlook hb7 hb8 hb68
  go_wp2_with fail
  refine wp_region_quiet_below (by kernel_rfl) (by kernel_rfl) ?_
  repeat (go_big_quiet_step ((go_at_call 138; exact HHI.out _ _)))
  refine wpQuiet_nil ?_
  intro W9 hw'
  obtain ⟨⟨dq, osq⟩, hw''⟩ := hw'
  have hb9 : Below W8.heap.size W8 W9 := hw'' ▸ below_regrown W8 dq osq
  clear hw'' e0 e1 e2 e3 e4 e5 e6 e7 p0 p2 p3 p4 s0 s1 x2 x3
  have hX9 := blk_below hX8 hb9
  have hg9 := blk_below hg8 hb9
  have hS9 := blk_below hS8 hb9
  clear el HHI
  have HB9 := Lib.hid (Bl.trans HB8.out hb9)
  have HFF : Hid (ShR W9 S rh rr (L.put bs.data.toList (g, b)) ∧ (L.get bs.data.toList = some (g, b) ∨ L.get bs.data.toList = none ∧ b = newB ∧ w.heap.size + 1 ≤ g) ∧ Kp w W9 (fun i => i = S - 1)) := Lib.hid ⟨HF.out.1.below HB9.out, HF.out.2.1, HF.out.2.2.trans (Kp.of_below HB9.out)⟩
  obtain ⟨rb, hrb⟩ : ∃ rb, rb = b.reps cs := ⟨_, rfl⟩
  have hlk : (Instr.lookup 158 (.map (some (g - 1))) (.string cs) false).run Tryz.prog W9 = .ok (.int .i64 rb) W9 := by
    rw [hrb]; exact (HRP.out.below HB9.out).look TI.ok cs (by unfold maxLen; omega)
  have HL9 : Hid (∀ (d : Nat) (os : Array Obj), (Instr.lookup 158 (.map (some (g - 1))) (.string cs) false).run Tryz.prog (grow (redrawn W9 d) os) = .ok (.int .i64 rb) (grow (redrawn W9 d) os)) := Lib.hid fun d os => by
    rw [hrb]; exact ((HRP.out.below HB9.out).below (below_regrown W9 d os)).look TI.ok cs (by unfold maxLen; omega)
  have HV : Hid (refB rh rr b (at', bs, kd, cs) = refR al ob (decide (rh ≤ b.he)) (decide (rr ≤ rb)) kd) := Lib.hid (by
    rw [HAL.out, HOB.out, hrb]
    exact refB_is hk1 HKB.out.1.1)
  have HX9 := Lib.hid hX9
  clear hrb hlk hb9 HB8 HRP HF HFB HLK HFM hbd hco hkd
  cases al
  · have HVV : Hid (refB rh rr b (at', bs, kd, cs) = 11) := Lib.hid (by rw [HV.out]; simp [refR])
    have x2 : W9.cell? ⟨w.heap.size, 2, none⟩ = some (.int .i64 kd) := blk_cell hX9 2
    go_wp2_with fail
    go_ret
    exact ⟨g, b, by first | (rw [HVV.out] <;> rfl) | exact HVV.out.symm, HFF.out.1, HFF.out.2.1, HFF.out.2.2⟩
  · have hcase : kd = 1 ∨ kd = 2 ∨ kd = 3 ∨ kd = 4 ∨ kd = 5 ∨ kd = 6 := by omega
    rcases hcase with rfl | rfl | rfl | rfl | rfl | rfl
    · by_cases hh : rh ≤ b.he
      · have HVV : Hid (refB rh rr b (at', bs, 1, cs) = 16) := Lib.hid (by rw [HV.out]; simp [refR, hh])
        have x2 : W9.cell? ⟨w.heap.size, 2, none⟩ = some (.int .i64 1) := blk_cell hX9 2
        go_wp2_with fail
        go_ret
        exact ⟨g, b, by first | (rw [HVV.out] <;> rfl) | exact HVV.out.symm, HFF.out.1, HFF.out.2.1, HFF.out.2.2⟩
      · have HVV : Hid (refB rh rr b (at', bs, 1, cs) = 0) := Lib.hid (by rw [HV.out]; simp [refR, hh])
        have x2 : W9.cell? ⟨w.heap.size, 2, none⟩ = some (.int .i64 1) := blk_cell hX9 2
        go_wp2_with fail
        have e4 := cell_regrown x2
        refine wp_region_quiet_below (by kernel_rfl) (by kernel_rfl) ?_
        repeat (go_big_quiet_step (fail))
        refine wpQuiet_nil ?_
        intro Wa hw'
        obtain ⟨⟨dq, osq⟩, hw''⟩ := hw'
        have hba : Below W9.heap.size W9 Wa := hw'' ▸ below_regrown W9 dq osq
        have HFE := Lib.hid (And.intro (HFF.out.1.below hba) (And.intro HFF.out.2.1 (HFF.out.2.2.trans (Kp.of_below hba))))
        clear hw'' hba x2 e4
        go_wp2
        go_ret
        exact ⟨g, b, by first | (rw [HVV.out] <;> rfl) | exact HVV.out.symm, HFE.out.1, HFE.out.2.1, HFE.out.2.2⟩
    · cases ob
      · have HVV : Hid (refB rh rr b (at', bs, 2, cs) = 0) := Lib.hid (by rw [HV.out]; simp [refR])
        have x2 : W9.cell? ⟨w.heap.size, 2, none⟩ = some (.int .i64 2) := blk_cell hX9 2
        go_wp2_with fail
        have e4 := cell_regrown x2
        refine wp_region_quiet_below (by kernel_rfl) (by kernel_rfl) ?_
        repeat (go_big_quiet_step (fail))
        refine wpQuiet_nil ?_
        intro Wa hw'
        obtain ⟨⟨dq, osq⟩, hw''⟩ := hw'
        have hba : Below W9.heap.size W9 Wa := hw'' ▸ below_regrown W9 dq osq
        have HFE := Lib.hid (And.intro (HFF.out.1.below hba) (And.intro HFF.out.2.1 (HFF.out.2.2.trans (Kp.of_below hba))))
        clear hw'' hba x2 e4
        go_wp2
        go_ret
        exact ⟨g, b, by first | (rw [HVV.out] <;> rfl) | exact HVV.out.symm, HFE.out.1, HFE.out.2.1, HFE.out.2.2⟩
      · have HVV : Hid (refB rh rr b (at', bs, 2, cs) = 6) := Lib.hid (by rw [HV.out]; simp [refR])
        have x2 : W9.cell? ⟨w.heap.size, 2, none⟩ = some (.int .i64 2) := blk_cell hX9 2
        go_wp2_with fail
        go_ret
        exact ⟨g, b, by first | (rw [HVV.out] <;> rfl) | exact HVV.out.symm, HFF.out.1, HFF.out.2.1, HFF.out.2.2⟩
    · have HVV : Hid (refB rh rr b (at', bs, 3, cs) = 0) := Lib.hid (by rw [HV.out]; simp [refR])
      have x2 : W9.cell? ⟨w.heap.size, 2, none⟩ = some (.int .i64 3) := blk_cell hX9 2
      go_wp2_with fail
      have e4 := cell_regrown x2
      refine wp_region_quiet_below (by kernel_rfl) (by kernel_rfl) ?_
      repeat (go_big_quiet_step (fail))
      refine wpQuiet_nil ?_
      intro Wa hw'
      obtain ⟨⟨dq, osq⟩, hw''⟩ := hw'
      have hba : Below W9.heap.size W9 Wa := hw'' ▸ below_regrown W9 dq osq
      have HFE := Lib.hid (And.intro (HFF.out.1.below hba) (And.intro HFF.out.2.1 (HFF.out.2.2.trans (Kp.of_below hba))))
      clear hw'' hba x2 e4
      go_wp2
      go_ret
      exact ⟨g, b, by first | (rw [HVV.out] <;> rfl) | exact HVV.out.symm, HFE.out.1, HFE.out.2.1, HFE.out.2.2⟩
    · cases ob
      · have HVV : Hid (refB rh rr b (at', bs, 4, cs) = 8) := Lib.hid (by rw [HV.out]; simp [refR])
        have x2 : W9.cell? ⟨w.heap.size, 2, none⟩ = some (.int .i64 4) := blk_cell hX9 2
        go_wp2_with fail
        go_ret
        exact ⟨g, b, by first | (rw [HVV.out] <;> rfl) | exact HVV.out.symm, HFF.out.1, HFF.out.2.1, HFF.out.2.2⟩
      · by_cases hh : rh ≤ b.he
        · have HVV : Hid (refB rh rr b (at', bs, 4, cs) = 16) := Lib.hid (by rw [HV.out]; simp [refR, hh])
          have x2 : W9.cell? ⟨w.heap.size, 2, none⟩ = some (.int .i64 4) := blk_cell hX9 2
          go_wp2_with fail
          have e4 := cell_regrown x2
          have e0 := cell_regrown (show W9.cell? ⟨g, 4, none⟩ = some (.map (some (g - 1))) from blk_cell hg9 4)
          have e1 := cell_regrown (show W9.cell? ⟨S, 1, none⟩ = some (.int .i64 rr) from blk_cell hS9 1)
          have e2 := cell_regrown (show W9.cell? ⟨w.heap.size, 3, none⟩ = some (.string cs) from blk_cell hX9 3)
          have e3 := HL9.out
          (first | rw [decide_eq_true hh] | rw [decide_eq_false (show ¬ rh ≤ b.he by omega)])
          refine wp_region_quiet_below (by kernel_rfl) (by kernel_rfl) ?_
          repeat (go_big_quiet_step (fail))
          refine wpQuiet_nil ?_
          intro Wa hw'
          obtain ⟨⟨dq, osq⟩, hw''⟩ := hw'
          have hba : Below W9.heap.size W9 Wa := hw'' ▸ below_regrown W9 dq osq
          have HFE := Lib.hid (And.intro (HFF.out.1.below hba) (And.intro HFF.out.2.1 (HFF.out.2.2.trans (Kp.of_below hba))))
          clear hw'' hba x2 e4 e0 e1 e2 e3
          go_wp2
          go_ret
          exact ⟨g, b, by first | (rw [HVV.out] <;> rfl) | exact HVV.out.symm, HFE.out.1, HFE.out.2.1, HFE.out.2.2⟩
        · by_cases hr : rr ≤ rb
          · have HVV : Hid (refB rh rr b (at', bs, 4, cs) = 16) := Lib.hid (by rw [HV.out]; simp [refR, hh, hr])
            have x2 : W9.cell? ⟨w.heap.size, 2, none⟩ = some (.int .i64 4) := blk_cell hX9 2
            go_wp2_with fail
            have e4 := cell_regrown x2
            have e0 := cell_regrown (show W9.cell? ⟨g, 4, none⟩ = some (.map (some (g - 1))) from blk_cell hg9 4)
            have e1 := cell_regrown (show W9.cell? ⟨S, 1, none⟩ = some (.int .i64 rr) from blk_cell hS9 1)
            have e2 := cell_regrown (show W9.cell? ⟨w.heap.size, 3, none⟩ = some (.string cs) from blk_cell hX9 3)
            have e3 := HL9.out
            (first | rw [decide_eq_true hh] | rw [decide_eq_false (show ¬ rh ≤ b.he by omega)])
            refine wp_region_quiet_below (by kernel_rfl) (by kernel_rfl) ?_
            repeat (go_big_quiet_step (fail))
            refine wpQuiet_nil ?_
            intro Wa hw'
            obtain ⟨⟨dq, osq⟩, hw''⟩ := hw'
            have hba : Below W9.heap.size W9 Wa := hw'' ▸ below_regrown W9 dq osq
            have HFE := Lib.hid (And.intro (HFF.out.1.below hba) (And.intro HFF.out.2.1 (HFF.out.2.2.trans (Kp.of_below hba))))
            clear hw'' hba x2 e4 e0 e1 e2 e3
            go_wp2
            go_ret
            exact ⟨g, b, by first | (rw [HVV.out] <;> rfl) | exact HVV.out.symm, HFE.out.1, HFE.out.2.1, HFE.out.2.2⟩
          · have HVV : Hid (refB rh rr b (at', bs, 4, cs) = 0) := Lib.hid (by rw [HV.out]; simp [refR, hh, hr])
            have x2 : W9.cell? ⟨w.heap.size, 2, none⟩ = some (.int .i64 4) := blk_cell hX9 2
            go_wp2_with fail
            have e4 := cell_regrown x2
            have e0 := cell_regrown (show W9.cell? ⟨g, 4, none⟩ = some (.map (some (g - 1))) from blk_cell hg9 4)
            have e1 := cell_regrown (show W9.cell? ⟨S, 1, none⟩ = some (.int .i64 rr) from blk_cell hS9 1)
            have e2 := cell_regrown (show W9.cell? ⟨w.heap.size, 3, none⟩ = some (.string cs) from blk_cell hX9 3)
            have e3 := HL9.out
            (first | rw [decide_eq_true hh] | rw [decide_eq_false (show ¬ rh ≤ b.he by omega)])
            refine wp_region_quiet_below (by kernel_rfl) (by kernel_rfl) ?_
            repeat (go_big_quiet_step (fail))
            refine wpQuiet_nil ?_
            intro Wa hw'
            obtain ⟨⟨dq, osq⟩, hw''⟩ := hw'
            have hba : Below W9.heap.size W9 Wa := hw'' ▸ below_regrown W9 dq osq
            have HFE := Lib.hid (And.intro (HFF.out.1.below hba) (And.intro HFF.out.2.1 (HFF.out.2.2.trans (Kp.of_below hba))))
            clear hw'' hba x2 e4 e0 e1 e2 e3
            go_wp2
            go_ret
            exact ⟨g, b, by first | (rw [HVV.out] <;> rfl) | exact HVV.out.symm, HFE.out.1, HFE.out.2.1, HFE.out.2.2⟩
    · have HVV : Hid (refB rh rr b (at', bs, 5, cs) = 0) := Lib.hid (by rw [HV.out]; simp [refR])
      have x2 : W9.cell? ⟨w.heap.size, 2, none⟩ = some (.int .i64 5) := blk_cell hX9 2
      go_wp2_with fail
      have e4 := cell_regrown x2
      refine wp_region_quiet_below (by kernel_rfl) (by kernel_rfl) ?_
      repeat (go_big_quiet_step (fail))
      refine wpQuiet_nil ?_
      intro Wa hw'
      obtain ⟨⟨dq, osq⟩, hw''⟩ := hw'
      have hba : Below W9.heap.size W9 Wa := hw'' ▸ below_regrown W9 dq osq
      have HFE := Lib.hid (And.intro (HFF.out.1.below hba) (And.intro HFF.out.2.1 (HFF.out.2.2.trans (Kp.of_below hba))))
      clear hw'' hba x2 e4
      go_wp2
      go_ret
      exact ⟨g, b, by first | (rw [HVV.out] <;> rfl) | exact HVV.out.symm, HFE.out.1, HFE.out.2.1, HFE.out.2.2⟩
    · have HVV : Hid (refB rh rr b (at', bs, 6, cs) = 0) := Lib.hid (by rw [HV.out]; simp [refR])
      have x2 : W9.cell? ⟨w.heap.size, 2, none⟩ = some (.int .i64 6) := blk_cell hX9 2
      go_wp2_with fail
      have e4 := cell_regrown x2
      refine wp_region_quiet_below (by kernel_rfl) (by kernel_rfl) ?_
      repeat (go_big_quiet_step (fail))
      refine wpQuiet_nil ?_
      intro Wa hw'
      obtain ⟨⟨dq, osq⟩, hw''⟩ := hw'
      have hba : Below W9.heap.size W9 Wa := hw'' ▸ below_regrown W9 dq osq
      have HFE := Lib.hid (And.intro (HFF.out.1.below hba) (And.intro HFF.out.2.1 (HFF.out.2.2.trans (Kp.of_below hba))))
      clear hw'' hba x2 e4
      go_wp2
      go_ret
      exact ⟨g, b, by first | (rw [HVV.out] <;> rfl) | exact HVV.out.symm, HFE.out.1, HFE.out.2.1, HFE.out.2.2⟩
end Go.Proofs.YtbkglhakhahfpaaGreatDoor
