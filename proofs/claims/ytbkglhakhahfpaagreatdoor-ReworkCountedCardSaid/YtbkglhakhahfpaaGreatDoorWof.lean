/- How often each component failed: the closure of Worst. No conditions beyond a shop's. · The order of the components that failed: the closure of Worst's sort. No conditions. · How often each component failed: the program's side. Conditions: the library's table of powers of ten. · The reference's count of the components that failed: the stable sort of pairs in the order of their names. Conditions: at most 19 components. -/
import Derived.Test.YtbkglhakhahfpaaGreatDoorAcc
import Derived.Test.YtbkglhakhahfpaaGreatDoorLpo
import Derived.Test.YtbkglhakhahfpaaGreatDoorCmq
import Derived.Deep.RegionHeld2
import Derived.Test.YtbkglhakhahfpaaGreatDoorStep
import Derived.Deep.RegionLaw
namespace Go.Proofs.YtbkglhakhahfpaaGreatDoor
open Go.RowKit Go.Sort Go.Maps

def cntS (q : Sm Int) (s : Stp) : Sm Int := if s.kd = 2 then q.put s.co.data.toList ((q.get s.co.data.toList).getD 0 + 1) else q
def cntL (q : Sm Int) (l : List Stp) : Sm Int := l.foldl cntS q
/-- few, none below one. -/
def CntOk (q : Sm Int) (n : Nat) : Prop := Sm.Ok q ∧ q.length ≤ n ∧ ∀ p ∈ q, 1 ≤ p.2 ∧ p.2 ≤ n
theorem CntOk.get {q : Sm Int} {n : Nat} (h : CntOk q n) (k : Bs) : 0 ≤ (q.get k).getD 0 ∧ (q.get k).getD 0 ≤ n := by
  cases hg : q.get k with
  | none => exact ⟨Int.le_refl _, Int.natCast_nonneg n⟩
  | some x => have := h.2.2 _ (Sm.get_mem hg); exact ⟨by show 0 ≤ x; omega, this.2⟩
theorem CntOk.step {q : Sm Int} {n : Nat} (h : CntOk q n) (s : Stp) : CntOk (cntS q s) (n + 1) := by
  have hg := h.get s.co.data.toList
  unfold cntS
  split
  · refine ⟨h.1.put _ _, Nat.le_trans (Sm.put_le _ _ _) (Nat.succ_le_succ h.2.1), fun p hp => ?_⟩
    rcases Sm.put_mem.1 hp with rfl | ⟨hp, _⟩
    · exact ⟨by show 1 ≤ _ + 1; omega, by show _ + 1 ≤ _; omega⟩
    · have := h.2.2 p hp; exact ⟨this.1, by omega⟩
  · exact ⟨h.1, Nat.le_succ_of_le h.2.1, fun p hp => by have := h.2.2 p hp; exact ⟨this.1, by omega⟩⟩
theorem cntL_ok : ∀ (l : List Stp) (q : Sm Int) (n : Nat), CntOk q n → CntOk (cntL q l) (n + l.length)
  | [], _, _, h => h
  | s :: l, q, n, h => by
    have := cntL_ok l (cntS q s) (n + 1) (h.step s)
    rw [show n + (s :: l).length = n + 1 + l.length by simp; omega]
    exact this
theorem CntOk.nil : CntOk [] 0 := ⟨Sm.Ok.nil, Nat.le_refl _, fun p hp => by cases hp⟩
theorem Worst1_no (i : Nat) (R : Int) (s : Stp) (l : List Stp) (v : Value) (X : Nat) (y : Value) (W : World) (hs : l[i]? = some s) (rl : RecR TSt W 0 v l) (hX : W.heap[X]? = some (.cells #[v] 29 (0, 0))) (hno : ¬ (R = 0 ∧ s.kd = 2)) :
    Calls Tryz.prog 99 #[.int .i64 i, .int .i64 R, .pointer (some ⟨X, 0, none⟩), y] W fun e w' => e = .returned (.tuple #[]) ∧ W = w' := by
  obtain ⟨at1, bs, kd, cs⟩ := s
  obtain ⟨va, vc, rfl, _, _⟩ := rl.form
  obtain ⟨b1, o1, rfl, _, hbb1, hc1⟩ := rl.at TSt.ok.len hs TSt.ok.pos
  have hil := (List.getElem?_eq_some_iff.1 hs).1
  have c2 : W.cell? ⟨b1, o1 + i * 4 + 2, none⟩ = some (.int .i64 kd) := hc1 2 _ rfl
  have k0 : W.cell? ⟨X, 0, none⟩ = some (.slice (some ⟨b1, o1, none⟩) l.length vc) := blk_cell hX 0
  have lX := blk_lt hX
  have hno : ¬ (R = 0 ∧ kd = 2) := hno
  by_cases h0 : R = 0
  · have hr : (R == 0) = true := by simp [h0]
    have n2 : ¬ kd = 2 := fun e => hno ⟨h0, e⟩
    have e2 : (kd == 2) = false := by simpa using n2
    clear hno hX hc1 rl hs
    go_enter Tryz.func99, Tryz.ntmps99
    go_wp2
    go_end0
    exact ⟨rfl, rfl⟩
  · have hr : (R == 0) = false := by simp [h0]
    clear hno hX hc1 rl hs
    go_enter Tryz.func99, Tryz.ntmps99
    go_wp2
    go_end0
    exact ⟨rfl, rfl⟩
set_option maxHeartbeats 4000000 in
set_option maxRecDepth 100000 in
theorem Worst1_yes (i n : Nat) (s : Stp) (q : Sm Int) (l : List Stp) (v : Value) (X Y M : Nat) (W : World) (hs : l[i]? = some s) (rl : RecR TSt W 0 v l) (hX : W.heap[X]? = some (.cells #[v] 29 (0, 0)))
    (hY : W.heap[Y]? = some (.cells #[.map (some M)] 158 (0, 0))) (hM : MapS TI W M q) (hb : s.co.size ≤ 1000) (hq : CntOk q n) (hn : n ≤ 100000) (hk : s.kd = 2) :
    Calls Tryz.prog 99 #[.int .i64 i, .int .i64 0, .pointer (some ⟨X, 0, none⟩), .pointer (some ⟨Y, 0, none⟩)] W fun e w' => e = .returned (.tuple #[]) ∧ MapS TI w' M (cntS q s) ∧ Kp W w' (fun i => i = M) := by
  obtain ⟨at1, bs, kd, cs⟩ := s
  obtain rfl : kd = 2 := hk
  obtain ⟨va, vc, rfl, _, _⟩ := rl.form
  obtain ⟨b1, o1, rfl, _, hbb1, hc1⟩ := rl.at TSt.ok.len hs TSt.ok.pos
  have hil := (List.getElem?_eq_some_iff.1 hs).1
  have c2 : W.cell? ⟨b1, o1 + i * 4 + 2, none⟩ = some (.int .i64 2) := hc1 2 _ rfl
  have c3 : W.cell? ⟨b1, o1 + i * 4 + 3, none⟩ = some (.string cs) := hc1 3 _ rfl
  have k0 : W.cell? ⟨X, 0, none⟩ = some (.slice (some ⟨b1, o1, none⟩) l.length vc) := blk_cell hX 0
  have k1 : W.cell? ⟨Y, 0, none⟩ = some (.map (some M)) := blk_cell hY 0
  have lX := blk_lt hX
  have lY := blk_lt hY
  have hcs : cs.size ≤ maxLen := by unfold maxLen; have : cs.size ≤ 1000 := hb; omega
  have hlk := hM.drew.look TI.ok cs hcs
  have hxb := hq.get cs.data.toList
  have hln := hq.2.1
  obtain ⟨x, hx⟩ : ∃ x, x = (q.get cs.data.toList).getD 0 := ⟨_, rfl⟩
  rw [show (q.get cs.data.toList).getD TI.z = x from hx.symm] at hlk
  rw [← hx] at hxb
  obtain ⟨w3, hrun3, hM3, ht3⟩ := hM.drew.put TI.ok cs hcs (x + 1) (by unfold maxLen; omega)
  have hg3 := ht3.grown
  have hK3 : Kp W w3 (fun i => i = M) := Kp.of_gr (a := W) ⟨hg3.os, hg3.tape, hg3.output, hg3.size, hg3.block⟩ rfl
  have hMq : MapS TI w3 M (cntS q (at1, bs, 2, cs)) := by
    unfold cntS
    rw [if_pos rfl, ← hx]
    exact hM3
  have hwx : IntKind.i64.wrap (x + 1) = x + 1 := by rw [IntWalk.i64_in _ (by omega)]
  simp only [TI] at hrun3 hlk
  have HF := Lib.hid (And.intro hMq hK3)
  clear hMq hK3 hM3 ht3 hg3 hq hM hX hY rl hs hc1 hb hx
  go_enter Tryz.func99, Tryz.ntmps99
  go_wp2
  go_region
  all_goals (
    go_wp2
    go_end0
    exact ⟨rfl, HF.out.1, HF.out.2⟩)
/-- what the closure of Worst keeps. -/
structure WoJ (rh rr : Int) (l : List Stp) (w0 : World) (Bb Y M : Nat) (k : Nat) (m : Sm Bd0) (W : World) : Prop where
  bel : Below Bb w0 W
  ex : ∃ q : Sm Int, cntL [] (accL rh rr [] l) = cntL q (accL rh rr m (l.drop k)) ∧ CntOk q k ∧ W.heap[Y]? = some (.cells #[.map (some M)] 158 (0, 0)) ∧ MapS TI W M q
theorem wo_fc (rh rr : Int) (l : List Stp) (v : Value) (w0 : World) (X Y M Bb : Nat) (rl : ∀ W, Below Bb w0 W → RecR TSt W 0 v l) (hX : w0.heap[X]? = some (.cells #[v] 29 (0, 0))) (hXb : X < Bb)
    (hY : Y < w0.heap.size) (hM : M < w0.heap.size) (hbM : Bb ≤ M) (hMY : M ≠ Y) (hl : l.length ≤ 100000) (hsm : ∀ s ∈ l, s.co.size ≤ 1000) :
    FcC 99 (fun a b => #[a, b, .pointer (some ⟨X, 0, none⟩), .pointer (some ⟨Y, 0, none⟩)]) rh rr l Bb w0 (WoJ rh rr l w0 Bb Y M) where
  st := fun k m W W' hW h hb' => by
    obtain ⟨q, h1, h2, h4, h6⟩ := h.ex
    exact ⟨h.bel.trans (hb'.mono (by omega)), q, h1, h2, blk_below h4 hb', h6.below hb'⟩
  dd := fun k m W W' S L hS h hL hK => by
    obtain ⟨q, h1, h2, h4, h6⟩ := h.ex
    have hno : ∀ i, i < w0.heap.size → ¬ DoX S L i := fun i hi hx => by
      rcases hx with rfl | ⟨p, hp, hx⟩
      · omega
      · have a := (hL.brd p hp).1; have b := hx.1; have c := hL.two; omega
    exact ⟨h.bel.trans ((DoX.below hL hK).mono (by omega)), q, h1, h2, hK.blk h4 (hno Y hY), hK.ms h6 (hno M hM)⟩
  call := fun k m s W S L hs hS hW h hL hLm => by
    obtain ⟨q, h1, h2, h4, h6⟩ := h.ex
    have hkl := (List.getElem?_eq_some_iff.1 hs).1
    have hX' : W.heap[X]? = some (.cells #[v] 29 (0, 0)) := (h.bel.block X hXb).trans hX
    have hco := hsm s (List.mem_of_getElem? hs)
    by_cases hy : (doS rh rr m s).2 = 0 ∧ s.kd = 2
    · rw [hy.1]
      refine (Worst1_yes k k s q l v X Y M W hs (rl W h.bel) hX' h4 h6 hco h2 (by omega) hy.2).mono ?_
      rintro e w' ⟨rfl, a2, a3⟩
      have hB' : Below Bb W w' := a3.below (fun i _ hi => by omega) (by omega)
      exact ⟨rfl, ⟨h.bel.trans hB', cntS q s, by rw [h1, accL_go hs hy.1]; rfl, h2.step s, a3.blk h4 (by omega), a2⟩, hL.keep a3 fun i hi => by omega, hB'⟩
    · refine (Worst1_no k _ s l v X _ W hs (rl W h.bel) hX' hy).mono ?_
      rintro e w' ⟨rfl, rfl⟩
      refine ⟨rfl, ⟨h.bel, q, ?_, ⟨h2.1, by have := h2.2.1; omega, fun p hp => by have := h2.2.2 p hp; exact ⟨this.1, by omega⟩⟩, h4, h6⟩, hL, Below.refl _ _⟩
      rw [h1]
      by_cases h0 : (doS rh rr m s).2 = 0
      · rw [accL_go hs h0]
        show cntL (cntS q s) _ = _
        rw [show cntS q s = q by unfold cntS; rw [if_neg fun e => hy ⟨h0, e⟩]]
      · rw [accL_no hs h0]
end Go.Proofs.YtbkglhakhahfpaaGreatDoor
namespace Go.Proofs.YtbkglhakhahfpaaGreatDoor
open Go.RowKit Go.Sort Go.Maps Go.Shelf Go.Lib

def TCt : Rty (Bs × Int) := { e := 164, S := 162, k := 2, b := 24, z := .agg #[.string ByteArray.empty, .int .i64 0], f := fun p => [.string (baOf p.1), .int .i64 p.2] }
theorem TCt.ok : TCt.Ok := ⟨by kernel_rfl, Tryz.underlying162, rfl, by decide, fun _ => rfl, fun x u hu => by simp [TCt] at hu; rcases hu with rfl | rfl <;> rfl, by decide⟩
def cfC (p q : Bs × Int) : Int := orF [cmpI q.2 p.2, Lib.compareBytes p.1 q.1]
/-- more often, or as often and earlier by name. -/
theorem ltC (p q : Bs × Int) : ltOf cfC p q = (decide (q.2 < p.2) || (decide (q.2 = p.2) && bytesBefore p.1 q.1)) := by
  unfold ltOf cfC cmpI orF
  by_cases h1 : q.2 < p.2
  · simp [h1]
  · by_cases h2 : p.2 < q.2
    · have : ¬ q.2 = p.2 := by omega
      simp [h1, h2, this]
    · have : q.2 = p.2 := by omega
      have hc := cmpB_lt p.1 q.1
      by_cases h3 : Lib.compareBytes p.1 q.1 = 0
      · have h4 : bytesBefore p.1 q.1 = false := by rw [← Bool.not_eq_true, ← hc]; omega
        simp [this, h3, h4, orF]
      · rw [Bool.eq_iff_iff]
        simp [this, h3, orF, hc]
theorem swoC : SWO (ltOf cfC) where
  irrefl x := by rw [ltC]; simp [WideAt.bytes_irrefl]
  trans x y z h1 h2 := by
    rw [ltC] at *
    simp only [Bool.or_eq_true, Bool.and_eq_true, decide_eq_true_eq] at *
    rcases h1 with h1 | ⟨h1, h1'⟩
    · rcases h2 with h2 | ⟨h2, _⟩
      · left; omega
      · left; omega
    · rcases h2 with h2 | ⟨h2, h2'⟩
      · left; omega
      · right; exact ⟨by omega, WideShapes.bytes_trans _ _ _ h1' h2'⟩
  ntrans x y z h1 h2 := by
    rw [ltC] at *
    simp only [Bool.or_eq_false_iff, Bool.and_eq_false_iff, decide_eq_false_iff_not] at *
    obtain ⟨a1, a2⟩ := h1
    obtain ⟨b1, b2⟩ := h2
    refine ⟨by omega, ?_⟩
    by_cases e : z.2 = x.2
    · right
      have e1 : y.2 = x.2 := by omega
      have e2 : z.2 = y.2 := by omega
      exact bb_ntrans (a2.resolve_left fun h => h e1) (b2.resolve_left fun h => h e2)
    · exact .inl e
set_option maxHeartbeats 4000000 in
set_option maxRecDepth 100000 in
theorem Worst2_any (x y : Bs × Int) (W : World) : Calls Tryz.prog 101 #[.agg #[.string (baOf x.1), .int .i64 x.2], .agg #[.string (baOf y.1), .int .i64 y.2]] W fun e w' => e = .returned (.int .i64 (cfC x y)) ∧ ∃ q os', w' = grow (W.drewN q) os' := by
  have hA := blk_old (blk_new W (.cells #[.string (baOf x.1), .int .i64 x.2] 164)) (.cells #[.string (baOf y.1), .int .i64 y.2] 164)
  have hB := blk_new' (W.alloc (.cells #[.string (baOf x.1), .int .i64 x.2] 164)) (.cells #[.string (baOf y.1), .int .i64 y.2] 164) (g := W.heap.size + 1) (by simp)
  have hcon := fun W' => Tryz.strings_Compare (baOf x.1) (baOf y.1) W'
  rw [show (baOf x.1).data.toList = x.1 from bsOf_baOf x.1, show (baOf y.1).data.toList = y.1 from bsOf_baOf y.1] at hcon
  have HG : Hid (∀ o : Obj, ∃ q os', (((W.alloc (.cells #[.string (baOf x.1), .int .i64 x.2] 164)).alloc (.cells #[.string (baOf y.1), .int .i64 y.2] 164)).alloc o).drew = grow (W.drewN q) os') := Lib.hid fun o => ⟨1, _, by rw [alloc_eq_grow, alloc_eq_grow, alloc_eq_grow, grow_grow, grow_grow]; rfl⟩
  unfold cfC
  generalize Lib.compareBytes x.1 y.1 = r at hcon ⊢
  generalize baOf x.1 = xb at *
  generalize baOf y.1 = yb at *
  go_enter Tryz.func101, Tryz.ntmps101
  go_wp2
  generalize (W.alloc (.cells #[.string xb, .int .i64 x.2] 164)).alloc (.cells #[.string yb, .int .i64 y.2] 164) = w2 at *
  have c1 := blk_cell hA 0
  have c2 := blk_cell hA 1
  have c4 := blk_cell hB 0
  have c5 := blk_cell hB 1
  have HOR := Lib.hid (OrInt_any [cmpI y.2 x.2, r] (.slice (some ⟨w2.heap.size, 0, none⟩) 2 2) (w2.alloc (.cells #[.int .i64 (cmpI y.2 x.2), .int .i64 r] 3)).drew (by simp)
          (Ints.of_blk (show (w2.alloc (.cells #[.int .i64 (cmpI y.2 x.2), .int .i64 r] 3)).drew.heap[w2.heap.size]? = _ from blk_new w2 _) rfl rfl (Nat.le_refl _) (by simp) (Nat.zero_le _)))
  have HCO := Lib.hid hcon
  clear hA hB hcon
  go_region_held2 (fun U : World => U.cell? ⟨W.heap.size, 0, none⟩ = some (.string xb) ∧ U.cell? ⟨W.heap.size, 1, none⟩ = some (.int .i64 x.2) ∧ U.cell? ⟨W.heap.size + 1, 0, none⟩ = some (.string yb) ∧ U.cell? ⟨W.heap.size + 1, 1, none⟩ = some (.int .i64 y.2))
    (go_keep)
    (first
      | (go_at_call 103; refine (cmpInt_any _ _ _).mono ?_; rintro e w' ⟨rfl, rfl⟩)
      | (go_at_call 104; refine (HCO.out _).mono ?_; rintro e w' ⟨rfl, rfl⟩)
      | (go_at_call 102; refine HOR.out.mono ?_; rintro e w' ⟨rfl, rfl⟩))
  all_goals (
    go_wp2
    go_ret
    exact ⟨rfl, HG.out _⟩)
end Go.Proofs.YtbkglhakhahfpaaGreatDoor
namespace Go.Proofs.YtbkglhakhahfpaaGreatDoor
open Go.RowKit Go.Sort Go.Maps Go.Shelf Go.Lib

/-- the pairs of a map, those that are counted most first. -/
def Wst (m : Sm Int) (l : List (Bs × Int)) : Prop := l.Perm m ∧ l.Pairwise fun a b => ltOf cfC b a = false
theorem Wst.uniq {m : Sm Int} {l l' : List (Bs × Int)} (h : Wst m l) (h' : Wst m l') : l = l' := by
  refine List.Perm.eq_of_pairwise (le := fun a b => ltOf cfC b a = false) (fun a b _ _ h1 h2 => ?_) h.2 h'.2 (h.1.trans h'.1.symm)
  rw [ltC] at h1 h2
  simp only [Bool.or_eq_false_iff, Bool.and_eq_false_iff, decide_eq_false_iff_not] at h1 h2
  have e : a.2 = b.2 := by omega
  have e1 : a.1 = b.1 := by
    apply Classical.byContradiction
    intro hne
    rcases WideAt.bytes_total _ _ hne with h3 | h3
    · rw [h2.2.resolve_left fun h => h e.symm] at h3; cases h3
    · rw [h1.2.resolve_left fun h => h e] at h3; cases h3
  exact Prod.ext e1 e
theorem countSort_any (w : World) (B : Nat) (hB : B ≤ w.heap.size) (l : List (Bs × Int)) (v : Value) (ho : OwnR TCt w B v l) (hl : l.length ≤ 1000000) {m : Sm Int} (hp : l.Perm m) :
    Calls Tryz.prog 100 #[v, .func (.func 101) #[] #[]] w fun e w' => e = .returned (.tuple #[]) ∧ ∃ l', Wst m l' ∧ OwnR TCt w' B v l' ∧ Below B w w' := by
  by_cases h0 : l = []
  · subst h0
    obtain ⟨a, cap, rfl, _, _⟩ := ho.form
    exact (AnyF.slices_SortFunc_none Tryz.sortC a cap (.func (.func 101) #[] #[]) w).mono fun e w' ⟨he, hw⟩ => ⟨he, [], ⟨hp, List.Pairwise.nil⟩, by rw [hw]; exact ho, by rw [hw]; exact Below.refl _ _⟩
  · refine (sortRow_any Tryz.sortC TCt.ok TCt.ok.one Tryz.isAgg164 Tryz.sizeOf164 cfC swoC 101 #[] (enters_of Tryz.func101 (by kernel_rfl) rfl) w B hB l v ho h0 hl (fun W _ x y => Worst2_any x y W)).mono ?_
    rintro e w' ⟨rfl, l', h1, h2, h3, h4⟩
    exact ⟨rfl, l', ⟨h1.trans hp, h2⟩, h3, h4⟩
def worA (rh rr : Int) (l : List Stp) : Sm Int := if fltF rh rr l = 0 then cntL [] (accL rh rr [] l) else []
set_option maxHeartbeats 4000000 in
set_option maxRecDepth 100000 in
theorem Worst_any (rh rr : Int) (l : List Stp) (v : Value) (w : World) (hT : TxW w) (hl : l.length ≤ 1000000) (rl : RecR TSt w 0 v l) (hz : StpZ l) :
    Calls Tryz.prog 17 #[.agg #[.int .i64 rh, .int .i64 rr], v] w fun e w' => (∃ v' l', e = .returned (.tuple #[v', .int .i64 (fltF rh rr l)]) ∧ Wst (worA rh rr l) l' ∧ OwnR TPr w' w.heap.size v' (l'.map prOf)) ∧ Below w.heap.size w w' := by
  have hR0 := blk_old (blk_new w (.cells #[.int .i64 rh, .int .i64 rr] 27)) (.cells #[v] 29)
  have hL0 := blk_new' (w.alloc (.cells #[.int .i64 rh, .int .i64 rr] 27)) (.cells #[v] 29) (g := w.heap.size + 1) (by simp)
  have hb0 := Bl.alloc (Bl.alloc (Below.refl w.heap.size w) (.cells #[.int .i64 rh, .int .i64 rr] 27)) (.cells #[v] 29)
  have HF := Lib.hid (fault_any rh rr l v _ hl (rl.below hb0) hz)
  obtain ⟨F, hF⟩ : ∃ F, F = fltF rh rr l := ⟨_, rfl⟩
  rw [← hF] at HF
  obtain ⟨R, hR⟩ : ∃ R, R = worA rh rr l := ⟨_, rfl⟩
  rw [← hF, ← hR]
  have HRD := Lib.hid (show R = if F = 0 then cntL [] (accL rh rr [] l) else [] by rw [hR, hF]; rfl)
  have HFE := Lib.hid hF
  have RL := Lib.hid fun U (hU : Below w.heap.size w U) => rl.below hU
  have HT := Lib.hid fun U (hU : Below w.heap.size w U) => hT.below hU
  have HR0 := Lib.hid (And.intro hR0 (And.intro hb0 hL0))
  obtain ⟨va, vc, rfl, _, _⟩ := rl.form
  clear hF hR rl hz hR0 hb0 hL0 hT
  by_cases h0 : F = 0
  · have HZ := Lib.hid (fltF_zero (HFE.out ▸ h0))
    subst h0
    have HRM : Hid (R = cntL [] (accL rh rr [] l)) := Lib.hid (by rw [HRD.out, if_pos rfl])
    have hll := (stepsF_right HZ.out.2).1
    clear HRD
    go_enter Tryz.func17, Tryz.ntmps17
    go_wp2_with fail
    refine HF.out.mono ?_
    rintro e w1 ⟨rfl, hb1⟩
    have hB1 := Bl.trans HR0.out.2.1 hb1
    have hR1 := blk_below HR0.out.1 hb1
    have hL1 := blk_below HR0.out.2.2 hb1
    have lR1 := blk_lt hR1
    have lL1 := blk_lt hL1
    obtain ⟨w2, hw2⟩ : ∃ w2, w2 = (w1.alloc (.map #[] 0)).alloc (.cells #[.map (some w1.heap.size)] 158) := ⟨_, rfl⟩
    have hb2 : Below w1.heap.size w1 w2 := by rw [hw2]; exact Bl.alloc (Bl.alloc (Below.refl _ _) _) _
    have hM2 : MapS TI w2 w1.heap.size [] := MapS.of_blk (by rw [hw2]; exact blk_old (blk_new w1 _) _)
    have hY2 : w2.heap[w1.heap.size + 1]? = some (.cells #[.map (some w1.heap.size)] 158 (0, 0)) := by rw [hw2]; exact blk_new' _ _ (by simp)
    have hz1 := hB1.size
    have p0 : ((w1.alloc (.map #[] 0)).alloc (.cells #[.map (some w1.heap.size)] 158)).cell? ⟨w.heap.size, 0, none⟩ = some (.int .i64 rh) := by rw [← hw2]; exact blk_cell (blk_below hR1 hb2) 0
    have p1 : ((w1.alloc (.map #[] 0)).alloc (.cells #[.map (some w1.heap.size)] 158)).cell? ⟨w.heap.size, 1, none⟩ = some (.int .i64 rr) := by rw [← hw2]; exact blk_cell (blk_below hR1 hb2) 1
    have p2 : ((w1.alloc (.map #[] 0)).alloc (.cells #[.map (some w1.heap.size)] 158)).cell? ⟨w.heap.size + 1, 0, none⟩ = some (.slice va l.length vc) := by rw [← hw2]; exact blk_cell (blk_below hL1 hb2) 0
    have HFO := Lib.hid (followC_any 99 #[.pointer (some ⟨w.heap.size + 1, 0, none⟩), .pointer (some ⟨w1.heap.size + 1, 0, none⟩)] (fun a b => #[a, b, .pointer (some ⟨w.heap.size + 1, 0, none⟩), .pointer (some ⟨w1.heap.size + 1, 0, none⟩)]) (.pointer (some ⟨w.heap.size + 1, 0, none⟩)) (.pointer (some ⟨w1.heap.size + 1, 0, none⟩)) (.int .i64 0)
      (by first | exact .inl ⟨rfl, rfl, rfl⟩ | exact .inr (.inl ⟨rfl, rfl, rfl⟩) | exact .inr (.inr (.inl ⟨rfl, rfl, rfl⟩))) rh rr 345686400000 l (.slice va l.length vc) w2 w1.heap.size (WoJ rh rr l w2 w1.heap.size (w1.heap.size + 1) w1.heap.size) hb2.size
      (wo_fc rh rr l _ w2 _ _ _ w1.heap.size (fun W hW => RL.out W (hB1.trans ((hb2.trans hW).mono hz1))) (blk_below hL1 hb2) (by omega) (blk_lt hY2) hM2.lt (Nat.le_refl _) (by omega) (by omega) (fun s hs => by have := ((stepsF_right HZ.out.2).2.1 s hs).co; omega))
      (fun W hW => RL.out W (Below.trans hB1 ((hb2.trans hW).mono hz1))) HZ.out.2 (fun s hs => by have := ((stepsF_right HZ.out.2).2.1 s hs).a1; omega)
      (fun W hW => ⟨hW.mono hb2.size, [], by rw [List.drop_zero], CntOk.nil, blk_below hY2 hW, hM2.below hW⟩))
    have HB2 := Lib.hid (Below.trans hB1 (hb2.mono hz1))
    clear hb1 hb2 hM2 hY2 hR1 hL1 hB1 HF
    have hmm := @run_makeMap Tryz.prog
    go_wp2_with fail
    clear hmm
    rw [← hw2]
    clear hw2 p0 p1 p2
    refine HFO.out.mono ?_
    rintro e w3 ⟨⟨S, rfl, hs⟩, hJ, hb3⟩
    obtain ⟨q, h1, h2, h4, h6⟩ := hJ.ex
    have HQR : Hid (R = q) := Lib.hid (by rw [HRM.out, h1, List.drop_length]; rfl)
    have c0 : w3.cell? ⟨w1.heap.size + 1, 0, none⟩ = some (.map (some w1.heap.size)) := blk_cell h4 0
    have lY := blk_lt h4
    have hO2 := h6.2
    have HQ := Lib.hid h2
    have HB3 := Lib.hid (HB2.out.trans (hb3.mono hz1))
    have hz3 := HB3.out.size
    clear h1 h4 h6 hJ hs hb3 HFO h2 HB2
    generalize w1.heap.size = M at *
    go_wp2_with (first
      | (at_range; refine wpList_range_own _ rfl _ 158 rfl 9 3 strKd Tryz.underlying158 _ M q.length (.map (smD TI q)) rfl hO2 ?_; intro w0 hrg0 hg0 hs0)
      | go_in)
    (try go_frame)
    go_loopw [8] (fun ov wr => ∃ (acc : List (Bs × Int)) (left : Lit → Bool) (cnt : Nat), wr.ranges Tryz.prog 9 TI.R M w3.heap.size q.length (.map (smD TI q)) left cnt ∧ OwnR TCt wr w3.heap.size ov acc ∧ Hid (((acc.map (·.1)).Nodup ∧ ∀ k, k ∈ acc.map (·.1) ↔ ∃ b, q.get k = some b ∧ left (.string k) = false) ∧ ∀ p ∈ acc, q.get p.1 = some p.2) ∧ Below w3.heap.size w3 wr ∧ w3.heap.size < wr.heap.size) (fun _ wr => wr.rangeLeft M w3.heap.size)
    case atStart => exact ⟨[], _, _, hrg0, OwnR.nil _ _, Lib.hid ⟨gatherA_none, fun p hp => by cases hp⟩, Gr.below_none hg0, by omega⟩
    case round =>
      obtain ⟨acc, left, cnt, hrg, hO, HA, hbr, hsz⟩ := hrel
      obtain ⟨oa, on, oc, rfl⟩ : ∃ a n c, u8 = .slice a n c := (by obtain ⟨a, c, h, _, _⟩ := hO.form; exact ⟨a, _, c, h⟩)
      have hfew : acc.length ≤ 100000 := by
        have := acc_few HA.out.1.1 fun k hk => by obtain ⟨b, h1, _⟩ := (HA.out.1.2 k).1 hk; exact ⟨b, h1⟩
        rw [List.length_map] at this
        have := HQ.out.2.1
        omega
      have HO := Lib.hid hO
      clear hO
      go_wp2_with (first
        | (at_next; refine next_sp TI.ok rfl _ rfl rfl hrg ?_ ?_)
        | go_in)
      · intro _ hl0
        have HP := Lib.hid (all_gathered HQ.out.1 HA.out.2 HA.out.1.1 fun k => by rw [HA.out.1.2 k]; simp [hl0])
        have HS := Lib.hid (countSort_any wr w3.heap.size (by omega) acc _ HO.out (by omega) HP.out)
        have HB := Lib.hid hbr
        clear hbr HA hrg hl0
        go_wp2_with fail
        refine HS.out.mono ?_
        rintro e w4 ⟨rfl, l', hw', hO4, hb4⟩
        have hl4 : l'.length ≤ 100000 := by rw [hw'.1.length_eq]; have := HQ.out.2.1; omega
        have hon : on = l'.length := by obtain ⟨a', c', h, _, _⟩ := hO4.form; injection h
        subst hon
        have HVB : Hid (∀ p ∈ l', 0 ≤ p.2 ∧ p.2 ≤ 100000) := Lib.hid fun p hp => by
          have := HQ.out.2.2 p (hw'.1.mem_iff.1 hp)
          omega
        have HW := Lib.hid hw'
        have HO4 := Lib.hid hO4
        have HB4 := Lib.hid (Below.trans HB.out hb4)
        have hz4 : w3.heap.size ≤ w4.heap.size := HB4.out.size
        clear hw' hO4 hb4 HS HP HO
        go_wp2_with fail
        go_loopw [11, 42] (fun ov i wr => ∃ (k : Nat), k ≤ l'.length ∧ i = .int .i64 k ∧ OwnR TPq wr w4.heap.size ov (l'.take k) ∧ Below w4.heap.size w4 wr) (fun _ i _ => l'.length - (intOf i).toNat)
        case atStart => exact ⟨0, Nat.zero_le _, rfl, OwnR.nil _ _, Below.refl _ _⟩
        case round =>
          rename_i wr0 _ _ _
          obtain ⟨k, hk, rfl, hOv, hb⟩ := hrel
          obtain ⟨pa, pn, pc, rfl⟩ : ∃ a n c, u11 = .slice a n c := (by obtain ⟨a, c, h, _, _⟩ := hOv.form; exact ⟨a, _, c, h⟩)
          by_cases hlt : k < l'.length
          · obtain ⟨⟨x, y⟩, hx⟩ : ∃ p, l'[k]? = some p := ⟨_, List.getElem?_eq_getElem hlt⟩
            obtain ⟨b1, o1, rfl, _, hbb1, hc1⟩ := (HO4.out.rec0.below hb).at TCt.ok.len hx TCt.ok.pos
            have c1 : wr.cell? ⟨b1, o1 + k * 2, none⟩ = some (.string (baOf x)) := hc1 0 _ rfl
            have c2 : wr.cell? ⟨b1, o1 + k * 2 + 1, none⟩ = some (.int .i64 y) := hc1 1 _ rfl
            have hyb := HVB.out _ (List.mem_of_getElem? hx)
            have HTK : Hid (l'.take (k + 1) = l'.take k ++ [(x, y)]) := Lib.hid (by rw [List.take_add_one, hx]; rfl)
            have hw1 : IntKind.i64.wrap ((k : Int) + 1) = ((k + 1 : Nat) : Int) := by rw [IntWalk.i64_in _ (by omega)]; omega
            obtain ⟨ib, hib⟩ : ∃ x, x = itB y := ⟨_, rfl⟩
            have HIB := Lib.hid hib
            have hbA := Bl.alloc (Below.refl wr.heap.size wr) (.cells #[.string (baOf x), .int .i64 y] 164)
            have hXA := blk_new wr (.cells #[.string (baOf x), .int .i64 y] 164)
            have hBw : Below w.heap.size w wr := HB3.out.trans ((HB4.out.mono hz3).trans (hb.mono (by omega)))
            have hzr := hb.size
            obtain ⟨wA, hwA⟩ : ∃ wA, wA = wr.alloc (.cells #[.string (baOf x), .int .i64 y] 164) := ⟨_, rfl⟩
            rw [← hwA] at hbA hXA
            have hzA := hbA.size
            have HIX : Hid (∀ U, Below wA.heap.size wA U → Calls Tryz.prog 98 #[.int .i64 y] U fun e w' => e = .returned (.string ib) ∧ Below wA.heap.size wA w') := Lib.hid fun U hU => by
              refine (Itoa_any y U ((HT.out _ (hBw.trans (hbA.mono (by omega)))).below hU) (by omega) (by omega)).mono ?_
              rintro e w' ⟨rfl, hh⟩
              exact ⟨by rw [hib]; rfl, Bl.trans hU hh⟩
            have hdA := Below.drew (Below.refl wA.heap.size wA)
            have HVO := Lib.hid fun U (hU : Below wA.heap.size wA U) => (hOv.below hbA).below hU
            have HX := Lib.hid (And.intro hXA (And.intro hbA hb))
            have a0 : wA.cell? ⟨wr.heap.size, 0, none⟩ = some (.string (baOf x)) := blk_cell hXA 0
            have a1 : wA.cell? ⟨wr.heap.size, 1, none⟩ = some (.int .i64 y) := blk_cell hXA 1
            have lA := blk_lt hXA
            have hlk : (l'.take k).length ≤ 1000000 := by rw [List.length_take]; omega
            have hz5 : w4.heap.size ≤ wA.heap.size := by omega
            clear hc1 hx hib hXA hBw hOv hb
            go_wp2_with fail
            rw [← hwA]
            clear hwA
            go_region_law (first
              | (refine step_goN rfl 98 #[.tmp 50] _ rfl (enters_of Tryz.func98 (by kernel_rfl) rfl) #[.int .i64 y] (by simp [Act.eval]) (fun e w' => e = .returned (.string ib) ∧ Below wA.heap.size wA w') (by have hh := HIX.out _ hdA; exact hh) ?_; rintro e w6 ⟨rfl, hb6⟩; refine ⟨_, rfl, ?_⟩; have d0 := (hb6.cell (p := ⟨wr.heap.size, 0, none⟩) lA).trans a0; have l6 : wr.heap.size < w6.heap.size := Nat.lt_of_lt_of_le lA hb6.size)
              | (refine step_app_rec TPq.ok rfl (.tmp 46) (.tmp 53) rfl w4.heap.size _ (l'.take k) (by simp [Act.eval]) (HVO.out _ (Bl.alloc hb6 _)) w6.heap.size 1 (x, y) (by simp [Act.eval]) (blk_new w6 _) (by rw [HIB.out]; rfl) hlk (Nat.le_trans hz5 (Bl.alloc hb6 _).size) ?_; intro v7 w7 hO7 hg7 hb7))
            all_goals (
              have HF7 : Hid (OwnR TPq w7 w4.heap.size v7 (l'.take (k + 1)) ∧ Below w4.heap.size w4 w7) := Lib.hid ⟨by rw [HTK.out]; exact hO7, Below.trans (HX.out.2.2.trans ((HX.out.2.1.mono hzr).trans ((Bl.alloc hb6 _).mono hz5))) hb7⟩
              clear hO7 hg7 hb7 hb6
              go_wp2
              go_roundw
              case rel => exact ⟨k + 1, by omega, by go_num, HF7.out.1, HF7.out.2⟩
              case measure => simp [intOf]; omega)
          · obtain rfl : k = l'.length := by omega
            rw [List.take_length] at hOv
            have HF := Lib.hid (And.intro (own_pq.1 (hOv.base (show w.heap.size ≤ w4.heap.size by omega))) (HB3.out.trans ((HB4.out.mono hz3).trans (hb.mono (by omega)))))
            clear hOv hb
            go_wp2
            go_ret2
            exact ⟨⟨_, l', rfl, by rw [HQR.out]; exact HW.out, HF.out.1⟩, HF.out.2⟩
      · intro x y wq cnt1 hxl hlk hget hrg1 hlt hg1 hsz1 hen
        have hbr1 : Below w3.heap.size w3 wq := Below.trans hbr (Gr.below hg1 (Nat.le_refl _) (Nat.le_of_lt hsz))
        have HB1 := Lib.hid hbr1
        have HO1 : Hid (OwnR TCt wq w3.heap.size (.slice oa on oc) acc) := Lib.hid (HO.out.kept2 hg1 fun e => (range_off hrg HO.out).2 e.symm)
        have HST := Lib.hid (gatherA_step HA.out.1 hlk hget)
        have HGV := Lib.hid (fun p (hp : p ∈ acc ++ [(x, y)]) => show q.get p.1 = some p.2 by
          rcases List.mem_append.1 hp with hp | hp
          · exact HA.out.2 p hp
          · rw [List.mem_singleton.1 hp]; exact hget)
        have HSZ := Lib.hid hsz1
        have hqz : w3.heap.size ≤ wq.heap.size := by omega
        clear hget hsz1
        simp only [TI] at hen
        go_wp2_with (at_builtin; refine wp_app_rec TCt.ok rfl _ _ rfl w3.heap.size _ acc rfl (HO1.out.alloc _) wq.heap.size 1 (x, y) rfl (blk_new wq _) rfl (by omega) (by simp; omega) ?_)
        intro v3 w5 hO3 hg3 hb3
        have hA := hrg1.alloc (.cells #[.string (baOf x), .int .i64 y] 164)
        have hof := range_off hA (HO1.out.alloc (.cells #[.string (baOf x), .int .i64 y] 164))
        have hrg3 := hA.kept hg3 hof.1 hof.2
        have HF3 := Lib.hid (And.intro hO3 (Below.trans (Bl.alloc HB1.out (.cells #[.string (baOf x), .int .i64 y] 164)) hb3))
        have hz3 := hb3.size
        simp at hz3
        clear hO3 hg3 hb3 hof hA
        have HST2 : Hid ((((acc ++ [(x, y)]).map (·.1)).Nodup ∧ ∀ k, k ∈ (acc ++ [(x, y)]).map (·.1) ↔ ∃ b, q.get k = some b ∧ (left (.string k) && !(Lit.string k).sameKey (.string x)) = false) ∧ ∀ p ∈ acc ++ [(x, y)], q.get p.1 = some p.2) := Lib.hid ⟨by
          have h := HST.out
          rw [List.map_append]
          exact h, HGV.out⟩
        go_wp2
        go_roundw
        case rel => exact ⟨acc ++ [(x, y)], _, cnt1, hrg3, HF3.out.1, HST2, HF3.out.2, by have := HSZ.out; omega⟩
        case measure => rw [hrg3.left_eq, hrg.left_eq]; exact hlt
  · have HRM : Hid (R = []) := Lib.hid (by rw [HRD.out, if_neg h0])
    clear HRD
    go_enter Tryz.func17, Tryz.ntmps17
    go_wp2_with fail
    refine HF.out.mono ?_
    rintro e w1 ⟨rfl, hb1⟩
    have HB1 := Lib.hid (Bl.trans HR0.out.2.1 hb1)
    clear hb1
    go_wp2
    go_ret2
    exact ⟨⟨_, [], rfl, by rw [HRM.out]; exact ⟨List.Perm.refl _, List.Pairwise.nil⟩, OwnR.nil _ _⟩, HB1.out⟩
end Go.Proofs.YtbkglhakhahfpaaGreatDoor
namespace Go.Proofs.YtbkglhakhahfpaaGreatDoor
open Go.RowKit Go.Sort Go.Maps Go.Shelf Go.Lib

abbrev Mem (m : Sm Int) := {p : Bs × Int // p ∈ m}
def cfS (m : Sm Int) (x y : Mem m) : Int := cmpI y.1.2 x.1.2
def TPs (m : Sm Int) : Rty (Mem m) := { e := 50, S := 42, k := 2, b := 32, z := .agg #[.string ByteArray.empty, .string ByteArray.empty], f := fun p => [.string (baOf p.1.1), .string (itB p.1.2)] }
theorem TPs.ok (m : Sm Int) : (TPs m).Ok := ⟨by kernel_rfl, Tryz.underlying42, rfl, by show 0 < 2; decide, fun _ => rfl, fun x u hu => by simp [TPs] at hu; rcases hu with rfl | rfl <;> rfl, by show 32 ≤ 1000; decide⟩
theorem own_ps {m : Sm Int} {w : World} {B : Nat} {v : Value} {l : List (Mem m)} : OwnR (TPs m) w B v l ↔ OwnR TPr w B v ((l.map (·.1)).map prOf) := by
  unfold OwnR
  rw [flat_pq, List.flatMap_map, List.length_map, List.length_map]
  exact Iff.rfl
theorem ltS {m : Sm Int} (x y : Mem m) : ltOf (cfS m) x y = decide (y.1.2 < x.1.2) := by
  unfold ltOf cfS cmpI
  by_cases h1 : y.1.2 < x.1.2
  · simp [h1]
  · by_cases h2 : x.1.2 < y.1.2 <;> simp [h1, h2]
theorem wst_sorted {m : Sm Int} (hm : Sm.Ok m) [Inhabited (Mem m)] : Wst m ((insertionSort (ltOf (cfS m)) m.attach.toArray 0 m.attach.length).toList.map (·.1)) := by
  have hsz : m.attach.toArray.size = m.attach.length := by simp
  have hfin := insertion_finer (lt := ltOf (cfS m)) (lt' := fun x y : Mem m => ltOf cfC x.1 y.1) (r := fun y x : Mem m => bytesBefore y.1.1 x.1.1 = true) (fun x y h => by
    have hn : bytesBefore x.1.1 y.1.1 = false := by
      rw [← Bool.not_eq_true]
      intro h2
      have := WideShapes.bytes_trans _ _ _ h h2
      rw [WideAt.bytes_irrefl] at this; cases this
    rw [ltS]
    show _ = ltOf cfC x.1 y.1
    rw [ltC, hn]; simp) m.attach.toArray (fun j hj k hk => by
    have hj' : j < m.length := by simpa using hj
    have hk' : k < m.length := by omega
    have := List.pairwise_iff_getElem.1 hm k j hk' hj' hk
    rw [getElem!_pos _ j hj, getElem!_pos _ k (by simp; omega)]
    simpa using this)
  rw [hsz] at hfin
  rw [hfin]
  have hswo : SWO (fun x y : Mem m => ltOf cfC x.1 y.1) := ⟨fun x => swoC.irrefl _, fun x y z => swoC.trans _ _ _, fun x y z => swoC.ntrans _ _ _⟩
  obtain ⟨hp, hs⟩ := insertionSort_holds hswo m.attach.toArray 0 m.attach.length (Nat.zero_le _) (by simp)
  generalize insertionSort (fun x y : Mem m => ltOf cfC x.1 y.1) m.attach.toArray 0 m.attach.length = d' at *
  have hd : d'.size = m.attach.length := by rw [hp.1, hsz]
  have hperm : d'.toList.Perm m.attach := by
    have h2 := hp.2.2
    rwa [← hd, Array.extract_size, hd, show m.attach.toArray.extract 0 m.attach.length = m.attach.toArray by rw [← hsz, Array.extract_size]] at h2
  refine ⟨?_, ?_⟩
  · have := hperm.map (fun p : Mem m => p.1)
    rwa [List.attach_map_subtype_val] at this
  · rw [List.pairwise_map, List.pairwise_iff_getElem]
    intro i j hi hj hij
    simp only [Array.length_toList] at hi hj
    have := hs i j (Nat.zero_le _) hij (by omega)
    rw [getElem!_pos d' i hi, getElem!_pos d' j hj] at this
    simpa using this
theorem WorstOf1_any (m : Sm Int) (M Y : Nat) (W : World) (hM : MapS TI W M m) (hY : W.heap[Y]? = some (.cells #[.map (some M)] 158 (0, 0))) (hn : ∀ p ∈ m, p.1.length ≤ 1000) (x y : Mem m) :
    Calls Tryz.prog 114 (#[.agg ((TPs m).f x).toArray, .agg ((TPs m).f y).toArray] ++ #[.pointer (some ⟨Y, 0, none⟩)]) W fun e w' => e = .returned (.int .i64 (cfS m x y)) ∧ ∃ q os', w' = grow (W.drewN q) os' := by
  obtain ⟨⟨xk, xv⟩, hx⟩ := x
  obtain ⟨⟨yk, yv⟩, hy⟩ := y
  show Calls Tryz.prog _ #[.agg #[.string (baOf xk), .string (itB xv)], .agg #[.string (baOf yk), .string (itB yv)], .pointer (some ⟨Y, 0, none⟩)] W _
  have hb := Bl.alloc (Bl.alloc (Below.refl W.heap.size W) (.cells #[.string (baOf xk), .string (itB xv)] 50)) (.cells #[.string (baOf yk), .string (itB yv)] 50)
  have hsz : ∀ k : Bs, k.length ≤ 1000 → (baOf k).size ≤ maxLen := fun k hk => by
    have e : (baOf k).size = k.length := by show k.toArray.size = _; simp
    rw [e]; unfold maxLen; omega
  have l1 := (hM.below hb).look TI.ok (baOf xk) (hsz _ (hn _ hx))
  have l2 := (hM.below hb).look TI.ok (baOf yk) (hsz _ (hn _ hy))
  have l1 := l1.trans (congrArg (fun b => Result.ok (Value.int .i64 b) _) (show (m.get (baOf xk).data.toList).getD TI.z = xv by rw [show (baOf xk).data.toList = xk from bsOf_baOf xk, Sm.get_of_mem hM.1 hx]; rfl))
  have l2 := l2.trans (congrArg (fun b => Result.ok (Value.int .i64 b) _) (show (m.get (baOf yk).data.toList).getD TI.z = yv by rw [show (baOf yk).data.toList = yk from bsOf_baOf yk, Sm.get_of_mem hM.1 hy]; rfl))
  have k0 : W.cell? ⟨Y, 0, none⟩ = some (.map (some M)) := blk_cell hY 0
  have lY := blk_lt hY
  simp only [TI] at l1 l2
  unfold cfS
  clear hM hY hb hsz
  go_enter Tryz.func114, Tryz.ntmps114
  go_wp2_with (go_at_call 103; refine (cmpInt_any _ _ _).mono ?_; rintro e w' ⟨rfl, rfl⟩)
  go_ret
  exact ⟨rfl, 0, _, by rw [alloc_eq_grow, alloc_eq_grow, grow_grow]; rfl⟩
theorem insWo_any (m : Sm Int) (hm : Sm.Ok m) (M Y B : Nat) (w : World) (hB : B ≤ w.heap.size) (hM : ∀ W, Below B w W → MapS TI W M m) (hY : ∀ W, Below B w W → W.heap[Y]? = some (.cells #[.map (some M)] 158 (0, 0))) (hn : ∀ p ∈ m, p.1.length ≤ 1000) (hl : m.length ≤ 1000000) (v : Value) (ho : OwnR TPr w B v (m.map prOf)) :
    Calls Tryz.prog 258 #[v, .int .i64 0, .int .i64 m.length, .func (.func 114) #[] #[.pointer (some ⟨Y, 0, none⟩)]] w fun e w' => e = .returned (.tuple #[]) ∧ ∃ l', Wst m l' ∧ OwnR TPr w' B v (l'.map prOf) ∧ Below B w w' := by
  by_cases h0 : m = []
  · subst h0
    obtain ⟨a, cap, rfl, _, _⟩ := ho.form
    exact (AnyF.insertionSortCmpFunc_none Tryz.insP a cap (.func (.func 114) #[] #[.pointer (some ⟨Y, 0, none⟩)]) w).mono fun e w' ⟨he, hw⟩ => ⟨he, [], ⟨List.Perm.refl _, List.Pairwise.nil⟩, by rw [hw]; exact ho, by rw [hw]; exact Below.refl _ _⟩
  · obtain ⟨p, hp⟩ := List.exists_mem_of_ne_nil _ h0
    haveI : Inhabited (Mem m) := ⟨⟨p, hp⟩⟩
    have hal : m.attach.length = m.length := List.length_attach
    have ho' : OwnR (TPs m) w B v m.attach := own_ps.2 (by rw [List.attach_map_subtype_val]; exact ho)
    have h := insRow_any Tryz.insP (TPs.ok m) Tryz.isAgg50 Tryz.sizeOf50 (cfS m) 114 #[.pointer (some ⟨Y, 0, none⟩)] (enters_of Tryz.func114 (by kernel_rfl) rfl) w B hB m.attach v ho' (fun e => h0 (by rw [← List.length_eq_zero_iff, ← hal, e]; rfl)) (by omega) (fun W hW x y => WorstOf1_any m M Y W (hM W hW) (hY W hW) hn x y)
    have hw := wst_sorted hm
    generalize (insertionSort (ltOf (cfS m)) m.attach.toArray 0 m.attach.length).toList = r at *
    rw [hal] at h
    refine h.mono ?_
    rintro e w' ⟨rfl, h1, h2⟩
    exact ⟨rfl, _, hw, own_ps.1 h1, h2⟩
set_option maxHeartbeats 4000000 in
set_option maxRecDepth 100000 in
theorem stableWo_any (m : Sm Int) (hm : Sm.Ok m) (M Y B : Nat) (w : World) (hB : B ≤ w.heap.size) (hM : ∀ W, Below B w W → MapS TI W M m) (hY : ∀ W, Below B w W → W.heap[Y]? = some (.cells #[.map (some M)] 158 (0, 0))) (hn : ∀ p ∈ m, p.1.length ≤ 1000) (h19 : m.length ≤ 19) (v : Value) (ho : OwnR TPr w B v (m.map prOf)) :
    Calls Tryz.prog 113 #[v, .func (.func 114) #[] #[.pointer (some ⟨Y, 0, none⟩)]] w fun e w' => e = .returned (.tuple #[]) ∧ ∃ l', Wst m l' ∧ OwnR TPr w' B v (l'.map prOf) ∧ Below B w w' := by
  have HI := Lib.hid (insWo_any m hm M Y B w hB hM hY hn (by omega) v ho)
  obtain ⟨a, n, cap, hv, hnl⟩ : ∃ a n cap, v = .slice a n cap ∧ n = m.length := by obtain ⟨a, cap, hv, _, _⟩ := ho.form; exact ⟨a, _, cap, hv, List.length_map _⟩
  subst hv
  rw [← hnl] at HI
  have hn19 : n ≤ 19 := by omega
  clear ho hM hY hn hnl h19
  have HS : Hid (Calls Tryz.prog 196 #[.slice a n cap, .int .i64 n, .func (.func 114) #[] #[.pointer (some ⟨Y, 0, none⟩)]] w fun e w' => e = .returned (.tuple #[]) ∧ ∃ l', Wst m l' ∧ OwnR TPr w' B (.slice a n cap) (l'.map prOf) ∧ Below B w w') := Lib.hid (by
    go_enter Tryz.func196, Tryz.ntmps196
    go_wp2_with fail
    go_loopw [7, 8] (fun x y wr => x = .int .i64 0 ∧ y = .int .i64 20 ∧ w = wr) (fun _ _ _ => 0)
    case atStart => exact ⟨rfl, rfl, rfl⟩
    case round =>
      obtain ⟨rfl, rfl, rfl⟩ := hrel
      have hn20 : ¬ (20 : Int) ≤ (n : Int) := by omega
      go_wp2_with fail
      refine HI.out.mono ?_
      rintro e w2 ⟨rfl, hO2⟩
      have HO2 := Lib.hid hO2
      clear hO2
      go_wp2_with fail
      go_loopw [6] (fun x wr => x = .int .i64 20 ∧ w2 = wr) (fun _ _ => 0)
      case atStart => exact ⟨rfl, rfl⟩
      case round =>
        obtain ⟨rfl, rfl⟩ := hrel
        have hn21 : ¬ (20 : Int) < (n : Int) := by omega
        go_wp2_with fail
        go_end0
        exact ⟨rfl, HO2.out⟩)
  go_enter Tryz.func113, Tryz.ntmps113
  go_wp2_with fail
  refine HS.out.mono ?_
  rintro e w2 ⟨rfl, hO2⟩
  have HO2 := Lib.hid hO2
  clear hO2
  go_wp2
  go_end0
  exact ⟨rfl, HO2.out⟩
/-- what the reference's count keeps. -/
structure WqI (A : List Stp) (w1 : World) (M : Nat) (k : Nat) (q : Sm Int) (wr : World) : Prop where
  rest : cntL [] A = cntL q (A.drop k)
  ok : CntOk q k
  sh : ∀ p ∈ q, p.1.length ≤ 1000
  map : MapS TI wr M q
  kp : Kp w1 wr (fun i => i = M)
theorem WqI.go {A : List Stp} {w1 : World} {M k : Nat} {q : Sm Int} {wr : World} (h : WqI A w1 M k q wr) {s : Stp} (hs : A[k]? = some s) (hc : s.co.size ≤ 40) {w' : World} (hm : MapS TI w' M (cntS q s)) (hk : Kp wr w' (fun i => i = M)) : WqI A w1 M (k + 1) (cntS q s) w' := by
  obtain ⟨hkk, he⟩ := List.getElem?_eq_some_iff.1 hs
  refine ⟨by rw [h.rest, List.drop_eq_getElem_cons hkk, he]; rfl, h.ok.step s, fun p hp => ?_, hm, h.kp.trans hk⟩
  unfold cntS at hp
  split at hp
  · rcases Sm.put_mem.1 hp with rfl | ⟨hp, _⟩
    · have e : s.co.data.toList.length = s.co.size := by rw [Array.length_toList]; rfl
      show s.co.data.toList.length ≤ 1000
      omega
    · exact h.sh p hp
  · exact h.sh p hp
set_option maxHeartbeats 4000000 in
set_option maxRecDepth 100000 in
theorem WorstOf_any (rh rr : Int) (l : List Stp) (v : Value) (w : World) (hT : TxW w) (rl : RecR TSt w 0 v l) (hl : stepsF l = 0) (h19 : (cntL [] (accL rh rr [] l)).length ≤ 19) :
    Calls Tryz.prog 21 #[.agg #[.int .i64 rh, .int .i64 rr], v] w fun e w' => (∃ v' l', e = .returned v' ∧ Wst (cntL [] (accL rh rr [] l)) l' ∧ OwnR TPr w' w.heap.size v' (l'.map prOf)) ∧ Below w.heap.size w w' := by
  have hR0 := blk_old (blk_old (blk_new w (.cells #[.int .i64 rh, .int .i64 rr] 27)) (.map #[] 0)) (.cells #[.map (some (w.heap.size + 1))] 158)
  have hM0 : MapS TI _ (w.heap.size + 1) [] := MapS.of_blk (blk_old (blk_new' (w.alloc (.cells #[.int .i64 rh, .int .i64 rr] 27)) (.map #[] 0) (g := w.heap.size + 1) (by simp)) (.cells #[.map (some (w.heap.size + 1))] 158))
  have hY0 := blk_new' ((w.alloc (.cells #[.int .i64 rh, .int .i64 rr] 27)).alloc (.map #[] 0)) (.cells #[.map (some (w.heap.size + 1))] 158) (g := w.heap.size + 2) (by simp)
  have hb0 := Bl.alloc (Bl.alloc (Bl.alloc (Below.refl w.heap.size w) (.cells #[.int .i64 rh, .int .i64 rr] 27)) (.map #[] 0)) (.cells #[.map (some (w.heap.size + 1))] 158)
  have HAC := Lib.hid (accepted_any rh rr l v _ (rl.below hb0) hl)
  have HA5 : Hid ((accL rh rr [] l).length ≤ 5000 ∧ ∀ s ∈ accL rh rr [] l, StR s) := Lib.hid ⟨Nat.le_trans (accL_len l []) (stepsF_right hl).1, fun s hs => (stepsF_right hl).2.1 s (accL_mem l [] s hs)⟩
  obtain ⟨a, cap, rfl, _, _⟩ := rl.form
  have HT := Lib.hid fun U (hU : Below w.heap.size w U) => hT.below hU
  have H19 := Lib.hid h19
  clear rl hl hT h19
  generalize accL rh rr [] l = A at *
  obtain ⟨w0, hw0⟩ : ∃ w0, w0 = ((w.alloc (.cells #[.int .i64 rh, .int .i64 rr] 27)).alloc (.map #[] 0)).alloc (.cells #[.map (some (w.heap.size + 1))] 158) := ⟨_, rfl⟩
  have p0 : (((w.alloc (.cells #[.int .i64 rh, .int .i64 rr] 27)).alloc (.map #[] 0)).alloc (.cells #[.map (some (w.heap.size + 1))] 158)).cell? ⟨w.heap.size, 0, none⟩ = some (.int .i64 rh) := blk_cell hR0 0
  have p1 : (((w.alloc (.cells #[.int .i64 rh, .int .i64 rr] 27)).alloc (.map #[] 0)).alloc (.cells #[.map (some (w.heap.size + 1))] 158)).cell? ⟨w.heap.size, 1, none⟩ = some (.int .i64 rr) := blk_cell hR0 1
  rw [← hw0] at HAC hY0 hM0 hb0
  have HX0 := Lib.hid (And.intro hY0 (And.intro hM0 hb0))
  have hz0 : w.heap.size + 3 ≤ w0.heap.size := by rw [hw0]; simp
  have hmm := @run_makeMap Tryz.prog
  clear hR0 hY0 hM0 hb0
  go_enter Tryz.func21, Tryz.ntmps21
  go_wp2_with fail
  rw [← hw0]
  clear hw0 hmm p0 p1
  refine HAC.out.mono ?_
  rintro e w1 ⟨ov, rfl, ho, hb1⟩
  have HI0 : Hid (WqI A w1 (w.heap.size + 1) 0 [] w1) := Lib.hid ⟨by rw [List.drop_zero], CntOk.nil, fun p hp => by simp at hp, HX0.out.2.1.below hb1, Kp.refl _ _⟩
  have hz1 : w0.heap.size ≤ w1.heap.size := hb1.size
  have HO := Lib.hid ho
  have HX1 := Lib.hid (And.intro (blk_below HX0.out.1 hb1) (Bl.trans HX0.out.2.2 hb1))
  obtain ⟨ya, yn, yc, rfl⟩ : ∃ a n c, ov = .slice a n c := (by obtain ⟨a, c, h, _, _⟩ := ho.form; exact ⟨a, _, c, h⟩)
  obtain rfl : yn = A.length := by obtain ⟨a', c', h, _, _⟩ := ho.form; injection h
  clear ho hb1 HAC HX0
  go_wp2_with fail
  go_loopw [14] (fun i wr => ∃ (k : Nat) (q : Sm Int), k ≤ A.length ∧ i = .int .i64 k ∧ Hid (WqI A w1 (w.heap.size + 1) k q wr)) (fun i _ => A.length - (intOf i).toNat)
  case atStart => exact ⟨0, [], Nat.zero_le _, rfl, HI0⟩
  case round =>
    obtain ⟨k, q, hk, rfl, HI⟩ := hrel
    have hYr : wr.heap[w.heap.size + 2]? = some (.cells #[.map (some (w.heap.size + 1))] 158 (0, 0)) := HI.out.kp.blk HX1.out.1 (by omega)
    have y0 : wr.cell? ⟨w.heap.size + 2, 0, none⟩ = some (.map (some (w.heap.size + 1))) := blk_cell hYr 0
    have lYr := blk_lt hYr
    by_cases hlt : k < A.length
    · obtain ⟨s, hs⟩ : ∃ x, A[k]? = some x := ⟨_, List.getElem?_eq_getElem hlt⟩
      have hor : OwnR TSt wr w0.heap.size (.slice ya A.length yc) A := HO.out.keepT HI.out.kp (fun i cur hi e => by
        subst e
        obtain ⟨_, es, clock, hm, _⟩ := HI0.out.map
        rw [hm] at hi
        injection hi with hi
        cases hi)
      obtain ⟨b1, o1, rfl, _, hbb1, hc1⟩ := hor.rec0.at TSt.ok.len hs TSt.ok.pos
      have HS := Lib.hid hs
      have hco : s.co.size ≤ 40 := (HA5.out.2 s (List.mem_of_getElem? hs)).co
      obtain ⟨at1, bs, kd, cs⟩ := s
      have c0 : wr.cell? ⟨b1, o1 + k * 4, none⟩ = some (.int .i64 at1) := hc1 0 _ rfl
      have c1 : wr.cell? ⟨b1, o1 + k * 4 + 1, none⟩ = some (.string bs) := hc1 1 _ rfl
      have c2 : wr.cell? ⟨b1, o1 + k * 4 + 2, none⟩ = some (.int .i64 kd) := hc1 2 _ rfl
      have c3 : wr.cell? ⟨b1, o1 + k * 4 + 3, none⟩ = some (.string cs) := hc1 3 _ rfl
      clear hs hc1 hor hYr
      have hlen : k < 5000 := Nat.lt_of_lt_of_le hlt HA5.out.1
      have hw1 : IntKind.i64.wrap ((k : Int) + 1) = ((k + 1 : Nat) : Int) := by rw [IntWalk.i64_in _ (by omega)]; omega
      have hbA := Bl.alloc (Below.refl wr.heap.size wr) (.cells #[.int .i64 at1, .string bs, .int .i64 kd, .string cs] 133)
      have hMA := HI.out.map.below hbA
      have hKA : Kp wr (wr.alloc (.cells #[.int .i64 at1, .string bs, .int .i64 kd, .string cs] 133)) (fun i => i = w.heap.size + 1) := Kp.of_below hbA
      have hcs : cs.size ≤ maxLen := by unfold maxLen; have : cs.size ≤ 40 := hco; omega
      by_cases h2 : kd = 2
      · subst h2
        have hlk := hMA.look TI.ok cs hcs
        have hxb := HI.out.ok.get cs.data.toList
        have hln := HI.out.ok.2.1
        obtain ⟨x, hx⟩ : ∃ x, x = (q.get cs.data.toList).getD 0 := ⟨_, rfl⟩
        rw [show (q.get cs.data.toList).getD TI.z = x from hx.symm] at hlk
        rw [← hx] at hxb
        obtain ⟨w3, hrun3, hM3, ht3⟩ := hMA.put TI.ok cs hcs (x + 1) (by unfold maxLen; omega)
        have hg3 := ht3.grown
        have hK3 : Kp wr w3 (fun i => i = w.heap.size + 1) := hKA.trans (Kp.of_gr hg3 rfl)
        have hcq : cntS q (at1, bs, 2, cs) = q.put cs.data.toList (x + 1) := by unfold cntS; rw [if_pos rfl, ← hx]
        have HN := Lib.hid (HI.out.go HS.out hco (by rw [hcq]; exact hM3) hK3)
        have hwx : IntKind.i64.wrap (x + 1) = x + 1 := by rw [IntWalk.i64_in _ (by omega)]
        simp only [TI] at hrun3 hlk
        clear hcq hK3 hg3 hM3 ht3 hKA hMA hbA hco hx
        go_wp2
        go_roundw
        case rel => exact ⟨k + 1, _, by omega, by go_num, HN⟩
        case measure => simp [intOf]; omega
      · have e2 : (kd == 2) = false := by simpa using h2
        have hcq : cntS q (at1, bs, kd, cs) = q := by unfold cntS; rw [if_neg h2]
        have HN := Lib.hid (HI.out.go HS.out hco (by rw [hcq]; exact hMA) hKA)
        clear hcq hKA hMA hbA hco
        go_wp2
        go_roundw
        case rel => exact ⟨k + 1, _, by omega, by go_num, HN⟩
        case measure => simp [intOf]; omega
    · obtain rfl : k = A.length := by omega
      have hq : cntL [] A = q := by rw [HI.out.rest, List.drop_length]; rfl
      have hl5 := HA5.out.1
      have hqk := HI.out.ok
      have hqn := hqk.2.1
      have hBr : Below w.heap.size w wr := HX1.out.2.trans (HI.out.kp.below (fun i _ hi => by omega) (by omega))
      have HP := Lib.hid (pairs_any (w.heap.size + 1) q wr HI.out.map (HT.out _ hBr) (by omega) (fun p hp => by have := hqk.2.2 p hp; omega))
      have HQ := Lib.hid hq
      have HMY := Lib.hid (And.intro HI.out.map hYr)
      have HBR := Lib.hid hBr
      have hzr := hBr.size
      clear hq hqk hBr hYr
      go_wp2_with fail
      refine HP.out.mono ?_
      rintro e w5 ⟨⟨v5, rfl, hO5⟩, hb5⟩
      have h19 : q.length ≤ 19 := by rw [← HQ.out]; exact H19.out
      have hB5 := Bl.trans HBR.out hb5
      have HSO := Lib.hid (stableWo_any q HI.out.ok.1 (w.heap.size + 1) (w.heap.size + 2) wr.heap.size w5 hb5.size (fun W hW => HMY.out.1.below (hb5.trans hW)) (fun W hW => blk_below HMY.out.2 (hb5.trans hW)) HI.out.sh h19 v5 hO5)
      have HB5 := Lib.hid hB5
      have l5 : w.heap.size + 2 < w5.heap.size := Nat.lt_of_lt_of_le lYr hb5.size
      obtain ⟨a5, n5, c5, rfl⟩ : ∃ a n c, v5 = .slice a n c := (by obtain ⟨a, c, h, _, _⟩ := hO5.form; exact ⟨a, _, c, h⟩)
      clear hO5 hb5 hB5 h19 HP
      go_wp2_with fail
      refine HSO.out.mono ?_
      rintro e w6 ⟨rfl, l', hw', hO6, hb6⟩
      have HF := Lib.hid (And.intro hw' (And.intro (hO6.base hzr) (HB5.out.trans (hb6.mono hzr))))
      clear hw' hO6 hb6
      go_wp2
      go_ret
      exact ⟨⟨_, l', rfl, by rw [HQ.out]; exact HF.out.1, HF.out.2.1⟩, HF.out.2.2⟩
end Go.Proofs.YtbkglhakhahfpaaGreatDoor
