/- Boards that wait: the stable sort of few names by the moments since when they wait; Waiting. Conditions: at most 19 boards that failed. · isHopeless over general maps. Conditions: names of at most 1000 bytes, few heats. · Which boards are hopeless: the closure of Hopeless, slices.IndexFunc and DeleteFunc with it, Hopeless. Conditions: names of at most 1000 bytes. -/
import Derived.Test.YthdolfnfiggkjaaGreatDoorIn
import Derived.Test.YthdolfnfiggkjaaGreatDoorSrtI
import Derived.Test.YthdolfnfiggkjaaGreatDoorSortRow
import Derived.Shelf.SlSortCmp.Insertion
import Derived.Sort.LotA
import Derived.Maps.RangeWalk
import Derived.Sort.KeysCollected
import Derived.Deep.RegionWith
namespace Go.Proofs.YthdolfnfiggkjaaGreatDoor
open Go.RowKit Go.Sort Go.Maps

def cmpV (x y : Int) : Int := if x < y then -1 else if y < x then 1 else 0
theorem cmpV_any (x y : Int) (w : World) : Calls Tryz.prog 94 #[.int .i64 x, .int .i64 y] w fun e w' => e = .returned (.int .i64 (cmpV x y)) ∧ w' = w :=
  (Tryz.cmp_Compare_int x y w).mono fun e w' ⟨he, hw⟩ => ⟨by rw [he]; rfl, hw⟩
def sinceOf (m : Sm Bd0) (k : Bs) : Int := ((m.get k).getD newB).si
/-- a name that is there. -/
def normW (m : Sm Bd0) (k0 k : Bs) : Bs := if (m.get k).isSome = true then k else k0
def cfW (m : Sm Bd0) (k0 x y : Bs) : Int := cmpV (sinceOf m (normW m k0 x)) (sinceOf m (normW m k0 y))
def encW (m : Sm Bd0) (k0 k : Bs) : Value := .string (baOf (normW m k0 k))
instance : Inhabited Bs := ⟨[]⟩
/-- names sorted by since when: equal ones stay. -/
def sortW (m : Sm Bd0) (l : List Bs) : List Bs := (Sort.insertionSort (ltOf (cfW m (l.headD []))) l.toArray 0 l.length).toList
theorem normW_of {m : Sm Bd0} {k0 k : Bs} (h : (m.get k).isSome = true) : normW m k0 k = k := if_pos h
theorem normW_in {m : Sm Bd0} {k0 : Bs} (h : (m.get k0).isSome = true) (k : Bs) : ∃ b, m.get (normW m k0 k) = some b := by
  unfold normW
  split
  · rename_i hk; exact Option.isSome_iff_exists.1 hk
  · exact Option.isSome_iff_exists.1 h
theorem cfW_swo (m : Sm Bd0) (k0 : Bs) : SWO (ltOf (cfW m k0)) := by
  have h : ∀ x y, ltOf (cfW m k0) x y = decide (sinceOf m (normW m k0 x) < sinceOf m (normW m k0 y)) := fun x y => by
    unfold ltOf cfW cmpV
    by_cases h : sinceOf m (normW m k0 x) < sinceOf m (normW m k0 y)
    · rw [if_pos h]; simp [h]
    · rw [if_neg h]
      split <;> simp [h]
  refine ⟨fun x => ?_, fun x y z h1 h2 => ?_, fun x y z h1 h2 => ?_⟩
  · rw [h]; simp
  · rw [h] at *; simp at *; omega
  · rw [h] at *; simp at *; omega
theorem sortW_perm (m : Sm Bd0) (l : List Bs) : (sortW m l).Perm l := by
  have h := (insertionSort_holds (cfW_swo m (l.headD [])) l.toArray 0 l.length (Nat.zero_le _) (by simp)).1
  obtain ⟨h1, _, h3⟩ := h
  have e1 : (Sort.insertionSort (ltOf (cfW m (l.headD []))) l.toArray 0 l.length).extract 0 l.length = Sort.insertionSort (ltOf (cfW m (l.headD []))) l.toArray 0 l.length := by
    have : l.length = (Sort.insertionSort (ltOf (cfW m (l.headD []))) l.toArray 0 l.length).size := by rw [h1]; simp
    conv => lhs; rw [show (Sort.insertionSort (ltOf (cfW m (l.headD []))) l.toArray 0 l.length).extract 0 l.length = (Sort.insertionSort (ltOf (cfW m (l.headD []))) l.toArray 0 l.length).extract 0 (Sort.insertionSort (ltOf (cfW m (l.headD []))) l.toArray 0 l.length).size by rw [← this]]
    rw [Array.extract_size]
  have e2 : l.toArray.extract 0 l.length = l.toArray := by
    conv => lhs; rw [show l.toArray.extract 0 l.length = l.toArray.extract 0 l.toArray.size by simp]
    rw [Array.extract_size]
  rw [e1, e2] at h3
  exact h3
set_option maxHeartbeats 4000000 in
set_option maxRecDepth 100000 in
/-- the closure of Waiting: since when two boards wait, compared. -/
theorem since_any (S X : Nat) (rh rr : Int) (m : Sm Bd0) (w0 W : World) (h : ShopA w0 W S rh rr m) (hX : W.cell? ⟨X, 0, none⟩ = some (.pointer (some ⟨S, 0, none⟩))) (x y : Bs) (bx bb : Bd0) (hx : m.get x = some bx) (hy : m.get y = some bb) (lx : x.length ≤ 1000) (ly : y.length ≤ 1000) :
    Calls Tryz.prog 93 #[.string (baOf x), .string (baOf y), .pointer (some ⟨X, 0, none⟩)] W fun e w' => e = .returned (.int .i64 (cmpV bx.si bb.si)) ∧ ∃ q, w' = W.drewN q := by
  obtain ⟨⟨L, hL, hLm⟩, _⟩ := h
  have c1 : W.cell? ⟨S, 2, none⟩ = some (.map (some (S - 1))) := blk_cell hL.blk 2
  have get : ∀ k b, m.get k = some b → ∃ g, L.get k = some (g, b) := fun k b hk => by
    rw [← hLm, Sm.get_mapv] at hk
    cases hg : L.get k with
    | none => rw [hg] at hk; cases hk
    | some p => rw [hg] at hk; injection hk with hk; exact ⟨p.1, by rw [← hk]⟩
  have sz : ∀ k : Bs, k.length ≤ 1000 → (baOf k).size ≤ maxLen := fun k hk => by
    have e : (baOf k).size = k.length := by show k.toArray.size = _; simp
    rw [e]; unfold maxLen; omega
  obtain ⟨gx, hgx⟩ := get x bx hx
  obtain ⟨gy, hgy⟩ := get y bb hy
  have hlx : ∀ n, (Instr.lookup 144 (.map (some (S - 1))) (.string (baOf x)) false).run Tryz.prog (W.drewN n) = .ok (.pointer (some ⟨gx, 0, none⟩)) (W.drewN n) := fun n => by
    have := (hL.map.keep (w' := W.drewN n) rfl).look TP.ok (baOf x) (sz x lx)
    rw [Sm.get_mapv, show (baOf x).data.toList = x from bsOf_baOf x, hgx] at this
    exact this
  have hly : ∀ n, (Instr.lookup 144 (.map (some (S - 1))) (.string (baOf y)) false).run Tryz.prog (W.drewN n) = .ok (.pointer (some ⟨gy, 0, none⟩)) (W.drewN n) := fun n => by
    have := (hL.map.keep (w' := W.drewN n) rfl).look TP.ok (baOf y) (sz y ly)
    rw [Sm.get_mapv, show (baOf y).data.toList = y from bsOf_baOf y, hgy] at this
    exact this
  have dx : W.cell? ⟨gx, 1, none⟩ = some (.int .i64 bx.si) := blk_cell (hL.brd _ (Sm.get_mem hgx)).2.2.1 1
  have dy : W.cell? ⟨gy, 1, none⟩ = some (.int .i64 bb.si) := blk_cell (hL.brd _ (Sm.get_mem hgy)).2.2.1 1
  have lgx := (hL.brd _ (Sm.get_mem hgx)).2.lt
  have lgy := (hL.brd _ (Sm.get_mem hgy)).2.lt
  have lS := hL.lt
  have lX := World.block_lt_of_cell? _ _ hX
  simp only at lX lgx lgy
  clear hL hLm get sz hgx hgy hx hy lx ly
  go_enter Tryz.func93, Tryz.ntmps93
  go_wp2_with fail
  go_quiet ((go_at_call 94; exact Calls.quiet_of_same (cmpV_any _ _ _)))
  go_wp2
  go_ret
  exact ⟨rfl, _, rfl⟩
set_option maxHeartbeats 1000000 in
theorem insEmpty_any (a : Option Addr) (n cap : Nat) (f : Value) (w : World) : Calls Tryz.prog 199 #[.slice a n cap, .int .i64 0, .int .i64 0, f] w fun e w' => e = .returned (.tuple #[]) ∧ w = w' := by
  go_enter Tryz.func199, Tryz.ntmps199
  go_wp2
  go_loopw [8] (fun i wr => i = .int .i64 1 ∧ w = wr) (fun _ _ => 0)
  case atStart => exact ⟨rfl, rfl⟩
  case round =>
    obtain ⟨rfl, rfl⟩ := hrel
    go_wp2
    go_end0
    exact ⟨rfl, rfl⟩
theorem enc_flat {m : Sm Bd0} {k0 : Bs} {l : List Bs} (h : ∀ k ∈ l, (m.get k).isSome = true) : l.map (encW m k0) = (l.map baOf).flatMap TS.f := by
  induction l with
  | nil => rfl
  | cons a l ih =>
    rw [List.map_cons, ih fun k hk => h k (List.mem_cons_of_mem _ hk), List.map_cons, List.flatMap_cons]
    unfold encW
    rw [normW_of (h a (List.mem_cons_self ..))]; rfl
theorem insW_any (S X : Nat) (rh rr : Int) (m : Sm Bd0) (w0 w : World) (B : Nat) (hB : B ≤ w.heap.size) (l : List Bs) (v : Value) (hO : OwnR TS w B v (l.map baOf)) (hsh : ∀ W, Below B w W → ShopA w0 W S rh rr m) (hX : ∀ W, Below B w W → W.cell? ⟨X, 0, none⟩ = some (.pointer (some ⟨S, 0, none⟩)))
    (hl : ∀ k ∈ l, (m.get k).isSome = true) (hn : Names m) (h19 : l.length ≤ 19) :
    Calls Tryz.prog 199 #[v, .int .i64 0, .int .i64 l.length, .func (.func 93) #[] #[.pointer (some ⟨X, 0, none⟩)]] w fun e w' => e = .returned (.tuple #[]) ∧ OwnR TS w' B v ((sortW m l).map baOf) ∧ Below B w w' := by
  by_cases h0 : l = []
  · subst h0
    obtain ⟨a, cap, rfl, _, _⟩ := hO.form
    exact (insEmpty_any a _ cap _ w).mono fun e w' ⟨he, hw⟩ => ⟨he, by subst hw; rw [List.Perm.eq_nil (sortW_perm m [])]; exact hO, by subst hw; exact Below.refl _ _⟩
  · have hk0 : (m.get (l.headD [])).isSome = true := hl _ (by cases l with | nil => exact absurd rfl h0 | cons a l => simp)
    have hrow : w.ownsRow B 9 1 v l.length (l.map (encW m (l.headD []))) := by
      rw [enc_flat hl]
      have := hO
      unfold OwnR at this
      rw [List.length_map] at this
      exact this
    obtain ⟨g, cap, hv⟩ : ∃ g cap, v = .slice (some ⟨g, 0, none⟩) l.length cap := by
      rcases hrow.2 with ⟨_, hz⟩ | ⟨g, cap, _, hv, _⟩
      · exact absurd (List.eq_nil_of_length_eq_zero hz) h0
      · exact ⟨g, cap, hv⟩
    subst hv
    obtain ⟨hH, hg, hBg⟩ := holds_own (encW m (l.headD [])) hrow rfl
    have hbel : ∀ (q : Nat) (os : Array Obj) (dk : Array Bs), Below B w (sortWorld (encW m (l.headD [])) w g 0 q dk os) := fun q os dk => Gr.below (grownBy_resorted (encW m (l.headD [])) dk) hBg hB
    have hcmp : CmpReads Tryz.prog 93 #[.pointer (some ⟨X, 0, none⟩)] (encW m (l.headD [])) (cfW m (l.headD [])) g 0 l.toArray.size w := fun q os dk _ x y => by
      obtain ⟨bx, hbx⟩ := normW_in hk0 x
      obtain ⟨bb, hby⟩ := normW_in hk0 y
      have := since_any S X rh rr m w0 _ (hsh _ (hbel q os dk)) (hX _ (hbel q os dk)) _ _ bx bb hbx hby (hn _ (Sm.get_mem hbx)) (hn _ (Sm.get_mem hby))
      have e : cfW m (l.headD []) x y = cmpV bx.si bb.si := by unfold cfW sinceOf; rw [hbx, hby]; rfl
      rw [e]
      exact this
    have hc := Any.insertionSortCmpFunc_one Tryz.insS (encW m (l.headD [])) (fun _ => rfl) (cfW m (l.headD [])) 93 #[.pointer (some ⟨X, 0, none⟩)] g 0 cap 0 l.length l.toArray w (enters_of Tryz.func93 (by kernel_rfl) rfl) hcmp hH (Nat.zero_le _) (by simp) (by simp; omega)
    have e2 : l.toArray.size = l.length := by simp
    rw [e2] at hc
    refine hc.mono ?_
    rintro e w' ⟨rfl, q, rfl⟩
    rw [← sortWorld_none]
    refine ⟨rfl, ?_, hbel _ _ _⟩
    have hp := sortW_perm m l
    have hr := own_resorted (encW m (l.headD [])) (q := q) (os := #[]) (m := sortW m l) hrow rfl hp.length_eq
    unfold OwnR
    rw [← enc_flat (k0 := l.headD []) fun k hk => hl k (hp.mem_iff.1 hk), List.length_map, hp.length_eq]
    have e3 : (sortW m l).toArray = Sort.insertionSort (ltOf (cfW m (l.headD []))) l.toArray 0 l.length := by unfold sortW; simp
    rw [e3] at hr
    exact hr
set_option maxHeartbeats 4000000 in
set_option maxRecDepth 100000 in
theorem stableW_any (S X : Nat) (rh rr : Int) (m : Sm Bd0) (w0 w : World) (B : Nat) (hB : B ≤ w.heap.size) (l : List Bs) (v : Value) (hO : OwnR TS w B v (l.map baOf)) (hsh : ∀ W, Below B w W → ShopA w0 W S rh rr m) (hX : ∀ W, Below B w W → W.cell? ⟨X, 0, none⟩ = some (.pointer (some ⟨S, 0, none⟩)))
    (hl : ∀ k ∈ l, (m.get k).isSome = true) (hn : Names m) (h19 : l.length ≤ 19) :
    Calls Tryz.prog 92 #[v, .func (.func 93) #[] #[.pointer (some ⟨X, 0, none⟩)]] w fun e w' => e = .returned (.tuple #[]) ∧ OwnR TS w' B v ((sortW m l).map baOf) ∧ Below B w w' := by
  have HI := Lib.hid (insW_any S X rh rr m w0 w B hB l v hO hsh hX hl hn h19)
  obtain ⟨a, n, cap, hv, hnl⟩ : ∃ a n cap, v = .slice a n cap ∧ n = l.length := by obtain ⟨a, cap, hv, _, _⟩ := hO.form; exact ⟨a, _, cap, hv, List.length_map _⟩
  subst hv
  rw [← hnl] at HI
  have hn19 : n ≤ 19 := by omega
  clear hO hsh hX hl hn hnl h19
  have HS : Hid (Calls Tryz.prog 157 #[.slice a n cap, .int .i64 n, .func (.func 93) #[] #[.pointer (some ⟨X, 0, none⟩)]] w fun e w' => e = .returned (.tuple #[]) ∧ OwnR TS w' B (.slice a n cap) ((sortW m l).map baOf) ∧ Below B w w') := Lib.hid (by
    go_enter Tryz.func157, Tryz.ntmps157
    go_wp2_with fail
    go_loopw [7, 8] (fun x y wr => x = .int .i64 0 ∧ y = .int .i64 20 ∧ w = wr) (fun _ _ _ => 0)
    case atStart => exact ⟨rfl, rfl, rfl⟩
    case round =>
      obtain ⟨rfl, rfl, rfl⟩ := hrel
      have hn20 : ¬ (20 : Int) ≤ (n : Int) := by omega
      go_wp2_with fail
      refine HI.out.mono ?_
      rintro e w2 ⟨rfl, hO2, hb2⟩
      have HO2 := Lib.hid hO2
      clear hO2
      go_wp2_with fail
      go_loopw [6] (fun x wr => x = .int .i64 20 ∧ w2 = wr) (fun _ _ => 0)
      case atStart => exact ⟨rfl, rfl⟩
      case round =>
        obtain ⟨rfl, rfl⟩ := hrel
        have hn21 : ¬ (20 : Int) < (n : Int) := by omega
        go_wp2_with fail
        go_end0
        exact ⟨rfl, HO2.out, hb2⟩)
  go_enter Tryz.func92, Tryz.ntmps92
  go_wp2_with fail
  refine HS.out.mono ?_
  rintro e w2 ⟨rfl, hO2, hb2⟩
  have HO2 := Lib.hid hO2
  clear hO2
  go_wp2
  go_end0
  exact ⟨rfl, HO2.out, hb2⟩
def waitL (rh rr : Int) (l : List Stp) (at' : Int) : List Bs := if mfltF rh rr l at' = 0 then sortW (runS rh rr at' [] l) (inS (runS rh rr at' [] l) 3) else []
theorem inS_some {m : Sm Bd0} (hm : Sm.Ok m) {st : Int} : ∀ k ∈ inS m st, (m.get k).isSome = true := fun k hk => by
  obtain ⟨b, hb, _⟩ := inS_mem hm hk
  rw [hb]; rfl
set_option maxHeartbeats 4000000 in
set_option maxRecDepth 100000 in
theorem Waiting_any (rh rr : Int) (l : List Stp) (at' : Int) (v : Value) (w : World) (hl : l.length ≤ 24) (rl : RecR TSt w 0 v l) (hz : StpZ l) :
    Calls Tryz.prog 29 #[.agg #[.int .i64 rh, .int .i64 rr], v, .int .i64 at'] w fun e w' => (∃ v', e = .returned (.tuple #[v', .int .i64 (mfltF rh rr l at')]) ∧ OwnR TS w' w.heap.size v' ((waitL rh rr l at').map baOf)) ∧ Below w.heap.size w w' := by
  have hR0 := blk_new w (.cells #[.int .i64 rh, .int .i64 rr] 27)
  have hb0 := Bl.alloc (Below.refl w.heap.size w) (.cells #[.int .i64 rh, .int .i64 rr] 27)
  have HMF := Lib.hid fun W (hW : Below w.heap.size w W) => rMomentFault_any rh rr l at' v W (by omega) (rl.below hW) hz
  have HSA := Lib.hid fun W (hW : Below w.heap.size w W) => shopAt_any rh rr at' l v W (rl.below hW)
  obtain ⟨F, hF⟩ : ∃ F, F = mfltF rh rr l at' := ⟨_, rfl⟩
  obtain ⟨R, hR⟩ : ∃ R, R = waitL rh rr l at' := ⟨_, rfl⟩
  rw [← hF] at HMF
  rw [← hR, ← hF]
  have HR := Lib.hid (show R = if F = 0 then sortW (runS rh rr at' [] l) (inS (runS rh rr at' [] l) 3) else [] by rw [hR, hF]; rfl)
  have HF := Lib.hid hF
  have HL := Lib.hid hl
  clear hF hR rl hl hz
  by_cases h0 : F = 0
  · subst h0
    have HZ := Lib.hid (mfltF_zero HF.out.symm)
    have HRE : Hid (R = sortW (runS rh rr at' [] l) (inS (runS rh rr at' [] l) 3)) := Lib.hid (by rw [HR.out]; simp)
    clear HR
    go_enter Tryz.func29, Tryz.ntmps29
    go_wp2_with fail
    refine (HMF.out _ hb0).mono ?_
    rintro e w2 ⟨rfl, hb2⟩
    have hb02 := Bl.trans hb0 hb2
    have hR2 := blk_below hR0 hb2
    have q0 : w2.cell? ⟨w.heap.size, 0, none⟩ = some (.int .i64 rh) := blk_cell hR2 0
    have q1 : w2.cell? ⟨w.heap.size, 1, none⟩ = some (.int .i64 rr) := blk_cell hR2 1
    clear hb0 hR0 hb2
    go_wp2_with fail
    refine (HSA.out _ hb02 HZ.out.2.1).mono ?_
    rintro e w3 ⟨⟨S, rfl, hs⟩, hb3⟩
    have hb03 := Bl.trans hb02 hb3
    have hb34 := Bl.alloc (Below.refl w3.heap.size w3) (.cells #[.pointer (some ⟨S, 0, none⟩)] 107)
    have hX4 := blk_new w3 (.cells #[.pointer (some ⟨S, 0, none⟩)] 107)
    have hs4 := hs.below hb34
    have hb04 := Bl.trans hb03 hb34
    clear hs hb3 hR2 q0 q1 hb03 hb02 hb34
    go_wp2_with fail
    generalize w3.alloc (.cells #[.pointer (some ⟨S, 0, none⟩)] 107) = w4 at *
    refine (In_any S rh rr 3 _ _ w4 hs4 (run_names HZ.out.2.1) (run_small HZ.out.2.1).1).mono ?_
    rintro e w5 ⟨⟨v5, rfl, hO5⟩, hb5⟩
    have HST := Lib.hid (stableW_any S w3.heap.size rh rr _ _ w5 w4.heap.size hb5.size _ v5 hO5 (fun W hW => hs4.below (Below.trans hb5 hW)) (fun W hW => blk_cell (blk_below hX4 (Below.trans hb5 hW)) 0) (inS_some (runS_ok l Sm.Ok.nil)) (run_names HZ.out.2.1) (by have := fail_few (rh := rh) (rr := rr) (at' := at') HL.out; omega))
    have hz4 := hb04.size
    have HB5 := Lib.hid (Bl.trans hb04 hb5)
    clear hs4 hb04 hb5 hO5 hX4
    go_wp2_with fail
    refine HST.out.mono ?_
    rintro e w6 ⟨rfl, hO6, hb6⟩
    have H6 := Lib.hid (hO6.base hz4)
    have HB6 := Lib.hid (Below.trans HB5.out (hb6.mono hz4))
    clear hO6 hb6
    go_wp2
    go_ret2
    exact ⟨⟨_, rfl, by rw [HRE.out]; exact H6.out⟩, HB6.out⟩
  · have HRE : Hid (R = []) := Lib.hid (by rw [HR.out, if_neg h0])
    go_enter Tryz.func29, Tryz.ntmps29
    go_wp2_with fail
    refine (HMF.out _ hb0).mono ?_
    rintro e w2 ⟨rfl, hb2⟩
    have hb02 := Bl.trans hb0 hb2
    go_wp2
    go_ret2
    exact ⟨⟨_, rfl, by rw [HRE.out]; exact OwnR.nil _ _⟩, hb02⟩
end Go.Proofs.YthdolfnfiggkjaaGreatDoor
namespace Go.Proofs.YthdolfnfiggkjaaGreatDoor
open Go.RowKit Go.Sort Go.Maps Go.Lib

/-- the next entry of a range over a map keyed by strings. -/
theorem next_sv {w : World} {ops : Array Oper} {rest : List Oper} {o : Oper} {a : Act} {Q : Exit → Act → World → Prop}
    (hg : o.guard = none) (it : Operand) (hop : o.op = Op.next it false) {R : Value → Option (DataW Unit × List MemPlace)} {b r n : Nat} {D : DataW Unit} {left : Lit → Bool} {cnt : Nat}
    (hit : a.eval it = .pointer (some ⟨r, 0, none⟩)) (h : w.ranges Tryz.prog 9 R b r n D left cnt)
    (hDone : cnt = 0 → (∀ kl, left kl = false) → wpList Tryz.prog ops Q rest (a.put o.dst (.tuple #[.bool false])) w)
    (hMore : ∀ (x : Bs) (cv : Value) (w' : World) (cnt' : Nat), x.length ≤ maxLen → left (.string x) = true → Maps.has D (.string x) = true → w'.ranges Tryz.prog 9 R b r n D (fun z => left z && !z.sameKey (.string x)) cnt' → cnt' < cnt →
      w.grownBy w' (some r) → w'.heap.size = w.heap.size → (Instr.entry (.pointer (some ⟨r, 0, none⟩))).run Tryz.prog w' = .ok (.tuple #[.string (baOf x), cv]) w' → wpList Tryz.prog ops Q rest (a.put o.dst (.tuple #[.bool true, .string (baOf x), cv])) w') :
    wpList Tryz.prog ops Q (o :: rest) a w :=
  wpList_next_ranges w hg it hop 9 strKd R encStr id (fun key kl hkey => by obtain ⟨x, hx, _⟩ := Maps.keyOf_str (k := 9) Tryz.underlying9 hkey; exact ⟨x, hx⟩) (fun v y _ => ⟨v, rfl⟩)
    b r n D left cnt hit h hDone (fun x cv kl y w' cnt' hkey hlk hv hat hrg hlt hgr hsz hen => by
      obtain ⟨x', ex, rfl, hwx⟩ := Maps.keyOf_str (k := 9) Tryz.underlying9 hkey
      have e := encStr_inj ex
      subst e
      exact hMore x cv w' cnt' hwx hlk (has_true_of_atKey hat) hrg hlt hgr hsz hen)
theorem boolE_inv {v : Value} {y : DataW Unit × List MemPlace} (h : boolE v = some y) : ∃ c : Bool, v = .bool c := by
  unfold boolE at h
  split at h
  · exact ⟨_, rfl⟩
  · cases h
theorem strI (key : Value) (kl : Lit) (h : keyOf Tryz.prog 9 key = some kl) : ∃ x : Bs, key = encStr x := by
  obtain ⟨x, hx, _⟩ := Maps.keyOf_str (k := 9) Tryz.underlying9 h
  exact ⟨x, hx⟩
/-- a key that the datum has. -/
theorem smD_key {α : Type} {T : Mty α} {l : Sm α} {x : Bs} (h : Maps.has (DataW.map (smD T l)) (.string x) = true) : x ∈ l.keys := by
  rw [smD_has] at h
  exact Sm.has_iff.1 h
set_option maxHeartbeats 4000000 in
set_option maxRecDepth 100000 in
theorem isHopeless_any (g : Nat) (b : Bd0) (rh rr : Int) (w : World) (hM : BrdM w g b) (hs : b.Sm1 100000) (hr : 0 ≤ rh ∧ rh ≤ 1000000) (hk : ∀ p ∈ b.op, p.1.length ≤ 1000) :
    Calls Tryz.prog 97 #[.pointer (some ⟨g, 0, none⟩), .agg #[.int .i64 rh, .int .i64 rr]] w fun e w' => e = .returned (.bool (isHopB rh rr b)) ∧ Below w.heap.size w w' := by
  obtain ⟨st, si, he, op, rp, lp⟩ := b
  obtain ⟨hs1, hs2, _⟩ := hs
  simp only at hs1 hs2 hk
  have hb0 := Bl.alloc (Below.refl w.heap.size w) (.cells #[.int .i64 rh, .int .i64 rr] 27)
  have hX0 := blk_new w (.cells #[.int .i64 rh, .int .i64 rr] 27)
  have hM1 := hM.below hb0
  have lg := hM.lt
  clear hM
  obtain ⟨_, hB, hO, hR⟩ := hM1
  have HB := Lib.hid hB
  have HO := Lib.hid hO
  have HR := Lib.hid hR
  have HK := Lib.hid hk
  simp only at HO HR
  clear hB hO hR hk
  have HH : Hid (isHopB rh rr ⟨st, si, he, op, rp, lp⟩ = (decide (rh - he < (op.length : Int)) || op.any fun p => decide (rr ≤ (rp.get p.1).getD 0))) := Lib.hid rfl
  generalize isHopB rh rr ⟨st, si, he, op, rp, lp⟩ = R at *
  have hlen : ∀ (n : Nat) (ty : TypeId), (Builtin.len_ #[139] ty #[.map (some (g - 2))]).run Tryz.prog ((w.alloc (.cells #[.int .i64 rh, .int .i64 rr] 27)).drewN n) = .ok (.int .i64 op.length) ((w.alloc (.cells #[.int .i64 rh, .int .i64 rr] 27)).drewN n) := fun n ty =>
    (HO.out.keep (w' := (w.alloc (.cells #[.int .i64 rh, .int .i64 rr] 27)).drewN n) rfl).len TB.ok ty
  have hlen1 : ∀ (ty : TypeId), (Builtin.len_ #[139] ty #[.map (some (g - 2))]).run Tryz.prog (w.alloc (.cells #[.int .i64 rh, .int .i64 rr] 27)).drew = .ok (.int .i64 op.length) (w.alloc (.cells #[.int .i64 rh, .int .i64 rr] 27)).drew := fun ty => hlen 1 ty
  have c2 : (w.alloc (.cells #[.int .i64 rh, .int .i64 rr] 27)).cell? ⟨g, 2, none⟩ = some (.int .i64 he) := blk_cell HB.out 2
  have c3 : (w.alloc (.cells #[.int .i64 rh, .int .i64 rr] 27)).cell? ⟨g, 3, none⟩ = some (.map (some (g - 2))) := blk_cell HB.out 3
  have x0 : (w.alloc (.cells #[.int .i64 rh, .int .i64 rr] 27)).cell? ⟨w.heap.size, 0, none⟩ = some (.int .i64 rh) := blk_cell hX0 0
  have hwr : IntKind.i64.wrap (rh - he) = rh - he := IntWalk.i64_in _ (by omega)
  have lg1 : g < (w.alloc (.cells #[.int .i64 rh, .int .i64 rr] 27)).heap.size := blk_lt HB.out
  have lx1 := blk_lt hX0
  have HX := Lib.hid hX0
  clear hX0
  by_cases h1 : rh - he < (op.length : Int)
  · have HRT : Hid (R = true) := Lib.hid (by rw [HH.out, decide_eq_true h1]; rfl)
    go_enter Tryz.func97, Tryz.ntmps97
    go_wp2
    go_quiet (fail)
    go_wp2
    go_ret
    exact ⟨ret_bool HRT.out.symm, Bl.drewN hb0 _⟩
  · have HRT : Hid (R = (op.any fun p => decide (rr ≤ (rp.get p.1).getD 0))) := Lib.hid (by rw [HH.out, decide_eq_false h1]; rfl)
    go_enter Tryz.func97, Tryz.ntmps97
    go_wp2
    go_quiet (fail)
    have hB1 : Brd ((w.alloc (.cells #[.int .i64 rh, .int .i64 rr] 27)).drewN nq) g st si he (.map (some (g - 2))) (.map (some (g - 1))) lp := HB.out
    have hO1 : MapS TB ((w.alloc (.cells #[.int .i64 rh, .int .i64 rr] 27)).drewN nq) (g - 2) op := HO.out.keep rfl
    have hR1 : MapS TI ((w.alloc (.cells #[.int .i64 rh, .int .i64 rr] 27)).drewN nq) (g - 1) rp := HR.out.keep rfl
    have hX1 : ((w.alloc (.cells #[.int .i64 rh, .int .i64 rr] 27)).drewN nq).heap[w.heap.size]? = some (.cells #[.int .i64 rh, .int .i64 rr] 27 (0, 0)) := HX.out
    have hb1 := Bl.drewN hb0 nq
    have d3 : ((w.alloc (.cells #[.int .i64 rh, .int .i64 rr] 27)).drewN nq).cell? ⟨g, 3, none⟩ = some (.map (some (g - 2))) := c3
    clear hlen hlen1 c2 c3 x0 hwr lg1 lx1 HB HO HR HX hb0
    generalize (w.alloc (.cells #[.int .i64 rh, .int .i64 rr] 27)).drewN nq = W1 at *
    have hgW : g < W1.heap.size := blk_lt hB1
    have hxW : w.heap.size < W1.heap.size := blk_lt hX1
    have HB := Lib.hid hB1
    have HR := Lib.hid hR1
    have HX := Lib.hid hX1
    have hO2 := hO1.2
    clear hB1 hR1 hX1 hO1
    go_wp2_with (first
      | (at_range; refine wpList_range_own _ rfl _ 139 rfl 9 4 strKd Tryz.underlying139 _ (g - 2) op.length (.map (smD TB op)) rfl hO2 ?_; intro w0 hrg0 hg0 hs0)
      | go_in)
    go_frame
    go_loopw [5] (fun _ wr => ∃ (left : Lit → Bool) (cnt : Nat), wr.ranges Tryz.prog 9 boolE (g - 2) W1.heap.size op.length (.map (smD TB op)) left cnt ∧ Hid (∀ p ∈ op, left (.string p.1) = false → (rp.get p.1).getD 0 < rr) ∧ Below W1.heap.size W1 wr ∧ W1.heap.size < wr.heap.size) (fun _ wr => wr.rangeLeft (g - 2) W1.heap.size)
    case atStart =>
      refine ⟨_, _, hrg0, Lib.hid fun p hp hl => ?_, Gr.below_none hg0, by omega⟩
      exfalso
      have : Maps.has (DataW.map (smD TB op)) (.string p.1) = true := by rw [smD_has]; exact Sm.has_iff.2 (List.mem_map.2 ⟨p, hp, rfl⟩)
      rw [this] at hl; cases hl
    case round =>
      obtain ⟨left, cnt, hrg, HN, hbr, hsz⟩ := hrel
      go_wp2_with (first
        | (at_next; refine next_sv rfl _ rfl rfl hrg ?_ ?_)
        | go_in)
      · intro _ hl0
        have HRF : Hid (R = false) := Lib.hid (by
          rw [HRT.out, List.any_eq_false]
          intro p hp
          have := HN.out p hp (hl0 _)
          simpa using this)
        go_wp2
        go_ret
        exact ⟨ret_bool HRF.out.symm, Below.trans hb1 (hbr.mono (Nat.le_of_lt hxW))⟩
      · intro x cv w1 cnt1 hxl hlk hhas hrg1 hlt hg1 hsz1 hen
        have hxk := smD_key hhas
        have HN1 : Hid ((rp.get x).getD 0 < rr → ∀ p ∈ op, (left (.string p.1) && !(Lit.string p.1).sameKey (.string x)) = false → (rp.get p.1).getD 0 < rr) := Lib.hid (fun hno p hp hl => by
          by_cases hpx : p.1 = x
          · rw [hpx]; exact hno
          · refine HN.out p hp ?_
            rw [sm_same] at hl
            simpa [hpx] using hl)
        have HY : Hid (rr ≤ (rp.get x).getD 0 → R = true) := Lib.hid fun h => by
          obtain ⟨p, hp, e⟩ := List.mem_map.1 hxk
          rw [HRT.out]
          exact List.any_eq_true.2 ⟨p, hp, by rw [e]; simpa using h⟩
        have hbr1 : Below W1.heap.size W1 w1 := Below.trans hbr (Gr.below hg1 (Nat.le_refl _) (Nat.le_of_lt hsz))
        have hB1 : Brd w1 g st si he (.map (some (g - 2))) (.map (some (g - 1))) lp := blk_below HB.out hbr1
        have hR1 := HR.out.below hbr1
        have hX1 := blk_below HX.out hbr1
        have e4 : w1.cell? ⟨g, 4, none⟩ = some (.map (some (g - 1))) := blk_cell hB1 4
        have e1 : w1.cell? ⟨w.heap.size, 1, none⟩ = some (.int .i64 rr) := blk_cell hX1 1
        have hbx : (baOf x).size ≤ maxLen := by show x.toArray.size ≤ maxLen; simpa using hxl
        obtain ⟨rv, hrv⟩ : ∃ rv, rv = (rp.get x).getD 0 := ⟨_, rfl⟩
        have hlk2 : ∀ n, (Instr.lookup 140 (.map (some (g - 1))) (.string (baOf x)) false).run Tryz.prog (w1.drewN n) = .ok (.int .i64 rv) (w1.drewN n) := fun n => by
          have := (hR1.keep (w' := w1.drewN n) rfl).look TI.ok (baOf x) hbx
          rw [show (baOf x).data.toList = x from bsOf_baOf x] at this
          rw [hrv]; exact this
        have hg1' : g < w1.heap.size := by omega
        have hx1' : w.heap.size < w1.heap.size := by omega
        rw [← hrv] at HY HN1
        clear hB1 hR1 hX1 hrv hxk hhas
        by_cases hrr : rr ≤ rv
        · go_wp2
          go_quiet (fail)
          go_wp2
          go_ret
          exact ⟨ret_bool (HY.out hrr).symm, Bl.drewN (Below.trans hb1 (hbr1.mono (Nat.le_of_lt hxW))) _⟩
        · have HNN := Lib.hid (HN1.out (by omega))
          go_wp2
          go_quiet (fail)
          go_wp2
          go_roundw
          case rel => exact ⟨fun z => left z && !z.sameKey (.string x), cnt1, hrg1, HNN, Bl.drewN hbr1 _, by show _ < w1.heap.size; omega⟩
          case measure => rw [show (w1.drewN nq).rangeLeft (g - 2) W1.heap.size = cnt1 from hrg1.left_eq, hrg.left_eq]; exact hlt
end Go.Proofs.YthdolfnfiggkjaaGreatDoor
namespace Go.Proofs.YthdolfnfiggkjaaGreatDoor
open Go.RowKit Go.Sort Go.Maps

set_option maxHeartbeats 4000000 in
set_option maxRecDepth 100000 in
theorem hopC_any (S X Y : Nat) (rh rr : Int) (m : Sm Bd0) (w0 W : World) (h : ShopA w0 W S rh rr m) (hX : W.cell? ⟨X, 0, none⟩ = some (.pointer (some ⟨S, 0, none⟩))) (hY : W.heap[Y]? = some (.cells #[.int .i64 rh, .int .i64 rr] 27 (0, 0))) (x : Bs) (bx : Bd0) (hx : m.get x = some bx) (lx : x.length ≤ 1000) (hm : AllSm m 100000) (hr : 0 ≤ rh ∧ rh ≤ 1000000) (hk : ∀ p ∈ bx.op, p.1.length ≤ 1000) :
    Calls Tryz.prog 96 #[.string (baOf x), .pointer (some ⟨X, 0, none⟩), .pointer (some ⟨Y, 0, none⟩)] W fun e w' => e = .returned (.bool (!isHopB rh rr bx)) ∧ Below W.heap.size W w' := by
  obtain ⟨⟨L, hL, hLm⟩, _⟩ := h
  obtain ⟨g, hg⟩ : ∃ g, L.get x = some (g, bx) := by
    rw [← hLm, Sm.get_mapv] at hx
    cases hg : L.get x with
    | none => rw [hg] at hx; cases hx
    | some p => rw [hg] at hx; injection hx with hx; exact ⟨p.1, by rw [← hx]⟩
  have hbx : (baOf x).size ≤ maxLen := by
    have e : (baOf x).size = x.length := by show x.toArray.size = _; simp
    rw [e]; unfold maxLen; omega
  have hlx : (Instr.lookup 144 (.map (some (S - 1))) (.string (baOf x)) false).run Tryz.prog W.drew = .ok (.pointer (some ⟨g, 0, none⟩)) W.drew := by
    have := (hL.map.drew).look TP.ok (baOf x) hbx
    rw [Sm.get_mapv, show (baOf x).data.toList = x from bsOf_baOf x, hg] at this
    exact this
  have c1 : W.cell? ⟨S, 2, none⟩ = some (.map (some (S - 1))) := blk_cell hL.blk 2
  have y0 : W.cell? ⟨Y, 0, none⟩ = some (.int .i64 rh) := blk_cell hY 0
  have y1 : W.cell? ⟨Y, 1, none⟩ = some (.int .i64 rr) := blk_cell hY 1
  have lS := hL.lt
  have lX := World.block_lt_of_cell? _ _ hX
  have lY := blk_lt hY
  simp only at lX
  have hBr := (hL.brd _ (Sm.get_mem hg)).2
  have hsm : bx.Sm1 100000 := hm.2 _ (by rw [← hLm] at hx ⊢; exact Sm.get_mem hx)
  have HIS := Lib.hid (isHopeless_any g bx rh rr W.drew (hBr.below (Below.drew (Below.refl _ _))) hsm hr hk)
  clear hL hLm hx hBr hY hg hm hsm hk
  generalize isHopB rh rr bx = R at *
  go_enter Tryz.func96, Tryz.ntmps96
  go_wp2_with fail
  go_region_with (go_at_call 97; refine HIS.out.mono ?_; rintro e w2 ⟨rfl, hb2⟩)
  all_goals (
    go_wp2
    go_ret
    exact ⟨rfl, Below.trans (Below.drew (Below.refl _ _)) hb2⟩)
/-- the first cells of a row. -/
def TopS (w : World) (B g n cap : Nat) (l : List ByteArray) : Prop := B ≤ g ∧ n ≤ cap ∧ cap ≤ maxLen ∧ l.length = n ∧ ∃ cur, w.heap[g]? = some (.cells cur 9 (0, 0)) ∧ cur.size = cap ∧ cur.toList.take n = l.map Value.string
theorem TopS.own {w : World} {B g n cap : Nat} {l : List ByteArray} (h : TopS w B g n cap l) : OwnR TS w B (.slice (some ⟨g, 0, none⟩) n cap) l := by
  obtain ⟨h1, h2, h3, h4, cur, h5, h6, h7⟩ := h
  have hf : l.flatMap TS.f = l.map Value.string := by
    clear h4 h7
    induction l with
    | nil => rfl
    | cons a l ih => rw [List.flatMap_cons, ih]; rfl
  refine ⟨by rw [hf, List.length_map]; exact (Nat.mul_one _).symm, .inr ⟨g, cap, cur, by rw [h4], h1, h5, by omega, h3, by rw [h6]; exact (Nat.mul_one _).symm, ?_⟩⟩
  rw [hf, ← h7, h4]
  show _ = cur.toList.take n
  rw [show n * TS.k = n from Nat.mul_one n]
theorem TopS.set {w : World} {B g n cap : Nat} {l : List ByteArray} (h : TopS w B g n cap l) {o : Nat} (ho : n ≤ o) (v : Value) : TopS (w.setCell ⟨g, o, none⟩ v) B g n cap l := by
  obtain ⟨h1, h2, h3, h4, cur, h5, h6, h7⟩ := h
  exact ⟨h1, h2, h3, h4, _, blk_set h5 o v, by simp [h6], by rw [Array.toList_setIfInBounds, List.take_set_of_le ho]; exact h7⟩
theorem TopS.sets {B g n cap : Nat} {l : List ByteArray} : ∀ (vs : List Value) (o : Nat) {w : World}, TopS w B g n cap l → n ≤ o → TopS (w.setCells g o vs) B g n cap l
  | [], _, _, h, _ => h
  | v :: r, o, _, h, ho => TopS.sets r (o + 1) (h.set ho v) (by omega)
theorem Bl.sets {B g : Nat} {a : World} (hg : B ≤ g) : ∀ (vs : List Value) (o : Nat) {w : World}, Below B a w → Below B a (w.setCells g o vs)
  | [], _, _, h => h
  | v :: r, o, _, h => Bl.sets hg r (o + 1) (Bl.set h g o hg v)
theorem top_of {w : World} {B g n N cap : Nat} {l' l : List ByteArray} (h : OwnR TS w B (.slice (some ⟨g, 0, none⟩) N cap) l') (hN : l'.length = N) (h0 : 0 < N) (hn : n ≤ N) (hl : l'.take n = l) : TopS w B g n cap l := by
  have hf : ∀ l : List ByteArray, l.flatMap TS.f = l.map Value.string := fun l => by
    induction l with
    | nil => rfl
    | cons a l ih => rw [List.flatMap_cons, ih]; rfl
  obtain ⟨g', cap', cur, hv, hB, hb, h1, h2, h3, h4⟩ := h.blk (by intro e; rw [e] at hN; simp at hN; omega)
  injection hv with e1 e2 e3
  injection e1 with e1
  injection e1 with e1
  subst e1 e3
  rw [hf, show TS.k = 1 from rfl, Nat.mul_one] at h4
  refine ⟨hB, by omega, h2, by rw [← hl, List.length_take]; omega, cur, hb, by rw [h3]; exact Nat.mul_one _, ?_⟩
  rw [← hl, List.map_take, ← h4, List.take_take]
  congr 1; omega
abbrev hopV (X Y : Nat) : Value := .func (.func 96) #[] #[.pointer (some ⟨X, 0, none⟩), .pointer (some ⟨Y, 0, none⟩)]
/-- what is asked of the closure: it says q of each name, and turns nothing. -/
def HopQ (w : World) (B X Y : Nat) (ks : List Bs) (q : Bs → Bool) : Prop := ∀ W, Below B w W → ∀ k ∈ ks, Calls Tryz.prog 96 #[.string (baOf k), .pointer (some ⟨X, 0, none⟩), .pointer (some ⟨Y, 0, none⟩)] W fun e w' => e = .returned (.bool (q k)) ∧ Below W.heap.size W w'
set_option maxHeartbeats 1000000 in
theorem IndexH_any (w : World) (B X Y : Nat) (hB : B ≤ w.heap.size) (ks : List Bs) (q : Bs → Bool) (v : Value) (hlen : ks.length ≤ 100000) (rl : RecR TS w 0 v (ks.map baOf)) (hq : HopQ w B X Y ks q) :
    Calls Tryz.prog 159 #[v, hopV X Y] w fun e w' => (∃ r : Int, e = .returned (.int .i64 r) ∧ ((r = -1 ∧ ks.filter (fun k => !q k) = ks) ∨ ∃ i : Nat, r = i ∧ i < ks.length ∧ (ks.take i).filter (fun k => !q k) = ks.take i ∧ (ks.take (i + 1)).filter (fun k => !q k) = ks.take i)) ∧ Below w.heap.size w w' := by
  obtain ⟨a, n, cap, hv, hn⟩ : ∃ a n cap, v = .slice a n cap ∧ n = ks.length := by obtain ⟨a, cap, hv, _, _⟩ := rl.form; exact ⟨a, _, cap, hv, List.length_map _⟩
  subst hv
  have HQ := Lib.hid hq
  have RL := Lib.hid rl
  have HNL := Lib.hid hn
  have hn5 : n ≤ 100000 := by omega
  clear hq rl hn hlen
  go_enter Tryz.func159, Tryz.ntmps159
  go_wp2
  go_loopw [8] (fun i wr => ∃ k : Nat, k ≤ n ∧ i = .int .i64 k ∧ Hid ((ks.take k).filter (fun k => !q k) = ks.take k) ∧ Below w.heap.size w wr) (fun i _ => n - (intOf i).toNat)
  case atStart => exact ⟨0, Nat.zero_le _, rfl, Lib.hid rfl, Below.refl _ _⟩
  case round =>
    obtain ⟨k, hk, rfl, hf, hb⟩ := hrel
    by_cases hlt : k < n
    · obtain ⟨t, ht⟩ : ∃ t, ks[k]? = some t := ⟨_, List.getElem?_eq_getElem (by rw [← HNL.out]; exact hlt)⟩
      have HS : Hid (ks.take (k + 1) = ks.take k ++ [t]) := Lib.hid (by rw [List.take_add_one, ht]; rfl)
      have HC := HQ.out wr (hb.mono hB) t (List.mem_of_getElem? ht)
      obtain ⟨b2', o2, rfl, _, hl2, hx2⟩ := str_at (RL.out.below hb) (k := k) (x := baOf t) (by simp [ht])
      clear ht
      cases hp : q t
      · rw [hp] at HC
        have HC := Lib.hid HC
        have HN : Hid ((ks.take (k + 1)).filter (fun k => !q k) = ks.take (k + 1)) := Lib.hid (by rw [HS.out, List.filter_append, hf.out]; simp [hp])
        clear hp
        go_wp2_with (go_at_call 96; refine HC.out.mono ?_; rintro e w2 ⟨rfl, hb2⟩)
        go_roundw
        case rel => exact ⟨k + 1, by omega, by go_num, HN, hb.trans (hb2.mono hb.size)⟩
        case measure => simp [intOf]; omega
      · rw [hp] at HC
        have HC := Lib.hid HC
        have HN : Hid ((ks.take (k + 1)).filter (fun k => !q k) = ks.take k) := Lib.hid (by rw [HS.out, List.filter_append, hf.out]; simp [hp])
        clear hp
        go_wp2_with (go_at_call 96; refine HC.out.mono ?_; rintro e w2 ⟨rfl, hb2⟩)
        go_ret
        exact ⟨⟨_, rfl, .inr ⟨k, rfl, by have := HNL.out; omega, hf.out, HN.out⟩⟩, hb.trans (hb2.mono hb.size)⟩
    · have hk2 : k = n := by omega
      subst hk2
      have hff := hf.out
      rw [HNL.out, List.take_length] at hff
      go_wp2
      go_ret
      exact ⟨⟨_, rfl, .inl ⟨rfl, hff⟩⟩, hb⟩
/-- what DeleteFunc has done up to place j. -/
structure DelI (w : World) (B g N cap n j : Nat) (ks : List Bs) (q : Bs → Bool) (wr : World) (l' : List ByteArray) : Prop where
  len : l'.length = N
  own : OwnR TS wr B (.slice (some ⟨g, 0, none⟩) N cap) l'
  top : l'.take n = ((ks.take j).filter fun k => !q k).map baOf
  rest : ∀ x, j ≤ x → l'[x]? = (ks.map baOf)[x]?
theorem DelI.skip {w : World} {B g N cap n j : Nat} {ks : List Bs} {q : Bs → Bool} {wr w' : World} {l' : List ByteArray} (h : DelI w B g N cap n j ks q wr l') {t : Bs} (ht : ks[j]? = some t) (hq : q t = true) (hb : Below wr.heap.size wr w') : DelI w B g N cap n (j + 1) ks q w' l' := by
  refine ⟨h.len, h.own.below hb, ?_, fun x hx => h.rest x (by omega)⟩
  rw [h.top, List.take_add_one, ht]
  simp [hq]
theorem DelI.keep {w : World} {B g N cap n j : Nat} {ks : List Bs} {q : Bs → Bool} {wr w' : World} {l' : List ByteArray} (h : DelI w B g N cap n j ks q wr l') {t : Bs} (ht : ks[j]? = some t) (hq : q t = false) (hb : Below wr.heap.size wr w') (hnj : n < j) (hjN : j < N) : DelI w B g N cap (n + 1) (j + 1) ks q (w'.setCell ⟨g, n, none⟩ (.string (baOf t))) (l'.set n (baOf t)) := by
  have hnl : n < l'.length := by rw [h.len]; omega
  refine ⟨by rw [List.length_set, h.len], ?_, ?_, fun x hx => ?_⟩
  · have := (h.own.below hb).setf (fo := 0) (i := n) (x' := baOf t) (v := .string (baOf t)) TS.ok h.len.symm (List.getElem?_eq_getElem hnl) (by decide) rfl
    simpa [TS] using this
  · rw [List.take_add_one, List.take_set_of_le (Nat.le_refl n), h.top, List.take_add_one, ht]
    simp [hq, hnl]
  · rw [List.getElem?_set_ne (by omega)]; exact h.rest x (by omega)
set_option maxHeartbeats 4000000 in
set_option maxRecDepth 100000 in
theorem DeleteH_any (w : World) (B X Y : Nat) (hB : B ≤ w.heap.size) (ks : List Bs) (q : Bs → Bool) (v : Value) (hlen : ks.length ≤ 100000) (hO : OwnR TS w B v (ks.map baOf)) (hq : HopQ w B X Y ks q) :
    Calls Tryz.prog 95 #[v, hopV X Y] w fun e w' => (∃ v', e = .returned v' ∧ OwnR TS w' B v' ((ks.filter fun k => !q k).map baOf)) ∧ Below B w w' := by
  have HI := Lib.hid (IndexH_any w B X Y hB ks q v hlen hO.rec0 hq)
  have HQ := Lib.hid hq
  have HO := Lib.hid hO
  obtain ⟨a, n, cap, hv, hn⟩ : ∃ a n cap, v = .slice a n cap ∧ n = ks.length := by obtain ⟨a, cap, hv, _, _⟩ := hO.form; exact ⟨a, _, cap, hv, List.length_map _⟩
  subst hv
  have HN := Lib.hid hn
  have hn5 : n ≤ 100000 := by omega
  clear hq hO hn hlen
  go_enter Tryz.func95, Tryz.ntmps95
  go_wp2_with fail
  refine HI.out.mono ?_
  rintro e w1 ⟨⟨r, rfl, hr⟩, hb1⟩
  rcases hr with ⟨rfl, hall⟩ | ⟨i, rfl, hi, h1, h2⟩
  · have HR := Lib.hid (show OwnR TS w1 B (.slice a n cap) ((ks.filter fun k => !q k).map baOf) by rw [hall]; exact HO.out.below hb1)
    clear hall
    go_wp2
    go_ret
    exact ⟨⟨_, rfl, HR.out⟩, hb1.mono hB⟩
  · obtain ⟨g, cap', cur, hv2, hBg, hgb, hn1, hn2, _⟩ := HO.out.blk (by intro e; have := congrArg List.length e; rw [List.length_map, List.length_nil] at this; omega)
    obtain ⟨rfl, hxx, rfl⟩ := Value.slice.inj hv2
    clear hxx
    rw [List.length_map, ← HN.out] at hn1
    have hin : i < n := by have := HN.out; omega
    have hne : ((i : Int) == -1) = false := by simp
    have hw0 : IntKind.i64.wrap ((i : Int) + 1) = ((i + 1 : Nat) : Int) := by rw [IntWalk.i64_in _ (by omega)]; omega
    have HD0 : Hid (DelI w B g n cap i (i + 1) ks q w1 (ks.map baOf)) := Lib.hid ⟨by rw [List.length_map]; exact HN.out.symm, HO.out.below hb1, by rw [h2, List.map_take], fun _ _ => rfl⟩
    have hcap : cap ≤ 9223372036854775807 := by unfold maxLen at hn2; omega
    clear h1 h2 hgb hv2 hi
    go_wp2_with fail
    go_loopw [5, 6] (fun a b wr => ∃ (m j : Nat) (l' : List ByteArray), a = .int .i64 m ∧ b = .int .i64 j ∧ m < j ∧ j ≤ n ∧ Hid (DelI w B g n cap m j ks q wr l') ∧ Below B w wr) (fun _ b _ => n - (intOf b).toNat)
    case atStart => exact ⟨i, i + 1, _, rfl, by go_num, by omega, by omega, HD0, hb1.mono hB⟩
    case round =>
      obtain ⟨m, j, l', rfl, rfl, hmj, hjn, HD, hbr⟩ := hrel
      have hwj : IntKind.i64.wrap ((j : Int) + 1) = ((j + 1 : Nat) : Int) := by rw [IntWalk.i64_in _ (by omega)]; omega
      have hwm : IntKind.i64.wrap ((m : Int) + 1) = ((m + 1 : Nat) : Int) := by rw [IntWalk.i64_in _ (by omega)]; omega
      by_cases hlt : j < n
      · obtain ⟨t, ht⟩ : ∃ t, ks[j]? = some t := ⟨_, List.getElem?_eq_getElem (by rw [← HN.out]; exact hlt)⟩
        have HT := Lib.hid ht
        have HC := HQ.out wr hbr t (List.mem_of_getElem? ht)
        obtain ⟨c1, _⟩ := HD.out.own.cellf (fo := 0) (i := j) (x := baOf t) (v := .string (baOf t)) TS.ok HD.out.len.symm (by rw [HD.out.rest j (Nat.le_refl _)]; simp [ht]) rfl
        simp only [TS, Nat.mul_one, Nat.add_zero] at c1
        clear ht
        cases hp : q t
        · rw [hp] at HC
          have HC := Lib.hid HC
          have HP := Lib.hid hp
          clear hp
          go_wp2_with fail
          refine HC.out.mono ?_
          rintro e w2 ⟨rfl, hb2⟩
          have HK := Lib.hid (HD.out.keep HT.out HP.out hb2 hmj hlt)
          obtain ⟨y, hy⟩ : ∃ y, l'[m]? = some y := ⟨_, List.getElem?_eq_getElem (by rw [HD.out.len]; omega)⟩
          obtain ⟨d1, f1⟩ := (HD.out.own.below hb2).cellf (fo := 0) (i := m) (x := y) (v := .string y) TS.ok HD.out.len.symm hy rfl
          simp only [TS, Nat.mul_one, Nat.add_zero] at d1 f1
          have hb3 := Bl.set (hbr.trans (hb2.mono (Nat.le_trans hB hbr.size))) g m hBg (.string (baOf t))
          have hmn : m < n := by omega
          clear hy hb2
          go_wp2
          go_roundw
          case rel => exact ⟨m + 1, j + 1, _, by go_num, by go_num, by omega, by omega, HK, hb3⟩
          case measure => simp [intOf]; omega
        · rw [hp] at HC
          have HC := Lib.hid HC
          have HP := Lib.hid hp
          clear hp
          go_wp2_with fail
          refine HC.out.mono ?_
          rintro e w2 ⟨rfl, hb2⟩
          have HK := Lib.hid (HD.out.skip HT.out HP.out hb2)
          have hb3 := hbr.trans (hb2.mono (Nat.le_trans hB hbr.size))
          clear hb2
          go_wp2
          go_roundw
          case rel => exact ⟨m, j + 1, _, rfl, by go_num, by omega, by omega, HK, hb3⟩
          case measure => simp [intOf]; omega
      · obtain rfl : j = n := by omega
        have hcells : ∀ t, t < j → ∃ y, wr.cell? ⟨g, t, none⟩ = some (.string y) ∧ wr.frozen? ⟨g, t, none⟩ = false := fun t ht => by
          obtain ⟨y, hy⟩ : ∃ y, l'[t]? = some y := ⟨_, List.getElem?_eq_getElem (by rw [HD.out.len]; exact ht)⟩
          obtain ⟨d1, f1⟩ := HD.out.own.cellf (fo := 0) (i := t) (x := y) (v := .string y) TS.ok HD.out.len.symm hy rfl
          simp only [TS, Nat.mul_one, Nat.add_zero] at d1 f1
          exact ⟨y, d1, f1⟩
        have hcl : ∀ ty, (Builtin.clear_ #[56] ty #[.slice (some ⟨g, m, none⟩) (j - m) (cap - m)]).run Tryz.prog wr = .ok (.tuple #[]) (wr.setCells g m (List.replicate (j - m) (.string ByteArray.empty))) := fun ty =>
          Lib.run_clear_slice wr _ _ ty (.string ByteArray.empty) Tryz.underlying56 Tryz.zeroValue9 rfl rfl g m _ _ (by omega) (fun t ht => by obtain ⟨y, h, _⟩ := hcells (m + t) (by omega); rw [h]; rfl) (fun t ht => by obtain ⟨y, _, h⟩ := hcells (m + t) (by omega); exact h)
        have HT := Lib.hid (TopS.sets (List.replicate (j - m) (.string ByteArray.empty)) m (top_of HD.out.own HD.out.len (by omega) (by omega) (by rw [HD.out.top, HN.out, List.take_length]) : TopS wr B g m cap ((ks.filter fun k => !q k).map baOf)) (Nat.le_refl _)).own
        have hb4 := Bl.sets hBg (List.replicate (j - m) (.string ByteArray.empty)) m hbr
        clear hcells
        go_wp2
        go_ret
        exact ⟨⟨_, rfl, HT.out⟩, hb4⟩
def hopK (rh rr : Int) (m : Sm Bd0) (k : Bs) : Bool := isHopB rh rr ((m.get k).getD newB)
def hopL (rh rr : Int) (l : List Stp) (at' : Int) : List Bs := if mfltF rh rr l at' = 0 then (inS (runS rh rr at' [] l) 3).filter (hopK rh rr (runS rh rr at' [] l)) else []
theorem rulesF_zero {rh rr : Int} (h : rulesF rh rr = 0) : 0 ≤ rh ∧ rh ≤ 1000000 := by
  unfold rulesF inB at h
  split at h
  · rename_i hc
    simp only [Bool.and_eq_true, decide_eq_true_eq] at hc
    omega
  · cases h
set_option maxHeartbeats 4000000 in
set_option maxRecDepth 100000 in
theorem Hopeless_any (rh rr : Int) (l : List Stp) (at' : Int) (v : Value) (w : World) (hl : l.length ≤ 1000000) (rl : RecR TSt w 0 v l) (hz : StpZ l) :
    Calls Tryz.prog 30 #[.agg #[.int .i64 rh, .int .i64 rr], v, .int .i64 at'] w fun e w' => (∃ v', e = .returned (.tuple #[v', .int .i64 (mfltF rh rr l at')]) ∧ OwnR TS w' w.heap.size v' ((hopL rh rr l at').map baOf)) ∧ Below w.heap.size w w' := by
  have hR0 := blk_new w (.cells #[.int .i64 rh, .int .i64 rr] 27)
  have hb0 := Bl.alloc (Below.refl w.heap.size w) (.cells #[.int .i64 rh, .int .i64 rr] 27)
  have HMF := Lib.hid fun W (hW : Below w.heap.size w W) => rMomentFault_any rh rr l at' v W hl (rl.below hW) hz
  have HSA := Lib.hid fun W (hW : Below w.heap.size w W) => shopAt_any rh rr at' l v W (rl.below hW)
  obtain ⟨F, hF⟩ : ∃ F, F = mfltF rh rr l at' := ⟨_, rfl⟩
  obtain ⟨R, hR⟩ : ∃ R, R = hopL rh rr l at' := ⟨_, rfl⟩
  rw [← hF] at HMF
  rw [← hR, ← hF]
  have HR := Lib.hid (show R = if F = 0 then (inS (runS rh rr at' [] l) 3).filter (hopK rh rr (runS rh rr at' [] l)) else [] by rw [hR, hF]; rfl)
  have HF := Lib.hid hF
  clear hF hR rl hl hz
  by_cases h0 : F = 0
  · subst h0
    have HZ := Lib.hid (mfltF_zero HF.out.symm)
    have HRE : Hid (R = (inS (runS rh rr at' [] l) 3).filter (hopK rh rr (runS rh rr at' [] l))) := Lib.hid (by rw [HR.out]; simp)
    clear HR
    go_enter Tryz.func30, Tryz.ntmps30
    go_wp2_with fail
    refine (HMF.out _ hb0).mono ?_
    rintro e w2 ⟨rfl, hb2⟩
    have hb02 := Bl.trans hb0 hb2
    have hR2 := blk_below hR0 hb2
    have q0 : w2.cell? ⟨w.heap.size, 0, none⟩ = some (.int .i64 rh) := blk_cell hR2 0
    have q1 : w2.cell? ⟨w.heap.size, 1, none⟩ = some (.int .i64 rr) := blk_cell hR2 1
    clear hb0 hR0 hb2
    go_wp2_with fail
    refine (HSA.out _ hb02 HZ.out.2.1).mono ?_
    rintro e w3 ⟨⟨S, rfl, hs⟩, hb3⟩
    have hb03 := Bl.trans hb02 hb3
    have hb34 := Bl.alloc (Below.refl w3.heap.size w3) (.cells #[.pointer (some ⟨S, 0, none⟩)] 107)
    have hX4 := blk_new w3 (.cells #[.pointer (some ⟨S, 0, none⟩)] 107)
    have hY4 := blk_below (blk_below hR2 hb3) hb34
    have hs4 := hs.below hb34
    have hb04 := Bl.trans hb03 hb34
    clear hs hb3 hR2 q0 q1 hb03 hb02 hb34
    go_wp2_with fail
    generalize w3.alloc (.cells #[.pointer (some ⟨S, 0, none⟩)] 107) = w4 at *
    refine (In_any S rh rr 3 _ _ w4 hs4 (run_names HZ.out.2.1) (run_small HZ.out.2.1).1).mono ?_
    rintro e w5 ⟨⟨v5, rfl, hO5⟩, hb5⟩
    have hq : HopQ w5 w4.heap.size w3.heap.size w.heap.size (inS (runS rh rr at' [] l) 3) (fun k => !hopK rh rr (runS rh rr at' [] l) k) := fun W hW k hk => by
      have hW4 := Below.trans hb5 hW
      obtain ⟨b, hb, _⟩ := inS_mem (runS_ok l Sm.Ok.nil) hk
      have hJ := (runS_J (rh := rh) (rr := rr) (at' := at') HZ.out.2.1 _ (Sm.get_mem hb)).1
      have := hopC_any S w3.heap.size w.heap.size rh rr _ _ W (hs4.below hW4) (blk_cell (blk_below hX4 hW4) 0) (blk_below hY4 hW4) k b hb (run_names HZ.out.2.1 _ (Sm.get_mem hb)) (run_small HZ.out.2.1) (rulesF_zero HZ.out.1) (fun p hp => by
        have h1 := keyB_size (hJ.ck p hp)
        have e : (baOf p.1).size = p.1.length := by show p.1.toArray.size = _; simp
        omega)
      have e : hopK rh rr (runS rh rr at' [] l) k = isHopB rh rr b := by unfold hopK; rw [hb]; rfl
      rw [← e] at this
      exact this
    have HD := Lib.hid (DeleteH_any w5 w4.heap.size w3.heap.size w.heap.size hb5.size _ _ v5 (by
      have h1 := (run_small (rh := rh) (rr := rr) (at' := at') HZ.out.2.1).1
      have h2 := List.length_filter_le (fun p : Bs × Bd0 => decide (p.2.st = 3)) (runS rh rr at' [] l)
      unfold inS; rw [List.length_map]; omega) hO5 hq)
    have hz4 := hb04.size
    have HB5 := Lib.hid (Bl.trans hb04 hb5)
    clear hs4 hb04 hb5 hO5 hX4 hY4 hq
    go_wp2_with fail
    refine HD.out.mono ?_
    rintro e w6 ⟨⟨v6, rfl, hO6⟩, hb6⟩
    have H6 := Lib.hid (hO6.base hz4)
    have HB6 := Lib.hid (Below.trans HB5.out (hb6.mono hz4))
    clear hO6 hb6
    go_wp2
    go_ret2
    refine ⟨⟨_, rfl, ?_⟩, HB6.out⟩
    rw [HRE.out]
    have := H6.out
    simpa using this
  · have HRE : Hid (R = []) := Lib.hid (by rw [HR.out, if_neg h0])
    go_enter Tryz.func30, Tryz.ntmps30
    go_wp2_with fail
    refine (HMF.out _ hb0).mono ?_
    rintro e w2 ⟨rfl, hb2⟩
    have hb02 := Bl.trans hb0 hb2
    go_wp2
    go_ret2
    exact ⟨⟨_, rfl, by rw [HRE.out]; exact OwnR.nil _ _⟩, hb02⟩
end Go.Proofs.YthdolfnfiggkjaaGreatDoor
