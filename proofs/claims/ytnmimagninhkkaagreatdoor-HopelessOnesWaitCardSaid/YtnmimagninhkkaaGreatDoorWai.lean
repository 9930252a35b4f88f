/- Boards that wait: the stable sort of few names by the moments since when they wait; Waiting. Conditions: at most 19 boards that failed. -/
import Derived.Test.YtnmimagninhkkaaGreatDoorIn
import Derived.Test.YtnmimagninhkkaaGreatDoorSrtI
import Derived.Test.YtnmimagninhkkaaGreatDoorSortRow
import Derived.Shelf.SlSortCmp.Insertion
import Derived.Sort.LotA
namespace Go.Proofs.YtnmimagninhkkaaGreatDoor
open Go.RowKit Go.Sort Go.Maps

def cmpV (x y : Int) : Int := if x < y then -1 else if y < x then 1 else 0
theorem cmpV_any (x y : Int) (w : World) : Calls Tryz.prog 98 #[.int .i64 x, .int .i64 y] w fun e w' => e = .returned (.int .i64 (cmpV x y)) ∧ w' = w :=
  (Tryz.cmp_Compare_int x y w).mono fun e w' ⟨he, hw⟩ => ⟨by rw [he]; rfl, hw⟩
def sinceOf (m : Sm Bd0) (k : Bs) : Int := ((m.get k).getD newB).si
/-- a name that is there. -/
def normW (m : Sm Bd0) (k0 k : Bs) : Bs := if (m.get k).isSome = true then k else k0
def cfW (m : Sm Bd0) (k0 x y : Bs) : Int := cmpV (sinceOf m (normW m k0 x)) (sinceOf m (normW m k0 y))
def encW (m : Sm Bd0) (k0 k : Bs) : Value := .string (baOf (normW m k0 k))
instance : Inhabited Bs := ⟨[]⟩
/-- names sorted by since when: equal ones stay. -/
def sortW (m : Sm Bd0) (l : List Bs) : List Bs := (Sort.insertionSort (ltOf (cfW m (l.headD []))) l.toArray 0 l.length).toList
theorem normW_of {m : Sm Bd0} {k0 k : Bs} (h : (m.get k).isSome = true) : normW m k0 k = k := if_pos h
theorem normW_in {m : Sm Bd0} {k0 : Bs} (h : (m.get k0).isSome = true) (k : Bs) : ∃ b, m.get (normW m k0 k) = some b := by
  unfold normW
  split
  · rename_i hk; exact Option.isSome_iff_exists.1 hk
  · exact Option.isSome_iff_exists.1 h
theorem cfW_swo (m : Sm Bd0) (k0 : Bs) : SWO (ltOf (cfW m k0)) := by
  have h : ∀ x y, ltOf (cfW m k0) x y = decide (sinceOf m (normW m k0 x) < sinceOf m (normW m k0 y)) := fun x y => by
    unfold ltOf cfW cmpV
    by_cases h : sinceOf m (normW m k0 x) < sinceOf m (normW m k0 y)
    · rw [if_pos h]; simp [h]
    · rw [if_neg h]
      split <;> simp [h]
  refine ⟨fun x => ?_, fun x y z h1 h2 => ?_, fun x y z h1 h2 => ?_⟩
  · rw [h]; simp
  · rw [h] at *; simp at *; omega
  · rw [h] at *; simp at *; omega
theorem sortW_perm (m : Sm Bd0) (l : List Bs) : (sortW m l).Perm l := by
  have h := (insertionSort_holds (cfW_swo m (l.headD [])) l.toArray 0 l.length (Nat.zero_le _) (by simp)).1
  obtain ⟨h1, _, h3⟩ := h
  have e1 : (Sort.insertionSort (ltOf (cfW m (l.headD []))) l.toArray 0 l.length).extract 0 l.length = Sort.insertionSort (ltOf (cfW m (l.headD []))) l.toArray 0 l.length := by
    have : l.length = (Sort.insertionSort (ltOf (cfW m (l.headD []))) l.toArray 0 l.length).size := by rw [h1]; simp
    conv => lhs; rw [show (Sort.insertionSort (ltOf (cfW m (l.headD []))) l.toArray 0 l.length).extract 0 l.length = (Sort.insertionSort (ltOf (cfW m (l.headD []))) l.toArray 0 l.length).extract 0 (Sort.insertionSort (ltOf (cfW m (l.headD []))) l.toArray 0 l.length).size by rw [← this]]
    rw [Array.extract_size]
  have e2 : l.toArray.extract 0 l.length = l.toArray := by
    conv => lhs; rw [show l.toArray.extract 0 l.length = l.toArray.extract 0 l.toArray.size by simp]
    rw [Array.extract_size]
  rw [e1, e2] at h3
  exact h3
set_option maxHeartbeats 4000000 in
set_option maxRecDepth 100000 in
/-- the closure of Waiting: since when two boards wait, compared. -/
theorem since_any (S X : Nat) (rh rr : Int) (m : Sm Bd0) (w0 W : World) (h : ShopA w0 W S rh rr m) (hX : W.cell? ⟨X, 0, none⟩ = some (.pointer (some ⟨S, 0, none⟩))) (x y : Bs) (bx bb : Bd0) (hx : m.get x = some bx) (hy : m.get y = some bb) (lx : x.length ≤ 1000) (ly : y.length ≤ 1000) :
    Calls Tryz.prog 97 #[.string (baOf x), .string (baOf y), .pointer (some ⟨X, 0, none⟩)] W fun e w' => e = .returned (.int .i64 (cmpV bx.si bb.si)) ∧ ∃ q, w' = W.drewN q := by
  obtain ⟨⟨L, hL, hLm⟩, _⟩ := h
  have c1 : W.cell? ⟨S, 2, none⟩ = some (.map (some (S - 1))) := blk_cell hL.blk 2
  have get : ∀ k b, m.get k = some b → ∃ g, L.get k = some (g, b) := fun k b hk => by
    rw [← hLm, Sm.get_mapv] at hk
    cases hg : L.get k with
    | none => rw [hg] at hk; cases hk
    | some p => rw [hg] at hk; injection hk with hk; exact ⟨p.1, by rw [← hk]⟩
  have sz : ∀ k : Bs, k.length ≤ 1000 → (baOf k).size ≤ maxLen := fun k hk => by
    have e : (baOf k).size = k.length := by show k.toArray.size = _; simp
    rw [e]; unfold maxLen; omega
  obtain ⟨gx, hgx⟩ := get x bx hx
  obtain ⟨gy, hgy⟩ := get y bb hy
  have hlx : ∀ n, (Instr.lookup 130 (.map (some (S - 1))) (.string (baOf x)) false).run Tryz.prog (W.drewN n) = .ok (.pointer (some ⟨gx, 0, none⟩)) (W.drewN n) := fun n => by
    have := (hL.map.keep (w' := W.drewN n) rfl).look TP.ok (baOf x) (sz x lx)
    rw [Sm.get_mapv, show (baOf x).data.toList = x from bsOf_baOf x, hgx] at this
    exact this
  have hly : ∀ n, (Instr.lookup 130 (.map (some (S - 1))) (.string (baOf y)) false).run Tryz.prog (W.drewN n) = .ok (.pointer (some ⟨gy, 0, none⟩)) (W.drewN n) := fun n => by
    have := (hL.map.keep (w' := W.drewN n) rfl).look TP.ok (baOf y) (sz y ly)
    rw [Sm.get_mapv, show (baOf y).data.toList = y from bsOf_baOf y, hgy] at this
    exact this
  have dx : W.cell? ⟨gx, 1, none⟩ = some (.int .i64 bx.si) := blk_cell (hL.brd _ (Sm.get_mem hgx)).2.2.1 1
  have dy : W.cell? ⟨gy, 1, none⟩ = some (.int .i64 bb.si) := blk_cell (hL.brd _ (Sm.get_mem hgy)).2.2.1 1
  have lgx := (hL.brd _ (Sm.get_mem hgx)).2.lt
  have lgy := (hL.brd _ (Sm.get_mem hgy)).2.lt
  have lS := hL.lt
  have lX := World.block_lt_of_cell? _ _ hX
  simp only at lX lgx lgy
  clear hL hLm get sz hgx hgy hx hy lx ly
  go_enter Tryz.func97, Tryz.ntmps97
  go_wp2_with fail
  go_quiet ((go_at_call 98; exact Calls.quiet_of_same (cmpV_any _ _ _)))
  go_wp2
  go_ret
  exact ⟨rfl, _, rfl⟩
set_option maxHeartbeats 1000000 in
theorem insEmpty_any (a : Option Addr) (n cap : Nat) (f : Value) (w : World) : Calls Tryz.prog 240 #[.slice a n cap, .int .i64 0, .int .i64 0, f] w fun e w' => e = .returned (.tuple #[]) ∧ w = w' := by
  go_enter Tryz.func240, Tryz.ntmps240
  go_wp2
  go_loopw [8] (fun i wr => i = .int .i64 1 ∧ w = wr) (fun _ _ => 0)
  case atStart => exact ⟨rfl, rfl⟩
  case round =>
    obtain ⟨rfl, rfl⟩ := hrel
    go_wp2
    go_end0
    exact ⟨rfl, rfl⟩
theorem enc_flat {m : Sm Bd0} {k0 : Bs} {l : List Bs} (h : ∀ k ∈ l, (m.get k).isSome = true) : l.map (encW m k0) = (l.map baOf).flatMap TS.f := by
  induction l with
  | nil => rfl
  | cons a l ih =>
    rw [List.map_cons, ih fun k hk => h k (List.mem_cons_of_mem _ hk), List.map_cons, List.flatMap_cons]
    unfold encW
    rw [normW_of (h a (List.mem_cons_self ..))]; rfl
theorem insW_any (S X : Nat) (rh rr : Int) (m : Sm Bd0) (w0 w : World) (B : Nat) (hB : B ≤ w.heap.size) (l : List Bs) (v : Value) (hO : OwnR TS w B v (l.map baOf)) (hsh : ∀ W, Below B w W → ShopA w0 W S rh rr m) (hX : ∀ W, Below B w W → W.cell? ⟨X, 0, none⟩ = some (.pointer (some ⟨S, 0, none⟩)))
    (hl : ∀ k ∈ l, (m.get k).isSome = true) (hn : Names m) (h19 : l.length ≤ 19) :
    Calls Tryz.prog 240 #[v, .int .i64 0, .int .i64 l.length, .func (.func 97) #[] #[.pointer (some ⟨X, 0, none⟩)]] w fun e w' => e = .returned (.tuple #[]) ∧ OwnR TS w' B v ((sortW m l).map baOf) ∧ Below B w w' := by
  by_cases h0 : l = []
  · subst h0
    obtain ⟨a, cap, rfl, _, _⟩ := hO.form
    exact (insEmpty_any a _ cap _ w).mono fun e w' ⟨he, hw⟩ => ⟨he, by subst hw; rw [List.Perm.eq_nil (sortW_perm m [])]; exact hO, by subst hw; exact Below.refl _ _⟩
  · have hk0 : (m.get (l.headD [])).isSome = true := hl _ (by cases l with | nil => exact absurd rfl h0 | cons a l => simp)
    have hrow : w.ownsRow B 9 1 v l.length (l.map (encW m (l.headD []))) := by
      rw [enc_flat hl]
      have := hO
      unfold OwnR at this
      rw [List.length_map] at this
      exact this
    obtain ⟨g, cap, hv⟩ : ∃ g cap, v = .slice (some ⟨g, 0, none⟩) l.length cap := by
      rcases hrow.2 with ⟨_, hz⟩ | ⟨g, cap, _, hv, _⟩
      · exact absurd (List.eq_nil_of_length_eq_zero hz) h0
      · exact ⟨g, cap, hv⟩
    subst hv
    obtain ⟨hH, hg, hBg⟩ := holds_own (encW m (l.headD [])) hrow rfl
    have hbel : ∀ (q : Nat) (os : Array Obj) (dk : Array Bs), Below B w (sortWorld (encW m (l.headD [])) w g 0 q dk os) := fun q os dk => Gr.below (grownBy_resorted (encW m (l.headD [])) dk) hBg hB
    have hcmp : CmpReads Tryz.prog 97 #[.pointer (some ⟨X, 0, none⟩)] (encW m (l.headD [])) (cfW m (l.headD [])) g 0 l.toArray.size w := fun q os dk _ x y => by
      obtain ⟨bx, hbx⟩ := normW_in hk0 x
      obtain ⟨bb, hby⟩ := normW_in hk0 y
      have := since_any S X rh rr m w0 _ (hsh _ (hbel q os dk)) (hX _ (hbel q os dk)) _ _ bx bb hbx hby (hn _ (Sm.get_mem hbx)) (hn _ (Sm.get_mem hby))
      have e : cfW m (l.headD []) x y = cmpV bx.si bb.si := by unfold cfW sinceOf; rw [hbx, hby]; rfl
      rw [e]
      exact this
    have hc := Any.insertionSortCmpFunc_one Tryz.insS (encW m (l.headD [])) (fun _ => rfl) (cfW m (l.headD [])) 97 #[.pointer (some ⟨X, 0, none⟩)] g 0 cap 0 l.length l.toArray w (enters_of Tryz.func97 (by kernel_rfl) rfl) hcmp hH (Nat.zero_le _) (by simp) (by simp; omega)
    have e2 : l.toArray.size = l.length := by simp
    rw [e2] at hc
    refine hc.mono ?_
    rintro e w' ⟨rfl, q, rfl⟩
    rw [← sortWorld_none]
    refine ⟨rfl, ?_, hbel _ _ _⟩
    have hp := sortW_perm m l
    have hr := own_resorted (encW m (l.headD [])) (q := q) (os := #[]) (m := sortW m l) hrow rfl hp.length_eq
    unfold OwnR
    rw [← enc_flat (k0 := l.headD []) fun k hk => hl k (hp.mem_iff.1 hk), List.length_map, hp.length_eq]
    have e3 : (sortW m l).toArray = Sort.insertionSort (ltOf (cfW m (l.headD []))) l.toArray 0 l.length := by unfold sortW; simp
    rw [e3] at hr
    exact hr
set_option maxHeartbeats 4000000 in
set_option maxRecDepth 100000 in
theorem stableW_any (S X : Nat) (rh rr : Int) (m : Sm Bd0) (w0 w : World) (B : Nat) (hB : B ≤ w.heap.size) (l : List Bs) (v : Value) (hO : OwnR TS w B v (l.map baOf)) (hsh : ∀ W, Below B w W → ShopA w0 W S rh rr m) (hX : ∀ W, Below B w W → W.cell? ⟨X, 0, none⟩ = some (.pointer (some ⟨S, 0, none⟩)))
    (hl : ∀ k ∈ l, (m.get k).isSome = true) (hn : Names m) (h19 : l.length ≤ 19) :
    Calls Tryz.prog 96 #[v, .func (.func 97) #[] #[.pointer (some ⟨X, 0, none⟩)]] w fun e w' => e = .returned (.tuple #[]) ∧ OwnR TS w' B v ((sortW m l).map baOf) ∧ Below B w w' := by
  have HI := Lib.hid (insW_any S X rh rr m w0 w B hB l v hO hsh hX hl hn h19)
  obtain ⟨a, n, cap, hv, hnl⟩ : ∃ a n cap, v = .slice a n cap ∧ n = l.length := by obtain ⟨a, cap, hv, _, _⟩ := hO.form; exact ⟨a, _, cap, hv, List.length_map _⟩
  subst hv
  rw [← hnl] at HI
  have hn19 : n ≤ 19 := by omega
  clear hO hsh hX hl hn hnl h19
  have HS : Hid (Calls Tryz.prog 182 #[.slice a n cap, .int .i64 n, .func (.func 97) #[] #[.pointer (some ⟨X, 0, none⟩)]] w fun e w' => e = .returned (.tuple #[]) ∧ OwnR TS w' B (.slice a n cap) ((sortW m l).map baOf) ∧ Below B w w') := Lib.hid (by
    go_enter Tryz.func182, Tryz.ntmps182
    go_wp2_with fail
    go_loopw [7, 8] (fun x y wr => x = .int .i64 0 ∧ y = .int .i64 20 ∧ w = wr) (fun _ _ _ => 0)
    case atStart => exact ⟨rfl, rfl, rfl⟩
    case round =>
      obtain ⟨rfl, rfl, rfl⟩ := hrel
      have hn20 : ¬ (20 : Int) ≤ (n : Int) := by omega
      go_wp2_with fail
      refine HI.out.mono ?_
      rintro e w2 ⟨rfl, hO2, hb2⟩
      have HO2 := Lib.hid hO2
      clear hO2
      go_wp2_with fail
      go_loopw [6] (fun x wr => x = .int .i64 20 ∧ w2 = wr) (fun _ _ => 0)
      case atStart => exact ⟨rfl, rfl⟩
      case round =>
        obtain ⟨rfl, rfl⟩ := hrel
        have hn21 : ¬ (20 : Int) < (n : Int) := by omega
        go_wp2_with fail
        go_end0
        exact ⟨rfl, HO2.out, hb2⟩)
  go_enter Tryz.func96, Tryz.ntmps96
  go_wp2_with fail
  refine HS.out.mono ?_
  rintro e w2 ⟨rfl, hO2, hb2⟩
  have HO2 := Lib.hid hO2
  clear hO2
  go_wp2
  go_end0
  exact ⟨rfl, HO2.out, hb2⟩
def waitL (rh rr : Int) (l : List Stp) (at' : Int) : List Bs := if mfltF rh rr l at' = 0 then sortW (runS rh rr at' [] l) (inS (runS rh rr at' [] l) 3) else []
theorem inS_some {m : Sm Bd0} (hm : Sm.Ok m) {st : Int} : ∀ k ∈ inS m st, (m.get k).isSome = true := fun k hk => by
  obtain ⟨b, hb, _⟩ := inS_mem hm hk
  rw [hb]; rfl
set_option maxHeartbeats 4000000 in
set_option maxRecDepth 100000 in
theorem Waiting_any (rh rr : Int) (l : List Stp) (at' : Int) (v : Value) (w : World) (hl : l.length ≤ 24) (rl : RecR TSt w 0 v l) (hz : StpZ l) :
    Calls Tryz.prog 23 #[.agg #[.int .i64 rh, .int .i64 rr], v, .int .i64 at'] w fun e w' => (∃ v', e = .returned (.tuple #[v', .int .i64 (mfltF rh rr l at')]) ∧ OwnR TS w' w.heap.size v' ((waitL rh rr l at').map baOf)) ∧ Below w.heap.size w w' := by
  have hR0 := blk_new w (.cells #[.int .i64 rh, .int .i64 rr] 27)
  have hb0 := Bl.alloc (Below.refl w.heap.size w) (.cells #[.int .i64 rh, .int .i64 rr] 27)
  have HMF := Lib.hid fun W (hW : Below w.heap.size w W) => rMomentFault_any rh rr l at' v W (by omega) (rl.below hW) hz
  have HSA := Lib.hid fun W (hW : Below w.heap.size w W) => shopAt_any rh rr at' l v W (rl.below hW)
  obtain ⟨F, hF⟩ : ∃ F, F = mfltF rh rr l at' := ⟨_, rfl⟩
  obtain ⟨R, hR⟩ : ∃ R, R = waitL rh rr l at' := ⟨_, rfl⟩
  rw [← hF] at HMF
  rw [← hR, ← hF]
  have HR := Lib.hid (show R = if F = 0 then sortW (runS rh rr at' [] l) (inS (runS rh rr at' [] l) 3) else [] by rw [hR, hF]; rfl)
  have HF := Lib.hid hF
  have HL := Lib.hid hl
  clear hF hR rl hl hz
  by_cases h0 : F = 0
  · subst h0
    have HZ := Lib.hid (mfltF_zero HF.out.symm)
    have HRE : Hid (R = sortW (runS rh rr at' [] l) (inS (runS rh rr at' [] l) 3)) := Lib.hid (by rw [HR.out]; simp)
    clear HR
    go_enter Tryz.func23, Tryz.ntmps23
    go_wp2_with fail
    refine (HMF.out _ hb0).mono ?_
    rintro e w2 ⟨rfl, hb2⟩
    have hb02 := Bl.trans hb0 hb2
    have hR2 := blk_below hR0 hb2
    have q0 : w2.cell? ⟨w.heap.size, 0, none⟩ = some (.int .i64 rh) := blk_cell hR2 0
    have q1 : w2.cell? ⟨w.heap.size, 1, none⟩ = some (.int .i64 rr) := blk_cell hR2 1
    clear hb0 hR0 hb2
    go_wp2_with fail
    refine (HSA.out _ hb02 HZ.out.2.1).mono ?_
    rintro e w3 ⟨⟨S, rfl, hs⟩, hb3⟩
    have hb03 := Bl.trans hb02 hb3
    have hb34 := Bl.alloc (Below.refl w3.heap.size w3) (.cells #[.pointer (some ⟨S, 0, none⟩)] 123)
    have hX4 := blk_new w3 (.cells #[.pointer (some ⟨S, 0, none⟩)] 123)
    have hs4 := hs.below hb34
    have hb04 := Bl.trans hb03 hb34
    clear hs hb3 hR2 q0 q1 hb03 hb02 hb34
    go_wp2_with fail
    generalize w3.alloc (.cells #[.pointer (some ⟨S, 0, none⟩)] 123) = w4 at *
    refine (In_any S rh rr 3 _ _ w4 hs4 (run_names HZ.out.2.1) (run_small HZ.out.2.1).1).mono ?_
    rintro e w5 ⟨⟨v5, rfl, hO5⟩, hb5⟩
    have HST := Lib.hid (stableW_any S w3.heap.size rh rr _ _ w5 w4.heap.size hb5.size _ v5 hO5 (fun W hW => hs4.below (Below.trans hb5 hW)) (fun W hW => blk_cell (blk_below hX4 (Below.trans hb5 hW)) 0) (inS_some (runS_ok l Sm.Ok.nil)) (run_names HZ.out.2.1) (by have := fail_few (rh := rh) (rr := rr) (at' := at') HL.out; omega))
    have hz4 := hb04.size
    have HB5 := Lib.hid (Bl.trans hb04 hb5)
    clear hs4 hb04 hb5 hO5 hX4
    go_wp2_with fail
    refine HST.out.mono ?_
    rintro e w6 ⟨rfl, hO6, hb6⟩
    have H6 := Lib.hid (hO6.base hz4)
    have HB6 := Lib.hid (Below.trans HB5.out (hb6.mono hz4))
    clear hO6 hb6
    go_wp2
    go_ret2
    exact ⟨⟨_, rfl, by rw [HRE.out]; exact H6.out⟩, HB6.out⟩
  · have HRE : Hid (R = []) := Lib.hid (by rw [HR.out, if_neg h0])
    go_enter Tryz.func23, Tryz.ntmps23
    go_wp2_with fail
    refine (HMF.out _ hb0).mono ?_
    rintro e w2 ⟨rfl, hb2⟩
    have hb02 := Bl.trans hb0 hb2
    go_wp2
    go_ret2
    exact ⟨⟨_, rfl, by rw [HRE.out]; exact OwnR.nil _ _⟩, hb02⟩
end Go.Proofs.YtnmimagninhkkaaGreatDoor
