/- The reference's stable sort of the boards that wait. Conditions: at most 19 of them, names of at most 1000 bytes. -/
import Derived.Test.YthdolfnfiggkjaaGreatDoorHls
import Derived.Test.YthdolfnfiggkjaaGreatDoorTho
namespace Go.Proofs.YthdolfnfiggkjaaGreatDoor
open Go.RowKit Go.Sort Go.Maps

set_option maxHeartbeats 4000000 in
set_option maxRecDepth 100000 in
/-- the closure of Waiting: since when two boards wait, compared. -/
theorem rsince_any (S X : Nat) (rh rr : Int) (m : Sm Bd0) (W : World) (h : ShopB W S rh rr m) (hX : W.cell? ⟨X, 0, none⟩ = some (.pointer (some ⟨S, 0, none⟩))) (x y : Bs) (bx bb : Bd0) (hx : m.get x = some bx) (hy : m.get y = some bb) (lx : x.length ≤ 1000) (ly : y.length ≤ 1000) :
    Calls Tryz.prog 106 #[.string (baOf x), .string (baOf y), .pointer (some ⟨X, 0, none⟩)] W fun e w' => e = .returned (.int .i64 (cmpV bx.si bb.si)) ∧ ∃ q, w' = W.drewN q := by
  obtain ⟨L, hL, hLm⟩ := h
  have c1 : W.cell? ⟨S, 2, none⟩ = some (.map (some (S - 1))) := blk_cell hL.blk 2
  have get : ∀ k b, m.get k = some b → ∃ g, L.get k = some (g, b) := fun k b hk => by
    rw [← hLm, Sm.get_mapv] at hk
    cases hg : L.get k with
    | none => rw [hg] at hk; cases hk
    | some p => rw [hg] at hk; injection hk with hk; exact ⟨p.1, by rw [← hk]⟩
  have sz : ∀ k : Bs, k.length ≤ 1000 → (baOf k).size ≤ maxLen := fun k hk => by
    have e : (baOf k).size = k.length := by show k.toArray.size = _; simp
    rw [e]; unfold maxLen; omega
  obtain ⟨gx, hgx⟩ := get x bx hx
  obtain ⟨gy, hgy⟩ := get y bb hy
  have hlx : ∀ n, (Instr.lookup 159 (.map (some (S - 1))) (.string (baOf x)) false).run Tryz.prog (W.drewN n) = .ok (.pointer (some ⟨gx, 0, none⟩)) (W.drewN n) := fun n => by
    have := (hL.map.keep (w' := W.drewN n) rfl).look TPL.ok (baOf x) (sz x lx)
    rw [Sm.get_mapv, show (baOf x).data.toList = x from bsOf_baOf x, hgx] at this
    exact this
  have hly : ∀ n, (Instr.lookup 159 (.map (some (S - 1))) (.string (baOf y)) false).run Tryz.prog (W.drewN n) = .ok (.pointer (some ⟨gy, 0, none⟩)) (W.drewN n) := fun n => by
    have := (hL.map.keep (w' := W.drewN n) rfl).look TPL.ok (baOf y) (sz y ly)
    rw [Sm.get_mapv, show (baOf y).data.toList = y from bsOf_baOf y, hgy] at this
    exact this
  have dx : W.cell? ⟨gx, 1, none⟩ = some (.int .i64 bx.si) := by
    obtain ⟨_, _, _, v, hb, _⟩ := (hL.brd _ (Sm.get_mem hgx)).2
    exact blk_cell hb 1
  have dy : W.cell? ⟨gy, 1, none⟩ = some (.int .i64 bb.si) := by
    obtain ⟨_, _, _, v, hb, _⟩ := (hL.brd _ (Sm.get_mem hgy)).2
    exact blk_cell hb 1
  have lgx := (hL.brd _ (Sm.get_mem hgx)).2.lt
  have lgy := (hL.brd _ (Sm.get_mem hgy)).2.lt
  have lS := hL.lt
  have lX := World.block_lt_of_cell? _ _ hX
  simp only at lX lgx lgy
  clear hL hLm get sz hgx hgy hx hy lx ly
  go_enter Tryz.func106, Tryz.ntmps106
  go_wp2_with fail
  go_quiet ((go_at_call 94; exact Calls.quiet_of_same (cmpV_any _ _ _)))
  go_wp2
  go_ret
  exact ⟨rfl, _, rfl⟩
theorem rinsW_any (S X : Nat) (rh rr : Int) (m : Sm Bd0) (w : World) (B : Nat) (hB : B ≤ w.heap.size) (l : List Bs) (v : Value) (hO : OwnR TS w B v (l.map baOf)) (hsh : ∀ W, Below B w W → ShopB W S rh rr m) (hX : ∀ W, Below B w W → W.cell? ⟨X, 0, none⟩ = some (.pointer (some ⟨S, 0, none⟩)))
    (hl : ∀ k ∈ l, (m.get k).isSome = true) (hn : Names m) (h19 : l.length ≤ 19) :
    Calls Tryz.prog 199 #[v, .int .i64 0, .int .i64 l.length, .func (.func 106) #[] #[.pointer (some ⟨X, 0, none⟩)]] w fun e w' => e = .returned (.tuple #[]) ∧ OwnR TS w' B v ((sortW m l).map baOf) ∧ Below B w w' := by
  by_cases h0 : l = []
  · subst h0
    obtain ⟨a, cap, rfl, _, _⟩ := hO.form
    exact (insEmpty_any a _ cap _ w).mono fun e w' ⟨he, hw⟩ => ⟨he, by subst hw; rw [List.Perm.eq_nil (sortW_perm m [])]; exact hO, by subst hw; exact Below.refl _ _⟩
  · have hk0 : (m.get (l.headD [])).isSome = true := hl _ (by cases l with | nil => exact absurd rfl h0 | cons a l => simp)
    have hrow : w.ownsRow B 9 1 v l.length (l.map (encW m (l.headD []))) := by
      rw [enc_flat hl]
      have := hO
      unfold OwnR at this
      rw [List.length_map] at this
      exact this
    obtain ⟨g, cap, hv⟩ : ∃ g cap, v = .slice (some ⟨g, 0, none⟩) l.length cap := by
      rcases hrow.2 with ⟨_, hz⟩ | ⟨g, cap, _, hv, _⟩
      · exact absurd (List.eq_nil_of_length_eq_zero hz) h0
      · exact ⟨g, cap, hv⟩
    subst hv
    obtain ⟨hH, hg, hBg⟩ := holds_own (encW m (l.headD [])) hrow rfl
    have hbel : ∀ (q : Nat) (os : Array Obj) (dk : Array Bs), Below B w (sortWorld (encW m (l.headD [])) w g 0 q dk os) := fun q os dk => Gr.below (grownBy_resorted (encW m (l.headD [])) dk) hBg hB
    have hcmp : CmpReads Tryz.prog 106 #[.pointer (some ⟨X, 0, none⟩)] (encW m (l.headD [])) (cfW m (l.headD [])) g 0 l.toArray.size w := fun q os dk _ x y => by
      obtain ⟨bx, hbx⟩ := normW_in hk0 x
      obtain ⟨bb, hby⟩ := normW_in hk0 y
      have := rsince_any S X rh rr m _ (hsh _ (hbel q os dk)) (hX _ (hbel q os dk)) _ _ bx bb hbx hby (hn _ (Sm.get_mem hbx)) (hn _ (Sm.get_mem hby))
      have e : cfW m (l.headD []) x y = cmpV bx.si bb.si := by unfold cfW sinceOf; rw [hbx, hby]; rfl
      rw [e]
      exact this
    have hc := Any.insertionSortCmpFunc_one Tryz.insS (encW m (l.headD [])) (fun _ => rfl) (cfW m (l.headD [])) 106 #[.pointer (some ⟨X, 0, none⟩)] g 0 cap 0 l.length l.toArray w (enters_of Tryz.func106 (by kernel_rfl) rfl) hcmp hH (Nat.zero_le _) (by simp) (by simp; omega)
    have e2 : l.toArray.size = l.length := by simp
    rw [e2] at hc
    refine hc.mono ?_
    rintro e w' ⟨rfl, q, rfl⟩
    rw [← sortWorld_none]
    refine ⟨rfl, ?_, hbel _ _ _⟩
    have hp := sortW_perm m l
    have hr := own_resorted (encW m (l.headD [])) (q := q) (os := #[]) (m := sortW m l) hrow rfl hp.length_eq
    unfold OwnR
    rw [← enc_flat (k0 := l.headD []) fun k hk => hl k (hp.mem_iff.1 hk), List.length_map, hp.length_eq]
    have e3 : (sortW m l).toArray = Sort.insertionSort (ltOf (cfW m (l.headD []))) l.toArray 0 l.length := by unfold sortW; simp
    rw [e3] at hr
    exact hr
set_option maxHeartbeats 4000000 in
set_option maxRecDepth 100000 in
theorem rstableW_any (S X : Nat) (rh rr : Int) (m : Sm Bd0) (w : World) (B : Nat) (hB : B ≤ w.heap.size) (l : List Bs) (v : Value) (hO : OwnR TS w B v (l.map baOf)) (hsh : ∀ W, Below B w W → ShopB W S rh rr m) (hX : ∀ W, Below B w W → W.cell? ⟨X, 0, none⟩ = some (.pointer (some ⟨S, 0, none⟩)))
    (hl : ∀ k ∈ l, (m.get k).isSome = true) (hn : Names m) (h19 : l.length ≤ 19) :
    Calls Tryz.prog 92 #[v, .func (.func 106) #[] #[.pointer (some ⟨X, 0, none⟩)]] w fun e w' => e = .returned (.tuple #[]) ∧ OwnR TS w' B v ((sortW m l).map baOf) ∧ Below B w w' := by
  have HI := Lib.hid (rinsW_any S X rh rr m w B hB l v hO hsh hX hl hn h19)
  obtain ⟨a, n, cap, hv, hnl⟩ : ∃ a n cap, v = .slice a n cap ∧ n = l.length := by obtain ⟨a, cap, hv, _, _⟩ := hO.form; exact ⟨a, _, cap, hv, List.length_map _⟩
  subst hv
  rw [← hnl] at HI
  have hn19 : n ≤ 19 := by omega
  clear hO hsh hX hl hn hnl h19
  have HS : Hid (Calls Tryz.prog 157 #[.slice a n cap, .int .i64 n, .func (.func 106) #[] #[.pointer (some ⟨X, 0, none⟩)]] w fun e w' => e = .returned (.tuple #[]) ∧ OwnR TS w' B (.slice a n cap) ((sortW m l).map baOf) ∧ Below B w w') := Lib.hid (by
    go_enter Tryz.func157, Tryz.ntmps157
    go_wp2_with fail
    go_loopw [7, 8] (fun x y wr => x = .int .i64 0 ∧ y = .int .i64 20 ∧ w = wr) (fun _ _ _ => 0)
    case atStart => exact ⟨rfl, rfl, rfl⟩
    case round =>
      obtain ⟨rfl, rfl, rfl⟩ := hrel
      have hn20 : ¬ (20 : Int) ≤ (n : Int) := by omega
      go_wp2_with fail
      refine HI.out.mono ?_
      rintro e w2 ⟨rfl, hO2, hb2⟩
      have HO2 := Lib.hid hO2
      clear hO2
      go_wp2_with fail
      go_loopw [6] (fun x wr => x = .int .i64 20 ∧ w2 = wr) (fun _ _ => 0)
      case atStart => exact ⟨rfl, rfl⟩
      case round =>
        obtain ⟨rfl, rfl⟩ := hrel
        have hn21 : ¬ (20 : Int) < (n : Int) := by omega
        go_wp2_with fail
        go_end0
        exact ⟨rfl, HO2.out, hb2⟩)
  go_enter Tryz.func92, Tryz.ntmps92
  go_wp2_with fail
  refine HS.out.mono ?_
  rintro e w2 ⟨rfl, hO2, hb2⟩
  have HO2 := Lib.hid hO2
  clear hO2
  go_wp2
  go_end0
  exact ⟨rfl, HO2.out, hb2⟩
end Go.Proofs.YthdolfnfiggkjaaGreatDoor
