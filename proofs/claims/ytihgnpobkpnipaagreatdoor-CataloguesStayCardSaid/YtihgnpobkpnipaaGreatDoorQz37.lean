/- Texts of the proof of a law, put together, part 37 of 41. Conditions: none beyond those that each theorem names. -/
import Derived.Test.YtihgnpobkpnipaaGreatDoorQz3
import Derived.Test.YtihgnpobkpnipaaGreatDoorQz18
import Derived.Test.YtihgnpobkpnipaaGreatDoorQz24
import Derived.Test.YtihgnpobkpnipaaGreatDoorQz34
import Derived.Test.YtihgnpobkpnipaaGreatDoorQz35
namespace Go.Proofs.YtihgnpobkpnipaaGreatDoor
open Go.RowKit Go.Sort
theorem neqPrt_no (x1 x2 : ByteArray) (n1 n2 : Int) (W : World) : (binOp .neq 66 (.agg #[.string x1, .string x2, .int .i64 n1, .int .i64 n2]) (.agg #[.string x1, .string x2, .int .i64 n1, .int .i64 n2])).run Tryz.prog W = .ok (.bool false) W := by
  go_simp
theorem neqAlt_no (x1 x2 : ByteArray) (bo : Bool) (W : World) : (binOp .neq 72 (.agg #[.string x1, .string x2, .bool bo]) (.agg #[.string x1, .string x2, .bool bo])).run Tryz.prog W = .ok (.bool false) W := by
  go_simp
set_option maxHeartbeats 4000000 in
set_option maxRecDepth 100000 in
theorem EqPt_same (l : List Prt) (v u : Value) (w : World) (_hl : l.length ≤ 100000) (rl : RecR TPt w 0 v l) (rm : RecR TPt w 0 u l) :
    Calls Tryz.prog 59 #[v, u] w fun e w' => e = .returned (.bool true) ∧ Below w.heap.size w w' := by
  obtain ⟨a, ca, rfl, _, _⟩ := rl.form
  obtain ⟨b, cb, rfl, _, _⟩ := rm.form
  have RL := Lib.hid rl
  have RM := Lib.hid rm
  clear rl rm
  go_enter Tryz.func59, Tryz.ntmps59
  go_wp2_with fail
  go_loopw [13] (fun i wr => ∃ k : Nat, k ≤ l.length ∧ i = .int .i64 k ∧ Below w.heap.size w wr) (fun i _ => l.length - (intOf i).toNat)
  case atStart => exact ⟨0, Nat.zero_le _, rfl, Below.refl _ _⟩
  case round =>
    obtain ⟨k, hk, rfl, hB⟩ := hrel
    by_cases hlt : k < l.length
    · obtain ⟨x, hx⟩ : ∃ x, l[k]? = some x := ⟨_, List.getElem?_eq_getElem hlt⟩
      obtain ⟨b1, o1, rfl, _, _, hc1⟩ := (RL.out.below hB).at TPt.ok.len hx TPt.ok.pos
      obtain ⟨b2, o2, rfl, _, _, hc2⟩ := (RM.out.below hB).at TPt.ok.len hx TPt.ok.pos
      obtain ⟨x1, x2, n1, n2⟩ := x
      have cx0 : wr.cell? ⟨b1, o1 + k * 4, none⟩ = some (.string x1) := hc1 0 _ rfl
      have cx1 : wr.cell? ⟨b1, o1 + k * 4 + 1, none⟩ = some (.string x2) := hc1 1 _ rfl
      have cx2 : wr.cell? ⟨b1, o1 + k * 4 + 2, none⟩ = some (.int .i64 n1) := hc1 2 _ rfl
      have cx3 : wr.cell? ⟨b1, o1 + k * 4 + 3, none⟩ = some (.int .i64 n2) := hc1 3 _ rfl
      have cy0 : wr.cell? ⟨b2, o2 + k * 4, none⟩ = some (.string x1) := hc2 0 _ rfl
      have cy1 : wr.cell? ⟨b2, o2 + k * 4 + 1, none⟩ = some (.string x2) := hc2 1 _ rfl
      have cy2 : wr.cell? ⟨b2, o2 + k * 4 + 2, none⟩ = some (.int .i64 n1) := hc2 2 _ rfl
      have cy3 : wr.cell? ⟨b2, o2 + k * 4 + 3, none⟩ = some (.int .i64 n2) := hc2 3 _ rfl
      have hw1 : IntKind.i64.wrap ((k : Int) + 1) = ((k + 1 : Nat) : Int) := by rw [IntWalk.i64_in _ (by omega)]; omega
      clear hc1 hc2 hx
      have hne := neqPrt_no x1 x2 n1 n2
      go_wp2_with fail
      go_region
      all_goals (
        go_wp2
        go_roundw
        case rel => exact ⟨k + 1, by omega, by go_num, Below.drew hB⟩
        case measure => simp [intOf]; omega)
    · go_wp2
      go_ret
      exact ⟨rfl, hB⟩
set_option maxHeartbeats 4000000 in
set_option maxRecDepth 100000 in
theorem EqAl_same (l : List Alt) (v u : Value) (w : World) (_hl : l.length ≤ 100000) (rl : RecR TAl w 0 v l) (rm : RecR TAl w 0 u l) :
    Calls Tryz.prog 60 #[v, u] w fun e w' => e = .returned (.bool true) ∧ Below w.heap.size w w' := by
  obtain ⟨a, ca, rfl, _, _⟩ := rl.form
  obtain ⟨b, cb, rfl, _, _⟩ := rm.form
  have RL := Lib.hid rl
  have RM := Lib.hid rm
  clear rl rm
  go_enter Tryz.func60, Tryz.ntmps60
  go_wp2_with fail
  go_loopw [13] (fun i wr => ∃ k : Nat, k ≤ l.length ∧ i = .int .i64 k ∧ Below w.heap.size w wr) (fun i _ => l.length - (intOf i).toNat)
  case atStart => exact ⟨0, Nat.zero_le _, rfl, Below.refl _ _⟩
  case round =>
    obtain ⟨k, hk, rfl, hB⟩ := hrel
    by_cases hlt : k < l.length
    · obtain ⟨x, hx⟩ : ∃ x, l[k]? = some x := ⟨_, List.getElem?_eq_getElem hlt⟩
      obtain ⟨b1, o1, rfl, _, _, hc1⟩ := (RL.out.below hB).at TAl.ok.len hx TAl.ok.pos
      obtain ⟨b2, o2, rfl, _, _, hc2⟩ := (RM.out.below hB).at TAl.ok.len hx TAl.ok.pos
      obtain ⟨x1, x2, bo⟩ := x
      have cx0 : wr.cell? ⟨b1, o1 + k * 3, none⟩ = some (.string x1) := hc1 0 _ rfl
      have cx1 : wr.cell? ⟨b1, o1 + k * 3 + 1, none⟩ = some (.string x2) := hc1 1 _ rfl
      have cx2 : wr.cell? ⟨b1, o1 + k * 3 + 2, none⟩ = some (.bool bo) := hc1 2 _ rfl
      have cy0 : wr.cell? ⟨b2, o2 + k * 3, none⟩ = some (.string x1) := hc2 0 _ rfl
      have cy1 : wr.cell? ⟨b2, o2 + k * 3 + 1, none⟩ = some (.string x2) := hc2 1 _ rfl
      have cy2 : wr.cell? ⟨b2, o2 + k * 3 + 2, none⟩ = some (.bool bo) := hc2 2 _ rfl
      have hw1 : IntKind.i64.wrap ((k : Int) + 1) = ((k + 1 : Nat) : Int) := by rw [IntWalk.i64_in _ (by omega)]; omega
      clear hc1 hc2 hx
      have hne := neqAlt_no x1 x2 bo
      go_wp2_with fail
      go_region
      all_goals (
        go_wp2
        go_roundw
        case rel => exact ⟨k + 1, by omega, by go_num, Below.drew hB⟩
        case measure => simp [intOf]; omega)
    · go_wp2
      go_ret
      exact ⟨rfl, hB⟩
end Go.Proofs.YtihgnpobkpnipaaGreatDoor
namespace Go.Proofs.YtihgnpobkpnipaaGreatDoor
open Go.RowKit Go.Sort
set_option maxHeartbeats 4000000 in
set_option maxRecDepth 100000 in
theorem SameCat_same (ps : List Prt) (l : List Alt) (vp va up ua : Value) (w : World) (hp : ps.length ≤ 100000) (hl : l.length ≤ 100000) (h1 : CatR w vp va ps l) (h2 : CatR w up ua ps l) :
    Calls Tryz.prog 15 #[.agg #[vp, va], .agg #[up, ua]] w fun e w' => e = .returned (.bool true) ∧ Below w.heap.size w w' := by
  have HE1 := Lib.hid fun (W : World) (hW : Below w.heap.size w W) => EqPt_same ps vp up W hp (h1.p.below hW) (h2.p.below hW)
  have HE2 := Lib.hid fun (W : World) (hW : Below w.heap.size w W) => EqAl_same l va ua W hl (h1.a.below hW) (h2.a.below hW)
  obtain ⟨a1, c1, rfl, _, _⟩ := h1.p.form
  obtain ⟨a2, c2, rfl, _, _⟩ := h1.a.form
  obtain ⟨a3, c3, rfl, _, _⟩ := h2.p.form
  obtain ⟨a4, c4, rfl, _, _⟩ := h2.a.form
  obtain ⟨pn, hpn⟩ : ∃ q, q = ps.length := ⟨_, rfl⟩
  obtain ⟨an, han⟩ : ∃ q, q = l.length := ⟨_, rfl⟩
  rw [← hpn] at HE1
  rw [← han] at HE2
  rw [← hpn, ← han]
  obtain ⟨w1, hw1⟩ : ∃ w1, w1 = w.alloc (.cells #[.slice a1 pn c1, .slice a2 an c2] 29) := ⟨_, rfl⟩
  obtain ⟨w2, hw2⟩ : ∃ w2, w2 = w1.alloc (.cells #[.slice a3 pn c3, .slice a4 an c4] 29) := ⟨_, rfl⟩
  have hA1 : Below w.heap.size w w1 := by rw [hw1]; exact Bl.alloc (Below.refl _ _) _
  have hA2 : Below w.heap.size w w2 := by rw [hw2]; exact Bl.alloc hA1 _
  have hx1 : w1.heap[w.heap.size]? = some (.cells #[.slice a1 pn c1, .slice a2 an c2] 29 (0, 0)) := by rw [hw1]; exact blk_new w _
  have hxr : w2.heap[w.heap.size]? = some (.cells #[.slice a1 pn c1, .slice a2 an c2] 29 (0, 0)) := blk_below hx1 (by rw [hw2]; exact Bl.alloc (Below.refl _ _) _)
  have hz1 : w1.heap.size = w.heap.size + 1 := by rw [hw1]; simp
  have hx2 : w2.heap[w.heap.size + 1]? = some (.cells #[.slice a3 pn c3, .slice a4 an c4] 29 (0, 0)) := by rw [hw2, ← hz1]; exact blk_new w1 _
  have HW1 := Lib.hid hw1
  have HW2 := Lib.hid hw2
  have HA2 := Lib.hid hA2
  have q0 : w2.cell? ⟨w.heap.size, 0, none⟩ = some (.slice a1 pn c1) := blk_cell hxr 0
  have q1 : w2.cell? ⟨w.heap.size, 1, none⟩ = some (.slice a2 an c2) := blk_cell hxr 1
  have p0 : w2.cell? ⟨w.heap.size + 1, 0, none⟩ = some (.slice a3 pn c3) := blk_cell hx2 0
  have p1 : w2.cell? ⟨w.heap.size + 1, 1, none⟩ = some (.slice a4 an c4) := blk_cell hx2 1
  have HXR := Lib.hid hxr
  have HX2 := Lib.hid hx2
  clear h1 h2 hpn han hA1 hA2 hx1 hxr hx2 hw1 hw2 hz1
  go_enter Tryz.func15, Tryz.ntmps15
  go_upto_region 1 with fail
  rw [← HW1.out, ← HW2.out]
  go_wp2_with fail
  refine (HE1.out _ HA2.out).mono ?_
  rintro e w3 ⟨rfl, hb3⟩
  have HB3 := Lib.hid (Bl.trans HA2.out hb3)
  have hxr3 := blk_below HXR.out hb3
  have hx23 := blk_below HX2.out hb3
  have q1 : w3.cell? ⟨w.heap.size, 1, none⟩ = some (.slice a2 an c2) := blk_cell hxr3 1
  have p1 : w3.cell? ⟨w.heap.size + 1, 1, none⟩ = some (.slice a4 an c4) := blk_cell hx23 1
  clear hb3 hxr3 hx23
  go_wp2_with fail
  refine (HE2.out _ HB3.out).mono ?_
  rintro e w4 ⟨rfl, hb4⟩
  have HB4 := Lib.hid (Bl.trans HB3.out hb4)
  clear hb4
  go_wp2
  go_ret
  exact ⟨rfl, HB4.out⟩
end Go.Proofs.YtihgnpobkpnipaaGreatDoor
namespace Go.Proofs.YtihgnpobkpnipaaGreatDoor
open Go.RowKit Go.Sort Go.Maps
/-- rows the other way round: k is in the row of s just if the edge from k to s has been met. -/
structure BackI (ps : List Prt) (l : List Alt) (Fb : Fds) (E : Bs → Bs → Prop) : Prop where
  mem : ∀ s k, k ∈ (rowB Fb s).map bsOf ↔ E k s
  nd : ∀ s, ((rowB Fb s).map bsOf).Nodup
  sub : ∀ k s, E k s → s ∈ nextL l k
  ne : ∀ p ∈ Fb, p.2.2 ≠ []
  ok : Sm.Ok Fb
theorem BackI.nil (ps : List Prt) (l : List Alt) : BackI ps l [] (fun _ _ => False) :=
  ⟨fun s k => by show k ∈ [] ↔ _; simp, fun s => List.nodup_nil, fun _ _ h => h.elim, fun _ h => (List.not_mem_nil h).elim, Sm.Ok.nil⟩
theorem BackI.congr {ps : List Prt} {l : List Alt} {Fb : Fds} {E E' : Bs → Bs → Prop} (h : BackI ps l Fb E) (he : ∀ k s, E' k s ↔ E k s) : BackI ps l Fb E' :=
  ⟨fun s k => (h.mem s k).trans (he k s).symm, h.nd, fun k s q => h.sub k s ((he k s).1 q), h.ne, h.ok⟩
theorem BackI.put {ps : List Prt} {l : List Alt} {Fb : Fds} {E : Bs → Bs → Prop} (h : BackI ps l Fb E) {k s : Bs} (hd : Hdr) (hn : ¬ E k s) (hs : s ∈ nextL l k) : BackI ps l (Fb.put s (hd, rowB Fb s ++ [baOf k])) (fun k' s' => E k' s' ∨ (k' = k ∧ s' = s)) := by
  have hrow : ∀ j, (rowB (Fb.put s (hd, rowB Fb s ++ [baOf k])) j).map bsOf = if j = s then (rowB Fb s).map bsOf ++ [k] else (rowB Fb j).map bsOf := fun j => by
    rw [rowB_put]
    by_cases e : j = s
    · rw [if_pos e, if_pos e, List.map_append, List.map_singleton, bsOf_baOf]
    · rw [if_neg e, if_neg e]
  refine ⟨fun s' k' => ?_, fun s' => ?_, fun k' s' q => ?_, fun p hp => ?_, h.ok.put _ _⟩
  · rw [hrow]
    by_cases e : s' = s
    · subst e
      rw [if_pos rfl, List.mem_append, List.mem_singleton, h.mem]
      exact ⟨fun q => q.imp id fun q => ⟨q, rfl⟩, fun q => q.imp id fun q => q.1⟩
    · rw [if_neg e, h.mem]
      exact ⟨.inl, fun q => q.resolve_right fun q => e q.2⟩
  · rw [hrow]
    by_cases e : s' = s
    · rw [if_pos e, List.nodup_append]
      exact ⟨h.nd s, by simp, fun a ha b hb => by rw [List.mem_singleton.1 hb]; exact fun q => hn ((h.mem s k).1 (q ▸ ha))⟩
    · rw [if_neg e]; exact h.nd s'
  · rcases q with q | ⟨rfl, rfl⟩
    · exact h.sub _ _ q
    · exact hs
  · rcases (Sm.ins_mem p).1 hp with rfl | hp
    · simp
    · exact h.ne p (List.mem_filter.1 hp).1
theorem BackI.rowLen {ps : List Prt} {l : List Alt} {Fb : Fds} {E : Bs → Bs → Prop} (hc : catsF ps l = 0) (h : BackI ps l Fb E) (s : Bs) : (rowB Fb s).length ≤ ps.length := by
  have h1 := List.Nodup.length_le_of_subset (h.nd s) (l₂ := keysP ps) fun k hk => (next_in hc (h.sub _ _ ((h.mem s k).1 hk))).1
  unfold keysP at h1
  rw [List.length_map, List.length_map] at h1
  exact h1
theorem BackI.len {ps : List Prt} {l : List Alt} {Fb : Fds} {E : Bs → Bs → Prop} (hc : catsF ps l = 0) (h : BackI ps l Fb E) : Fb.length ≤ ps.length := by
  have h1 := List.Nodup.length_le_of_subset (Sm.keys_nodup h.ok) (l₂ := keysP ps) fun s hs => by
    obtain ⟨p, hp, rfl⟩ := List.mem_map.1 hs
    have hg := Sm.get_of_mem h.ok (show (p.1, p.2) ∈ Fb from hp)
    obtain ⟨x, hx⟩ := List.exists_mem_of_ne_nil _ (h.ne p hp)
    have hr : rowB Fb p.1 = p.2.2 := by unfold rowB; rw [hg]; rfl
    exact (next_in hc (h.sub _ _ ((h.mem p.1 (bsOf x)).1 (by rw [hr]; exact List.mem_map.2 ⟨x, hx, rfl⟩)))).2.1
  unfold keysP at h1
  rw [keys_len, List.length_map] at h1
  exact h1
/-- the edges met before a round, in it, and behind it. -/
def EdgL (l : List Alt) (left : Lit → Bool) (k s : Bs) : Prop := left (.string k) = false ∧ s ∈ nextL l k
def EdgP (l : List Alt) (left : Lit → Bool) (x : Bs) (j : Nat) (k s : Bs) : Prop := EdgL l left k s ∨ (k = x ∧ s ∈ (nextL l x).take j)
theorem EdgP.zero (l : List Alt) (left : Lit → Bool) (x k s : Bs) : EdgP l left x 0 k s ↔ EdgL l left k s := by unfold EdgP; simp
theorem EdgP.next {l : List Alt} {left : Lit → Bool} {x y : Bs} {j : Nat} (hy : (nextL l x)[j]? = some y) (k s : Bs) : EdgP l left x (j + 1) k s ↔ (EdgP l left x j k s ∨ (k = x ∧ s = y)) := by
  unfold EdgP
  rw [List.take_add_one, hy]
  simp only [Option.toList_some, List.mem_append, List.mem_singleton]
  constructor
  · rintro (h | ⟨h1, h2 | h2⟩)
    · exact .inl (.inl h)
    · exact .inl (.inr ⟨h1, h2⟩)
    · exact .inr ⟨h1, h2⟩
  · rintro ((h | ⟨h1, h2⟩) | ⟨h1, h2⟩)
    · exact .inl h
    · exact .inr ⟨h1, .inl h2⟩
    · exact .inr ⟨h1, .inr h2⟩
theorem EdgP.stop {l : List Alt} {left : Lit → Bool} {x : Bs} {j : Nat} (hj : (nextL l x).length ≤ j) (k s : Bs) : EdgL l (fun z => left z && !z.sameKey (.string x)) k s ↔ EdgP l left x j k s := by
  unfold EdgP EdgL
  rw [List.take_of_length_le hj]
  have e : (left (.string k) && !(Lit.string k).sameKey (.string x)) = false ↔ left (.string k) = false ∨ k = x := by
    rw [sm_same]
    by_cases h : k = x <;> simp [h]
  rw [e]
  constructor
  · rintro ⟨h1 | h1, h2⟩
    · exact .inl ⟨h1, h2⟩
    · exact .inr ⟨h1, h1 ▸ h2⟩
  · rintro (⟨h1, h2⟩ | ⟨h1, h2⟩)
    · exact ⟨.inl h1, h2⟩
    · exact ⟨.inr h1, h1 ▸ h2⟩
theorem EdgP.no {ps : List Prt} {l : List Alt} (hc : catsF ps l = 0) {left : Lit → Bool} {x y : Bs} {j : Nat} (hl : left (.string x) = true) (hy : (nextL l x)[j]? = some y) : ¬ EdgP l left x j x y := by
  rintro (h | ⟨_, h⟩)
  · have h1 := h.1
    rw [hl] at h1; cases h1
  · have hnd := (nextL_srt hc x).nodup
    obtain ⟨hj, he⟩ := List.getElem?_eq_some_iff.1 hy
    obtain ⟨i, hi⟩ := List.getElem?_of_mem h
    obtain ⟨hi1, hi2⟩ := List.getElem?_eq_some_iff.1 hi
    rw [List.length_take] at hi1
    rw [List.getElem_take] at hi2
    have := (List.getElem_inj hnd).1 (hi2.trans he.symm)
    omega
/-- what Chain tells. -/
def ChainP (ps : List Prt) (l : List Alt) (a b : Bs) (is : Bool) (out : List Bs) : Prop :=
  ∃ g : Bs → List Bs, (∀ p s, s ∈ g p ↔ p ∈ nextL l s) ∧ is = (bfsR g b (keysP ps)).st.has a ∧ (is = true → ∃ d : Nat, (bfsR g b (keysP ps)).st.get a = some (d : Int) ∧ out = chainB (nextL l) (bfsR g b (keysP ps)) b d a) ∧ (is = false → out = [])
def ChainR (ps : List Prt) (l : List Alt) (a b : ByteArray) (K : Int) (e : Ending) (w' : World) : Prop := ∃ v is out, e = .returned (.tuple #[v, .bool is, .int .i64 K]) ∧ RecR TS w' 0 v (out.map baOf) ∧ (K = 0 → ChainP ps l (bsOf a) (bsOf b) is out) ∧ (K ≠ 0 → is = false ∧ out = [])
theorem ChainR.mk {ps : List Prt} {l : List Alt} {a b : ByteArray} {K : Int} {w' : World} {v : Value} (is : Bool) (out : List Bs) (h1 : RecR TS w' 0 v (out.map baOf)) (h2 : K = 0 → ChainP ps l (bsOf a) (bsOf b) is out) (h3 : K ≠ 0 → is = false ∧ out = []) : ChainR ps l a b K (.returned (.tuple #[v, .bool is, .int .i64 K])) w' := ⟨v, is, out, rfl, h1, h2, h3⟩
end Go.Proofs.YtihgnpobkpnipaaGreatDoor
namespace Go.Proofs.YtihgnpobkpnipaaGreatDoor
open Go.RowKit Go.Sort
theorem baC_bsOf (b : ByteArray) : baOf (bsOf b) = b := by unfold baOf bsOf; simp
theorem hasP_of {ps : List Prt} {k : ByteArray} (h : bsOf k ∈ keysP ps) : hasP ps k = true := by
  obtain ⟨x, hx, he⟩ := List.mem_map.1 h
  have h2 : x.1 = k := by rw [← baC_bsOf x.1, he, baC_bsOf]
  unfold hasP
  exact List.any_eq_true.2 ⟨x, hx, by rw [h2]; simp⟩
theorem known0 {ps : List Prt} {l : List Alt} (h : catsF ps l = 0) {ks : List ByteArray} (hk : ∀ k ∈ ks, bsOf k ∈ keysP ps) : knownF ps l ks = 0 := by
  unfold knownF
  rw [if_neg (by simp [h]), if_pos (List.all_eq_true.2 fun k hk2 => hasP_of (hk k hk2))]
theorem known1 {ps : List Prt} {l : List Alt} (h : catsF ps l = 0) {k : ByteArray} (hk : bsOf k ∈ keysP ps) : knownF ps l [k] = 0 :=
  known0 h fun k2 h2 => by rw [List.mem_singleton.1 h2]; exact hk
theorem keys_in {ps : List Prt} {x : Prt} (h : x ∈ ps) : bsOf x.1 ∈ keysP ps := List.mem_map.2 ⟨x, h, rfl⟩
/-- the answer of a call that gives a list of keys. -/
def VDr (L : List ByteArray) : Value → World → Prop := fun v w => ∃ v', v = .tuple #[v', .int .i64 0] ∧ RecR TS w 0 v' L
theorem VDr.low {L : List ByteArray} {v : Value} {w w' : World} (h : VDr L v w) (hb : Below w.heap.size w w') : VDr L v w' := by
  obtain ⟨v', h1, h2⟩ := h
  exact ⟨v', h1, h2.below hb⟩
/-- the catalogue of a law: its box and what it holds. -/
structure CatB (w : World) (C B : Nat) (vp va : Value) (ps : List Prt) (l : List Alt) : Prop where
  c : w.heap[C]? = some (.cells #[vp, va] 29 (0, 0))
  p : OwnR TPt w B vp ps
  a : OwnR TAl w B va l
theorem CatB.low {w w' : World} {C B : Nat} {vp va : Value} {ps : List Prt} {l : List Alt} (h : CatB w C B vp va ps l) (hb : Below w.heap.size w w') : CatB w' C B vp va ps l := ⟨blk_below h.c hb, h.p.below hb, h.a.below hb⟩
theorem CatB.gr {w w' : World} {C B s : Nat} {vp va : Value} {ps : List Prt} {l : List Alt} (h : CatB w C B vp va ps l) (hC : C ≠ s) (hs : s < B) (hb : w.grownBy w' (some s)) : CatB w' C B vp va ps l := ⟨Gr.blk hb h.c hC, h.p.grown hb hs, h.a.grown hb hs⟩
theorem CatB.r {w : World} {C B : Nat} {vp va : Value} {ps : List Prt} {l : List Alt} (h : CatB w C B vp va ps l) : CatR w vp va ps l := ⟨h.p.rec0, h.a.rec0⟩
end Go.Proofs.YtihgnpobkpnipaaGreatDoor
