/- Texts of the proof of a law, put together, part 29 of 46. Conditions: none beyond those that each theorem names. -/
import Derived.Test.YteojmljggoplkaaGreatDoorPz25
namespace Go.Proofs.YteojmljggoplkaaGreatDoor
open Go.RowKit Go.Sort Go.Maps
def slLenC : Value → Nat
  | .slice _ n _ => n
  | _ => 0
theorem slLenC_s (a : Option Addr) (n c : Nat) : slLenC (.slice a n c) = n := rfl
/-- rows the other way round: k is in the row of s just if the edge from k to s has been met. -/
structure BackI (ps : List Prt) (l : List Alt) (Fb : Fds) (E : Bs → Bs → Prop) : Prop where
  mem : ∀ s k, k ∈ (rowB Fb s).map bsOf ↔ E k s
  nd : ∀ s, ((rowB Fb s).map bsOf).Nodup
  sub : ∀ k s, E k s → s ∈ nextL l k
  ne : ∀ p ∈ Fb, p.2.2 ≠ []
  ok : Sm.Ok Fb
theorem BackI.nil (ps : List Prt) (l : List Alt) : BackI ps l [] (fun _ _ => False) :=
  ⟨fun s k => by show k ∈ [] ↔ _; simp, fun s => List.nodup_nil, fun _ _ h => h.elim, fun _ h => (List.not_mem_nil h).elim, Sm.Ok.nil⟩
theorem BackI.congr {ps : List Prt} {l : List Alt} {Fb : Fds} {E E' : Bs → Bs → Prop} (h : BackI ps l Fb E) (he : ∀ k s, E' k s ↔ E k s) : BackI ps l Fb E' :=
  ⟨fun s k => (h.mem s k).trans (he k s).symm, h.nd, fun k s q => h.sub k s ((he k s).1 q), h.ne, h.ok⟩
theorem BackI.put {ps : List Prt} {l : List Alt} {Fb : Fds} {E : Bs → Bs → Prop} (h : BackI ps l Fb E) {k s : Bs} (hd : Hdr) (hn : ¬ E k s) (hs : s ∈ nextL l k) : BackI ps l (Fb.put s (hd, rowB Fb s ++ [baOf k])) (fun k' s' => E k' s' ∨ (k' = k ∧ s' = s)) := by
  have hrow : ∀ j, (rowB (Fb.put s (hd, rowB Fb s ++ [baOf k])) j).map bsOf = if j = s then (rowB Fb s).map bsOf ++ [k] else (rowB Fb j).map bsOf := fun j => by
    rw [rowB_put]
    by_cases e : j = s
    · rw [if_pos e, if_pos e, List.map_append, List.map_singleton, bsOf_baOf]
    · rw [if_neg e, if_neg e]
  refine ⟨fun s' k' => ?_, fun s' => ?_, fun k' s' q => ?_, fun p hp => ?_, h.ok.put _ _⟩
  · rw [hrow]
    by_cases e : s' = s
    · subst e
      rw [if_pos rfl, List.mem_append, List.mem_singleton, h.mem]
      exact ⟨fun q => q.imp id fun q => ⟨q, rfl⟩, fun q => q.imp id fun q => q.1⟩
    · rw [if_neg e, h.mem]
      exact ⟨.inl, fun q => q.resolve_right fun q => e q.2⟩
  · rw [hrow]
    by_cases e : s' = s
    · rw [if_pos e, List.nodup_append]
      exact ⟨h.nd s, by simp, fun a ha b hb => by rw [List.mem_singleton.1 hb]; exact fun q => hn ((h.mem s k).1 (q ▸ ha))⟩
    · rw [if_neg e]; exact h.nd s'
  · rcases q with q | ⟨rfl, rfl⟩
    · exact h.sub _ _ q
    · exact hs
  · rcases (Sm.ins_mem p).1 hp with rfl | hp
    · simp
    · exact h.ne p (List.mem_filter.1 hp).1
theorem BackI.rowLen {ps : List Prt} {l : List Alt} {Fb : Fds} {E : Bs → Bs → Prop} (hc : catsF ps l = 0) (h : BackI ps l Fb E) (s : Bs) : (rowB Fb s).length ≤ ps.length := by
  have h1 := List.Nodup.length_le_of_subset (h.nd s) (l₂ := keysP ps) fun k hk => (next_in hc (h.sub _ _ ((h.mem s k).1 hk))).1
  unfold keysP at h1
  rw [List.length_map, List.length_map] at h1
  exact h1
theorem BackI.len {ps : List Prt} {l : List Alt} {Fb : Fds} {E : Bs → Bs → Prop} (hc : catsF ps l = 0) (h : BackI ps l Fb E) : Fb.length ≤ ps.length := by
  have h1 := List.Nodup.length_le_of_subset (Sm.keys_nodup h.ok) (l₂ := keysP ps) fun s hs => by
    obtain ⟨p, hp, rfl⟩ := List.mem_map.1 hs
    have hg := Sm.get_of_mem h.ok (show (p.1, p.2) ∈ Fb from hp)
    obtain ⟨x, hx⟩ := List.exists_mem_of_ne_nil _ (h.ne p hp)
    have hr : rowB Fb p.1 = p.2.2 := by unfold rowB; rw [hg]; rfl
    exact (next_in hc (h.sub _ _ ((h.mem p.1 (bsOf x)).1 (by rw [hr]; exact List.mem_map.2 ⟨x, hx, rfl⟩)))).2.1
  unfold keysP at h1
  rw [keys_len, List.length_map] at h1
  exact h1
/-- the edges met before a round, in it, and behind it. -/
def EdgL (l : List Alt) (left : Lit → Bool) (k s : Bs) : Prop := left (.string k) = false ∧ s ∈ nextL l k
def EdgP (l : List Alt) (left : Lit → Bool) (x : Bs) (j : Nat) (k s : Bs) : Prop := EdgL l left k s ∨ (k = x ∧ s ∈ (nextL l x).take j)
theorem EdgP.zero (l : List Alt) (left : Lit → Bool) (x k s : Bs) : EdgP l left x 0 k s ↔ EdgL l left k s := by unfold EdgP; simp
theorem EdgP.next {l : List Alt} {left : Lit → Bool} {x y : Bs} {j : Nat} (hy : (nextL l x)[j]? = some y) (k s : Bs) : EdgP l left x (j + 1) k s ↔ (EdgP l left x j k s ∨ (k = x ∧ s = y)) := by
  unfold EdgP
  rw [List.take_add_one, hy]
  simp only [Option.toList_some, List.mem_append, List.mem_singleton]
  constructor
  · rintro (h | ⟨h1, h2 | h2⟩)
    · exact .inl (.inl h)
    · exact .inl (.inr ⟨h1, h2⟩)
    · exact .inr ⟨h1, h2⟩
  · rintro ((h | ⟨h1, h2⟩) | ⟨h1, h2⟩)
    · exact .inl h
    · exact .inr ⟨h1, .inl h2⟩
    · exact .inr ⟨h1, .inr h2⟩
theorem EdgP.stop {l : List Alt} {left : Lit → Bool} {x : Bs} {j : Nat} (hj : (nextL l x).length ≤ j) (k s : Bs) : EdgL l (fun z => left z && !z.sameKey (.string x)) k s ↔ EdgP l left x j k s := by
  unfold EdgP EdgL
  rw [List.take_of_length_le hj]
  have e : (left (.string k) && !(Lit.string k).sameKey (.string x)) = false ↔ left (.string k) = false ∨ k = x := by
    rw [sm_same]
    by_cases h : k = x <;> simp [h]
  rw [e]
  constructor
  · rintro ⟨h1 | h1, h2⟩
    · exact .inl ⟨h1, h2⟩
    · exact .inr ⟨h1, h1 ▸ h2⟩
  · rintro (⟨h1, h2⟩ | ⟨h1, h2⟩)
    · exact ⟨.inl h1, h2⟩
    · exact ⟨.inr h1, h1 ▸ h2⟩
theorem EdgP.no {ps : List Prt} {l : List Alt} (hc : catsF ps l = 0) {left : Lit → Bool} {x y : Bs} {j : Nat} (hl : left (.string x) = true) (hy : (nextL l x)[j]? = some y) : ¬ EdgP l left x j x y := by
  rintro (h | ⟨_, h⟩)
  · have h1 := h.1
    rw [hl] at h1; cases h1
  · have hnd := (nextL_srt hc x).nodup
    obtain ⟨hj, he⟩ := List.getElem?_eq_some_iff.1 hy
    obtain ⟨i, hi⟩ := List.getElem?_of_mem h
    obtain ⟨hi1, hi2⟩ := List.getElem?_eq_some_iff.1 hi
    rw [List.length_take] at hi1
    rw [List.getElem_take] at hi2
    have := (List.getElem_inj hnd).1 (hi2.trans he.symm)
    omega
theorem nextL_none {_ps : List Prt} {l : List Alt} {w : World} {b B : Nat} {F : Fds} (hN : NextM w b B l F) {left : Lit → Bool} (hl : left = fun z => Maps.has (DataW.map (smD TMh (hdS F))) z) (k s : Bs) : EdgL l left k s ↔ False := by
  subst hl
  unfold EdgL
  refine ⟨fun ⟨h1, h2⟩ => ?_, False.elim⟩
  have h1 : Maps.has (DataW.map (smD TMh (hdS F))) (.string k) = false := h1
  rw [smD_has] at h1
  have h3 := (hN.has k).2 (fun e => by rw [e] at h2; cases h2)
  unfold Sm.has at h1 h3
  rw [hdS_get] at h1
  rw [Option.isSome_map] at h1
  rw [h1] at h3
  cases h3
/-- what Chain tells. -/
def ChainP (ps : List Prt) (l : List Alt) (a b : Bs) (is : Bool) (out : List Bs) : Prop :=
  ∃ g : Bs → List Bs, (∀ p s, s ∈ g p ↔ p ∈ nextL l s) ∧ is = (bfsR g b (keysP ps)).st.has a ∧ (is = true → ∃ d : Nat, (bfsR g b (keysP ps)).st.get a = some (d : Int) ∧ out = chainB (nextL l) (bfsR g b (keysP ps)) b d a) ∧ (is = false → out = [])
def ChainR (ps : List Prt) (l : List Alt) (a b : ByteArray) (K : Int) (e : Ending) (w' : World) : Prop := ∃ v is out, e = .returned (.tuple #[v, .bool is, .int .i64 K]) ∧ RecR TS w' 0 v (out.map baOf) ∧ (K = 0 → ChainP ps l (bsOf a) (bsOf b) is out) ∧ (K ≠ 0 → is = false ∧ out = [])
theorem ChainR.mk {ps : List Prt} {l : List Alt} {a b : ByteArray} {K : Int} {w' : World} {v : Value} (is : Bool) (out : List Bs) (h1 : RecR TS w' 0 v (out.map baOf)) (h2 : K = 0 → ChainP ps l (bsOf a) (bsOf b) is out) (h3 : K ≠ 0 → is = false ∧ out = []) : ChainR ps l a b K (.returned (.tuple #[v, .bool is, .int .i64 K])) w' := ⟨v, is, out, rfl, h1, h2, h3⟩
set_option maxHeartbeats 16000000 in
set_option maxRecDepth 100000 in
theorem Chain_any (ps : List Prt) (l : List Alt) (vp va : Value) (a b : ByteArray) (w : World) (hl : ps.length ≤ 100000) (hl2 : l.length ≤ 100000) (hz : PrtZ ps) (hz2 : AltZ l) (hc : CatR w vp va ps l) (hka : a.size ≤ maxLen) (hkb : b.size ≤ maxLen) :
    Calls Tryz.prog 11 #[.agg #[vp, va], .string a, .string b] w fun e w' => ChainR ps l a b (knownF ps l [a, b]) e w' ∧ Below w.heap.size w w' := by
  have HKN := Lib.hid fun vk W (hW : Below w.heap.size w W) (hr : RecR TS W 0 vk [a, b]) => known_any ps l vp va vk [a, b] W (by omega) (by omega) (by simp) hz hz2 (hc.low hW) hr
  have HBP := Lib.hid fun W (hW : Below w.heap.size w W) => byPart_any ps l vp va W hl2 hz2 (hc.low hW)
  obtain ⟨pa, pc, rfl, _, _⟩ := hc.p.form
  obtain ⟨aa, ac, rfl, _, _⟩ := hc.a.form
  have hmm := @run_makeMap Tryz.prog
  obtain ⟨w2, hw2⟩ : ∃ w2, w2 = (w.alloc (.cells #[.slice pa ps.length pc, .slice aa l.length ac] 29)).alloc (.cells #[.string a, .string b] 9) := ⟨_, rfl⟩
  have hA2 : Below w.heap.size w w2 := by rw [hw2]; exact Bl.alloc (Bl.alloc (Below.refl _ _) _) _
  have h3 : w2.heap[w.heap.size]? = some (.cells #[.slice pa ps.length pc, .slice aa l.length ac] 29 (0, 0)) := by rw [hw2]; exact blk_old (blk_new w _) _
  have h4 : w2.heap[w.heap.size + 1]? = some (.cells #[.string a, .string b] 9 (0, 0)) := by rw [hw2]; exact blk_new' _ _ (by simp)
  obtain ⟨K, hK⟩ : ∃ K, K = knownF ps l [a, b] := ⟨_, rfl⟩
  have HK0 := HKN.out (.slice (some ⟨w.heap.size + 1, 0, none⟩) 2 2) w2 hA2 (RecR.of_blk (T := TS) h4 rfl rfl (by simp) (by omega) (Nat.zero_le _))
  rw [← hK] at HK0 ⊢
  have HK := Lib.hid HK0
  have HW2 := Lib.hid hw2
  have HX := Lib.hid h3
  have HA2 := Lib.hid hA2
  have HKA := Lib.hid hka
  have HKB := Lib.hid hkb
  have HZP := Lib.hid (keysP_size hz)
  have HKE := Lib.hid hK
  clear hw2 h3 h4 hA2 hK HK0 HKN hc hz hz2 hka hkb
  go_enter Tryz.func11, Tryz.ntmps11
  go_wp2_with fail
  rw [← HW2.out]
  refine HK.out.mono ?_
  rintro e w3 ⟨rfl, hb3⟩
  have HB3 := Lib.hid (Bl.trans HA2.out hb3)
  have hx3 := blk_below HX.out hb3
  have c0 : w3.cell? ⟨w.heap.size, 0, none⟩ = some (.slice pa ps.length pc) := blk_cell hx3 0
  have c1 : w3.cell? ⟨w.heap.size, 1, none⟩ = some (.slice aa l.length ac) := blk_cell hx3 1
  clear hb3 hx3
  by_cases h0 : K = 0
  case neg =>
    have HN0 := Lib.hid h0
    have h0' : (K != 0) = true := by simpa using h0
    go_wp2
    go_ret3
    exact ⟨ChainR.mk false [] (RecR.nil _ _) (fun h => absurd h HN0.out) (fun _ => ⟨rfl, rfl⟩), HB3.out⟩
  obtain ⟨g1, g2⟩ := knownF_zero (HKE.out.symm.trans h0)
  have HCA := Lib.hid g1
  have HINA : Hid (bsOf a ∈ keysP ps) := Lib.hid (hasP_key (g2 a (by simp)))
  have HINB : Hid (bsOf b ∈ keysP ps) := Lib.hid (hasP_key (g2 b (by simp)))
  subst h0
  have HBY := Lib.hid (HBP.out w3 HB3.out)
  clear HBP g1 g2
  go_wp2_with fail
  refine HBY.out.mono ?_
  rintro e w5 ⟨⟨b1, F, rfl, _, hN⟩, hb5⟩
  have HB5 := Lib.hid (Bl.trans HB3.out hb5)
  have HN := Lib.hid hN
  have hblt : b1 < w5.heap.size := hN.by'.map.lt
  obtain ⟨bb, hbb⟩ : ∃ bb, bb = w5.heap.size := ⟨_, rfl⟩
  have HBB := Lib.hid hbb
  have hM5 : ByM (w5.alloc (.map #[] 0)) bb bb [] := by rw [hbb]; exact ByM.made w5 w5.heap.size
  have hbA : Below w5.heap.size w5 (w5.alloc (.map #[] 0)) := Bl.alloc (Below.refl _ _) _
  obtain ⟨w6, hw6⟩ : ∃ w6, w6 = w5.alloc (.map #[] 0) := ⟨_, rfl⟩
  rw [← hw6] at hM5 hbA
  have hz6 : w6.heap.size = bb + 1 := by rw [hw6, hbb]; simp
  have HM6 := Lib.hid hM5
  have HB6 := Lib.hid hbA
  have HZ6 := Lib.hid hz6
  have hO2 := (hN.low hbA).by'.map.2
  obtain ⟨fl, hfl⟩ : ∃ fl, fl = (hdS F).length := ⟨_, rfl⟩
  rw [← hfl] at hO2
  have HNO : Hid (∀ left : Lit → Bool, left = (fun z => Maps.has (DataW.map (smD TMh (hdS F))) z) → BackI ps l [] (EdgL l left)) := Lib.hid fun left h => (BackI.nil ps l).congr fun k s => nextL_none (_ps := ps) HN.out h k s
  have HW6 := Lib.hid hw6
  have hbb2 : b1 < bb := by rw [hbb]; exact hblt
  clear hw6 hM5 hbA hfl hb5 hN hbb hz6 hblt c0 c1
  go_wp2_with (first
    | (at_range; rw [← HW6.out, ← HBB.out]; refine wpList_range_own _ rfl _ 92 rfl 9 36 strKd Tryz.underlying92 _ b1 fl (.map (smD TMh (hdS F))) rfl hO2 ?_; intro w0 hrg0 hg0 hs0)
    | go_in)
  go_frame
  obtain ⟨r, hr⟩ : ∃ r, r = w6.heap.size := ⟨_, rfl⟩
  rw [← hr] at hrg0 ⊢
  have hrbb : bb < r := by rw [hr, HZ6.out]; omega
  have HRE := Lib.hid hr
  have HS0 := Lib.hid hs0
  clear hs0 hr
  go_loopw [] (fun wr => ∃ (Fb : Fds) (left : Lit → Bool) (cnt : Nat), wr.ranges Tryz.prog 9 TMh.R b1 r fl (.map (smD TMh (hdS F))) left cnt ∧ Hid (BackI ps l Fb (EdgL l left)) ∧ Hid (ByM wr bb bb Fb) ∧ Hid (Below bb w5 wr) ∧ r < wr.heap.size) (fun wr => wr.rangeLeft b1 r)
  case atStart => exact ⟨[], _, _, hrg0, Lib.hid (HNO.out _ rfl), Lib.hid (HM6.out.low (Gr.below_none hg0)), Lib.hid (by rw [HBB.out]; exact Bl.trans HB6.out (Gr.below_none hg0)), by have := HS0.out; have := HRE.out; omega⟩
  case round =>
    obtain ⟨Fb, left, cnt, hrg, HBI, HM2, HB2, hsz⟩ := hrel
    go_wp2_with (first
      | (at_next; refine next_g TMh.ok rfl _ rfl rfl hrg ?_ ?_)
      | go_in)
    · intro _ hl0
      obtain ⟨g, hg⟩ : ∃ g : Bs → List Bs, g = fun s => (rowB Fb s).map bsOf := ⟨_, rfl⟩
      have HG : Hid (∀ p s, s ∈ g p ↔ p ∈ nextL l s) := Lib.hid fun p s => by
        rw [hg]
        show s ∈ (rowB Fb p).map bsOf ↔ _
        rw [HBI.out.mem]
        unfold EdgL
        rw [hl0]
        simp
      have HGL : Hid (∀ p, (g p).length ≤ 1000000) := Lib.hid fun p => by
        have := HBI.out.rowLen HCA.out p
        rw [hg]
        show ((rowB Fb p).map bsOf).length ≤ _
        rw [List.length_map]
        omega
      have hBG : ByG wr bb g := HM2.out.byG fun k => by rw [hg]; exact (map_ba_bs _).symm
      have HRE2 := Lib.hid (reached_any bb b g (keysP ps) wr hBG HINB.out (fun p s hs => (next_in HCA.out ((HG.out p s).1 hs)).1) (by unfold keysP; rw [List.length_map]; omega) HZP.out HGL.out)
      have HBW := Lib.hid (show Below w.heap.size w wr from HB5.out.trans (HB2.out.mono (by rw [HBB.out]; exact HB5.out.size)))
      have HNX := Lib.hid (show NextM wr b1 w3.heap.size l F from HN.out.low (by have := HB2.out; rw [HBB.out] at this; exact this))
      clear hg hBG
      go_wp2_with fail
      refine HRE2.out.mono ?_
      rintro e w7 ⟨⟨m1, rfl, hml, hM7⟩, hb7⟩
      have HB7 := Lib.hid (Bl.trans HBW.out hb7)
      have HN7 := Lib.hid (HNX.out.low hb7)
      obtain ⟨y, hy⟩ : ∃ y, y = bfsR g (bsOf b) (keysP ps) := ⟨_, rfl⟩
      rw [← hy] at hM7
      have HM7 := Lib.hid hM7
      have HY := Lib.hid hy
      have hlo := hM7.look_ok TMi.ok a HKA.out
      obtain ⟨va0, hva0⟩ : ∃ q, q = (y.st.get (bsOf a)).getD 0 := ⟨_, rfl⟩
      clear hb7 hM7 hy hml
      cases hh : y.st.has (bsOf a)
      · rw [show y.st.has a.data.toList = false from hh] at hlo
        have hlo2 : (Instr.lookup 94 (.map (some m1)) (.string a) true).run Tryz.prog w7 = .ok (.tuple #[.int .i64 va0, .bool false]) w7 := by rw [hva0]; exact hlo
        have HCP : Hid (ChainP ps l (bsOf a) (bsOf b) false []) := Lib.hid ⟨g, HG.out, by rw [← HY.out, hh], (fun h => (by cases h)), fun _ => rfl⟩
        clear hlo hva0 hh
        go_wp2
        go_ret3
        exact ⟨ChainR.mk false [] (RecR.nil _ _) (fun _ => HCP.out) (fun h => absurd rfl h), HB7.out⟩
      · rw [show y.st.has a.data.toList = true from hh] at hlo
        have hlo2 : (Instr.lookup 94 (.map (some m1)) (.string a) true).run Tryz.prog w7 = .ok (.tuple #[.int .i64 va0, .bool true]) w7 := by rw [hva0]; exact hlo
        obtain ⟨d, hd⟩ := bfsR_nat HCA.out HG.out HINB.out (a := bsOf a) (by rw [← HY.out]; exact hh)
        rw [← HY.out] at hd
        obtain ⟨jj, hI, _, hIs, _⟩ := bfsR_law g (bsOf b) (keysP ps) HINB.out (fun p s hs => (next_in HCA.out ((HG.out p s).1 hs)).1)
        rw [← HY.out] at hI hIs
        have HI := Lib.hid hI
        have HUL : Hid (∀ x (n : Nat), y.st.get x = some (n : Int) → x.length ≤ maxLen) := Lib.hid fun x n hx => HZP.out x (hIs x ((hI.mem x).1 (has_get.2 ⟨_, hx⟩)))
        have HDU : Hid (d ≤ 200000) := Lib.hid (by
          have h1 := HDB ps l g (bsOf b) (bsOf a) HCA.out HG.out HINB.out (d := d) (by rw [← HY.out]; exact hd)
          omega)
        have HCP : Hid (ChainP ps l (bsOf a) (bsOf b) true (chainB (nextL l) y (bsOf b) d (bsOf a))) := Lib.hid ⟨g, HG.out, by rw [← HY.out, hh], fun _ => ⟨d, by rw [← HY.out]; exact hd, by rw [← HY.out]⟩, (fun h => (by cases h))⟩
        have HS0 := Lib.hid (ChS.start (nx := nextL l) (b := bsOf b) hd)
        have HO8 := Lib.hid (own_one TS.ok (x := a) (B := w7.heap.size) (Nat.le_refl _) (blk_new w7 (.cells #[.string a] 9)) rfl)
        have HB8 := Lib.hid (Bl.alloc (Below.refl w7.heap.size w7) (.cells #[.string a] 9))
        clear hlo hva0 hh hd hI hIs
        go_wp2_with fail
        go_loopw [19, 20] (fun ov xv wr => ∃ (n : Nat) (x : Bs) (out : List Bs), xv = .string (baOf x) ∧ Hid (ChS (nextL l) y (bsOf b) (bsOf a) d n x out) ∧ Hid (OwnR TS wr w7.heap.size ov (out.map baOf)) ∧ Hid (Below w7.heap.size w7 wr) ∧ slLenC ov = out.length) (fun ov _ _ => d + 2 - slLenC ov)
        case atStart => exact ⟨d, bsOf a, [bsOf a], by rw [baOf_bs], HS0, Lib.hid (by rw [List.map_singleton, baOf_bs]; exact HO8.out), HB8, rfl⟩
        case round =>
          obtain ⟨n, x, out, rfl, HS, HO, HBo, hsl⟩ := hrel
          have hln := HS.out.ln
          have HXS : Hid ((baOf x).size ≤ maxLen) := Lib.hid (by rw [baOf_size]; exact HUL.out x n HS.out.get)
          obtain ⟨oa, oc, hov, _, _⟩ := HO.out.form
          obtain ⟨on, hon⟩ : ∃ on, on = out.length := ⟨_, rfl⟩
          rw [List.length_map, ← hon] at hov
          subst hov
          rw [← hon] at hln hsl
          have HON := Lib.hid hon
          have HDUo := HDU.out
          clear hon hsl
          by_cases hxb : x = bsOf b
          · have e1 : ((baOf x).toList == b.toList) = true := by rw [hxb, baOf_bs]; simp
            have e2 : ((baOf x).toList != b.toList) = false := by rw [bne, e1]; rfl
            have e3 : (baOf x).toList = b.toList := by rw [hxb, baOf_bs]
            have HE : Hid (out = chainB (nextL l) y (bsOf b) d (bsOf a)) := Lib.hid (by have := HS.out; rw [hxb] at this; exact this.stop)
            have HRR := Lib.hid HO.out.rec0
            have HBF := Lib.hid (Bl.trans HB7.out HBo.out)
            clear hxb
            go_wp2
            go_ret3
            exact ⟨ChainR.mk true out HRR.out (fun _ => (by rw [HE.out]; exact HCP.out)) (fun h => absurd rfl h), HBF.out⟩
          · have e1 : ((baOf x).toList == b.toList) = false := by
              cases h : (baOf x).toList == b.toList
              · rfl
              · exact absurd (baOf_inj ((ba_inj (by simpa using h)).trans (baOf_bs b).symm)) hxb
            have e2 : ((baOf x).toList != b.toList) = true := by rw [bne, e1]; rfl
            have e3 : ¬ (baOf x).toList = b.toList := fun h => by rw [h] at e1; simp at e1
            obtain ⟨m, hnm, hCN⟩ := ChS.next HI.out (fun p s hs => (HG.out p s).1 hs) HS.out hxb
            have HCN := Lib.hid hCN
            have hm1 : on + (m + 1) = d + 1 := by omega
            have hMr := HM7.out.below HBo.out
            have hlv := hMr.look TMi.ok (baOf x) HXS.out
            rw [show (baOf x).data.toList = x from bsOf_baOf x] at hlv
            have hlv2 : (Instr.lookup 94 (.map (some m1)) (.string (baOf x)) false).run Tryz.prog wr = .ok (.int .i64 (n : Int)) wr := by rw [HS.out.get] at hlv; exact hlv
            have HVX : Hid (valB y x = (n : Int)) := Lib.hid (val_of HS.out.get)
            have hwn : IntKind.i64.wrap ((n : Int) - 1) = (n : Int) - 1 := IntWalk.i64_in _ (by omega)
            obtain ⟨rv, hrv⟩ := HN7.out.byG.look (baOf x) HXS.out
            obtain ⟨hlk1, hrr1⟩ := hrv wr HBo.out
            rw [bsOf_baOf] at hrr1
            obtain ⟨ra, rc, rfl, _, _⟩ := hrr1.form
            obtain ⟨rn, hrn⟩ : ∃ rn, rn = (nextL l x).length := ⟨_, rfl⟩
            rw [List.length_map, ← hrn] at hlk1 hrr1
            have hrl : rn ≤ 2 * l.length := by rw [hrn]; exact nextL_len l x
            have HRR := Lib.hid hrr1
            have HRN := Lib.hid hrn
            have HLO := Lib.hid (fun (s : Bs) (hs : (baOf s).size ≤ maxLen) => hMr.look_ok TMi.ok (baOf s) hs)
            have HNS : Hid (∀ s ∈ nextL l x, (baOf s).size ≤ maxLen) := Lib.hid fun s hs => by rw [baOf_size]; exact HZP.out s (next_in HCA.out hs).2.1
            have hmlt := hMr.lt
            have HNXT : Hid (∀ ov' W', OwnR TS W' w7.heap.size ov' ((out ++ [pickB (nextL l) y x]).map baOf) → Below w7.heap.size w7 W' → slLenC ov' = on + 1 → ∃ (n : Nat) (x' : Bs) (out' : List Bs), Value.string (baOf (pickB (nextL l) y x)) = .string (baOf x') ∧ Hid (ChS (nextL l) y (bsOf b) (bsOf a) d n x' out') ∧ Hid (OwnR TS W' w7.heap.size ov' (out'.map baOf)) ∧ Hid (Below w7.heap.size w7 W') ∧ slLenC ov' = out'.length) := Lib.hid fun ov' W' h1 h2 h3 => ⟨m, _, _, rfl, HCN, Lib.hid h1, Lib.hid h2, by rw [h3, HON.out]; simp⟩
            have HLL : Hid ((out.map baOf).length ≤ 1000000) := Lib.hid (by rw [List.length_map, ← HON.out]; omega)
            have hzr := HBo.out.size
            obtain ⟨wo, hwo⟩ : ∃ wo : World, wo = wr := ⟨_, rfl⟩
            rw [← hwo] at hlv2 hlk1 HLO HRR HO HBo hzr ⊢
            have hon1 : on ≤ d := by omega
            clear hCN hMr hlv hrv hrr1 hrn hxb hnm hwo hmlt
            go_wp2_with fail
            go_loopw [20, 79] (fun xv jv wr => ∃ (j : Nat), j ≤ rn ∧ xv = .string (baOf x) ∧ jv = .int .i64 j ∧ wo = wr ∧ Hid (∀ k t, k < j → (nextL l x)[k]? = some t → y.st.get t ≠ some (valB y x - 1))) (fun _ jv _ => rn - (intOf jv).toNat)
            case atStart => exact ⟨0, Nat.zero_le _, rfl, rfl, rfl, Lib.hid fun k t hk => absurd hk (by omega)⟩
            case round =>
              obtain ⟨j, hj, rfl, rfl, rfl, HMISS⟩ := hrel
              by_cases hlt : j < rn
              · obtain ⟨s, hs⟩ : ∃ s, (nextL l x)[j]? = some s := ⟨_, List.getElem?_eq_getElem (by have := HRN.out; omega)⟩
                have hss := HNS.out s (List.mem_of_getElem? hs)
                have hrr3 : RecR TS wo 0 (.slice ra rn rc) ((nextL l x).map baOf) := HRR.out
                obtain ⟨b3, o3, rfl, _, _, c1⟩ := str_at hrr3 (show ((nextL l x).map baOf)[j]? = some (baOf s) by rw [List.getElem?_map, hs]; rfl)
                have hlo := HLO.out s hss
                rw [show (baOf s).data.toList = s from bsOf_baOf s] at hlo
                obtain ⟨vs, hvs⟩ : ∃ vs, vs = (y.st.get s).getD 0 := ⟨_, rfl⟩
                have hwj : IntKind.i64.wrap ((j : Int) + 1) = ((j + 1 : Nat) : Int) := by rw [IntWalk.i64_in _ (by omega)]; omega
                obtain ⟨hb, hhb⟩ : ∃ q, q = y.st.has s := ⟨_, rfl⟩
                have hlo2 : (Instr.lookup 94 (.map (some m1)) (.string (baOf s)) true).run Tryz.prog wo = .ok (.tuple #[.int .i64 vs, .bool hb]) wo := by rw [hvs, hhb]; exact hlo
                have HIFF : Hid (y.st.get s = some (valB y x - 1) ↔ (hb = true ∧ vs = (n : Int) - 1)) := Lib.hid (by
                  rw [HVX.out, hvs, hhb]
                  unfold Sm.has
                  cases y.st.get s with
                  | none => simp
                  | some v => simp)
                have HSJ := Lib.hid hs
                clear hs hrr3 hlo hvs hhb
                cases hb
                · have HN1 : Hid (∀ k t, k < j + 1 → (nextL l x)[k]? = some t → y.st.get t ≠ some (valB y x - 1)) := Lib.hid fun k t hk ht => by
                    by_cases e : k = j
                    · subst e
                      rw [HSJ.out] at ht
                      injection ht with ht
                      subst ht
                      exact fun h => by have := (HIFF.out.1 h).1; cases this
                    · exact HMISS.out k t (by omega) ht
                  go_wp2
                  go_roundw
                  case rel => exact ⟨j + 1, by omega, (by first | rfl | trivial), by go_num, (by first | rfl | trivial), HN1⟩
                  case measure => simp [intOf]; omega
                · by_cases hv : vs = (n : Int) - 1
                  · have e9 : (vs == (n : Int) - 1) = true := by simpa using hv
                    have HPK : Hid (pickB (nextL l) y x = s) := Lib.hid (pick_hit HMISS.out HSJ.out (HIFF.out.2 ⟨rfl, hv⟩))
                    rw [HPK.out] at HNXT
                    go_wp2_with (at_builtin; refine wp_app_r TS.ok rfl _ _ rfl w7.heap.size _ (out.map baOf) rfl (HO.out.alloc _) wo.heap.size 1 (baOf s) rfl (blk_new wo _) rfl HLL.out (by simp; omega) ?_)
                    intro v9 w9 hO9 hg9 _
                    have hO9' : OwnR TS w9 w7.heap.size v9 ((out ++ [s]).map baOf) := by rw [List.map_append]; exact hO9
                    obtain ⟨na, nc, hv9, _, _⟩ := hO9'.form
                    have HF := Lib.hid (HNXT.out v9 w9 hO9' (Below.trans (Bl.alloc HBo.out _) (app_belowR (HO.out.alloc _) hg9 (by simp; omega))) (by rw [hv9]; show ((out ++ [s]).map baOf).length = on + 1; rw [List.length_map, List.length_append, ← HON.out]; rfl))
                    have HSL : Hid (slLenC v9 = on + 1) := Lib.hid (by rw [hv9]; show ((out ++ [s]).map baOf).length = on + 1; rw [List.length_map, List.length_append, ← HON.out]; rfl)
                    clear hO9 hO9' hg9 hv9
                    go_wp2
                    go_roundw
                    case rel => exact HF.out
                    case measure => simp [HSL.out, slLenC_s]; omega
                  · have e9 : (vs == (n : Int) - 1) = false := by simpa using hv
                    have HN1 : Hid (∀ k t, k < j + 1 → (nextL l x)[k]? = some t → y.st.get t ≠ some (valB y x - 1)) := Lib.hid fun k t hk ht => by
                      by_cases e : k = j
                      · subst e
                        rw [HSJ.out] at ht
                        injection ht with ht
                        subst ht
                        exact fun h => hv (HIFF.out.1 h).2
                      · exact HMISS.out k t (by omega) ht
                    go_wp2
                    go_roundw
                    case rel => exact ⟨j + 1, by omega, (by first | rfl | trivial), by go_num, (by first | rfl | trivial), HN1⟩
                    case measure => simp [intOf]; omega
              · obtain rfl : j = rn := by omega
                have HPK : Hid (pickB (nextL l) y x = x) := Lib.hid (pick_miss fun t ht => by
                  obtain ⟨k, hk⟩ := List.getElem?_of_mem ht
                  exact HMISS.out k t (by rw [HRN.out]; exact (List.getElem?_eq_some_iff.1 hk).1) hk)
                rw [HPK.out] at HNXT
                go_wp2_with (at_builtin; refine wp_app_r TS.ok rfl _ _ rfl w7.heap.size _ (out.map baOf) rfl (HO.out.alloc _) wo.heap.size 1 (baOf x) rfl (blk_new wo _) rfl HLL.out (by simp; omega) ?_)
                intro v9 w9 hO9 hg9 _
                have hO9' : OwnR TS w9 w7.heap.size v9 ((out ++ [x]).map baOf) := by rw [List.map_append]; exact hO9
                obtain ⟨na, nc, hv9, _, _⟩ := hO9'.form
                have HF := Lib.hid (HNXT.out v9 w9 hO9' (Below.trans (Bl.alloc HBo.out _) (app_belowR (HO.out.alloc _) hg9 (by simp; omega))) (by rw [hv9]; show ((out ++ [x]).map baOf).length = on + 1; rw [List.length_map, List.length_append, ← HON.out]; rfl))
                have HSL : Hid (slLenC v9 = on + 1) := Lib.hid (by rw [hv9]; show ((out ++ [x]).map baOf).length = on + 1; rw [List.length_map, List.length_append, ← HON.out]; rfl)
                clear hO9 hO9' hg9 hv9
                go_wp2
                go_roundw
                case rel => exact HF.out
                case measure => simp [HSL.out, slLenC_s]; omega
    · intro k ha hb hc w1' cnt1 hxl hlk hget hrg1 hlt hg1 hsz1 hen
      obtain ⟨hd, hhd⟩ : ∃ hd : Hdr, hd = (ha, hb, hc) := ⟨_, rfl⟩
      rw [← hhd] at hget hen ⊢
      clear hhd
      obtain ⟨_, ho2, ho3⟩ := ranges_obj hrg
      have HM3 := Lib.hid (HM2.out.iter hg1 ho2 ho3)
      have hb1 : Below bb w5 w1' := HB2.out.trans (Gr.below hg1 (by omega) (by omega))
      have HB3' := Lib.hid hb1
      rw [hdS_get] at hget
      obtain ⟨lr, hgl⟩ : ∃ lr, F.get k = some (hd, lr) := by
        cases hg : F.get k with
        | none => rw [hg] at hget; cases hget
        | some p => rw [hg] at hget; injection hget with hget; exact ⟨p.2, by rw [← hget]⟩
      have HROW := Lib.hid (show ∀ W, Below bb w5 W → RecR TS W 0 (hdrV hd) ((nextL l k).map baOf) from fun W hW => by
        have h1 := HN.out.by'.rows.own _ (Sm.get_mem hgl)
        have h2 := HN.out.row k
        unfold rowB at h2
        rw [hgl] at h2
        have h3 : lr = (nextL l k).map baOf := h2
        have h4 := h1.rec0.below (w' := W) (by rw [← HBB.out]; exact hW)
        rw [← h3]
        exact h4)
      have hrr := HROW.out w1' hb1
      obtain ⟨ra, rc, hhv, _, _⟩ := hrr.form
      obtain ⟨rn, hrn⟩ : ∃ rn, rn = (nextL l k).length := ⟨_, rfl⟩
      rw [List.length_map, ← hrn] at hhv
      rw [hhv] at HROW
      have hen2 : (Instr.entry (.pointer (some ⟨r, 0, none⟩))).run Tryz.prog w1' = .ok (.tuple #[.string (baOf k), .slice ra rn rc]) w1' := by rw [← hhv]; exact hen
      have HRN := Lib.hid hrn
      have hrl : rn ≤ 2 * l.length := by rw [hrn]; exact nextL_len l k
      have HBI0 : Hid (BackI ps l Fb (EdgP l left k 0)) := Lib.hid (HBI.out.congr fun k' s => EdgP.zero l left k k' s)
      have HLK := Lib.hid hlk
      have hszr : r < w1'.heap.size := by omega
      have HLT := Lib.hid hlt
      have HLE := Lib.hid (And.intro hrg1.left_eq hrg.left_eq)
      have HRG0 := Lib.hid hrg
      clear hb1 hget hgl hen hhv hrr hrn hlk ho2 ho3 hlt
      go_wp2_with fail
      go_loopw [45] (fun jv wr => ∃ (j : Nat) (Fb : Fds), j ≤ rn ∧ jv = .int .i64 j ∧ wr.ranges Tryz.prog 9 TMh.R b1 r fl (.map (smD TMh (hdS F))) (fun z => left z && !z.sameKey (.string k)) cnt1 ∧ Hid (BackI ps l Fb (EdgP l left k j)) ∧ Hid (ByM wr bb bb Fb) ∧ Hid (Below bb w5 wr) ∧ r < wr.heap.size) (fun jv _ => rn - (intOf jv).toNat)
      case atStart => exact ⟨0, Fb, Nat.zero_le _, rfl, hrg1, HBI0, HM3, HB3', hszr⟩
      case round =>
        obtain ⟨j, Fb, hj, rfl, hrg2, HBI2, HMD, HBD, hsz2⟩ := hrel
        by_cases hlt : j < rn
        · obtain ⟨s, hs⟩ : ∃ s, (nextL l k)[j]? = some s := ⟨_, List.getElem?_eq_getElem (by have := HRN.out; omega)⟩
          have hsU := (next_in HCA.out (List.mem_of_getElem? hs)).2.1
          have HSS : Hid ((baOf s).size ≤ maxLen) := Lib.hid (by rw [baOf_size]; exact HZP.out s hsU)
          obtain ⟨b3, o3, rfl, _, _, c1⟩ := str_at (HROW.out wr HBD.out) (show ((nextL l k).map baOf)[j]? = some (baOf s) by rw [List.getElem?_map, hs]; rfl)
          obtain ⟨hd2, hlk2, hOrow, hap⟩ := HMD.out.look (baOf s) HSS.out
          have hlk3 := hlk2 wr (Below.refl _ _)
          rw [bsOf_baOf] at hOrow hap
          have HOW := Lib.hid (hOrow wr (Below.refl _ _))
          obtain ⟨hv2, hhv2⟩ : ∃ hv, hv = hdrV hd2 := ⟨_, rfl⟩
          rw [← hhv2] at hlk3 HOW hap
          have HAP := Lib.hid hap
          have HBN : Hid (∀ hd4, BackI ps l (Fb.put s (hd4, rowB Fb s ++ [baOf k])) (EdgP l left k (j + 1))) := Lib.hid fun hd4 => (HBI2.out.put hd4 (EdgP.no HCA.out HLK.out hs) (List.mem_of_getElem? hs)).congr fun k' s' => EdgP.next hs k' s'
          have HRL : Hid ((rowB Fb s).length ≤ 1000000) := Lib.hid (by have := HBI2.out.rowLen HCA.out s; omega)
          have HFL : Hid (Fb.length < maxLen) := Lib.hid (by have := HBI2.out.len HCA.out; unfold maxLen; omega)
          have hwj : IntKind.i64.wrap ((j : Int) + 1) = ((j + 1 : Nat) : Int) := by rw [IntWalk.i64_in _ (by omega)]; omega
          have hzB : bb ≤ wr.heap.size := by omega
          have HRG2 := Lib.hid hrg2
          clear hs hsU hlk2 hOrow hap hhv2 hrg2
          go_wp2_with (at_builtin; refine wp_app_r TS.ok rfl _ _ rfl bb _ (rowB Fb s) rfl (HOW.out.alloc _) wr.heap.size 1 (baOf k) rfl (blk_new wr _) rfl HRL.out (by simp; omega) ?_)
          intro v9 w9 hO9 hg9 hbk9
          have hbA := Bl.alloc (Below.refl wr.heap.size wr) (.cells #[.string (baOf k)] 9)
          have hT := (HMD.out.low hbA).turn (k := s) (HOW.out.alloc _) HAP.out hO9 hg9 (by simpa using hbk9)
          obtain ⟨hd4, rfl⟩ := hdr_ofR hO9
          obtain ⟨w10, hr10, hM10, hk10⟩ := hT.put' HSS.out HFL.out
          have hBA := HBD.out.trans (Below.mono hbA hzB)
          have hB9 : Below bb w5 w9 := hBA.trans (app_belowR (HOW.out.alloc (.cells #[.string (baOf k)] 9)) hg9 (by simp; omega))
          have HB10 := Lib.hid (hB9.trans (Gr.below hk10 (Nat.le_refl _) (Nat.le_trans hzB (Nat.le_trans (by simp) hg9.size))))
          have hrgA := HRG2.out.alloc (.cells #[.string (baOf k)] 9)
          have hof := range_off hrgA (HOW.out.alloc (.cells #[.string (baOf k)] 9))
          have hrg9 := hrgA.kept hg9 hof.1 hof.2
          have hrg10 := hrg9.kept hk10 (by intro e; injection e with e; omega) (by intro e; injection e with e; omega)
          have HM10 := Lib.hid hM10
          have hsz10 : r < w10.heap.size := Nat.lt_of_lt_of_le (Nat.lt_of_lt_of_le hsz2 (Nat.le_trans (by simp) hg9.size)) hk10.size
          clear hO9 hg9 hbk9 hbA hT hM10 hk10 hBA hB9 hrgA hof hrg9
          go_wp2
          go_roundw
          case rel => exact ⟨j + 1, _, by omega, by go_num, hrg10, Lib.hid (HBN.out hd4), HM10, HB10, hsz10⟩
          case measure => simp [intOf]; omega
        · obtain rfl : j = rn := by omega
          have HBE : Hid (BackI ps l Fb (EdgL l (fun z => left z && !z.sameKey (.string k)))) := Lib.hid (HBI2.out.congr fun k' s' => EdgP.stop (by rw [← HRN.out]; exact Nat.le_refl _) k' s')
          go_wp2
          go_roundw
          case rel => exact ⟨Fb, _, cnt1, hrg2, HBE, HMD, HBD, hsz2⟩
          case measure => rw [hrg2.left_eq, HRG0.out.left_eq]; exact HLT.out
end Go.Proofs.YteojmljggoplkaaGreatDoor
