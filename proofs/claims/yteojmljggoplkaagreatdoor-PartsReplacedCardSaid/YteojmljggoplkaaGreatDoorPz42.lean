/- Texts of the proof of a law, put together, part 42 of 46. Conditions: none beyond those that each theorem names. -/
import Derived.Test.YteojmljggoplkaaGreatDoorPz20
import Derived.Test.YteojmljggoplkaaGreatDoorPz21
import Derived.Test.YteojmljggoplkaaGreatDoorPz30
namespace Go.Proofs.YteojmljggoplkaaGreatDoor
open Go.RowKit Go.Sort
theorem SortT_any (x : Bs) (ss : List Bs) (B g cap : Nat) (w : World) (h : OwnR TS w B (.slice (some ⟨g, 0, none⟩) (ss.length + 1) cap) ((x :: ss).map baOf)) (hl : ss.length ≤ 1000000) :
    Calls Tryz.prog 55 #[.slice (some ⟨g, 1, none⟩) ss.length (cap - 1)] w fun e w' => e = .returned (.tuple #[]) ∧ RecR TS w' 0 (.slice (some ⟨g, 1, none⟩) ss.length (cap - 1)) ((ss.mergeSort leB).map baOf) ∧ w.grownBy w' (some g) := by
  obtain ⟨a0, c0, hv0, hf1, hf2⟩ := h.form
  rw [List.length_map, List.length_cons] at hv0 hf1
  injection hv0 with _ _ hcc
  subst hcc
  have h' := own_encC.1 h
  rw [List.length_cons] at h'
  obtain ⟨hH, hlt, _⟩ := holds_own encStr h' (by simp)
  have hH1 : Holds encStr w g 1 ss.toArray := fun j hj => by
    have hj2 : j < ss.length := by simpa using hj
    have h1 := hH (j + 1) (by simp; omega)
    have e1 : (x :: ss).toArray[j + 1]! = ss.toArray[j]! := by simp [hj2]
    rw [e1, show 0 + (j + 1) = 1 + j by omega] at h1
    exact h1
  refine (Tryz.slices_Sort_string g 1 (cap - 1) ss w hH1 hlt (by omega)).mono ?_
  rintro e w' ⟨rfl, q, os, rfl⟩
  have hgr : w.grownBy (grow (putRow encStr (Sort.ahead w q) g 1 (ss.mergeSort fun x y => decide (x ≤ y)).toArray) os) (some g) := by
    refine ⟨rfl, rfl, rfl, by simp, fun k hk hne => ?_⟩
    rw [heap_grow_old _ _ (by simpa using hk)]
    have : g ≠ k := fun e => hne (by rw [e])
    simp [putRow, mapBlock, Sort.ahead, Array.getElem?_modify, this]
  refine ⟨rfl, ?_, hgr⟩
  show Rd _ 0 _ _ _
  refine ⟨some ⟨g, 1, none⟩, cap - 1, by rw [List.length_map, List.length_mergeSort], by rw [List.length_map, List.length_mergeSort]; omega, by omega, fun j u hj => ⟨g, 1, rfl, Nat.zero_le _, Nat.lt_of_lt_of_le hlt hgr.size, ?_⟩⟩
  rw [← flat_ba] at hj
  have hjl : j < (ss.mergeSort leB).length := by
    have := (List.getElem?_eq_some_iff.1 hj).1
    rwa [List.length_map] at this
  have hc := cell?_putRow encStr (Sort.ahead w q) g 1 ss.toArray (ss.mergeSort leB).toArray hH1 (by simp) j (by simpa using hjl)
  have hsz : g < (putRow encStr (Sort.ahead w q) g 1 (ss.mergeSort leB).toArray).heap.size := by
    simpa [putRow, mapBlock, Sort.ahead] using hlt
  refine (World.cell?_of_block (heap_grow_old _ os hsz)).trans (hc.trans ?_)
  rw [List.getElem?_map] at hj
  obtain ⟨s, hs, rfl⟩ := Option.map_eq_some_iff.1 hj
  have : (ss.mergeSort leB).toArray[j]! = s := by
    rw [getElem!_pos _ j (by simpa using hjl)]
    rw [List.getElem?_eq_getElem hjl] at hs
    injection hs
  rw [this]
/-- all parts that replace a part, by the reference. -/
def allRB (ps : List Prt) (l : List Alt) (a : Bs) : List Bs := ((reachB ps l a).tail).mergeSort leB
theorem allRB_eq {ps : List Prt} {l : List Alt} (h : catsF ps l = 0) {a : Bs} (ha : a ∈ keysP ps) : allRB ps l a = allB ps l a := by
  unfold allRB reachB allB
  exact allR_eq (nextL l) a (keysP ps) ha fun p s hs => (next_in h hs).2.1
theorem reachB_cons {ps : List Prt} {l : List Alt} (a : Bs) : ∃ r, reachB ps l a = a :: r := by
  have h := (bfsR_ln (nextL l) a (keysP ps)).1
  obtain ⟨r, hr⟩ := (bfsR_ln (nextL l) a (keysP ps)).2
  exact ⟨r, by unfold reachB; rw [← h, hr]⟩
set_option maxHeartbeats 2000000 in
set_option maxRecDepth 100000 in
theorem AllOf_any (ps : List Prt) (l : List Alt) (vp va : Value) (key : ByteArray) (w : World) (hl : ps.length ≤ 100000) (hl2 : l.length ≤ 100000) (h0 : catsF ps l = 0) (hc : CatR w vp va ps l) (hk : bsOf key ∈ keysP ps) :
    Calls Tryz.prog 21 #[.agg #[vp, va], .string key] w fun e w' => (∃ v, e = .returned v ∧ RecR TS w' 0 v ((allB ps l (bsOf key)).map baOf)) ∧ Below w.heap.size w w' := by
  obtain ⟨w1, hw1⟩ : ∃ w1, w1 = w.alloc (.cells #[vp, va] 29) := ⟨_, rfl⟩
  have hA1 : Below w.heap.size w w1 := by rw [hw1]; exact Bl.alloc (Below.refl _ _) _
  have HRE := Lib.hid (reach_any ps l vp va key w1 hl hl2 h0 (hc.low hA1) hk)
  obtain ⟨pa, pc, rfl, _, _⟩ := hc.p.form
  obtain ⟨aa, ac, rfl, _, _⟩ := hc.a.form
  have HW1 := Lib.hid hw1
  have HB1 := Lib.hid hA1
  obtain ⟨r, hr⟩ := reachB_cons (ps := ps) (l := l) (bsOf key)
  have hnd := reachB_nd h0 hk
  rw [hr] at HRE hnd
  have HAL : Hid (r.mergeSort leB = allB ps l (bsOf key)) := Lib.hid (by rw [← allRB_eq h0 hk]; unfold allRB; rw [hr]; rfl)
  have HLR : Hid (r.length ≤ 100000) := Lib.hid (by have := hnd.2.2; rw [List.length_cons] at this; omega)
  clear hw1 hA1 hc h0 hk hr hnd
  go_enter Tryz.func21, Tryz.ntmps21
  go_wp2_with fail
  rw [← HW1.out]
  refine HRE.out.mono ?_
  rintro e w2 ⟨⟨v, rfl, hO⟩, hb2⟩
  obtain ⟨g, cap, cur, rfl, hg, _, hcap, _⟩ := hO.blk (by simp)
  rw [List.length_map, List.length_cons] at hO hcap ⊢
  have HB2 := Lib.hid (Bl.trans HB1.out hb2)
  have hzg : w.heap.size ≤ g := Nat.le_trans HB1.out.size hg
  have HST := Lib.hid (SortT_any (bsOf key) r w1.heap.size g cap w2 hO (by have := HLR.out; omega))
  obtain ⟨n, hn⟩ : ∃ n, n = r.length := ⟨_, rfl⟩
  have hfb : cap ≤ 9223372036854775807 := by
    obtain ⟨_, c, hv, _, h2⟩ := hO.form
    injection hv with _ _ hcc
    subst hcc
    exact h2
  clear hO hb2 HRE
  by_cases hc1 : cap = 1
  · subst hc1
    have hr0 : r = [] := List.length_eq_zero_iff.1 (by omega)
    have HAE : Hid (allB ps l (bsOf key) = []) := Lib.hid (by rw [← HAL.out, hr0]; simp)
    have HSN := Lib.hid (Tryz.slices_Sort_string_none (some ⟨g, 0, none⟩) 0 w2)
    rw [hr0]
    clear hr0 hn HST
    go_wp2_with fail
    refine HSN.out.mono ?_
    rintro e w3 ⟨rfl, rfl⟩
    go_wp2
    go_ret
    refine ⟨⟨_, rfl, ?_⟩, HB2.out⟩
    rw [HAE.out]
    exact ⟨some ⟨g, 0, none⟩, 0, rfl, Nat.le_refl _, by omega, fun j x hj => by simp at hj⟩
  · rw [← hn] at HST HLR hcap ⊢
    have hwn : n + 1 ≤ 9223372036854775807 := by have := HLR.out; omega
    clear hn
    go_wp2_with fail
    refine HST.out.mono ?_
    rintro e w3 ⟨rfl, hR3, hg3⟩
    rw [HAL.out] at hR3
    have HR3 := Lib.hid hR3
    have HB3 : Hid (Below w.heap.size w w3) := Lib.hid (Below.trans HB2.out (Gr.below hg3 hzg HB2.out.size))
    clear hR3 hg3
    go_wp2
    go_ret
    exact ⟨⟨_, rfl, HR3.out⟩, HB3.out⟩
end Go.Proofs.YteojmljggoplkaaGreatDoor
namespace Go.Proofs.YteojmljggoplkaaGreatDoor
open Go.RowKit Go.Sort
theorem pkgP_mem {ps : List Prt} (h : prtsF1 none ps = 0) {k pk : ByteArray} {lv bk : Int} (hx : (k, pk, lv, bk) ∈ ps) : pkgP ps k = pk := by
  obtain ⟨i, hi⟩ := List.getElem?_of_mem hx
  exact pkgP_at h hi
set_option maxHeartbeats 4000000 in
set_option maxRecDepth 100000 in
theorem OddOf_any (ps : List Prt) (l : List Alt) (vp va : Value) (w : World) (hl : ps.length ≤ 100000) (hl2 : l.length ≤ 100000) (h0 : catsF ps l = 0) (hc : CatR w vp va ps l) :
    Calls Tryz.prog 28 #[.agg #[vp, va]] w fun e w' => (∃ v, e = .returned v ∧ RecR TPa w' 0 v (oddP ps l)) ∧ Below w.heap.size w w' := by
  have HPA := Lib.hid fun (key : ByteArray) W (hW : Below w.heap.size w W) => partOf_any ps l vp va key W (by omega) (hc.low hW)
  have HRA := Lib.hid fun W (hW : Below w.heap.size w W) => hc.a.below hW
  obtain ⟨pa, pc, rfl, _, _⟩ := hc.p.form
  obtain ⟨aa, ac, rfl, _, _⟩ := hc.a.form
  obtain ⟨w1, hw1⟩ : ∃ w1, w1 = w.alloc (.cells #[.slice pa ps.length pc, .slice aa l.length ac] 29) := ⟨_, rfl⟩
  have hA1 : Below w.heap.size w w1 := by rw [hw1]; exact Bl.alloc (Below.refl _ _) _
  have HXC := Lib.hid (show ∀ W, Below w1.heap.size w1 W → W.cell? ⟨w.heap.size, 0, none⟩ = some (.slice pa ps.length pc) ∧ W.cell? ⟨w.heap.size, 1, none⟩ = some (.slice aa l.length ac) ∧ w.heap.size < W.heap.size from fun W hW => by
    have h3 : W.heap[w.heap.size]? = _ := blk_below (show w1.heap[w.heap.size]? = some (.cells #[.slice pa ps.length pc, .slice aa l.length ac] 29 (0, 0)) by rw [hw1]; exact blk_new w _) hW
    exact ⟨blk_cell h3 0, blk_cell h3 1, blk_lt h3⟩)
  have HW1 := Lib.hid hw1
  have HB2 := Lib.hid hA1
  have HP0 := Lib.hid (catsF_ok h0).2.1
  have HAH := Lib.hid fun x hx => altsF1_has (catsF_ok h0).2.2.2 x hx
  obtain ⟨q0, q1, lC⟩ := HXC.out w1 (Below.refl _ _)
  clear hw1 hA1 hc h0
  go_enter Tryz.func28, Tryz.ntmps28
  go_wp2
  rw [← HW1.out]
  clear q0 q1 lC
  go_loopw [3, 13] (fun v i wr => ∃ (k : Nat) (out : List (ByteArray × ByteArray)), k ≤ l.length ∧ i = .int .i64 k ∧ Hid (OwnR TPa wr w1.heap.size v out) ∧ Hid (out = oddP ps (l.take k)) ∧ Hid (Below w1.heap.size w1 wr)) (fun _ i _ => l.length - (intOf i).toNat)
  case atStart => exact ⟨0, [], Nat.zero_le _, rfl, Lib.hid (OwnR.nil _ _), Lib.hid rfl, Lib.hid (Below.refl _ _)⟩
  case round =>
    obtain ⟨k, out, hk, rfl, HO, HE, HB⟩ := hrel
    by_cases hlt : k < l.length
    · obtain ⟨x, hx⟩ : ∃ x, l[k]? = some x := ⟨_, List.getElem?_eq_getElem hlt⟩
      have HX := Lib.hid (HAH.out x (List.mem_of_getElem? hx))
      have HT := Lib.hid (oddP_take (ps := ps) hx)
      obtain ⟨b1, o1, rfl, _, _, z⟩ := (HRA.out wr (Bl.trans HB2.out HB.out)).at TAl.ok.len hx TAl.ok.pos
      obtain ⟨f, b, ab⟩ := x
      have c0 : wr.cell? ⟨b1, o1 + k * 3, none⟩ = some (.string f) := z 0 _ rfl
      have c1 : wr.cell? ⟨b1, o1 + k * 3 + 1, none⟩ = some (.string b) := z 1 _ rfl
      have c2 : wr.cell? ⟨b1, o1 + k * 3 + 2, none⟩ = some (.bool ab) := z 2 _ rfl
      obtain ⟨q0, q1, lC⟩ := HXC.out wr HB.out
      have hadd : IntKind.i64.wrap ((k : Int) + 1) = ((k + 1 : Nat) : Int) := by rw [IntWalk.i64_in _ (by omega)]; omega
      obtain ⟨P, hP⟩ : ∃ P, P = wr.heap.size := ⟨_, rfl⟩
      obtain ⟨wx, hwx⟩ : ∃ wx, wx = wr.alloc (.cells #[.string f, .string b, .bool ab] 77) := ⟨_, rfl⟩
      have hbx : Below wr.heap.size wr wx := by rw [hwx]; exact Bl.alloc (Below.refl _ _) _
      have hBX : wx.heap[P]? = some (.cells #[.string f, .string b, .bool ab] 77 (0, 0)) := by rw [hwx, hP]; exact blk_new wr _
      have HXP : Hid (∀ W, Below wx.heap.size wx W → W.cell? ⟨P, 0, none⟩ = some (.string f) ∧ W.cell? ⟨P, 1, none⟩ = some (.string b) ∧ P < W.heap.size) := Lib.hid fun W hW => ⟨blk_cell (blk_below hBX hW) 0, blk_cell (blk_below hBX hW) 1, blk_lt (blk_below hBX hW)⟩
      have HBX := Lib.hid (Bl.trans HB.out hbx)
      have HOX := Lib.hid (HO.out.below hbx)
      have HRX := Lib.hid (And.intro hP hwx)
      have HP1 := HPA.out f wx (Bl.trans HB2.out HBX.out)
      rw [HX.out.1] at HP1
      have HP1 := Lib.hid HP1
      clear hx z hbx hBX hP hwx
      go_wp2_with fail
      rw [← HRX.out.2, ← HRX.out.1]
      refine HP1.out.mono ?_
      rintro e w3 ⟨⟨k1, p1, v1, m1, rfl, hr1⟩, hb3⟩
      obtain ⟨he1, hi1⟩ := hr1 (by trivial)
      have HK1 : Hid (pkgP ps f = p1) := Lib.hid (by rw [← ba_inj he1]; exact pkgP_mem HP0.out hi1)
      obtain ⟨P1, hP1⟩ : ∃ P, P = w3.heap.size := ⟨_, rfl⟩
      obtain ⟨w3', hw3⟩ : ∃ wx, wx = w3.alloc (.cells #[.string k1, .string p1, .int .i64 v1, .int .i64 m1] 73) := ⟨_, rfl⟩
      have hb3' : Below w3.heap.size w3 w3' := by rw [hw3]; exact Bl.alloc (Below.refl _ _) _
      have HQ1 := Lib.hid (show w3'.heap[P1]? = some (.cells #[.string k1, .string p1, .int .i64 v1, .int .i64 m1] 73 (0, 0)) by rw [hw3, hP1]; exact blk_new w3 _)
      have HX3 := Lib.hid (Bl.trans hb3 hb3')
      have HRX3 := Lib.hid (And.intro hP1 hw3)
      have HP2 := HPA.out b w3' (Bl.trans HB2.out (Bl.trans HBX.out HX3.out))
      rw [HX.out.2.1] at HP2
      have HP2 := Lib.hid HP2
      obtain ⟨p0, p1', lP⟩ := HXP.out w3 hb3
      clear c0 c1 c2 q0 q1 lC he1 hi1 hr1 HP1
      obtain ⟨q0, q1, lC⟩ := HXC.out w3 (Bl.trans HBX.out hb3)
      clear hb3 hb3' hP1 hw3
      go_wp2_with fail
      rw [← HRX3.out.2, ← HRX3.out.1]
      refine HP2.out.mono ?_
      rintro e w4 ⟨⟨k2, p2, v2, m2, rfl, hr2⟩, hb4⟩
      obtain ⟨he2, hi2⟩ := hr2 (by trivial)
      have HK2 : Hid (pkgP ps b = p2) := Lib.hid (by rw [← ba_inj he2]; exact pkgP_mem HP0.out hi2)
      have HX4 := Lib.hid (Bl.trans HX3.out hb4)
      have HB4 := Lib.hid (Bl.trans HBX.out HX4.out)
      have HO4 := Lib.hid (HOX.out.below HX4.out)
      clear p0 p1' lP q0 q1 lC
      obtain ⟨p0, p1', lP⟩ := HXP.out w4 HX4.out
      have g1 : w4.cell? ⟨P1, 1, none⟩ = some (.string p1) := blk_cell (blk_below HQ1.out hb4) 1
      have lP1 := blk_lt (blk_below HQ1.out hb4)
      have HLO : Hid (out.length ≤ 100000) := Lib.hid (by
        rw [HE.out]
        have := oddP_len ps (l.take k)
        rw [List.length_take] at this
        omega)
      clear he2 hi2 hr2 hb4 HP2
      by_cases hyy : p1 = p2
      · have HEN : Hid (out = oddP ps (l.take (k + 1))) := Lib.hid (by rw [HT.out, if_neg (by simp [HK1.out, HK2.out, hyy]), List.append_nil]; exact HE.out)
        have HON := Lib.hid (HO4.out.alloc (.cells #[.string k2, .string p2, .int .i64 v2, .int .i64 m2] 73))
        have HBN := Lib.hid (Bl.alloc HB4.out (.cells #[.string k2, .string p2, .int .i64 v2, .int .i64 m2] 73))
        subst hyy
        go_wp2
        go_roundw
        case rel => exact ⟨k + 1, out, by omega, by go_num, HON, HEN, HBN⟩
        case measure => simp [intOf]; omega
      · have hne : (p1.toList == p2.toList) = false := by
          rw [beq_eq_false_iff_ne]
          exact fun e => hyy (ba_inj e)
        have hne2 : ¬ p1.toList = p2.toList := fun e => hyy (ba_inj e)
        have HEN : Hid (out ++ [(f, b)] = oddP ps (l.take (k + 1))) := Lib.hid (by rw [HT.out, if_pos (by simp [HK1.out, HK2.out, hyy]), HE.out])
        obtain ⟨w5, hw5⟩ : ∃ w5, w5 = w4.alloc (.cells #[.string k2, .string p2, .int .i64 v2, .int .i64 m2] 73) := ⟨_, rfl⟩
        have HO5 := Lib.hid (HO4.out.alloc (.cells #[.string k2, .string p2, .int .i64 v2, .int .i64 m2] 73))
        have HB5 := Lib.hid (Bl.alloc HB4.out (.cells #[.string k2, .string p2, .int .i64 v2, .int .i64 m2] 73))
        have hz4 : w1.heap.size ≤ w4.heap.size := HB4.out.size
        have HNB : Hid (((w4.alloc (.cells #[.string k2, .string p2, .int .i64 v2, .int .i64 m2] 73)).alloc (.cells #[.string f, .string b] 61)).heap[w4.heap.size + 1]? = some (.cells #[.string f, .string b] 61 (0, 0))) := Lib.hid (by
          have h1 := blk_new (w4.alloc (.cells #[.string k2, .string p2, .int .i64 v2, .int .i64 m2] 73)) (.cells #[.string f, .string b] 61)
          rwa [show (w4.alloc (.cells #[.string k2, .string p2, .int .i64 v2, .int .i64 m2] 73)).heap.size = w4.heap.size + 1 by simp] at h1)
        clear hyy hw5
        go_wp2_with (at_builtin; refine wp_app_r TPa.ok rfl _ _ rfl w1.heap.size _ out rfl (HO5.out.alloc _) (w4.heap.size + 1) 1 (f, b) rfl HNB.out rfl (by have := HLO.out; omega) (by simp; omega) ?_)
        intro v5 w6 hO6 hg6 _
        have HO6 := Lib.hid hO6
        have HB6 : Hid (Below w1.heap.size w1 w6) := Lib.hid (Below.trans (Bl.alloc HB5.out _) (app_belowR (HO5.out.alloc _) hg6 (by simp; omega)))
        clear hO6 hg6 p0 p1'
        go_wp2
        go_roundw
        case rel => exact ⟨k + 1, _, by omega, by go_num, HO6, HEN, HB6⟩
        case measure => simp [intOf]; omega
    · obtain rfl : k = l.length := by omega
      have HON := Lib.hid (show RecR TPa wr 0 _ (oddP ps l) from by have := HO.out.rec0; rw [HE.out, List.take_length] at this; exact this)
      have HBN := Lib.hid (Bl.trans HB2.out HB.out)
      go_wp2
      go_ret
      exact ⟨⟨_, rfl, HON.out⟩, HBN.out⟩
end Go.Proofs.YteojmljggoplkaaGreatDoor
