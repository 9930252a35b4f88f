/- Texts of the proof of a law, put together, part 21 of 41. Conditions: none beyond those that each theorem names. -/
import Derived.Test.YtihgnpobkpnipaaGreatDoorQz17
import Derived.Test.YtihgnpobkpnipaaGreatDoorQz18
namespace Go.Proofs.YtihgnpobkpnipaaGreatDoor
open Go.RowKit Go.Sort Go.Maps
def rboolE : Value → Option (DataW Unit × List MemPlace)
  | .bool b => some (.lit (.bool b), [])
  | _ => none
theorem laidC : laidOutB Tryz.prog = true := by kernel_rfl
/-- ways, as structs. -/
def TMw : Mty Bool := { t := 85, e := 4, V := .bool, d := fun b => .lit (.bool b), R := rboolE, z := false }
theorem rbool_inv {v : Value} {a : Bool} {ps : List MemPlace} (h : rboolE v = some (.lit (.bool a), ps)) : v = .bool a := by
  unfold rboolE at h
  split at h
  · simp at h; obtain ⟨h, _⟩ := h; subst h; rfl
  · cases h
theorem wayKd : Keyed Tryz.prog 89 := Keyed.of_law (deep_law_laid (m := 2) laidC (by omega) (of_decide_eq_true (by kernel_rfl)) (by kernel_rfl) (by kernel_rfl))
theorem TMw.ok : WOk 89 TMw := ⟨wayKd, Tryz.underlying85, fun w => by kernel_rfl, fun _ => rfl, fun v a ps h => rbool_inv h⟩
theorem wayKey {a b : ByteArray} (ha : a.size ≤ maxLen) (hb : b.size ≤ maxLen) : keyOf Tryz.prog 89 (.agg #[.string a, .string b]) = some (.string (enc2 a.data.toList b.data.toList)) :=
  keyStruct2 (ts := 9) Tryz.underlying89 Tryz.underlying9 rfl rfl rfl rfl (by rfl) (by rfl) (by kernel_rfl) (by kernel_rfl) (by kernel_rfl) (of_decide_eq_true (by kernel_rfl)) ha hb (by unfold Value.formed; rw [Tryz.underlying89]; show (2 == _) = true; kernel_rfl)
/-- ways, as arrays. -/
def TMd : Mty Bool := { t := 79, e := 4, V := .bool, d := fun b => .lit (.bool b), R := rboolE, z := false }
theorem dirKd : Keyed Tryz.prog 82 := Keyed.of_law (deep_law_laid (m := 2) laidC (by omega) (of_decide_eq_true (by kernel_rfl)) (by kernel_rfl) (by kernel_rfl))
theorem TMd.ok : WOk 82 TMd := ⟨dirKd, Tryz.underlying79, fun w => by kernel_rfl, fun _ => rfl, fun v a ps h => rbool_inv h⟩
theorem dirKey {a b : ByteArray} (ha : a.size ≤ maxLen) (hb : b.size ≤ maxLen) : keyOf Tryz.prog 82 (.agg #[.string a, .string b]) = some (.string (enc2 a.data.toList b.data.toList)) :=
  keyArray2 (ts := 9) Tryz.underlying82 Tryz.underlying9 (by kernel_rfl) (by kernel_rfl) (by kernel_rfl) (of_decide_eq_true (by kernel_rfl)) ha hb (by unfold Value.formed; rw [Tryz.underlying82]; show (2 == _) = true; kernel_rfl)
/-- names that have been seen. -/
def TMb : Mty Bool := { t := 135, e := 4, V := .bool, d := fun b => .lit (.bool b), R := rboolE, z := false }
theorem TMb.ok : TMb.Ok := ⟨Tryz.underlying135, fun w => by kernel_rfl, fun _ => rfl, fun v a ps h => rbool_inv h⟩
end Go.Proofs.YtihgnpobkpnipaaGreatDoor
namespace Go.Proofs.YtihgnpobkpnipaaGreatDoor
open Go.RowKit Go.Sort Go.Maps
def AltZ (l : List Alt) : Prop := ∀ x ∈ l, x.1.size ≤ 140737488355328 ∧ x.2.1.size ≤ 140737488355328
theorem shortW_of {x : Alt} (h : x.1.size ≤ 140737488355328 ∧ x.2.1.size ≤ 140737488355328) : ∀ y ∈ waysA x, shortW y := by
  have hm : ∀ a : ByteArray, a.size ≤ 140737488355328 → (bsOf a).length ≤ maxLen := fun a ha => by
    show a.data.toList.length ≤ maxLen
    rw [Array.length_toList]
    have : a.data.size = a.size := rfl
    unfold maxLen; omega
  intro y hy
  unfold waysA at hy
  rcases List.mem_cons.1 hy with rfl | hy
  · exact ⟨hm _ h.1, hm _ h.2⟩
  · split at hy
    · rw [List.mem_singleton.1 hy]; exact ⟨hm _ h.2, hm _ h.1⟩
    · cases hy
theorem shortL {l : List Alt} (h : AltZ l) : ∀ y ∈ waysL l, shortW y := by
  intro y hy
  unfold waysL at hy
  obtain ⟨x, hx, hy⟩ := List.mem_flatMap.1 hy
  exact shortW_of (h x hx) y hy
theorem waysZ_len (x : Alt) : (waysZ x).length ≤ 2 := by unfold waysZ; split <;> simp
/-- how far the search for what is told twice has come. -/
structure TwS (l : List Alt) (k j : Nat) (x : Alt) (done : List (Bs × Bs)) : Prop where
  dn : done = waysL (l.take k) ++ (waysA x).take j
  eq : twiceB [] (waysL l) = twiceB done ((waysA x).drop j ++ waysL (l.drop (k + 1)))
theorem TwS.start {l : List Alt} {k : Nat} {x : Alt} (hx : l[k]? = some x) (h : twiceB [] (waysL l) = twiceB (waysL (l.take k)) (waysL (l.drop k))) : TwS l k 0 x (waysL (l.take k)) :=
  ⟨by simp, by rw [h, waysL_drop hx]; rfl⟩
theorem TwS.stop {l : List Alt} {k j : Nat} {x : Alt} {done : List (Bs × Bs)} (hx : l[k]? = some x) (h : TwS l k j x done) (hj : (waysA x).length ≤ j) : done = waysL (l.take (k + 1)) ∧ twiceB [] (waysL l) = twiceB (waysL (l.take (k + 1))) (waysL (l.drop (k + 1))) := by
  have h1 : done = waysL (l.take (k + 1)) := by rw [h.dn, waysL_take hx, List.take_of_length_le hj]
  refine ⟨h1, ?_⟩
  rw [h.eq, List.drop_of_length_le hj, h1]
  rfl
theorem TwS.hit {l : List Alt} {k j : Nat} {x : Alt} {done : List (Bs × Bs)} {y : Bs × Bs} (h : TwS l k j x done) (hy : (waysA x)[j]? = some y) (hm : y ∈ done) : twiceB [] (waysL l) = true := by
  obtain ⟨hj, he⟩ := List.getElem?_eq_some_iff.1 hy
  rw [h.eq, List.drop_eq_getElem_cons hj, he]
  exact twice_hit hm
theorem TwS.next {l : List Alt} {k j : Nat} {x : Alt} {done : List (Bs × Bs)} {y : Bs × Bs} (h : TwS l k j x done) (hy : (waysA x)[j]? = some y) (hm : y ∉ done) : TwS l k (j + 1) x (done ++ [y]) := by
  obtain ⟨hj, he⟩ := List.getElem?_eq_some_iff.1 hy
  refine ⟨by rw [h.dn, List.append_assoc, List.take_add_one, hy]; rfl, ?_⟩
  rw [h.eq, List.drop_eq_getElem_cons hj, he]
  exact twice_go hm
theorem TwS.len {l : List Alt} {k j : Nat} {x : Alt} {done : List (Bs × Bs)} (hx : l[k]? = some x) (h : TwS l k j x done) : done.length ≤ 2 * l.length + 2 := by
  rw [h.dn, List.length_append]
  have h1 := waysL_len (l.take k)
  have h2 : ((waysA x).take j).length ≤ 2 := by
    rw [List.length_take, waysZ_eq, List.length_map]
    have := waysZ_len x
    omega
  rw [List.length_take] at h1
  have := (List.getElem?_eq_some_iff.1 hx).1
  omega
theorem TwS.short {l : List Alt} {k j : Nat} {x : Alt} {done : List (Bs × Bs)} (hz : AltZ l) (hx : l[k]? = some x) (h : TwS l k j x done) : ∀ y ∈ done, shortW y := by
  intro y hy
  rw [h.dn] at hy
  rcases List.mem_append.1 hy with hy | hy
  · exact shortL (fun x hx => hz x (List.mem_of_mem_take hx)) y hy
  · exact shortW_of (hz x (List.mem_of_getElem? hx)) y (List.mem_of_mem_take hy)
set_option maxHeartbeats 8000000 in
set_option maxRecDepth 100000 in
theorem CheckCatalogue_any (ps : List Prt) (l : List Alt) (vp va : Value) (w : World) (hl : ps.length ≤ 1000000) (hl2 : l.length ≤ 1000000) (hz : PrtZ ps) (hz2 : AltZ l) (hc : CatR w vp va ps l) :
    Calls Tryz.prog 9 #[.agg #[vp, va]] w fun e w' => e = .returned (.int .i64 (catsF ps l)) ∧ Below w.heap.size w w' := by
  have HPF := Lib.hid fun (k : Nat) (x : Prt) (hx : ps[k]? = some x) W (hW : Below w.heap.size w W) => partFault_any ps k vp W hl (List.getElem?_eq_some_iff.1 hx).1 (hc.p.below hW) hz x hx
  have HAF := Lib.hid fun (hs : SortP ps) (k : Nat) (x : Alt) (hx : l[k]? = some x) W (hW : Below w.heap.size w W) => alternateFault_any ps l vp va k x W hl hl2 hs (hc.low hW) hx
  have HRA := Lib.hid fun W (hW : Below w.heap.size w W) => hc.a.below hW
  obtain ⟨pa, pc, rfl, _, _⟩ := hc.p.form
  obtain ⟨aa, ac, rfl, _, _⟩ := hc.a.form
  have hmm := @run_makeMap Tryz.prog
  obtain ⟨w1, hw1⟩ : ∃ w1, w1 = w.alloc (.cells #[.slice pa ps.length pc, .slice aa l.length ac] 29) := ⟨_, rfl⟩
  have hA1 : Below w.heap.size w w1 := by rw [hw1]; exact Bl.alloc (Below.refl _ _) _
  have HXC := Lib.hid (show ∀ W, Below w1.heap.size w1 W → W.cell? ⟨w.heap.size, 0, none⟩ = some (.slice pa ps.length pc) ∧ W.cell? ⟨w.heap.size, 1, none⟩ = some (.slice aa l.length ac) ∧ w.heap.size < W.heap.size from fun W hW => by
    have h3 : W.heap[w.heap.size]? = _ := blk_below (show w1.heap[w.heap.size]? = some (.cells #[.slice pa ps.length pc, .slice aa l.length ac] 29 (0, 0)) by rw [hw1]; exact blk_new w _) hW
    exact ⟨blk_cell h3 0, blk_cell h3 1, blk_lt h3⟩)
  obtain ⟨F, hF⟩ : ∃ F, F = catsF ps l := ⟨_, rfl⟩
  have HV1 : Hid (1000 < ps.length → F = 2) := Lib.hid fun h => by rw [hF]; unfold catsF; rw [if_pos h]
  have HV2 : Hid (¬ 1000 < ps.length → prtsF1 none ps ≠ 0 → F = prtsF1 none ps) := Lib.hid fun h h2 => by rw [hF]; unfold catsF; rw [if_neg h, if_pos h2]
  have HV3 : Hid (¬ 1000 < ps.length → prtsF1 none ps = 0 → 2000 < l.length → F = 2) := Lib.hid fun h h2 h3 => by rw [hF]; unfold catsF; rw [if_neg h, if_neg (by simp [h2]), if_pos h3]
  have HV4 : Hid (¬ 1000 < ps.length → prtsF1 none ps = 0 → ¬ 2000 < l.length → altsF1 ps none l ≠ 0 → F = altsF1 ps none l) := Lib.hid fun h h2 h3 h4 => by rw [hF]; unfold catsF; rw [if_neg h, if_neg (by simp [h2]), if_neg h3, if_pos h4]
  have HV5 : Hid (¬ 1000 < ps.length → prtsF1 none ps = 0 → ¬ 2000 < l.length → altsF1 ps none l = 0 → F = if twiceB [] (waysL l) = true then 6 else 0) := Lib.hid fun h h2 h3 h4 => by rw [hF]; unfold catsF; rw [if_neg h, if_neg (by simp [h2]), if_neg h3, if_neg (by simp [h4])]
  rw [← hF]
  obtain ⟨q0, q1, lw⟩ := HXC.out w1 (Below.refl _ _)
  have HW1 := Lib.hid hw1
  have HA1 := Lib.hid hA1
  have HZ2 := Lib.hid hz2
  clear hF hw1 hA1 hc hz hz2
  by_cases h1 : 1000 < ps.length
  · have HFF := Lib.hid (HV1.out h1)
    have h1' : (1000 : Int) < (ps.length : Int) := by omega
    go_enter Tryz.func9, Tryz.ntmps9
    go_wp2_with fail
    rw [← HW1.out]
    go_wp2
    go_ret
    exact ⟨ret_int HFF.out.symm, HA1.out⟩
  have h1' : ¬ (1000 : Int) < (ps.length : Int) := by omega
  have HN1 := Lib.hid h1
  go_enter Tryz.func9, Tryz.ntmps9
  go_wp2_with fail
  rw [← HW1.out]
  go_wp2_with fail
  clear h1 h1'
  go_loopw [19] (fun i wr => ∃ k : Nat, k ≤ ps.length ∧ i = .int .i64 k ∧ Hid (prtsF1 none ps = prtsF1 (prvP ps k) (ps.drop k)) ∧ Hid (Below w1.heap.size w1 wr)) (fun i _ => ps.length - (intOf i).toNat)
  case atStart => exact ⟨0, Nat.zero_le _, rfl, Lib.hid rfl, Lib.hid (Below.refl _ _)⟩
  case round =>
    obtain ⟨k, hk, rfl, HP, HB⟩ := hrel
    obtain ⟨u0, u1, lu⟩ := HXC.out wr HB.out
    by_cases hlt : k < ps.length
    · obtain ⟨x, hx⟩ : ∃ x, ps[k]? = some x := ⟨_, List.getElem?_eq_getElem hlt⟩
      have HC := Lib.hid (HPF.out k x hx wr (Bl.trans HA1.out HB.out))
      obtain ⟨e0, he0⟩ : ∃ e0, e0 = prtF (prvP ps k) x := ⟨_, rfl⟩
      rw [← he0] at HC
      have hwk : IntKind.i64.wrap ((k : Int) + 1) = ((k + 1 : Nat) : Int) := by rw [IntWalk.i64_in _ (by omega)]; omega
      by_cases h0 : e0 = 0
      · have HP2 : Hid (prtsF1 none ps = prtsF1 (prvP ps (k + 1)) (ps.drop (k + 1))) := Lib.hid (by rw [HP.out, prtsF1_go hx (by rw [← he0]; exact h0)])
        clear hx he0
        subst h0
        go_wp2_with fail
        refine HC.out.mono ?_
        rintro e w2 ⟨rfl, hb2⟩
        have HB2 := Lib.hid (Bl.trans HB.out hb2)
        clear hb2
        go_wp2
        go_roundw
        case rel => exact ⟨k + 1, by omega, by go_num, HP2, HB2⟩
        case measure => simp [intOf]; omega
      · have HFF : Hid (F = e0) := Lib.hid (by
          have h2 : prtsF1 none ps = e0 := by rw [HP.out, prtsF1_stop hx (by rw [← he0]; exact h0), he0]
          rw [HV2.out HN1.out (by rw [h2]; exact h0), h2])
        have h0' : (e0 != 0) = true := by simpa using h0
        have h0'' : ¬ e0 = 0 := h0
        clear hx he0
        go_wp2_with fail
        refine HC.out.mono ?_
        rintro e w2 ⟨rfl, hb2⟩
        have HB2 := Lib.hid (Bl.trans HA1.out (Bl.trans HB.out hb2))
        clear hb2
        go_wp2
        go_ret
        exact ⟨ret_int HFF.out.symm, HB2.out⟩
    obtain rfl : k = ps.length := by omega
    have HP0 : Hid (prtsF1 none ps = 0) := Lib.hid (by rw [HP.out, List.drop_length]; rfl)
    have HS := Lib.hid (prtsF1_sorted ps none HP0.out).2
    by_cases h2 : 2000 < l.length
    · have HFF := Lib.hid (HV3.out HN1.out HP0.out h2)
      have h2' : (2000 : Int) < (l.length : Int) := by omega
      have HB2 := Lib.hid (Bl.trans HA1.out HB.out)
      go_wp2
      go_ret
      exact ⟨ret_int HFF.out.symm, HB2.out⟩
    have h2' : ¬ (2000 : Int) < (l.length : Int) := by omega
    have HN2 := Lib.hid h2
    obtain ⟨wo, hwo⟩ : ∃ wo : World, wo = wr := ⟨_, rfl⟩
    rw [← hwo]
    rw [← hwo] at HB u0 u1 lu
    clear hwo
    go_wp2_with fail
    clear h2 h2'
    go_loopw [37] (fun i wr => ∃ k : Nat, k ≤ l.length ∧ i = .int .i64 k ∧ Hid (altsF1 ps none l = altsF1 ps (prvA l k) (l.drop k)) ∧ Hid (Below w1.heap.size w1 wr)) (fun i _ => l.length - (intOf i).toNat)
    case atStart => exact ⟨0, Nat.zero_le _, rfl, Lib.hid rfl, HB⟩
    case round =>
      obtain ⟨k, hk2, rfl, HQ, HB3⟩ := hrel
      obtain ⟨t0, t1, lt0⟩ := HXC.out wr HB3.out
      by_cases hlt2 : k < l.length
      · obtain ⟨x, hx⟩ : ∃ x, l[k]? = some x := ⟨_, List.getElem?_eq_getElem hlt2⟩
        have HC := Lib.hid (HAF.out HS.out k x hx wr (Bl.trans HA1.out HB3.out))
        obtain ⟨e0, he0⟩ : ∃ e0, e0 = altF ps (prvA l k) x := ⟨_, rfl⟩
        rw [← he0] at HC
        have hwk : IntKind.i64.wrap ((k : Int) + 1) = ((k + 1 : Nat) : Int) := by rw [IntWalk.i64_in _ (by omega)]; omega
        by_cases h0 : e0 = 0
        · have HP2 : Hid (altsF1 ps none l = altsF1 ps (prvA l (k + 1)) (l.drop (k + 1))) := Lib.hid (by rw [HQ.out, altsF1_go hx (by rw [← he0]; exact h0)])
          clear hx he0
          subst h0
          go_wp2_with fail
          refine HC.out.mono ?_
          rintro e w2 ⟨rfl, hb2⟩
          have HB2 := Lib.hid (Bl.trans HB3.out hb2)
          clear hb2
          go_wp2
          go_roundw
          case rel => exact ⟨k + 1, by omega, by go_num, HP2, HB2⟩
          case measure => simp [intOf]; omega
        · have HFF : Hid (F = e0) := Lib.hid (by
            have h2 : altsF1 ps none l = e0 := by rw [HQ.out, altsF1_stop hx (by rw [← he0]; exact h0), he0]
            rw [HV4.out HN1.out HP0.out HN2.out (by rw [h2]; exact h0), h2])
          have h0' : (e0 != 0) = true := by simpa using h0
          have h0'' : ¬ e0 = 0 := h0
          clear hx he0
          go_wp2_with fail
          refine HC.out.mono ?_
          rintro e w2 ⟨rfl, hb2⟩
          have HB2 := Lib.hid (Bl.trans HA1.out (Bl.trans HB3.out hb2))
          clear hb2
          go_wp2
          go_ret
          exact ⟨ret_int HFF.out.symm, HB2.out⟩
      obtain rfl : k = l.length := by omega
      have HQ0 : Hid (altsF1 ps none l = 0) := Lib.hid (by rw [HQ.out, List.drop_length]; rfl)
      have HF5 := Lib.hid (HV5.out HN1.out HP0.out HN2.out HQ0.out)
      obtain ⟨wo2, hwo⟩ : ∃ wo2 : World, wo2 = wr := ⟨_, rfl⟩
      rw [← hwo]
      rw [← hwo] at HB3 t0 t1 lt0
      have hM0 : MapW 89 TMw (wo2.alloc (.map #[] 0)) wo2.heap.size (seenW (waysL (l.take 0))) := MapW.made _
      have HB4 := Lib.hid (Bl.alloc HB3.out (.map #[] 0))
      obtain ⟨wm, hwm⟩ : ∃ wm, wm = wo2.alloc (.map #[] 0) := ⟨_, rfl⟩
      rw [← hwm] at hM0 HB4
      have HWM := Lib.hid hwm
      have HM0 := Lib.hid hM0
      have lmm : w1.heap.size ≤ wo2.heap.size := HB3.out.size
      have HL2 := Lib.hid HN2.out
      clear hwo hwm hM0
      go_wp2_with fail
      rw [← HWM.out]
      obtain ⟨s0, s1, ls0⟩ := HXC.out wm HB4.out
      go_wp2_with fail
      go_loopw [51] (fun i wr => ∃ k : Nat, k ≤ l.length ∧ i = .int .i64 k ∧ Hid (twiceB [] (waysL l) = twiceB (waysL (l.take k)) (waysL (l.drop k))) ∧ Hid (MapW 89 TMw wr wo2.heap.size (seenW (waysL (l.take k)))) ∧ Hid (Below w1.heap.size w1 wr)) (fun i _ => l.length - (intOf i).toNat)
      case atStart => exact ⟨0, Nat.zero_le _, rfl, Lib.hid rfl, HM0, HB4⟩
      case round =>
        obtain ⟨k, hk3, rfl, HT, HM, HB5⟩ := hrel
        by_cases hlt3 : k < l.length
        · obtain ⟨x, hx⟩ : ∃ x, l[k]? = some x := ⟨_, List.getElem?_eq_getElem hlt3⟩
          have HX := Lib.hid hx
          obtain ⟨b1, o1, rfl, _, hb1, hc1⟩ := (HRA.out wr (Bl.trans HA1.out HB5.out)).at TAl.ok.len hx TAl.ok.pos
          have HWY := Lib.hid fun W => ways_any x W
          have HT0 := Lib.hid (TwS.start hx HT.out)
          have HZX := Lib.hid (HZ2.out x (List.mem_of_getElem? hx))
          obtain ⟨f, y, bo⟩ := x
          have m0 : wr.cell? ⟨b1, o1 + k * 3, none⟩ = some (.string f) := hc1 0 _ rfl
          have m1 : wr.cell? ⟨b1, o1 + k * 3 + 1, none⟩ = some (.string y) := hc1 1 _ rfl
          have m2 : wr.cell? ⟨b1, o1 + k * 3 + 2, none⟩ = some (.bool bo) := hc1 2 _ rfl
          have hwk : IntKind.i64.wrap ((k : Int) + 1) = ((k + 1 : Nat) : Int) := by rw [IntWalk.i64_in _ (by omega)]; omega
          obtain ⟨wx, hwx⟩ : ∃ wx, wx = wr.alloc (.cells #[.string f, .string y, .bool bo] 72) := ⟨_, rfl⟩
          have hbx : Below wr.heap.size wr wx := by rw [hwx]; exact Bl.alloc (Below.refl _ _) _
          have hX : wx.heap[wr.heap.size]? = some (.cells #[.string f, .string y, .bool bo] 72 (0, 0)) := by rw [hwx]; exact blk_new wr _
          have d0 : wx.cell? ⟨wr.heap.size, 0, none⟩ = some (.string f) := blk_cell hX 0
          have d1 : wx.cell? ⟨wr.heap.size, 1, none⟩ = some (.string y) := blk_cell hX 1
          have d2 : wx.cell? ⟨wr.heap.size, 2, none⟩ = some (.bool bo) := blk_cell hX 2
          have HMX := Lib.hid (HM.out.below hbx)
          have HBX := Lib.hid (Bl.trans HB5.out hbx)
          have HWX := Lib.hid hwx
          clear hx hc1 hwx hX hbx hb1
          go_wp2_with fail
          rw [← HWX.out]
          go_wp2_with fail
          refine (HWY.out wx).mono ?_
          rintro e w4 ⟨⟨vw, rfl, hOw⟩, hb4⟩
          obtain ⟨wa, wc, rfl, _, _⟩ := hOw.form
          have HRW := Lib.hid fun W (hW : Below w4.heap.size w4 W) => (hOw.rec.mono (show wo2.heap.size + 1 ≤ wx.heap.size from HMX.out.lt)).below hW
          have HM4 := Lib.hid (HMX.out.below hb4)
          have HB4' := Lib.hid (Bl.trans HBX.out hb4)
          have hzl := waysZ_len (f, y, bo)
          have hzw : (waysA (f, y, bo)).length = (waysZ (f, y, bo)).length := by rw [waysZ_eq, List.length_map]
          have HZW := Lib.hid hzw
          clear hOw hb4 HWY HMX HBX hzw
          obtain ⟨n, hn⟩ : ∃ n, n = (waysZ (f, y, bo)).length := ⟨_, rfl⟩
          rw [← hn] at hzl
          rw [← hn]
          have HN := Lib.hid hn
          clear hn
          go_wp2_with fail
          obtain ⟨wq, hwq⟩ : ∃ wq : World, wq = wr := ⟨_, rfl⟩
          clear hwq
          go_loopw [58] (fun i wr => ∃ (j : Nat) (done : List (Bs × Bs)), j ≤ n ∧ i = .int .i64 j ∧ Hid (TwS l k j (f, y, bo) done) ∧ Hid (MapW 89 TMw wr wo2.heap.size (seenW done)) ∧ Hid (Below w1.heap.size w1 wr) ∧ Hid (RecR TWy wr (wo2.heap.size + 1) (.slice wa n wc) (waysZ (f, y, bo)))) (fun i _ => n - (intOf i).toNat)
          case atStart => exact ⟨0, _, Nat.zero_le _, rfl, HT0, HM4, HB4', Lib.hid (by rw [HN.out]; exact HRW.out w4 (Below.refl _ _))⟩
          case round =>
            obtain ⟨j, done, hj, rfl, HTW, HMD, HBD, HRD⟩ := hrel
            by_cases hlt4 : j < n
            · obtain ⟨p, hp⟩ : ∃ p, (waysZ (f, y, bo))[j]? = some p := ⟨_, List.getElem?_eq_getElem (by have := HN.out; omega)⟩
              have hpa : (waysA (f, y, bo))[j]? = some (bsW p) := by rw [waysZ_eq, List.getElem?_map, hp]; rfl
              have hsh := shortW_of HZX.out _ (List.mem_of_getElem? hpa)
              have hRR := HRD.out
              rw [HN.out] at hRR
              obtain ⟨b5, o5, rfl, _, hb5, hc5⟩ := hRR.at TWy.ok.len hp TWy.ok.pos
              have HPA := Lib.hid hpa
              have HSH := Lib.hid (HTW.out.short HZ2.out HX.out)
              have hlen := HTW.out.len HX.out
              obtain ⟨pf, pb⟩ := p
              have n0 : wr.cell? ⟨b5, o5 + j * 2, none⟩ = some (.string pf) := hc5 0 _ rfl
              have n1 : wr.cell? ⟨b5, o5 + j * 2 + 1, none⟩ = some (.string pb) := hc5 1 _ rfl
              have hkey := wayKey (a := pf) (b := pb) (by have := hsh.1; show pf.data.size ≤ maxLen; rw [← Array.length_toList]; exact this) (by have := hsh.2; show pb.data.size ≤ maxLen; rw [← Array.length_toList]; exact this)
              have hwj : IntKind.i64.wrap ((j : Int) + 1) = ((j + 1 : Nat) : Int) := by rw [IntWalk.i64_in _ (by omega)]; omega
              have hbA := Bl.alloc (Below.refl wr.heap.size wr) (.cells #[.string pf, .string pb] 89)
              have hXA := blk_new wr (.cells #[.string pf, .string pb] 89)
              obtain ⟨wA, hwA⟩ : ∃ wA, wA = wr.alloc (.cells #[.string pf, .string pb] 89) := ⟨_, rfl⟩
              rw [← hwA] at hbA hXA
              have hMA := HMD.out.below hbA
              have hlk := hMA.look TMw.ok hkey
              have hget : ((seenW done).get (enc2 pf.data.toList pb.data.toList)).getD TMw.z = decide (bsW (pf, pb) ∈ done) := seenW_get (y := bsW (pf, pb)) hsh done HSH.out
              rw [hget] at hlk
              have s0 : wA.cell? ⟨wr.heap.size, 0, none⟩ = some (.string pf) := blk_cell hXA 0
              have s1 : wA.cell? ⟨wr.heap.size, 1, none⟩ = some (.string pb) := blk_cell hXA 1
              have HWA := Lib.hid hwA
              have HBA := Lib.hid (Bl.trans HBD.out hbA)
              have HRA2 := Lib.hid (HRD.out.below hbA)
              clear hp hpa hc5 hRR hget hwA hb5
              by_cases hin : bsW (pf, pb) ∈ done
              · have HFF : Hid (F = 6) := Lib.hid (by rw [HF5.out, if_pos (HTW.out.hit HPA.out hin)])
                rw [decide_eq_true hin] at hlk
                have hlk2 : (Instr.lookup 85 (.map (some wo2.heap.size)) (.agg #[.string pf, .string pb]) false).run Tryz.prog wA = .ok (.bool true) wA := hlk
                have HBF := Lib.hid (Bl.trans HA1.out HBA.out)
                rw [HWA.out] at hlk2
                clear hlk hMA hbA hXA hkey hsh s0 s1
                go_wp2
                go_ret
                exact ⟨ret_int HFF.out.symm, by rw [← HWA.out]; exact HBF.out⟩
              · have HTN := Lib.hid (HTW.out.next HPA.out hin)
                rw [decide_eq_false hin] at hlk
                have hlk2 : (Instr.lookup 85 (.map (some wo2.heap.size)) (.agg #[.string pf, .string pb]) false).run Tryz.prog wA = .ok (.bool false) wA := hlk
                obtain ⟨w6, hr6, hM6, ht6⟩ := hMA.put TMw.ok hkey true (by have := seenW_len done; unfold maxLen; omega)
                have hr6' : (Instr.mapUpdate 85 (.map (some wo2.heap.size)) (.agg #[.string pf, .string pb]) (.bool true)).run Tryz.prog wA = .ok () w6 := hr6
                have hb6 := Turned.below ht6 (B := w1.heap.size) lmm (by have := HBA.out.size; omega)
                have HM6 : Hid (MapW 89 TMw w6 wo2.heap.size (seenW (done ++ [bsW (pf, pb)]))) := Lib.hid (by rw [seenW_snoc]; exact hM6)
                have HB6 := Lib.hid (Below.trans HBA.out hb6)
                have HR6 := Lib.hid (show RecR TWy w6 (wo2.heap.size + 1) (.slice (some ⟨b5, o5, none⟩) n wc) (waysZ (f, y, bo)) from (HRA2.out.grown ht6.grown (Nat.lt_succ_self _)).mono (Nat.le_refl _))
                rw [HWA.out] at hlk2 hr6'
                clear hlk hMA hbA hXA hkey hsh hr6 hM6 ht6 hb6 s0 s1
                go_wp2
                go_roundw
                case rel => exact ⟨j + 1, _, by omega, by go_num, HTN, HM6, HB6, HR6⟩
                case measure => simp [intOf]; omega
            · obtain rfl : j = n := by omega
              obtain ⟨hd1, hd2⟩ := HTW.out.stop HX.out (by rw [HZW.out, ← HN.out]; exact Nat.le_refl _)
              have HTE := Lib.hid hd2
              have HME : Hid (MapW 89 TMw wr wo2.heap.size (seenW (waysL (l.take (k + 1))))) := Lib.hid (by rw [← hd1]; exact HMD.out)
              clear hd1 hd2
              go_wp2
              go_roundw
              case rel => exact ⟨k + 1, by omega, by go_num, HTE, HME, HBD⟩
              case measure => simp [intOf]; omega
        · obtain rfl : k = l.length := by omega
          have HTZ : Hid (twiceB [] (waysL l) = false) := Lib.hid (by rw [HT.out, List.drop_length]; rfl)
          have HFF : Hid (F = 0) := Lib.hid (by rw [HF5.out, HTZ.out]; rfl)
          have HBF := Lib.hid (Bl.trans HA1.out HB5.out)
          go_wp2
          go_ret
          exact ⟨ret_int HFF.out.symm, HBF.out⟩
end Go.Proofs.YtihgnpobkpnipaaGreatDoor
