/- Texts of the proof of a law, put together, part 31 of 46. Conditions: none beyond those that each theorem names. -/
import Derived.Test.YteojmljggoplkaaGreatDoorPz28
import Derived.Test.YteojmljggoplkaaGreatDoorPz30
namespace Go.Proofs.YteojmljggoplkaaGreatDoor
open Go.RowKit Go.Sort
theorem flat_strC (l : List ByteArray) : l.flatMap TS.f = l.map Value.string := by
  induction l with
  | nil => rfl
  | cons a l ih => rw [List.flatMap_cons, ih]; rfl
theorem CloneC_any (l : List ByteArray) (v : Value) (w : World) (hl : l.length ≤ 100000) (rl : RecR TS w 0 v l) :
    Calls Tryz.prog 65 #[v] w fun e w' => ∃ v', e = .returned v' ∧ OwnR TS w' w.heap.size v' l ∧ Below w.heap.size w w' := by
  obtain ⟨a, cap, rfl, hc1, hc2⟩ := rl.form
  by_cases h0 : l = []
  · subst h0
    cases a with
    | none =>
      refine (Tryz.slices_Clone_string_nil _ cap w).mono ?_
      rintro e w' ⟨rfl, rfl⟩
      exact ⟨_, rfl, OwnR.nil _ _, Below.refl _ _⟩
    | some a =>
      refine (Tryz.slices_Clone_string_zero a cap w).mono ?_
      rintro e w' ⟨v', rfl, h1, _, h2⟩
      exact ⟨v', rfl, h1, h2⟩
  · obtain ⟨y, hy⟩ : ∃ y, l[0]? = some y := ⟨_, List.getElem?_eq_getElem (List.length_pos_iff.2 h0)⟩
    obtain ⟨b, o, rfl, _, _, _⟩ := str_at rl hy
    refine (Tryz.slices_Clone_string b o l.length cap l w (Nat.le_refl _) (by omega) (str_cells rl)).mono ?_
    rintro e w' ⟨v', rfl, h1, _, h2⟩
    refine ⟨v', rfl, ?_, h2⟩
    rw [List.take_length] at h1
    unfold OwnR
    rw [flat_strC]
    exact h1
theorem baC1_bsOf (b : ByteArray) : baOf (bsOf b) = b := by unfold baOf bsOf; simp
theorem has_mapC {L : List Bs} {k : ByteArray} : Lib.containsS (L.map baOf) k = decide (bsOf k ∈ L) := by
  rw [Bool.eq_iff_iff, Lib.containsS_iff, decide_eq_true_eq, List.mem_map]
  constructor
  · rintro ⟨s, hs, rfl⟩
    rw [bsOf_baOf]
    exact hs
  · intro h
    exact ⟨_, h, baC1_bsOf k⟩
theorem own_row1 {w : World} {B g : Nat} {a : ByteArray} {cs : Array Value} (hB : B ≤ g) (h1 : w.heap[g]? = some (.cells cs 9 (0, 0))) (e1 : cs = #[.string a]) (h2 : w.heap[g + 1]? = some (.cells #[.slice (some ⟨g, 0, none⟩) 1 1] 36 (0, 0))) :
    OwnG w B (.slice (some ⟨g + 1, 0, none⟩) 1 1) [(some (g, 0), 1, 1)] [[bsOf a]] := by
  refine ⟨own_one THs.ok (by omega) h2 rfl, rfl, fun i h r hi hr => ?_⟩
  have hi0 : i = 0 := by have := (List.getElem?_eq_some_iff.1 hi).1; simp at this; exact this
  subst hi0
  obtain rfl : (some (g, 0), 1, 1) = h := by simpa using hi
  obtain rfl : [bsOf a] = r := by simpa using hr
  show OwnR TS w B (.slice (some ⟨g, 0, none⟩) 1 1) [baOf (bsOf a)]
  rw [baC1_bsOf]
  exact own_one TS.ok hB h1 (by rw [e1]; rfl)
/-- what ChainOf has told. -/
def ChnR (is : Bool) (R : List Bs) (e : Ending) (w' : World) : Prop := ∃ v, e = .returned (.tuple #[v, .bool is]) ∧ RecR TS w' 0 v (R.map baOf)
theorem ChnR.mk {is : Bool} {R : List Bs} {w' : World} {v : Value} (h : RecR TS w' 0 v (R.map baOf)) : ChnR is R (.returned (.tuple #[v, .bool is])) w' := ⟨v, rfl, h⟩
set_option maxHeartbeats 16000000 in
set_option maxRecDepth 100000 in
theorem ChainOf_any (ps : List Prt) (l : List Alt) (vp va : Value) (a b : ByteArray) (R : List Bs) (w : World) (h5 : ps.length ≤ 5) (hl2 : l.length ≤ 100000) (h0 : catsF ps l = 0) (hc : CatR w vp va ps l) (ha : bsOf a ∈ keysP ps)
    (hR : bsOf b ∈ reachB ps l (bsOf a) → ∃ f, chainR (nextL l) (bsOf b) f [[bsOf a]] = some R) (hN : bsOf b ∉ reachB ps l (bsOf a) → R = []) :
    Calls Tryz.prog 22 #[.agg #[vp, va], .string a, .string b] w fun e w' => ChnR (decide (bsOf b ∈ reachB ps l (bsOf a))) R e w' ∧ Below w.heap.size w w' := by
  obtain ⟨w1, hw1⟩ : ∃ w1, w1 = w.alloc (.cells #[vp, va] 29) := ⟨_, rfl⟩
  have hA1 : Below w.heap.size w w1 := by rw [hw1]; exact Bl.alloc (Below.refl _ _) _
  have hx0 : w1.heap[w.heap.size]? = some (.cells #[vp, va] 29 (0, 0)) := by rw [hw1]; exact blk_new w _
  have HXC := Lib.hid (show ∀ W, Below w1.heap.size w1 W → W.cell? ⟨w.heap.size, 0, none⟩ = some vp ∧ W.cell? ⟨w.heap.size, 1, none⟩ = some va ∧ w.heap.size < W.heap.size from fun W hW => ⟨blk_cell (blk_below hx0 hW) 0, blk_cell (blk_below hx0 hW) 1, blk_lt (blk_below hx0 hW)⟩)
  have HRE := Lib.hid (reach_any ps l vp va a w1 (by omega) hl2 h0 (hc.low hA1) ha)
  have HDR := Lib.hid fun (k : ByteArray) W (hW : Below w.heap.size w W) => DirectOf_any ps l vp va k W (by omega) h0 (hc.low hW)
  obtain ⟨is, his⟩ : ∃ q, q = decide (bsOf b ∈ reachB ps l (bsOf a)) := ⟨_, rfl⟩
  rw [← his]
  have HIS := Lib.hid his
  have HRR := Lib.hid hR
  have HRN := Lib.hid hN
  have HLR := Lib.hid (reachB_nd h0 ha).2.2
  have HNP := Lib.hid fun p => nextL_ps h0 p
  have HST := Lib.hid fun x => stepC_len h0 h5 x
  have HIN := Lib.hid fun (m : Nat) (L : List (List Bs)) (hL : LvI ps m L) => LvI.next h0 h5 hL
  have HIS2 := Lib.hid fun (m : Nat) (L : List (List Bs)) (hL : LvI ps m L) => LvI.small h5 hL
  have HI0 := Lib.hid (LvI.zero ha)
  obtain ⟨pa, pc, rfl, _, _⟩ := hc.p.form
  obtain ⟨aa, ac, rfl, _, _⟩ := hc.a.form
  have HW1 := Lib.hid hw1
  have HB1 := Lib.hid hA1
  have H5 := Lib.hid h5
  clear hw1 hA1 hc h0 hx0 hR hN ha his h5
  go_enter Tryz.func22, Tryz.ntmps22
  go_wp2_with fail
  rw [← HW1.out]
  refine HRE.out.mono ?_
  rintro e w2 ⟨⟨v2, rfl, hO2⟩, hb2⟩
  have HCT : Hid (Calls Tryz.prog 64 #[v2, .string b] w2 fun e w' => e = .returned (.bool is) ∧ w2 = w') := Lib.hid (by
    have h1 := HasS_any _ v2 b w2 (by rw [List.length_map]; have := HLR.out; have := H5.out; omega) hO2.rec0
    rw [has_mapC, ← HIS.out] at h1
    exact h1)
  have HB2 := Lib.hid (Bl.trans HB1.out hb2)
  have HC2 := Lib.hid hb2
  clear hO2 hb2
  go_wp2_with fail
  refine HCT.out.mono ?_
  rintro e w2' ⟨rfl, rfl⟩
  clear HCT
  cases is
  · have HNN : Hid (R = []) := Lib.hid (HRN.out (of_decide_eq_false HIS.out.symm))
    go_wp2
    go_ret2
    exact ⟨ChnR.mk (by rw [HNN.out]; exact RecR.nil _ _), HB2.out⟩
  · obtain ⟨f, hf⟩ := HRR.out (of_decide_eq_true HIS.out.symm)
    have HF := Lib.hid hf
    obtain ⟨wa, hwa⟩ : ∃ wa, wa = (w2.alloc (.cells #[.string a] 9)).alloc (.cells #[.slice (some ⟨w2.heap.size, 0, none⟩) 1 1] 36) := ⟨_, rfl⟩
    have HOG : Hid (OwnG wa w1.heap.size (.slice (some ⟨w2.heap.size + 1, 0, none⟩) 1 1) [(some (w2.heap.size, 0), 1, 1)] [[bsOf a]]) := Lib.hid (own_row1 HC2.out.size (by rw [hwa]; exact blk_old (blk_new w2 _) _) rfl (by rw [hwa]; exact blk_new' _ _ (by simp)))
    have HBA : Hid (Below w1.heap.size w1 wa) := Lib.hid (by rw [hwa]; exact Bl.alloc (Bl.alloc HC2.out _) _)
    have HWA := Lib.hid hwa
    clear hf hwa
    go_wp2_with fail
    rw [← HWA.out]
    go_loopg [8] f (fun gk v wr => ∃ (m : Nat) (hs : List Hdr) (L : List (List Bs)), Hid (chainR (nextL l) (bsOf b) gk L = some R) ∧ Hid (LvI ps m L) ∧ Hid (OwnG wr w1.heap.size v hs L) ∧ Hid (Below w1.heap.size w1 wr))
    case atStart => exact ⟨0, _, _, HF, HI0, HOG, HBA⟩
    case round =>
      obtain ⟨m, hs, L, HCR, HLI, HG, HB⟩ := hrel
      obtain ⟨wo, rfl⟩ : ∃ wo : World, wo = wr := ⟨_, rfl⟩
      obtain ⟨va8, vc8, rfl⟩ := HG.out.formE
      have hn5 := HIS2.out m L HLI.out
      obtain ⟨n, hn⟩ : ∃ n, n = L.length := ⟨_, rfl⟩
      rw [← hn] at HG hn5
      rw [← hn]
      have HN := Lib.hid hn
      have HBO := Lib.hid (Bl.trans HB1.out HB.out)
      clear hn
      go_wp2_with fail
      go_loopw [9, 26] (fun nv i wr => ∃ (j : Nat) (nh : List Hdr) (N : List (List Bs)), j ≤ n ∧ i = .int .i64 j ∧ Hid (NoEnd (bsOf b) (L.take j)) ∧ Hid (N = (L.take j).flatMap (stepC (nextL l))) ∧ Hid (OwnG wr wo.heap.size nv nh N) ∧ Hid (Below wo.heap.size wo wr)) (fun _ i _ => n - (intOf i).toNat)
      case atStart => exact ⟨0, [], [], Nat.zero_le _, rfl, Lib.hid (fun x hx => by simp at hx), Lib.hid (by simp), Lib.hid (OwnG.nil _ _), Lib.hid (Below.refl _ _)⟩
      case round =>
        obtain ⟨j, nh, N, hj, rfl, HNE, HNN, HNG, HBI⟩ := hrel
        by_cases hlt : j < n
        · have hjL : j < L.length := by have := HN.out; omega
          obtain ⟨x, hx⟩ : ∃ x, L[j]? = some x := ⟨_, List.getElem?_eq_getElem hjL⟩
          obtain ⟨hd, hhd⟩ := HG.out.hdrE hjL
          obtain ⟨hxl, hxn, hxk⟩ := HLI.out.one x (List.mem_of_getElem? hx)
          obtain ⟨b2, o2, rfl, _, c8, hrow⟩ := hdrE_at (HG.out.low HBI.out) hhd hx
          have HXR : Hid (∀ W, Below wo.heap.size wo W → RecR TS W 0 (hdrV hd) (x.map baOf)) := Lib.hid fun W hW => by
            obtain ⟨_, _, _, _, _, h⟩ := hdrE_at (HG.out.low hW) hhd hx
            exact h
          obtain ⟨xa, xc, hxv, _, _⟩ := hrow.form
          obtain ⟨mm, hmm⟩ : ∃ mm, mm = m + 1 := ⟨_, rfl⟩
          rw [List.length_map, hxl, ← hmm] at hxv
          rw [hxv] at HXR c8 hrow
          have hlg := lastB_get hxl
          obtain ⟨b3, o3, rfl, _, _, c9⟩ := str_at hrow (show (x.map baOf)[m]? = some (baOf (lastB x)) by rw [List.getElem?_map, hlg]; rfl)
          have hm5 : mm ≤ 5 := by have h1 := few_keys hxn hxk; rw [hxl, ← hmm] at h1; have := H5.out; omega
          have hm1 : IntKind.i64.wrap ((mm : Int) - 1) = (m : Int) := by rw [IntWalk.i64_in _ (by omega)]; omega
          have hmi : (m : Int) < (mm : Int) := by omega
          have hm0 : (0 : Int) ≤ (m : Int) := by omega
          have HX := Lib.hid hx
          have HXL : Hid ((x.map baOf).length ≤ 100000) := Lib.hid (by rw [List.length_map, hxl]; omega)
          have HBW := Lib.hid (Bl.trans HBO.out HBI.out)
          have HDC := Lib.hid (HDR.out (baOf (lastB x)) wr HBW.out)
          have hadd : IntKind.i64.wrap ((j : Int) + 1) = ((j + 1 : Nat) : Int) := by rw [IntWalk.i64_in _ (by omega)]; omega
          obtain ⟨la, hla⟩ : ∃ la, la = baOf (lastB x) := ⟨_, rfl⟩
          rw [← hla] at c9 HDC
          have HLA := Lib.hid hla
          have HBE := Lib.hid (Bl.trans HB1.out (Bl.trans HB.out HBI.out))
          obtain ⟨q0, q1, lC⟩ := HXC.out wr (Bl.trans HB.out HBI.out)
          clear hx hhd hxl hxn hxk hrow hxv hlg hmm hla hjL
          by_cases hlb : lastB x = bsOf b
          · have heq : (la.toList == b.toList) = true := by rw [HLA.out, hlb, baC1_bsOf]; simp
            have HXE : Hid (x = R) := Lib.hid (chain_hit HCR.out HNE.out HX.out hlb)
            have HRW := Lib.hid (HXR.out wr HBI.out)
            clear hlb
            go_wp2
            go_ret2
            exact ⟨ChnR.mk (by rw [← HXE.out]; exact HRW.out), HBE.out⟩
          · have heq : (la.toList == b.toList) = false := by
              rw [beq_eq_false_iff_ne]
              intro e
              have := ba_inj e
              rw [HLA.out] at this
              exact hlb (by rw [← this, bsOf_baOf])
            have HNE2 : Hid (NoEnd (bsOf b) (L.take (j + 1))) := Lib.hid (HNE.out.snoc HX.out hlb)
            clear hlb
            go_wp2_with fail
            refine HDC.out.mono ?_
            rintro e w4 ⟨⟨v4, rfl, hO4⟩, hb4⟩
            rw [HLA.out, bsOf_baOf] at hO4
            obtain ⟨da, dc, hdv, _, _⟩ := hO4.form
            obtain ⟨dn, hdn⟩ : ∃ dn, dn = (nextL l (lastB x)).length := ⟨_, rfl⟩
            rw [List.length_map, ← hdn] at hdv
            subst hdv
            have hdb : dn ≤ 5 := by have := HNP.out (lastB x); have := H5.out; omega
            have HDN := Lib.hid hdn
            have HO4 := Lib.hid (hO4.base HBI.out.size)
            have HNG4 := Lib.hid (HNG.out.low hb4)
            have HB4 := Lib.hid (Bl.trans HBI.out hb4)
            clear hdn hO4 hb4 c8 c9 q0 q1 HDC
            go_wp2_with fail
            clear hm1 hmi hm0
            go_loopw [9, 44] (fun nv i wr => ∃ (k : Nat) (nh : List Hdr) (N : List (List Bs)), k ≤ dn ∧ i = .int .i64 k ∧ Hid (N = (L.take j).flatMap (stepC (nextL l)) ++ stepK (nextL l) k x) ∧ Hid (OwnG wr wo.heap.size nv nh N) ∧ Hid (OwnR TS wr wo.heap.size (.slice da dn dc) ((nextL l (lastB x)).map baOf)) ∧ Hid (Below wo.heap.size wo wr)) (fun _ i _ => dn - (intOf i).toNat)
            case atStart => exact ⟨0, nh, N, Nat.zero_le _, rfl, Lib.hid (by rw [stepK_zero, List.append_nil]; exact HNN.out), HNG4, HO4, HB4⟩
            case round =>
              obtain ⟨k, nh, N, hk, rfl, HNK, HGK, HDK, HBK⟩ := hrel
              have HNL : Hid (nh.length ≤ 100000) := Lib.hid (by
                rw [HGK.out.len, HNK.out, List.length_append]
                have h1 := flat_lenC (L := L.take j) HST.out
                have h2 := stepK_len (nextL l) k x
                have h3 := HDN.out
                rw [List.length_take] at h1
                have h4 : min j L.length ≤ 625 := by omega
                have h6 : min j L.length * 5 ≤ 625 * 5 := Nat.mul_le_mul_right _ h4
                omega)
              by_cases hlt2 : k < dn
              · obtain ⟨s, hs⟩ : ∃ s, (nextL l (lastB x))[k]? = some s := ⟨_, List.getElem?_eq_getElem (by have := HDN.out; omega)⟩
                obtain ⟨b5, o5, rfl, _, _, c5⟩ := str_at HDK.out.rec0 (show ((nextL l (lastB x)).map baOf)[k]? = some (baOf s) by rw [List.getElem?_map, hs]; rfl)
                have hrw := HXR.out wr HBK.out
                have HCT := HasS_any (x.map baOf) _ (baOf s) wr HXL.out hrw
                rw [has_mapC, bsOf_baOf] at HCT
                have HS := Lib.hid hs
                have hadd2 : IntKind.i64.wrap ((k : Int) + 1) = ((k + 1 : Nat) : Int) := by rw [IntWalk.i64_in _ (by omega)]; omega
                have HRW := Lib.hid hrw
                clear hs hrw
                by_cases hsx : s ∈ x
                · rw [decide_eq_true hsx] at HCT
                  have HNK2 : Hid (N = (L.take j).flatMap (stepC (nextL l)) ++ stepK (nextL l) (k + 1) x) := Lib.hid (by rw [stepK_in HS.out hsx]; exact HNK.out)
                  have HCT2 := Lib.hid HCT
                  clear HCT hsx
                  go_wp2_with fail
                  refine HCT2.out.mono ?_
                  rintro e w5 ⟨rfl, rfl⟩
                  go_wp2
                  go_roundw
                  case rel => exact ⟨k + 1, nh, N, by omega, by go_num, HNK2, HGK, HDK, HBK⟩
                  case measure => simp [intOf]; omega
                · rw [decide_eq_false hsx] at HCT
                  have HNK2 : Hid (N ++ [x ++ [s]] = (L.take j).flatMap (stepC (nextL l)) ++ stepK (nextL l) (k + 1) x) := Lib.hid (by rw [stepK_out HS.out hsx, HNK.out, List.append_assoc])
                  have HCT2 := Lib.hid HCT
                  have HCL := Lib.hid (CloneC_any (x.map baOf) _ wr HXL.out HRW.out)
                  have hzz : wo.heap.size ≤ wr.heap.size := HBK.out.size
                  have HSX : Hid (x.map baOf ++ [baOf s] = (x ++ [s]).map baOf) := Lib.hid (by rw [List.map_append]; rfl)
                  obtain ⟨sb, hsb⟩ : ∃ q, q = baOf s := ⟨_, rfl⟩
                  rw [← hsb] at HSX c5 HCT2
                  clear HCT hsx hsb
                  go_wp2_with fail
                  refine HCT2.out.mono ?_
                  rintro e w5 ⟨rfl, rfl⟩
                  clear HCT2
                  go_wp2_with fail
                  refine HCL.out.mono ?_
                  rintro e w5 ⟨v5, rfl, hO5, hb5⟩
                  have HO5 := Lib.hid hO5
                  have HB5 := Lib.hid hb5
                  have hz5 := hb5.size
                  clear hO5 hb5 c5
                  go_wp2_with (at_builtin; refine wp_app_r TS.ok rfl _ _ rfl wr.heap.size _ (x.map baOf) rfl (HO5.out.alloc _) w5.heap.size 1 sb rfl (blk_new w5 _) rfl (Nat.le_trans HXL.out (by decide)) (by simp; omega) ?_)
                  intro v6 w6 hO6 hg6 _
                  rw [HSX.out] at hO6
                  have HB6 : Hid (Below wr.heap.size wr w6) := Lib.hid (Below.trans (Bl.alloc HB5.out _) (app_belowR (HO5.out.alloc (.cells #[.string sb] 9)) hg6 (by simp; omega)))
                  obtain ⟨ga6, gc6, hv6, _, _⟩ := hO6.form
                  obtain ⟨gn6, hgn6⟩ : ∃ q, q = ((x ++ [s]).map baOf).length := ⟨_, rfl⟩
                  rw [← hgn6] at hv6
                  subst hv6
                  obtain ⟨hd6, hhd6⟩ := hdr_ofR hO6
                  have HHD6 := Lib.hid hhd6
                  have HO6 := Lib.hid (hO6.base hzz)
                  have HG6 := Lib.hid (HGK.out.low HB6.out)
                  have HD6 := Lib.hid (HDK.out.below HB6.out)
                  have hz6 := HB6.out.size
                  clear hO6 hg6 hhd6 hgn6
                  go_wp2_with (at_builtin; refine wp_app_r THs.ok rfl _ _ rfl wo.heap.size _ nh rfl (HG6.out.own.alloc _) w6.heap.size 1 hd6 rfl (blk_new w6 _) (by rw [HHD6.out]; rfl) (Nat.le_trans HNL.out (by decide)) (by simp; omega) ?_)
                  intro v7 w7 hO7 hg7 _
                  have hGA := HG6.out.low (Bl.alloc (Below.refl w6.heap.size w6) (.cells #[.slice ga6 gn6 gc6] 36))
                  have HG7 : Hid (OwnG w7 wo.heap.size v7 (nh ++ [hd6]) (N ++ [x ++ [s]])) := Lib.hid (hGA.snoc hg7 hO7 (by rw [← HHD6.out]; exact HO6.out.alloc _))
                  have HD7 : Hid (OwnR TS w7 wo.heap.size (.slice (some ⟨b5, o5, none⟩) dn dc) ((nextL l (lastB x)).map baOf)) := Lib.hid (ownR_off (HD6.out.alloc (.cells #[.slice ga6 gn6 gc6] 36)) hGA.own (by decide) hg7)
                  have HB7 : Hid (Below wo.heap.size wo w7) := Lib.hid (Below.trans (Bl.alloc (Bl.trans HBK.out HB6.out) _) (app_belowR hGA.own hg7 (by simp; omega)))
                  clear hO7 hg7 hGA
                  go_wp2
                  go_roundw
                  case rel => exact ⟨k + 1, _, _, by omega, by go_num, HNK2, HG7, HD7, HB7⟩
                  case measure => simp [intOf]; omega
              · obtain rfl : k = dn := by omega
                have HNF : Hid (N = (L.take (j + 1)).flatMap (stepC (nextL l))) := Lib.hid (by rw [flat_snoc HX.out, HNK.out, stepK_all (by rw [← HDN.out]; exact Nat.le_refl _)])
                go_wp2
                go_roundw
                case rel => exact ⟨j + 1, nh, N, by omega, by go_num, HNE2, HNF, HGK, HBK⟩
                case measure => simp [intOf]; omega
        · obtain rfl : j = n := by omega
          have hnt : L.take j = L := by rw [HN.out, List.take_length]
          rw [hnt] at HNE HNN
          obtain ⟨g, hgl, hgr⟩ := chain_none HCR.out HNE.out
          have HGR := Lib.hid hgr
          have HGF : Hid (OwnG wr w1.heap.size _ nh (L.flatMap (stepC (nextL l)))) := Lib.hid (by have := HNG.out.base HB.out.size; rw [HNN.out] at this; exact this)
          have HIF := Lib.hid (HIN.out m L HLI.out)
          have HBF := Lib.hid (Bl.trans HB.out HBI.out)
          clear hgr hnt
          go_wp2
          go_roundg g
          case rel => exact ⟨m + 1, nh, _, HGR, HIF, HGF, HBF⟩
          case measure => exact hgl
end Go.Proofs.YteojmljggoplkaaGreatDoor
