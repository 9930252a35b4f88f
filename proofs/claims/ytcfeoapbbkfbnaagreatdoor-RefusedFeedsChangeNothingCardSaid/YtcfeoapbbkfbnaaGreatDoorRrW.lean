/- The walk of RefusedFeedsChangeNothing: whatever the input: true. No conditions. -/
import Derived.Test.YtcfeoapbbkfbnaaGreatDoorRh3
import Derived.Test.YtcfeoapbbkfbnaaGreatDoorRh5
import Derived.Test.YtcfeoapbbkfbnaaGreatDoorRh6
import Derived.Test.YtcfeoapbbkfbnaaGreatDoorReady2
import Derived.Test.YtcfeoapbbkfbnaaGreatDoorStart
namespace Go.Proofs.YtcfeoapbbkfbnaaGreatDoor
open Go.RowKit Go.Sort Go.Maps

theorem HasNq_any (zs : List Int) (v : Value) (lo : Nat) (x : Int) (W : World) (h : RecR TNq W lo v zs) (hz : zs.length ≤ 1000000) :
    Calls Tryz.prog 46 #[v, .int .i64 x] W fun e w' => e = .returned (.bool (zs.contains x)) ∧ W = w' := by
  obtain ⟨a, c, rfl, _, _⟩ := h.form
  by_cases h0 : zs = []
  · subst h0
    exact (Tryz.slices_Contains_int_empty a c x W).mono fun e w' ⟨h1, h2⟩ => ⟨h1, h2.symm⟩
  · obtain ⟨z, hz0⟩ : ∃ z, zs[0]? = some z := ⟨_, List.getElem?_eq_getElem (List.length_pos_iff.2 h0)⟩
    obtain ⟨b, o, rfl, _, _, _⟩ := h.at TNq.ok.len hz0 TNq.ok.pos
    have := Tryz.slices_Contains_int b o zs.length c zs x W (Nat.le_refl _) (by omega) (fun j hj => by
      obtain ⟨b', o', e, _, _, hc⟩ := h.at TNq.ok.len (List.getElem?_eq_getElem hj) TNq.ok.pos
      injection e with e
      injection e with e1 e2
      subst e1; subst e2
      have := hc 0 _ rfl
      rw [List.getD_eq_getElem?_getD, List.getElem?_eq_getElem hj]
      simpa [TNq] using this)
    rw [List.take_length] at this
    exact this.mono fun e w' ⟨h1, h2⟩ => ⟨h1, h2.symm⟩
theorem ask_r0 (F : Int) (h : F = 0) : askF F (keyB ⟨#[102, 49]⟩) (inB 0 345686399999 345686399999) 5 = 0 := by rw [h]; decide
def u12 : List ByteArray := [⟨#[117, 49]⟩, ⟨#[117, 50]⟩]
theorem u12_ask {b : ByteArray} (h : b ∈ u12) (F : Int) (h0 : F = 0) : askF F (keyB b) true 5 = 0 ∧ b.size ≤ 140737488355328 := by
  rw [h0]
  simp only [u12, List.mem_cons, List.not_mem_nil, or_false] at h
  rcases h with rfl | rfl <;> exact ⟨by decide, by decide⟩
theorem refsM_len (at' : Int) : ∀ (l : List Fed) (A : Mdl) (k : Nat), (refsM at' A k l).length ≤ l.length
  | [], _, _ => Nat.le_refl _
  | e :: l, A, k => by
    rw [refsM]
    split
    · exact Nat.le_succ_of_le (refsM_len at' l _ _)
    · split
      · exact Nat.le_succ_of_le (refsM_len at' l _ _)
      · exact Nat.succ_le_succ (refsM_len at' l _ _)
theorem refsF_len (rs : List Rel) (l : List Fed) : (refsF rs l).length ≤ l.length := by
  unfold refsF
  split
  · exact refsM_len _ _ _ _
  · exact Nat.zero_le _
theorem refsF_ok {rs : List Rel} {l : List Fed} (h : feedsF rs l = 0) : refsF rs l = refsM 345686400000 (newM rs) 0 l := by unfold refsF; rw [if_pos h]
/-- what is the same without the refused events. -/
structure RefG (rs : List Rel) (fs g : List Fed) : Prop where
  f0 : feedsF rs g = 0
  no : refsF rs g = []
  tr : ∀ b, traceM rs g b = traceM rs fs b
  fd : ∀ f, feederM rs g 345686399999 f = feederM rs fs 345686399999 f
theorem refG {rs : List Rel} {fs : List Fed} (h : feedsF rs fs = 0) : RefG rs fs (goodI ((refsF rs fs).map (·.1)) 0 fs) := by
  have hok := feedsF_right h
  have hsub := goodI_sub ((refsF rs fs).map (·.1)) fs 0
  have h0 := feedsF_sub hsub h
  have hat : ∀ e ∈ fs, ¬ (345686400000 : Int) < e.at := fun e he => by have := hok.t e he; omega
  have hat2 : ∀ e ∈ fs, ¬ (345686399999 : Int) < e.at := fun e he => by have := hok.t e he; omega
  have hr := refsF_ok h
  obtain ⟨h1, h2⟩ := refused_same hat (g := goodI ((refsF rs fs).map (·.1)) 0 fs) (by rw [hr])
  refine ⟨h0, (refsF_ok h0).trans h2, fun b => (orgL_sim h1.log b).symm, fun f => ?_⟩
  unfold feederM
  rw [runM_same (a := 345686399999) (b := 345686400000) _ _ _ (fun e he => hat2 e (hsub.subset he)) (fun e he => hat e (hsub.subset he)), runM_same (a := 345686399999) (b := 345686400000) fs _ _ hat2 hat, h1.left, h1.row]
set_option maxHeartbeats 8000000 in
set_option maxRecDepth 100000 in
theorem RefusedFeedsChangeNothing_any (l : List Int) (v : Value) (w : World) (rl : Ints w 0 v l) (hl : ∀ x ∈ l, -9223372036854775808 ≤ x ∧ x ≤ 9223372036854775807) :
    Calls Tryz.prog 5 #[v] w fun e w' => e = .returned (.bool true) ∧ Below w.heap.size w w' := by
  obtain ⟨va, cap, rfl, hc1, hc2⟩ := Ints.form rl
  have hs0 := Str.begin rl hl
  have hb0 := Bl.alloc (Below.refl w.heap.size w) (.cells #[.slice va l.length cap, .int .i64 0] 25)
  clear rl hl
  go_enter Tryz.func5, Tryz.ntmps5
  go_wp2_with fail
  refine (RightFeeds_any _ 0 _ hs0 (by omega)).mono ?_
  rintro e w1 ⟨vr, rs, vf, fs, rfl, hR1, hF1, hr4, hf15, hrk, hfk, hz, hs1, hg1⟩
  have HB1 := Lib.hid (Below.trans hb0 (Gr.below hg1 (Nat.le_refl _) hb0.size))
  have hR1 := hR1.rec0
  have hF1 := hF1.rec0
  obtain ⟨ra, rc, rfl, _, _⟩ := hR1.form
  obtain ⟨fa, fc, rfl, _, _⟩ := hF1.form
  have HR := Lib.hid (fun W (hW : Below w1.heap.size w1 W) => hR1.below hW)
  have HF := Lib.hid (fun W (hW : Below w1.heap.size w1 W) => hF1.below hW)
  have HRZ := Lib.hid (RelOk.z hrk)
  have HFZ := Lib.hid (FedOk.z hfk)
  have HZ := Lib.hid hz
  have hn1 : rs.length ≤ 1000000 := by omega
  have hn2 : fs.length ≤ 900 := by omega
  have HN := Lib.hid (And.intro hn1 (And.intro hn2 (show fs.length ≤ 1000000 by omega)))
  have HOK := Lib.hid (feedsF_right hz)
  have HRG := Lib.hid (refG hz)
  clear hs0 hb0 hR1 hF1 hr4 hf15 hrk hfk hz hs1 hg1 hn1 hn2
  have HRE := Lib.hid (RefusedR_any rs fs _ _ w1 HN.out.1 HN.out.2.1 (HR.out w1 (Below.refl _ _)) (HF.out w1 (Below.refl _ _)) HRZ.out HFZ.out)
  rw [HZ.out] at HRE
  obtain ⟨bad, hbad⟩ : ∃ q, q = (refsF rs fs).map (·.1) := ⟨_, rfl⟩
  obtain ⟨why, hwhy⟩ : ∃ q, q = (refsF rs fs).map (·.2) := ⟨_, rfl⟩
  obtain ⟨m, hm⟩ : ∃ q, q = bad.length := ⟨_, rfl⟩
  have hm2 : m = why.length := by rw [hm, hbad, hwhy, List.length_map, List.length_map]
  have hmz : m ≤ 1000000 := by
    rw [hm, hbad, List.length_map]
    have := refsF_len rs fs
    have := HN.out.2.2
    omega
  rw [← hbad, ← hwhy] at HRE
  rw [← hbad] at HRG
  go_wp2_with fail
  refine HRE.out.mono ?_
  rintro e w2 ⟨ov, wv, rfl, hO2, hW2, hb2⟩
  obtain ⟨oa, oc, hov, _, _⟩ := hO2.form
  obtain ⟨wa, wc', hwv, _, _⟩ := hW2.form
  rw [← hm] at hov
  rw [← hm2] at hwv
  subst hov hwv
  have HBAD := Lib.hid (fun W (hW : Below w2.heap.size w2 W) (x : Int) => HasNq_any bad (.slice oa m oc) 0 x W (hO2.rec0.below hW) (by omega))
  have HB2 := Lib.hid hb2
  have HMM := Lib.hid (And.intro hm hm2)
  clear hO2 hW2 hb2 hbad hwhy hm hm2 HRE
  go_wp2_with fail
  go_loopw [9, 49] (fun gv i wr => ∃ k : Nat, k ≤ fs.length ∧ i = .int .i64 k ∧ Hid (OwnR TFe wr w2.heap.size gv (goodI bad 0 (fs.take k))) ∧ Hid (Below w2.heap.size w2 wr)) (fun _ i _ => fs.length - (intOf i).toNat)
  case atStart => exact ⟨0, Nat.zero_le _, rfl, Lib.hid (OwnR.nil _ _), Lib.hid (Below.refl _ _)⟩
  case round =>
    obtain ⟨k, hk, rfl, hG, HB⟩ := hrel
    by_cases hlt : k < fs.length
    case pos =>
      obtain ⟨x, hx⟩ : ∃ z, fs[k]? = some z := ⟨_, List.getElem?_eq_getElem hlt⟩
      have HSN : Hid (goodI bad 0 (fs.take (k + 1)) = goodI bad 0 (fs.take k) ++ (if (k : Int) ∈ bad then [] else [x])) := Lib.hid (by
        rw [List.take_add_one, hx, Option.toList_some, goodI_snoc, Nat.zero_add, List.length_take, Nat.min_eq_left (by omega)])
      have hgl : (goodI bad 0 (fs.take k)).length ≤ 1000000 := by
        have h1 := (goodI_sub bad (fs.take k) 0).length_le
        have h2 := HN.out.2.2
        rw [List.length_take] at h1
        omega
      obtain ⟨b1, o1, hae, _, hb1', hc1'⟩ := (HF.out wr (HB2.out.trans (HB.out.mono HB2.out.size))).at TFe.ok.len hx TFe.ok.pos
      subst hae
      obtain ⟨xa, kd, fd, rk, mn, bd⟩ := x
      have c0 : wr.cell? ⟨b1, o1 + k * 6, none⟩ = some (.int .i64 xa) := hc1' 0 _ rfl
      have c1 : wr.cell? ⟨b1, o1 + k * 6 + 1, none⟩ = some (.int .i64 kd) := hc1' 1 _ rfl
      have c2 : wr.cell? ⟨b1, o1 + k * 6 + 2, none⟩ = some (.string fd) := hc1' 2 _ rfl
      have c3 : wr.cell? ⟨b1, o1 + k * 6 + 3, none⟩ = some (.string rk) := hc1' 3 _ rfl
      have c4 : wr.cell? ⟨b1, o1 + k * 6 + 4, none⟩ = some (.int .i64 mn) := hc1' 4 _ rfl
      have c5 : wr.cell? ⟨b1, o1 + k * 6 + 5, none⟩ = some (.string bd) := hc1' 5 _ rfl
      have hw1 : IntKind.i64.wrap ((k : Int) + 1) = ((k + 1 : Nat) : Int) := by have := HN.out.2.2; rw [IntWalk.i64_in _ (by omega)]; omega
      obtain ⟨w5, hw5⟩ : ∃ w5, w5 = wr.alloc (.cells #[.int .i64 xa, .int .i64 kd, .string fd, .string rk, .int .i64 mn, .string bd] 76) := ⟨_, rfl⟩
      have hb5 : Below wr.heap.size wr w5 := by rw [hw5]; exact Bl.alloc (Below.refl _ _) _
      have hX5 : w5.heap[wr.heap.size]? = some (.cells #[.int .i64 xa, .int .i64 kd, .string fd, .string rk, .int .i64 mn, .string bd] 76 (0, 0)) := by rw [hw5]; exact blk_new wr _
      have hG5 := hG.out.below hb5
      have HB5 := Lib.hid (HB.out.trans (hb5.mono HB.out.size))
      have hsz := HB.out.size
      obtain ⟨go, gc, rfl, _, _⟩ := hG.out.form
      have HHA := Lib.hid (HBAD.out w5 HB5.out (k : Int))
      clear hx hc1' hb5
      by_cases hmem : (k : Int) ∈ bad
      case pos =>
        rw [if_pos hmem, List.append_nil] at HSN
        have hct : bad.contains (k : Int) = true := by simpa using hmem
        rw [hct] at HHA
        have HG5 := Lib.hid hG5
        clear hmem hct hG5 hG
        go_wp2_with fail
        rw [← hw5]
        refine HHA.out.mono ?_
        rintro e w' ⟨rfl, rfl⟩
        clear hw5
        go_wp2
        go_roundw
        case rel => exact ⟨k + 1, by omega, by go_num, Lib.hid (by rw [HSN.out]; exact HG5.out), HB5⟩
        case measure => simp [intOf]; omega
      case neg =>
        rw [if_neg hmem] at HSN
        have hct : bad.contains (k : Int) = false := by simpa using hmem
        rw [hct] at HHA
        clear hmem hct
        have y0 := blk_cell hX5 0
        have y1 := blk_cell hX5 1
        have y2 := blk_cell hX5 2
        have y3 := blk_cell hX5 3
        have y4 := blk_cell hX5 4
        have y5 := blk_cell hX5 5
        simp at y0 y1 y2 y3 y4 y5
        have hz5 := blk_lt hX5
        go_wp2_with fail
        rw [← hw5]
        refine HHA.out.mono ?_
        rintro e w' ⟨rfl, rfl⟩
        clear hw5
        go_wp2_with (at_builtin; refine wp_app_rec TFe.ok rfl _ _ rfl w2.heap.size _ (goodI bad 0 (fs.take k)) rfl (hG5.alloc _) w5.heap.size 1 (xa, kd, fd, rk, mn, bd) rfl (blk_new w5 _) rfl hgl (by simp; omega) ?_)
        intro v9 w9 hO9 hA9 hb9
        have HO9 := Lib.hid hO9
        have HB9 := Lib.hid ((Bl.alloc HB5.out _).trans hb9)
        clear hO9 hA9 hb9
        go_wp2
        go_roundw
        case rel => exact ⟨k + 1, by omega, by go_num, Lib.hid (by rw [HSN.out]; exact HO9.out), HB9⟩
        case measure => simp [intOf]; omega
    case neg =>
      obtain rfl : k = fs.length := by omega
      rw [List.take_length] at hG
      obtain ⟨g, hgq⟩ : ∃ g, g = goodI bad 0 fs := ⟨_, rfl⟩
      rw [← hgq] at hG HRG
      have HGL : Hid (g.length ≤ 900) := Lib.hid (by rw [hgq]; have := (goodI_sub bad fs 0).length_le; have := HN.out.2.1; omega)
      have HGZ : Hid (FedZ g) := Lib.hid (by rw [hgq]; exact fun x hx => HFZ.out x ((goodI_sub bad fs 0).subset hx))
      obtain ⟨ga, gc, hgv, _, _⟩ := hG.out.form
      subst hgv
      have HG := Lib.hid (fun W (hW : Below wr.heap.size wr W) => hG.out.rec0.below hW)
      have HB3 := Lib.hid (HB2.out.trans (HB.out.mono HB2.out.size))
      clear hG HB hgq HBAD
      generalize wr = w3 at *
      have HRF := Lib.hid (fun W (hW : Below w3.heap.size w3 W) => HR.out W (HB3.out.trans (hW.mono HB3.out.size)))
      have HFF := Lib.hid (fun W (hW : Below w3.heap.size w3 W) => HF.out W (HB3.out.trans (hW.mono HB3.out.size)))
      have HB3 := Lib.hid (HB1.out.trans (HB3.out.mono HB1.out.size))
      clear HR HF HB2 HB1
      have HRE := Lib.hid (RefusedR_any rs g _ _ w3 HN.out.1 HGL.out (HRF.out w3 (Below.refl _ _)) (HG.out w3 (Below.refl _ _)) HRZ.out HGZ.out)
      rw [HRG.out.f0, HRG.out.no] at HRE
      go_wp2_with fail
      refine HRE.out.mono ?_
      rintro e w4 ⟨nv, nw, rfl, hO4, hW4, hb4⟩
      obtain ⟨na, nc, rfl, _, _⟩ := hO4.form
      obtain ⟨ma, mc, rfl, _, _⟩ := hW4.form
      have HB4 := Lib.hid hb4
      clear hO4 hW4 hb4 HRE
      go_wp2_with fail
      obtain ⟨w5, hw5⟩ : ∃ w5, w5 = w4.alloc (.cells #[.string ⟨#[117, 49]⟩, .string ⟨#[117, 50]⟩] 9) := ⟨_, rfl⟩
      have hb5 : Below w4.heap.size w4 w5 := by rw [hw5]; exact Bl.alloc (Below.refl _ _) _
      have HX5 := Lib.hid (show w5.heap[w4.heap.size]? = some (.cells #[.string ⟨#[117, 49]⟩, .string ⟨#[117, 50]⟩] 9 (0, 0)) by rw [hw5]; exact blk_new w4 _)
      have HB5 := Lib.hid (Bl.trans HB4.out hb5)
      clear hb5 HB4
      rw [← hw5]
      clear hw5
      go_loopw [79] (fun i wr => ∃ k : Nat, k ≤ 2 ∧ i = .int .i64 k ∧ Hid (Below w5.heap.size w5 wr)) (fun i _ => 2 - (intOf i).toNat)
      case atStart => exact ⟨0, by omega, rfl, Lib.hid (Below.refl _ _)⟩
      case round =>
        obtain ⟨k, hk, rfl, HB⟩ := hrel
        by_cases hlt : k < 2
        case pos =>
          obtain ⟨b, hc, hbu⟩ : ∃ b, wr.cell? ⟨w4.heap.size, k, none⟩ = some (.string b) ∧ b ∈ u12 := by
            have h5 := blk_below HX5.out HB.out
            have hk' : k = 0 ∨ k = 1 := by omega
            rcases hk' with rfl | rfl
            · exact ⟨_, blk_cell h5 0, by simp [u12]⟩
            · exact ⟨_, blk_cell h5 1, by simp [u12]⟩
          have hlt4 : w4.heap.size < wr.heap.size := blk_lt (blk_below HX5.out HB.out)
          have hw1 : IntKind.i64.wrap ((k : Int) + 1) = ((k + 1 : Nat) : Int) := by rw [IntWalk.i64_in _ (by omega)]; omega
          have HBU := Lib.hid hbu
          obtain ⟨T, hT⟩ : ∃ q, q = traceM rs fs b := ⟨_, rfl⟩
          have HT : Hid (T.length ≤ 1000000) := Lib.hid (by
            rw [hT]
            exact traceM_few (by have := runM_inv (at' := 345686400000) fs (newM rs) 0 0 (newM_inv fun r hr => (HOK.out.rz r hr).2) HOK.out.lz; rwa [Nat.zero_add] at this) HN.out.2.1)
          have HB3r := Lib.hid (Bl.trans HB5.out HB.out)
          have HT1 := Lib.hid (fun W (hW : Below w3.heap.size w3 W) => Trace_any rs fs b _ _ W HN.out.1 HN.out.2.1 (HRF.out W hW) (HFF.out W hW) HRZ.out HFZ.out (u12_ask HBU.out 0 rfl).2)
          rw [(u12_ask HBU.out _ HZ.out).1, if_pos rfl, ← hT] at HT1
          have HT2 := Lib.hid (fun W (hW : Below w3.heap.size w3 W) => Trace_any rs g b _ _ W HN.out.1 HGL.out (HRF.out W hW) (HG.out W hW) HRZ.out HGZ.out (u12_ask HBU.out 0 rfl).2)
          rw [(u12_ask HBU.out _ HRG.out.f0).1, if_pos rfl, HRG.out.tr, ← hT] at HT2
          clear hbu hT
          go_wp2_with fail
          refine (HT1.out wr HB3r.out).mono ?_
          rintro e w6 ⟨⟨x6, rfl, hx6⟩, hb6⟩
          obtain ⟨xa, xc, rfl, _, _⟩ := hx6.form
          have HX6 := Lib.hid hx6.rec0
          have HB6 := Lib.hid (Bl.trans HB3r.out hb6)
          have HBr6 := Lib.hid (Bl.trans HB.out hb6)
          clear hx6 hb6 HT1
          go_wp2_with fail
          refine (HT2.out w6 HB6.out).mono ?_
          rintro e w7 ⟨⟨x7, rfl, hx7⟩, hb7⟩
          obtain ⟨ya, yc, rfl, _, _⟩ := hx7.form
          have HX7 := Lib.hid (And.intro (HX6.out.below hb7) hx7.rec0)
          have HB7 := Lib.hid (Bl.trans HBr6.out hb7)
          clear hx7 hb7 HT2 HX6
          have HEQ := EqualOr_any T T (.slice xa T.length xc) (.slice ya T.length yc) w7 HT.out HT.out HX7.out.1 HX7.out.2
          rw [decide_eq_true rfl] at HEQ
          have HEQ := Lib.hid HEQ
          go_wp2_with fail
          refine HEQ.out.mono ?_
          rintro e w8 ⟨rfl, hb8⟩
          have HB8 := Lib.hid (Bl.trans HB7.out hb8)
          clear hb8 HEQ
          go_wp2
          go_roundw
          case rel => exact ⟨k + 1, by omega, by go_num, HB8⟩
          case measure => simp [intOf]; omega
        case neg =>
          obtain rfl : k = 2 := by omega
          have HB9 := Lib.hid (Bl.trans HB5.out HB.out)
          clear HB HX5 HB5
          generalize wr = w6 at *
          obtain ⟨T, hT⟩ : ∃ q, q = feederM rs fs 345686399999 ⟨#[102, 49]⟩ := ⟨_, rfl⟩
          have HT : Hid (T.length ≤ 1000) := Lib.hid (by
            have h1 := (runM_inv (at' := 345686399999) fs (newM rs) 0 0 (newM_inv fun r hr => (HOK.out.rz r hr).2) HOK.out.lz).ln ⟨#[102, 49]⟩
            have h2 := HN.out.2.1
            rw [hT]
            unfold feederM loadL
            rw [List.length_map]
            omega)
          have HT1 := Lib.hid (fun W (hW : Below w3.heap.size w3 W) => Feeder_any rs fs ⟨#[102, 49]⟩ 345686399999 _ _ W HN.out.1 HN.out.2.1 (HRF.out W hW) (HFF.out W hW) HRZ.out HFZ.out (by decide))
          rw [ask_r0 _ HZ.out, if_pos rfl, ← hT] at HT1
          have HT2 := Lib.hid (fun W (hW : Below w3.heap.size w3 W) => Feeder_any rs g ⟨#[102, 49]⟩ 345686399999 _ _ W HN.out.1 HGL.out (HRF.out W hW) (HG.out W hW) HRZ.out HGZ.out (by decide))
          rw [ask_r0 _ HRG.out.f0, if_pos rfl, HRG.out.fd, ← hT] at HT2
          clear hT
          go_wp2_with fail
          refine (HT1.out w6 HB9.out).mono ?_
          rintro e w7 ⟨⟨x7, rfl, hx7⟩, hb7⟩
          obtain ⟨xa, xc, rfl, _, _⟩ := hx7.form
          have HX7 := Lib.hid hx7.rec0
          have HB7 := Lib.hid (Bl.trans HB9.out hb7)
          clear hx7 hb7 HT1
          go_wp2_with fail
          refine (HT2.out w7 HB7.out).mono ?_
          rintro e w8 ⟨⟨x8, rfl, hx8⟩, hb8⟩
          obtain ⟨ya, yc, rfl, _, _⟩ := hx8.form
          have HX8 := Lib.hid (And.intro (HX7.out.below hb8) hx8.rec0)
          have HB8 := Lib.hid (Bl.trans HB7.out hb8)
          clear hx8 hb8 HT2 HX7
          have HEQ := EqualLo_any T T (.slice xa T.length xc) (.slice ya T.length yc) w8 (by have := HT.out; omega) (by have := HT.out; omega) HX8.out.1 HX8.out.2
          rw [decide_eq_true rfl] at HEQ
          have HEQ := Lib.hid HEQ
          go_wp2_with fail
          refine HEQ.out.mono ?_
          rintro e w9 ⟨rfl, hb9⟩
          have HB9' := Lib.hid (Bl.trans HB8.out hb9)
          clear hb9 HEQ
          go_wp2_with fail
          refine (ready_any w9).mono ?_
          rintro e wC ⟨rfl, hbC⟩
          have HBC := Lib.hid (HB3.out.trans ((Bl.trans HB9'.out hbC).mono HB3.out.size))
          clear hbC
          go_wp2
          go_ret
          exact ⟨rfl, HBC.out⟩
end Go.Proofs.YtcfeoapbbkfbnaaGreatDoor
