/- The walk of the law NozzlesChanged: whatever the input: true. -/
import Derived.Test.YtbkglhakhahfpaaGreatDoorSpd
import Derived.Test.YtbkglhakhahfpaaGreatDoorSos
import Derived.Test.YtbkglhakhahfpaaGreatDoorCgo
import Derived.Test.YtbkglhakhahfpaaGreatDoorHof
import Derived.Test.YtbkglhakhahfpaaGreatDoorHd4
import Derived.Test.YtbkglhakhahfpaaGreatDoorStart
import Derived.BigRegion
namespace Go.Proofs.YtbkglhakhahfpaaGreatDoor
open Go.RowKit Go.Sort

/-- rows of names that can be read. -/
structure RowsC (v : Value) (hs : List (List Nm)) (W : World) : Prop where
  ex : ∃ sls, RecR TL W 0 v sls ∧ sls.length = hs.length ∧ ∀ (j : Nat) (s : Sl3) (x : List Nm), sls[j]? = some s → hs[j]? = some x → RecR TS W 0 (slV s) x
theorem RowsC.below {v : Value} {hs : List (List Nm)} {W W' : World} (h : RowsC v hs W) (hb : Below W.heap.size W W') : RowsC v hs W' := by
  obtain ⟨sls, h1, h2, h3⟩ := h.ex
  exact ⟨sls, h1.below hb, h2, fun j s x e1 e2 => (h3 j s x e1 e2).below hb⟩
theorem RowsN.rc {B : Nat} {v : Value} {hs : List (List Nm)} {W : World} (h : RowsN B v hs W) : RowsC v hs W := by
  obtain ⟨sls, h1, h2, h3, _⟩ := h.ex
  exact ⟨sls, h1.rec0, h2, fun j s x e1 e2 => (h3 j s x e1 e2).rec0⟩
theorem RowsH.rc {B : Nat} {r : Option Nat} {v : Value} {hs : List (List Nm)} {W : World} (h : RowsH B r v hs W) : RowsC v hs W := by
  obtain ⟨sls, h1, h2, h3⟩ := h.ex
  exact ⟨sls, h1.rec0, h2, fun j s x e1 e2 => (h3 j s x e1 e2).1.rec0⟩
theorem RowsC.form {v : Value} {hs : List (List Nm)} {W : World} (h : RowsC v hs W) : ∃ a c, v = .slice a hs.length c := by
  obtain ⟨sls, h1, h2, _⟩ := h.ex
  obtain ⟨a, c, hv, _, _⟩ := h1.form
  exact ⟨a, c, by rw [hv, h2]⟩
theorem RowsC.at {a : Option Addr} {n c : Nat} {hs : List (List Nm)} {W : World} (h : RowsC (.slice a n c) hs W) {k : Nat} {x : List Nm} (hx : hs[k]? = some x) : ∃ b o a1 n1 c1, a = some ⟨b, o, none⟩ ∧ b < W.heap.size ∧ W.cell? ⟨b, o + k, none⟩ = some (.slice a1 n1 c1) ∧ RecR TS W 0 (.slice a1 n1 c1) x := by
  obtain ⟨sls, h1, h2, h3⟩ := h.ex
  obtain ⟨s, hs'⟩ : ∃ s, sls[k]? = some s := ⟨_, List.getElem?_eq_getElem (by rw [h2]; exact (List.getElem?_eq_some_iff.1 hx).1)⟩
  obtain ⟨b, o, ha, _, hl, hc⟩ := h1.at TL.ok.len hs' TL.ok.pos
  obtain ⟨s1, s2, s3⟩ := s
  exact ⟨b, o, s1, s2, s3, ha, hl, by simpa [TL] using hc 0 _ rfl, h3 k _ x hs' hx⟩
set_option maxHeartbeats 1000000 in
theorem EqRows_any (hs : List (List Nm)) (v u : Value) (w : World) (hl : hs.length ≤ 100000) (hl2 : ∀ x ∈ hs, x.length ≤ 100000) (rl : RowsC v hs w) (rm : RowsC u hs w) :
    Calls Tryz.prog 34 #[v, u, .func (.func 36) #[] #[]] w fun e w' => e = .returned (.bool true) ∧ Below w.heap.size w w' := by
  obtain ⟨a, cap, rfl⟩ := rl.form
  obtain ⟨a', cap', rfl⟩ := rm.form
  have RL := Lib.hid rl
  have RM := Lib.hid rm
  clear rl rm
  go_enter Tryz.func34, Tryz.ntmps34
  go_wp2
  go_loopw [17] (fun i wr => ∃ k : Nat, k ≤ hs.length ∧ i = .int .i64 k ∧ Below w.heap.size w wr) (fun i _ => hs.length - (intOf i).toNat)
  case atStart => exact ⟨0, Nat.zero_le _, rfl, Below.refl _ _⟩
  case round =>
    obtain ⟨k, hk, rfl, hb⟩ := hrel
    by_cases hlt : k < hs.length
    · obtain ⟨x, hx⟩ : ∃ x, hs[k]? = some x := ⟨_, List.getElem?_eq_getElem hlt⟩
      obtain ⟨b2, o2, a1, n1, c1, rfl, _, hx2, hx3⟩ := (RL.out.below hb).at hx
      obtain ⟨b3, o3, a4, n4, c4, rfl, _, hy2, hy3⟩ := (RM.out.below hb).at hx
      have HE := Lib.hid (EqualStr_self x (.slice a1 n1 c1) (.slice a4 n4 c4) wr (hl2 x (List.mem_of_getElem? hx)) hx3 hy3)
      have hw1 : IntKind.i64.wrap ((k : Int) + 1) = ((k + 1 : Nat) : Int) := by rw [IntWalk.i64_in _ (by omega)]; omega
      clear hx hx3 hy3
      go_wp2_with fail
      refine HE.out.mono ?_
      rintro e w' ⟨rfl, hb2⟩
      have hb' := Bl.trans hb hb2
      clear hb2
      go_wp2
      go_roundw
      case rel => exact ⟨k + 1, by omega, by go_num, hb'⟩
      case measure => simp [intOf]; omega
    · go_wp2
      go_ret
      exact ⟨rfl, hb⟩
set_option maxHeartbeats 1000000 in
theorem DistanceN_any (w : World) : Calls Tryz.prog 136 #[.agg #[.int .i64 1, .int .i64 1], .agg #[.int .i64 4, .int .i64 3]] w fun e w' => e = .returned (.tuple #[.int .i64 3, .int .i64 0]) ∧ Below w.heap.size w w' := by
  have h1 : farB (1, 1) = false := by decide
  have h2 : farB (4, 3) = false := by decide
  have h3 : dist (1, 1) (4, 3) = 3 := by decide
  have b1 : Bd (1, 1) := by unfold Bd; omega
  have b2 : Bd (4, 3) := by unfold Bd; omega
  have c1 : ∀ w, Calls Tryz.prog 211 #[.agg #[.int .i64 1, .int .i64 1]] w fun e w' => e = .returned (.bool false) ∧ Below w.heap.size w w' := fun w => by rw [← h1]; exact isFar_any (1, 1) w
  have c2 : ∀ w, Calls Tryz.prog 211 #[.agg #[.int .i64 4, .int .i64 3]] w fun e w' => e = .returned (.bool false) ∧ Below w.heap.size w w' := fun w => by rw [← h2]; exact isFar_any (4, 3) w
  have c3 : ∀ w, Calls Tryz.prog 212 #[.agg #[.int .i64 1, .int .i64 1], .agg #[.int .i64 4, .int .i64 3]] w fun e w' => e = .returned (.int .i64 3) ∧ Below w.heap.size w w' := fun w => by rw [← h3]; exact distance_any (1, 1) (4, 3) w b1 b2
  go_enter Tryz.func136, Tryz.ntmps136
  have hA := blk_old (blk_new w (.cells #[.int .i64 1, .int .i64 1] 81)) (.cells #[.int .i64 4, .int .i64 3] 81)
  have hB := blk_new' (w.alloc (.cells #[.int .i64 1, .int .i64 1] 81)) (.cells #[.int .i64 4, .int .i64 3] 81) (g := w.heap.size + 1) (by simp)
  have hb := Bl.alloc (Bl.alloc (Below.refl w.heap.size w) (.cells #[.int .i64 1, .int .i64 1] 81)) (.cells #[.int .i64 4, .int .i64 3] 81)
  go_wp2_with fail
  refine (c1 _).mono ?_
  rintro e w1 ⟨rfl, hb1⟩
  have hA1 := blk_below hA hb1
  have hB1 := blk_below hB hb1
  have hw1 := Bl.trans hb hb1
  obtain ⟨x1, x2⟩ := blk2 hB1
  go_wp2_with fail
  refine (c2 _).mono ?_
  rintro e w2 ⟨rfl, hb2⟩
  have hA2 := blk_below hA1 hb2
  have hB2 := blk_below hB1 hb2
  have hw2 := Bl.trans hw1 hb2
  obtain ⟨x3, x4⟩ := blk2 hA2
  obtain ⟨x5, x6⟩ := blk2 hB2
  go_wp2_with fail
  refine (c3 _).mono ?_
  rintro e w3 ⟨rfl, hb3⟩
  go_wp2
  go_ret2
  exact ⟨rfl, Bl.trans hw2 hb3⟩
theorem touredN_any (w : World) : Calls Tryz.prog 40 #[] w fun e w' => e = .returned (.bool true) ∧ Below w.heap.size w w' := by
  go_enter Tryz.func40, Tryz.ntmps40
  go_wp2_with fail
  refine (DistanceN_any _).mono ?_
  rintro e w1 ⟨rfl, hb1⟩
  go_wp2
  go_ret
  exact ⟨rfl, hb1⟩
set_option maxHeartbeats 20000000 in
set_option maxRecDepth 100000 in
theorem NozzlesChanged_any (l : List Int) (v : Value) (w : World) (rl : Ints w 0 v l) (hl : ∀ x ∈ l, -9223372036854775808 ≤ x ∧ x ≤ 9223372036854775807) :
    Calls Tryz.prog 4 #[v] w fun e w' => e = .returned (.bool true) ∧ Below w.heap.size w w' := by
  obtain ⟨va, cap, rfl, hc1, hc2⟩ := Ints.form rl
  have hs0 := Str.begin rl hl
  have hb0 := Bl.alloc (Below.refl w.heap.size w) (.cells #[.slice va l.length cap, .int .i64 0] 25)
  clear rl hl
  go_enter Tryz.func4, Tryz.ntmps4
  go_wp2_with fail
  refine (NozzleList_any _ 10 0 _ hs0 (by omega) (by omega)).mono ?_
  rintro e w1 ⟨vk, K, rfl, hO1, hK10, hKs, hs1, hg1⟩
  have hb1 := Below.trans hb0 (Gr.below hg1 (Nat.le_refl _) hb0.size)
  obtain ⟨ka, kcap, rfl, _, _⟩ := hO1.form
  have HKS := Lib.hid hKs
  have hzw := hg1.size
  simp at hzw
  clear hs0 hb0 hg1 hKs
  go_wp2_with fail
  refine (Pick_any _ _ [1, 2, 2, 3, 0, 9] _ _ (hs1.alloc _) (by omega) (Ints.of_blk (blk_new _ _) rfl rfl (by simp) (by omega) hs1.lt) (by simp) (by simp)).mono ?_
  rintro e w2 ⟨hI, rfl, hmem, hs2, hg2⟩
  have hA1 := Bl.alloc hb1 (.cells #[.int .i64 1, .int .i64 2, .int .i64 2, .int .i64 3, .int .i64 0, .int .i64 9] 3)
  have hb2 := Below.trans hA1 (Gr.below hg2 (Nat.le_refl _) hA1.size)
  have hO2 := (hO1.alloc (.cells #[.int .i64 1, .int .i64 2, .int .i64 2, .int .i64 3, .int .i64 0, .int .i64 9] 3)).grown hg2 (by simp)
  have HMEM := Lib.hid hmem
  have hz2 := hb2.size
  clear hs1 hg2 hA1 hb1 hO1 hmem
  go_wp2_with fail
  refine (SlotList_any _ 5 _ w2 hs2 (by omega) (by omega) (by omega)).mono ?_
  rintro e w3 ⟨vs, S, rfl, hS3, hS5, _, hg3⟩
  have hb3 := Below.trans hb2 (Gr.below hg3 (Nat.le_refl _) hb2.size)
  obtain ⟨sa, scap, rfl, _, _⟩ := Ints.form hS3.ints
  have HK3 := Lib.hid (hO2.grown hg3 (by simp)).rec0
  have HS3 := Lib.hid hS3.ints0
  have HB3 := Lib.hid hb3
  clear hs2 hg3 hb2 hO2 hS3 hb3
  obtain ⟨F, hF⟩ : ∃ F, F = kindF K hI := ⟨_, rfl⟩
  have HNF := Lib.hid (NozzlesFault_any K hI _ w3 (by omega) HKS.out HK3.out)
  rw [← hF] at HNF
  have HF := Lib.hid hF
  clear hF
  go_wp2_with fail
  refine HNF.out.mono ?_
  rintro e w4 ⟨rfl, hb4⟩
  have HK4 := Lib.hid (HK3.out.below hb4)
  have HS4 := Lib.hid (HS3.out.below hb4)
  have HB4 := Lib.hid (Bl.trans HB3.out hb4)
  clear hb4
  have hmf2 : hI = 1 ∨ hI = 2 ∨ hI = 3 ∨ hI = 0 ∨ hI = 9 := by have := HMEM.out; simp at this; omega
  obtain ⟨h, hh⟩ : ∃ h : Nat, hI = (h : Int) := ⟨hI.toNat, by omega⟩
  obtain ⟨cv, HC, HCV⟩ : ∃ cv : Int, Hid (Calls Tryz.prog 31 #[.slice ka K.length kcap, .int .i64 hI] w4 fun e w' => e = .returned (.tuple #[.int .i64 cv, .int .i64 F]) ∧ Below w4.heap.size w4 w') ∧ Hid ((F = 0 → cv = ((chgH nlt h [] K : Nat) : Int)) ∧ (F ≠ 0 → cv = 0)) := by
    by_cases h0 : F = 0
    · refine ⟨_, Lib.hid ?_, Lib.hid ⟨fun _ => rfl, fun h => absurd h0 h⟩⟩
      have := Changes_any K h _ w4 (by rw [← hh, ← HF.out]; exact h0) HKS.out HK4.out
      rw [← hh] at this
      rw [h0]; exact this
    · refine ⟨_, Lib.hid ?_, Lib.hid ⟨fun h => absurd h h0, fun _ => rfl⟩⟩
      have := ChangesBad_any K hI _ w4 (by omega) (by rw [← HF.out]; exact h0) HKS.out HK4.out
      rw [← HF.out] at this
      exact this
  have HH := Lib.hid (show ∀ W, RecR TS W 0 (.slice ka K.length kcap) K → Calls Tryz.prog 32 #[.slice ka K.length kcap, .int .i64 hI] W fun e w' => (∃ a n c, e = .returned (.tuple #[.slice a n c, .int .i64 F]) ∧ Hid ((F = 0 → n = K.length ∧ RowsC (.slice a n c) (heldL h K K.length) w') ∧ (F ≠ 0 → n = 0))) ∧ Below W.heap.size W w' from fun W r => by
    by_cases h0 : F = 0
    · have := Held_any K h _ W (by rw [← hh, ← HF.out]; exact h0) HKS.out r
      rw [← hh] at this
      refine this.mono fun e w' ⟨⟨v, g1, g2⟩, g3⟩ => ?_
      have g2 := g2.rc
      obtain ⟨a, c, hv⟩ := g2.form
      rw [heldL_len] at hv
      subst hv
      exact ⟨⟨a, _, c, by rw [h0]; exact g1, Lib.hid ⟨fun _ => ⟨rfl, g2⟩, fun h => absurd h0 h⟩⟩, g3⟩
    · have := HeldBad_any K hI _ W (by omega) (by rw [← HF.out]; exact h0) HKS.out r
      rw [← HF.out] at this
      exact this.mono fun e w' ⟨g1, g3⟩ => ⟨⟨none, 0, 0, g1, Lib.hid ⟨fun h => absurd h h0, fun _ => rfl⟩⟩, g3⟩)
  have HIE := Lib.hid hh
  have HI8 := Lib.hid hmf2
  clear hh hmf2
  go_wp2_with fail
  refine HC.out.mono ?_
  rintro e w5 ⟨rfl, hb5⟩
  go_wp2_with fail
  refine (HH.out w5 (HK4.out.below hb5)).mono ?_
  rintro e w6 ⟨⟨ra, rn, rc, rfl, HR6⟩, hb6⟩
  have HB46 := Lib.hid (Bl.trans hb5 hb6)
  clear hb5 hb6 HC HH
  go_upto_if 46 with fail
  go_cut [2] from 46 to 84 (fun v2 wx => Hid (Below w4.heap.size w4 wx))
  case first =>
    by_cases h0 : F = 0
    · subst h0
      obtain ⟨hrn, hR⟩ := HR6.out.1 rfl
      have hcv := HCV.out.1 rfl
      subst hrn
      have HR := Lib.hid hR
      have hk := kindF_zero (h := hI) (l := K) HF.out.symm
      have h1 : 1 ≤ h := by have := HIE.out; omega
      have h8 : h ≤ 8 := by have := HIE.out; omega
      have hco := fun W (r : RecR TS W 0 (.slice ka K.length kcap) K) => ChangesOf_any K h _ W h1 h8 (by omega) r
      rw [← hcv, ← HIE.out] at hco
      have HCO := Lib.hid hco
      have hho := fun W (r : RecR TS W 0 (.slice ka K.length kcap) K) => HeldOf_any K h _ W h1 h8 (by omega) r
      rw [← HIE.out] at hho
      have HHO := Lib.hid hho
      clear hk hcv hco hho hR
      go_wp2_with fail
      refine (HCO.out w6 (HK4.out.below HB46.out)).mono ?_
      rintro e w7 ⟨rfl, hb7⟩
      have hb47 := Bl.trans HB46.out hb7
      have hR7 := HR.out.below hb7
      go_wp2_with fail
      refine (HHO.out w7 (HK4.out.below hb47)).mono ?_
      rintro e w8 ⟨⟨vo, rfl, hR8⟩, hb8⟩
      have hb48 := Bl.trans hb47 hb8
      have hR78 := hR7.below hb8
      have hR8 := hR8.rc
      obtain ⟨oa, oc, hvo⟩ := hR8.form
      rw [heldL_len] at hvo
      subst hvo
      have HEQ := Lib.hid (EqRows_any (heldL h K K.length) _ _ w8 (by rw [heldL_len]; omega) (fun x hx => by
        unfold heldL at hx
        obtain ⟨i, _, rfl⟩ := List.mem_map.1 hx
        rw [sortN_len]
        have := (atH_ok nlt nlt_names h1 K (i + 1)).le
        omega) hR78 hR8)
      have HB8 := Lib.hid hb48
      clear hR7 hR8 hR78 hb7 hb8 hb47 hb48
      go_wp2_with fail
      refine HEQ.out.mono ?_
      rintro e w9 ⟨rfl, hb9⟩
      have HG := Lib.hid (Bl.trans HB8.out hb9)
      clear hb9
      go_wp2
      go_meet
      case rel => exact HG
    · have hne := errno_ne h0
      have hrn := HR6.out.2 h0
      have hcv := HCV.out.2 h0
      subst hrn hcv
      go_wp2
      go_meet
      case rel => exact HB46
  case rest =>
    have HB5 := Lib.hid (Bl.trans HB4.out hcut.out)
    have HS5 := Lib.hid (HS4.out.below hcut.out)
    clear hcut
    obtain ⟨G, hG⟩ : ∃ G, G = slotF S := ⟨_, rfl⟩
    have HSP := Lib.hid (fun W (r : Ints W 0 (.slice sa S.length scap) S) => Spread_any S _ W (by omega) r)
    have HSF := Lib.hid (fun W (r : Ints W 0 (.slice sa S.length scap) S) => SlotsFault_any S _ W (by omega) r)
    rw [← hG] at HSP HSF
    by_cases h0 : G = 0
    · subst h0
      have hG0 := hG.symm
      have HG := Lib.hid hG0
      have hne := (slotF_zero hG0).1
      have HNE := Lib.hid hne
      have HV : Hid (sprV S = .agg #[.int .i64 (Lib.minOf S), .int .i64 (IntKind.i64.wrap (Lib.maxOf S + 1))]) := Lib.hid (if_pos hG0)
      have HST := Lib.hid (Strokes_any S _ wc (by omega) hG0 HS5.out)
      have HRO := Lib.hid (fun W (r : Ints W 0 (.slice sa S.length scap) S) => StrokesOf_any S _ W hG0 r)
      have HMi := Lib.hid (fun W (r : Ints W 0 (.slice sa S.length scap) S) => MinI_any S _ W hne (by omega) r)
      have HMa := Lib.hid (fun W (r : Ints W 0 (.slice sa S.length scap) S) => MaxI_any S _ W hne (by omega) r)
      obtain ⟨mn, hmn⟩ : ∃ z, z = Lib.minOf S := ⟨_, rfl⟩
      obtain ⟨mm, hmm⟩ : ∃ z, z = Lib.maxOf S := ⟨_, rfl⟩
      rw [← hmn] at HV HMi
      rw [← hmm] at HV HMa
      obtain ⟨mx, hwx⟩ : ∃ z, IntKind.i64.wrap (mm + 1) = z := ⟨_, rfl⟩
      rw [hwx] at HV
      obtain ⟨bq, hbq⟩ : ∃ z, z = (bestP S).2 := ⟨_, rfl⟩
      obtain ⟨bl, hbl⟩ : ∃ z, z = nats (bestP S).1.reverse := ⟨_, rfl⟩
      rw [← hbq, ← hbl] at HST HRO
      have HBL : Hid (bl.length ≤ 1000) := Lib.hid (by
        rw [hbl, nats_len, (bestP_ok (List.length_pos_iff.2 hne)).1.length_eq, List.length_range]; omega)
      clear hG hG0 hne hmn hmm hbq hbl
      go_wp2_with fail
      refine HST.out.mono ?_
      rintro e w6 ⟨⟨vx, rfl, hX6⟩, hb6⟩
      obtain ⟨xa, xcap, hvx, _, _⟩ := Ints.form hX6.ints
      obtain ⟨bn, hbn⟩ : ∃ n, n = bl.length := ⟨_, rfl⟩
      rw [← hbn] at hvx
      subst hvx
      have HBN := Lib.hid hbn
      clear hbn
      have HSQ := Lib.hid (HSP.out w6 (HS5.out.below hb6))
      rw [HV.out] at HSQ
      have HX6 := Lib.hid hX6.ints0
      have HB6 := Lib.hid (Bl.trans HB5.out hb6)
      have HS6 := Lib.hid (HS5.out.below hb6)
      clear hb6 hX6
      go_wp2_with fail
      refine HSQ.out.mono ?_
      rintro e w7 ⟨rfl, hb7⟩
      have hb8 := Bl.alloc hb7 (.cells #[.int .i64 mn, .int .i64 mx] 74)
      have hW8 := blk_new w7 (.cells #[.int .i64 mn, .int .i64 mx] 74)
      obtain ⟨w8, hw8⟩ : ∃ w8, w8 = w7.alloc (.cells #[.int .i64 mn, .int .i64 mx] 74) := ⟨_, rfl⟩
      rw [← hw8] at hb8 hW8
      have HS8 := Lib.hid (HS6.out.below hb8)
      have HX8 := Lib.hid (HX6.out.below hb8)
      have HB8 := Lib.hid (Bl.trans HB6.out hb8)
      have HW8 := Lib.hid hW8
      clear hb7 hb8 hW8
      go_wp2_with fail
      rw [← hw8]
      refine (HSF.out w8 HS8.out).mono ?_
      rintro e w' ⟨rfl, hq⟩
      obtain rfl : w8 = w' := hq
      clear hw8
      go_wp2_with fail
      refine (HRO.out w8 HS8.out).mono ?_
      rintro e w9 ⟨⟨vy, rfl, hY9⟩, hb9⟩
      obtain ⟨ya, ycap, hvy, _, _⟩ := Ints.form hY9.ints
      rw [← HBN.out] at hvy
      subst hvy
      have hW9 := blk_below HW8.out hb9
      obtain ⟨c0, c1⟩ := blk2 hW9
      have e0 := cell_regrown c0
      have e1 := cell_regrown c1
      have HS9 := Lib.hid (HS8.out.below hb9)
      have HX9 := Lib.hid (HX8.out.below hb9)
      have HY9 := Lib.hid hY9.ints0
      have HB9 := Lib.hid (Bl.trans HB8.out hb9)
      have HEQ := Lib.hid (fun (d : Nat) (os : Array Obj) => Calls.regrown_of (w := w9) (d := d) (os := os) (show Calls Tryz.prog 27 #[.slice xa bn xcap, .slice ya bn ycap] (grow (redrawn w9 d) os) fun e w' => e = .returned (.bool true) ∧ Below (grow (redrawn w9 d) os).heap.size (grow (redrawn w9 d) os) w' from by
        have hx := HX9.out.below (below_regrown w9 d os)
        have hy := HY9.out.below (below_regrown w9 d os)
        rw [HBN.out] at hx hy ⊢
        have := EqualI_any bl bl _ _ _ (by have := HBL.out; omega) (by have := HBL.out; omega) hx hy
        rw [show eqL bl bl = true by simp [eqL]] at this
        exact this.mono fun e w' ⟨h1, q, h2⟩ => ⟨h1, h2 ▸ Bl.drewN (Below.refl _ _) q⟩))
      have HMI := Lib.hid (fun (d : Nat) (os : Array Obj) => Calls.regrown_of (w := w9) (d := d) (os := os) ((HMi.out _ (HS9.out.below (below_regrown w9 d os))).mono fun e w' ⟨h1, h2⟩ => ⟨h1, by rw [← h2]; exact Below.refl _ _⟩))
      have HMA := Lib.hid (fun (d : Nat) (os : Array Obj) => Calls.regrown_of (w := w9) (d := d) (os := os) ((HMa.out _ (HS9.out.below (below_regrown w9 d os))).mono fun e w' ⟨h1, h2⟩ => ⟨h1, by rw [← h2]; exact Below.refl _ _⟩))
      have HTO := Lib.hid (fun (d : Nat) (os : Array Obj) => Calls.regrown_of (w := w9) (d := d) (os := os) (touredN_any (grow (redrawn w9 d) os)))
      clear hW9 hb9 hY9
      go_wp2_with fail
      refine wp_region_quiet_below (by kernel_rfl) (by kernel_rfl) ?_
      repeat (go_big_quiet_step (first | (go_at_call 27; exact HEQ.out _ _) | (go_at_call 42; exact HMI.out _ _) | (go_at_call 43; exact HMA.out _ _) | (go_at_call 40; exact HTO.out _ _)))
      refine wpQuiet_nil ?_
      intro w10 hw'
      obtain ⟨⟨dq, osq⟩, hw''⟩ := hw'
      have HBA := Lib.hid (show Below w.heap.size w w10 from Bl.trans HB9.out (hw'' ▸ below_regrown w9 dq osq))
      clear hw''
      go_wp2
      go_ret
      exact ⟨rfl, HBA.out⟩
    · have hne := errno_ne h0
      have HV : Hid (sprV S = .agg #[.int .i64 0, .int .i64 0]) := Lib.hid (if_neg (by rw [← hG]; exact h0))
      have HST := Lib.hid (StrokesBad_any S _ wc (by omega) (by rw [← hG]; exact h0) HS5.out)
      rw [← hG] at HST
      clear hG
      go_wp2_with fail
      refine HST.out.mono ?_
      rintro e w6 ⟨rfl, hb6⟩
      have HSQ := Lib.hid (HSP.out w6 (HS5.out.below hb6))
      rw [HV.out] at HSQ
      have HB6 := Lib.hid (Bl.trans HB5.out hb6)
      have HS6 := Lib.hid (HS5.out.below hb6)
      clear hb6
      go_wp2_with fail
      refine HSQ.out.mono ?_
      rintro e w7 ⟨rfl, hb7⟩
      have hb8 := Bl.alloc hb7 (.cells #[.int .i64 0, .int .i64 0] 74)
      have hW8 := blk_new w7 (.cells #[.int .i64 0, .int .i64 0] 74)
      obtain ⟨w8, hw8⟩ : ∃ w8, w8 = w7.alloc (.cells #[.int .i64 0, .int .i64 0] 74) := ⟨_, rfl⟩
      rw [← hw8] at hb8 hW8
      have HS8 := Lib.hid (HS6.out.below hb8)
      have HB8 := Lib.hid (Bl.trans HB6.out hb8)
      obtain ⟨c0, c1⟩ := blk2 hW8
      clear hb7 hb8 hW8
      go_wp2_with fail
      rw [← hw8]
      refine (HSF.out w8 HS8.out).mono ?_
      rintro e w' ⟨rfl, hq⟩
      obtain rfl : w8 = w' := hq
      clear hw8
      go_wp2_with fail
      refine (touredN_any w8).mono ?_
      rintro e w9 ⟨rfl, hb9⟩
      have HBA := Lib.hid (Bl.trans HB8.out hb9)
      clear hb9
      go_wp2
      go_ret
      exact ⟨rfl, HBA.out⟩
end Go.Proofs.YtbkglhakhahfpaaGreatDoor
