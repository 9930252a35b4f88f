/- The walk of the law ToursStay: whatever the input: true. -/
import Derived.Test.YtbkglhakhahfpaaGreatDoorTsl
import Derived.Test.YtbkglhakhahfpaaGreatDoorCycW
import Derived.Test.YtbkglhakhahfpaaGreatDoorIsOrd
import Derived.Test.YtbkglhakhahfpaaGreatDoorShort
import Derived.Test.YtbkglhakhahfpaaGreatDoorHd4
import Derived.Test.YtbkglhakhahfpaaGreatDoorReady2
import Derived.Test.YtbkglhakhahfpaaGreatDoorStart
namespace Go.Proofs.YtbkglhakhahfpaaGreatDoor
open Go.RowKit Go.Sort

theorem tourM {st : Pt} {P : List Pt} {m : Int} (h : tourF st P 500 = 0) (hn : (P.length : Int) ≤ m) (hm : m ≤ 500) : tourF st P m = 0 := by
  unfold tourF ptsF at *
  by_cases hf : farB st = true
  · rw [hf] at h; simp at h
  · simp only [Bool.not_eq_true] at hf
    rw [hf] at h ⊢
    simp only [Bool.false_eq_true, if_false] at h ⊢
    rw [if_pos (by omega)] at h ⊢
    exact h
theorem impM {st : Pt} {P : List Pt} {o : List Nat} (h : tourF st P 500 = 0) (hp : o.Perm (List.range P.length)) : impF st P (nats o) = 0 := by
  unfold impF
  rw [if_pos h, orderF_ok hp]
theorem rows_few (st : Pt) (P : List Pt) (F : Nat → Nat) (f s : Nat) : ∀ l ∈ (walkF F f s).map (tlv st P), l.length ≤ P.length := by
  intro l hl
  obtain ⟨t, _, rfl⟩ := List.mem_map.1 hl
  unfold tlv
  rw [nats_len]
  exact tlist_le st P _ _ _
/-- rows of numbers that the call owns, whatever they are. -/
def RowsM (w : World) (B : Nat) (v : Value) (vs : List Value) : Prop := OwnV w B v vs ∧ ∀ y ∈ vs, ∃ n, n ≤ 1000 ∧ OwnSm w B y n
theorem RowsM.below {w w' : World} {B : Nat} {v : Value} {vs : List Value} (h : RowsM w B v vs) (hb : Below w.heap.size w w') : RowsM w' B v vs :=
  ⟨h.1.below hb, fun y hy => by obtain ⟨n, h1, h2⟩ := h.2 y hy; exact ⟨n, h1, h2.below hb⟩⟩
theorem RowsM.of {w : World} {B : Nat} {v : Value} {ls : List (List Int)} (h : RowsI B v ls w) (hs : ∀ l ∈ ls, l.length ≤ 1000) : ∃ vs, RowsM w B v vs ∧ vs.length = ls.length := by
  obtain ⟨vs, h1, h2, h3⟩ := h.ex
  refine ⟨vs, ⟨h1, fun y hy => ?_⟩, h2⟩
  obtain ⟨j, hj, e⟩ := List.getElem_of_mem hy
  have hl : ls[j]? = some (ls[j]'(by omega)) := List.getElem?_eq_getElem (by omega)
  exact ⟨_, hs _ (List.getElem_mem (by omega : j < ls.length)), _, rfl, h3 j y _ (by rw [List.getElem?_eq_getElem hj, e]) hl⟩
theorem OwnSm.off_row {w : World} {B C n : Nat} {x v : Value} {vs : List Value} (h : OwnSm w B x n) (hv : OwnV w C v vs) : x.ownBlock = none ∨ x.ownBlock ≠ v.ownBlock := by
  obtain ⟨l, _, h⟩ := h
  exact h.ne_row hv
theorem OwnV.kept {w w' : World} {B : Nat} {row : Option Nat} {v : Value} {vs : List Value} (h : OwnV w B v vs) (hg : w.grownBy w' row) (hn : v.ownBlock = none ∨ v.ownBlock ≠ row) : OwnV w' B v vs := World.ownsRow.kept h hg hn
theorem RowsM.spoil {w w' : World} {B C n : Nat} {x v : Value} {vs : List Value} (h : RowsM w B v vs) (hx : OwnSm w C x n) (hg : w.grownBy w' x.ownBlock) (hm : ∀ C u m, OwnSm w C u m → OwnSm w' C u m) : RowsM w' B v vs := by
  refine ⟨h.1.kept hg ?_, fun y hy => ?_⟩
  · rcases hx.off_row h.1 with e | e
    · cases hv : v.ownBlock with
      | none => exact .inl rfl
      | some g => exact .inr (by rw [e]; simp)
    · exact .inr fun h => e h.symm
  · obtain ⟨n, h1, h2⟩ := h.2 y hy
    exact ⟨n, h1, hm _ _ _ h2⟩
theorem OwnSm.belowG {w w' : World} {B n : Nat} {v : Value} (h : OwnSm w B v n) (hg : w.grownBy w' v.ownBlock) (hB : B ≤ w.heap.size) : Below B w w' := by
  obtain ⟨l, _, h⟩ := h
  exact app_below h hg hB
theorem OwnSm.base {w : World} {B C n : Nat} {v : Value} (h : OwnSm w B v n) (hC : C ≤ B) : OwnSm w C v n := by
  obtain ⟨l, h1, h⟩ := h
  exact ⟨l, h1, own_base h hC⟩
set_option maxHeartbeats 20000000 in
set_option maxRecDepth 100000 in
theorem ToursStay_any (l : List Int) (v : Value) (w : World) (rl : Ints w 0 v l) (hl : ∀ x ∈ l, -9223372036854775808 ≤ x ∧ x ≤ 9223372036854775807) :
    Calls Tryz.prog 5 #[v] w fun e w' => e = .returned (.bool true) ∧ Below w.heap.size w w' := by
  obtain ⟨va, cap, rfl, hc1, hc2⟩ := Ints.form rl
  have hs0 := Str.begin rl hl
  have hb0 := Bl.alloc (Below.refl w.heap.size w) (.cells #[.slice va l.length cap, .int .i64 0] 25)
  go_enter Tryz.func5, Tryz.ntmps5
  go_wp2_with fail
  refine (rightPoints_any _ 6 0 _ hs0 (by omega) (by omega)).mono ?_
  rintro e w1 ⟨⟨sx, sy⟩, vp, P, he, hst, hPb, hPl, hP1, hT, hs1, hg1⟩
  simp only [ptv] at he
  subst he
  have hb1 := Below.trans hb0 (Gr.below hg1 (Nat.le_refl _) hb0.size)
  obtain ⟨pa, pcap, rfl, hp1, hp2⟩ := Pts.form hP1.pts
  have l1 := hs1.lt
  have z1 := hg1.size
  have hP1 := own_base' hP1 (show w.heap.size + 1 ≤ _ by simp)
  have hb2 := Bl.alloc hb1 (.cells #[.int .i64 sx, .int .i64 sy] 81)
  have hP2 := hP1.alloc (.cells #[.int .i64 sx, .int .i64 sy] 81)
  have hs2 := hs1.alloc (.cells #[.int .i64 sx, .int .i64 sy] 81)
  have hS2 := blk_new w1 (.cells #[.int .i64 sx, .int .i64 sy] 81)
  have HT := Lib.hid hT
  have HP := Lib.hid hPb
  have HD := Lib.hid hst
  clear hg1 hs0 hb0 hs1 hP1 hb1 rl hl hT hPb hst
  go_wp2_with fail
  refine (Order_any _ P.length _ _ hs2 (by omega) (by omega)).mono ?_
  rintro e w3 ⟨vo, ol, rfl, hO3, hol, hs3, hg3⟩
  have hb3 := Below.trans hb2 (Gr.below hg3 (Nat.le_refl _) hb2.size)
  obtain ⟨oa, ocap, rfl, ho1, ho2⟩ := Ints.form hO3.ints
  have hP3 := hP2.grown hg3 (by omega)
  have hS3 := Gr.blk hg3 hS2 (by omega)
  obtain ⟨o, rfl, hop⟩ := of_upto hol.out
  have HOP := Lib.hid hop
  have HIO := Lib.hid (impM HT.out hop)
  have hlo : (nats o).length ≤ 6 := by rw [nats_len, (range_facts hop).2.2]; omega
  have z3 := hg3.size
  simp at z3
  clear hg3 hs2 hP2 hS2 hb2 hop hol
  go_wp2_with fail
  refine (NozzleList_any _ 8 _ _ hs3 (by omega) (by omega)).mono ?_
  rintro e w4 ⟨vk, K, rfl, hK4, hK8, hKs, _, hg4⟩
  have hb4 := Below.trans hb3 (Gr.below hg4 (Nat.le_refl _) hb3.size)
  obtain ⟨ka, kcap, rfl, hk1, hk2⟩ := hK4.form
  have hP4 := (hP3.grown hg4 (by omega)).recq
  have hO4 := (Own.grown hO3 hg4 (by simp; omega)).ints0
  have hS4 := Gr.blk hg4 hS3 (by omega)
  have hK4 := hK4.rec0
  have HKS := Lib.hid hKs
  clear hg4 hs3 hP3 hO3 hS3 hb3 hKs
  go_wp2_with fail
  refine (ClonePt_any (l := P) _ w4 (by omega) hP4).mono ?_
  rintro e w5 ⟨vq, rfl, hQ5, hb5⟩
  obtain ⟨qa, qcap, rfl, _, _⟩ := hQ5.form
  go_wp2_with fail
  refine (Clone_any (nats o) _ w5 (by omega) (hO4.below hb5)).mono ?_
  rintro e w6 ⟨vs, rfl, hS6, hb6⟩
  obtain ⟨sa, scap, rfl, _, _⟩ := Ints.form hS6.ints
  go_wp2_with fail
  refine (CloneStr_any (l := K) _ w6 (by omega) ((hK4.below hb5).below hb6)).mono ?_
  rintro e w7 ⟨vw, rfl, hW7, hb7⟩
  obtain ⟨wa, wcap, rfl, _, _⟩ := hW7.form
  have HP7 := Lib.hid (((hP4.below hb5).below hb6).below hb7)
  have HO7 := Lib.hid (((hO4.below hb5).below hb6).below hb7)
  have HK7 := Lib.hid (((hK4.below hb5).below hb6).below hb7)
  have hX7 := blk_below (blk_below (blk_below hS4 hb5) hb6) hb7
  have HQ7 := Lib.hid ((hQ5.rec0.below hb6).below hb7)
  have HS7 := Lib.hid (hS6.ints0.below hb7)
  have HW7 := Lib.hid hW7.rec0
  have HB7 := Lib.hid (Bl.trans (Bl.trans (Bl.trans hb4 hb5) hb6) hb7)
  have HPT := Lib.hid (show ∀ W, Below w7.heap.size w7 W → Pts W 0 (.slice pa P.length pcap) P from fun W hW => by
    have := HP7.out.below hW
    unfold RecR at this
    rw [flat_pcq] at this
    exact this)
  obtain ⟨c0, c1⟩ := blk2 hX7
  clear hP4 hO4 hK4 hS4 hQ5 hS6 hW7 hb5 hb6 hb7 hb4
  -- Improved
  go_wp2_with fail
  refine (Improved_any (sx, sy) P (nats o) _ _ w7 HD.out HP.out (by omega) (by omega) (HPT.out _ (Below.refl _ _)) HO7.out).mono ?_
  rintro e w8 ⟨⟨xl, vx, nx, he, hx8, _, hx⟩, hb8⟩
  rw [HIO.out] at he
  subst he
  have hxl : xl.length ≤ 6 := by
    obtain ⟨t, z, ht, _, rfl, _⟩ := hx o rfl HIO.out
    rw [nats_len, (range_facts (ht.perm.trans HOP.out)).2.2]
    omega
  have HX8 := Lib.hid (show OwnSm w8 w7.heap.size vx xl.length from ⟨xl, rfl, hx8⟩)
  have hX8 := blk_below hX7 hb8
  obtain ⟨c0, c1⟩ := blk2 hX8
  clear hx hx8
  -- Shortest
  go_wp2_with fail
  refine (Shortest_any (sx, sy) P _ w8 HD.out HP.out (by omega) (HPT.out _ hb8)).mono ?_
  rintro e w9 ⟨⟨yl, vy, ny, he, hy9, _, hy⟩, hb9⟩
  rw [tourM HT.out (by omega) (by omega)] at he
  subst he
  have hyl : yl.length ≤ 6 := by
    obtain ⟨e, _⟩ := hy (tourM HT.out (by omega) (by omega))
    rw [e, nats_len]
    have := tlist_le (sx, sy) P P.length (sx, sy) (pw P.length - 1)
    omega
  have HY9 := Lib.hid (show OwnSm w9 w7.heap.size vy yl.length from ⟨yl, rfl, own_base hy9 hb8.size⟩)
  have HX9 := Lib.hid (HX8.out.below hb9)
  have hX9 := blk_below hX8 hb9
  have hb79 := Bl.trans hb8 hb9
  obtain ⟨c0, c1⟩ := blk2 hX9
  clear hy hy9 hb8 hX8 HX8
  -- Cycles
  go_wp2_with fail
  refine (Cycles_ok (sx, sy) P _ 2 w9 HD.out HP.out hPl (by omega) (by omega) (tourM HT.out (by omega) (by omega)) (HPT.out _ hb79)).mono ?_
  rintro e w10 ⟨⟨L, F, vr, rfl, hR, _⟩, hb10⟩
  obtain ⟨vs, hM, hvl⟩ := RowsM.of hR fun l hl => by have := rows_few (sx, sy) P F _ _ l hl; omega
  obtain ⟨ra, rcap, hvr, hr1, hr2⟩ : ∃ a c, vr = .slice a vs.length c ∧ vs.length ≤ c ∧ c ≤ 9223372036854775807 := by
    obtain ⟨a, c, h1, h2, h3, _⟩ := hM.1.rd
    exact ⟨a, c, h1, h2, h3⟩
  subst hvr
  have hvs : vs.length ≤ 1000000 := by
    rw [hvl, List.length_map]
    have : ∀ (f s : Nat), (walkF F f s).length ≤ f := by
      intro f
      induction f with
      | zero => intro s; exact Nat.le_refl _
      | succ f ih =>
        intro s
        simp only [walkF]
        split
        · simp
        · rw [List.length_cons]; have := ih (s - F s); omega
    have := this 63 (pw P.length - 1)
    omega
  have HY10 := Lib.hid (HY9.out.below hb10)
  have HX10 := Lib.hid (HX9.out.below hb10)
  have HM10 := Lib.hid (show RowsM w10 w7.heap.size (.slice ra vs.length rcap) vs from ⟨hM.1.base hb79.size, fun y hy => by obtain ⟨n, h1, h2⟩ := hM.2 y hy; exact ⟨n, h1, h2.base hb79.size⟩⟩)
  have HB10 := Lib.hid (Bl.trans hb79 hb10)
  have HVL := Lib.hid hvs
  obtain ⟨cn, hcn⟩ : ∃ cn, cn = vs.length := ⟨_, rfl⟩
  rw [← hcn] at HM10 hr1 hvs ⊢
  have HCN := Lib.hid hcn
  generalize (L (pw P.length - 1)).1 = ln at *
  clear hM hR hvl hb79 hb10 hX9 hX7 c0 c1 HX9 HY9 hcn HVL
  obtain ⟨F, hF⟩ : ∃ F, F = kindF K 2 := ⟨_, rfl⟩
  have HNF := Lib.hid (show ∀ W, Below w7.heap.size w7 W → Calls Tryz.prog 30 #[.slice ka K.length kcap, .int .i64 2] W fun e w' => e = .returned (.int .i64 F) ∧ Below W.heap.size W w' from fun W hW => by
    rw [hF]
    exact NozzlesFault_any K 2 _ W (by omega) HKS.out (HK7.out.below hW))
  have HF := Lib.hid hF
  clear hF
  go_wp2_with fail
  refine (HNF.out _ HB10.out).mono ?_
  rintro e w11 ⟨rfl, hb11⟩
  have HB11 := Lib.hid (Bl.trans HB10.out hb11)
  have HY11 := Lib.hid (HY10.out.below hb11)
  have HX11 := Lib.hid (HX10.out.below hb11)
  have HM11 := Lib.hid (HM10.out.below hb11)
  clear hb11
  go_upto_if 79 with fail
  go_cut [20, 21, 22] from 79 to 110 (fun v20 v21 v22 wx => Hid (Below w11.heap.size w11 wx))
  case first =>
    by_cases h0 : F = 0
    · subst h0
      have HH := Lib.hid (Held_any K 2 (.slice ka K.length kcap) w11 HF.out.symm HKS.out (HK7.out.below HB11.out))
      go_wp2_with fail
      refine HH.out.mono ?_
      rintro e w12 ⟨⟨vh, rfl, hR⟩, hb12⟩
      obtain ⟨sls, hv, hsl, hrows, hdis⟩ := hR.ex
      obtain ⟨ga, gcap, hvh, hgc1, hgc2⟩ := hv.form
      rw [heldL_len] at hsl
      rw [hsl] at hvh hgc1
      subst hvh
      by_cases h1 : 1 < K.length
      · obtain ⟨s0, hs0⟩ : ∃ s, sls[0]? = some s := ⟨_, List.getElem?_eq_getElem (by omega)⟩
        obtain ⟨s1, hs1⟩ : ∃ s, sls[1]? = some s := ⟨_, List.getElem?_eq_getElem (by omega)⟩
        obtain ⟨m0, hm0⟩ : ∃ m, (heldL 2 K K.length)[0]? = some m := ⟨_, List.getElem?_eq_getElem (by rw [heldL_len]; omega)⟩
        obtain ⟨m1, hm1⟩ : ∃ m, (heldL 2 K K.length)[1]? = some m := ⟨_, List.getElem?_eq_getElem (by rw [heldL_len]; omega)⟩
        have hR0 := hrows 0 s0 m0 hs0 hm0
        have hR1 := hrows 1 s1 m1 hs1 hm1
        have hfew : m0.length ≤ 2 ∧ m1.length ≤ 2 := by
          have hh : ∀ (i : Nat) (m : List Nm), (heldL 2 K K.length)[i]? = some m → m.length ≤ 2 := fun i m hm => by
            unfold heldL at hm
            rw [List.getElem?_map] at hm
            obtain ⟨j, _, rfl⟩ := Option.map_eq_some_iff.1 hm
            rw [sortN_len]
            exact (atH_ok nlt nlt_names (h := 2) (by omega) K _).le
          exact ⟨hh 0 m0 hm0, hh 1 m1 hm1⟩
        have hd := hdis 0 1 s0 s1 (by omega) hs0 hs1
        obtain ⟨b3, o3, hae, _, hl3, hx3⟩ := hv.rec0.at TL.ok.len hs0 TL.ok.pos
        obtain ⟨b4, o4, hae4, _, hl4, hx4⟩ := hv.rec0.at TL.ok.len hs1 TL.ok.pos
        rw [hae] at hae4
        injection hae4 with hae4
        injection hae4 with e1 e2 _
        subst e1 e2
        subst hae
        obtain ⟨a0, n0, k0⟩ := s0
        obtain ⟨a1, n1, k1⟩ := s1
        have d0 : w12.cell? ⟨b3, o3, none⟩ = some (.slice a0 n0 k0) := by simpa [TL] using hx3 0 _ rfl
        have d1 : w12.cell? ⟨b3, o3 + 1, none⟩ = some (.slice a1 n1 k1) := by simpa [TL] using hx4 0 _ rfl
        have HV := Lib.hid hv
        have HR0 := Lib.hid hR0
        have HR1 := Lib.hid hR1
        have HDI := Lib.hid hd
        have HCL := Lib.hid (CloneStr_any (l := m1) (.slice a1 n1 k1) w12 (by omega) hR1.rec0)
        clear hv hrows hdis hs0 hs1 hm0 hm1 hR0 hR1 hd hx3 hx4 hR hsl HH
        go_wp2_with fail
        refine HCL.out.mono ?_
        rintro e w13 ⟨vl, rfl, hL13, hb13⟩
        obtain ⟨la, lcap, hvl2, _, _⟩ := hL13.form
        obtain ⟨ln1, hln1⟩ : ∃ n, n = m1.length := ⟨_, rfl⟩
        rw [← hln1] at hvl2
        subst hvl2
        clear hln1
        have HL13 := Lib.hid hL13
        have d0' : w13.cell? ⟨b3, o3, none⟩ = some (.slice a0 n0 k0) := (hb13.cell (p := ⟨b3, o3, none⟩) hl3).trans d0
        have d1' : w13.cell? ⟨b3, o3 + 1, none⟩ = some (.slice a1 n1 k1) := (hb13.cell (p := ⟨b3, o3 + 1, none⟩) hl3).trans d1
        have HSP := Lib.hid (spoilNq_any m0 (.slice a0 n0 k0) w13 w11.heap.size (by omega) (HR0.out.below hb13))
        have HV13 := Lib.hid (HV.out.below hb13)
        have HR13 := Lib.hid (HR1.out.below hb13)
        have HR03 := Lib.hid (HR0.out.below hb13)
        have hz13 := hb13.size
        have hb1113 := Bl.trans hb12 hb13
        clear hL13 hb13 d0 d1
        go_wp2_with fail
        refine HSP.out.mono ?_
        rintro e w14 ⟨rfl, hg14⟩
        have hrow : (Value.slice a1 n1 k1).ownBlock = none ∨ (Value.slice a1 n1 k1).ownBlock ≠ (Value.slice a0 n0 k0).ownBlock := by
          rcases HDI.out with e | e
          · cases hv : (Value.slice a1 n1 k1).ownBlock with
            | none => exact .inl rfl
            | some g => exact .inr (by rw [show (Value.slice a0 n0 k0).ownBlock = none from e]; simp)
          · exact .inr fun h => e h.symm
        have hR14 : OwnR TS w14 w11.heap.size (.slice a1 n1 k1) m1 := HR13.out.kept hg14 hrow
        have hlr : (Value.slice la ln1 lcap).ownBlock = none ∨ (Value.slice la ln1 lcap).ownBlock ≠ (Value.slice a0 n0 k0).ownBlock := by
          cases hv : (Value.slice la ln1 lcap).ownBlock with
          | none => exact .inl rfl
          | some g =>
            refine .inr fun e => ?_
            have h1 := (World.ownsRow.lt HL13.out g hv).1
            have h2 := (World.ownsRow.lt HR0.out g e.symm).2
            omega
        have hL14 : OwnR TS w14 w12.heap.size (.slice la ln1 lcap) m1 := HL13.out.kept hg14 hlr
        have hV14 : OwnR TL w14 w11.heap.size (.slice (some ⟨b3, o3, none⟩) K.length gcap) sls := HV13.out.kept hg14 (OwnR.apart TLS HV13.out HR03.out)
        have d1'' : w14.cell? ⟨b3, o3 + 1, none⟩ = some (.slice a1 n1 k1) := by
          have hbk : ∀ g, (Value.slice a0 n0 k0).ownBlock = some g → g ≠ b3 := fun g hg e => by
            rcases OwnR.apart TSL HR03.out HV13.out with h | h
            · rw [show (Value.slice a0 n0 k0).ownBlock = none from h] at hg; cases hg
            · exact h (by rw [show (slV (a0, n0, k0)).ownBlock = some g from hg, e]; rfl)
          have hlt : b3 < w13.heap.size := by omega
          have := hg14.block b3 hlt (fun e => hbk b3 e.symm rfl)
          unfold World.cell? at d1' ⊢
          rw [this]; exact d1'
        have HEQ := Lib.hid (EqualStr_self m1 (.slice a1 n1 k1) (.slice la ln1 lcap) w14 (by omega) hR14.rec0 hL14.rec0)
        have HG := Lib.hid (Below.trans hb1113 (app_belowR HR03.out hg14 hb1113.size))
        have hz14 := hg14.size
        clear hg14 hR14 hL14 hV14 hrow hlr d0' d1'
        go_wp2_with fail
        refine HEQ.out.mono ?_
        rintro e w15 ⟨rfl, hb15⟩
        have HG15 := Lib.hid (Bl.trans HG.out hb15)
        clear hb15
        go_wp2
        go_meet
        case rel => exact HG15
      · have HG := Lib.hid hb12
        clear hv hrows hdis hR hsl HH hb12
        go_wp2
        go_meet
        case rel => exact HG
    · have HG := Lib.hid (Below.refl w11.heap.size w11)
      go_wp2
      go_meet
      case rel => exact HG
  case rest =>
    have hb12 := hcut.out
    have HB12 := Lib.hid (Bl.trans HB11.out hb12)
    have HY12 := Lib.hid (HY11.out.below hb12)
    have HX12 := Lib.hid (HX11.out.below hb12)
    have HM12 := Lib.hid (HM11.out.below hb12)
    clear hb12 hcut
    have HS1 := Lib.hid (spoilIq_any _ vx wc w7.heap.size (by omega) HX12.out)
    go_wp2_with fail
    refine HS1.out.mono ?_
    rintro e w13 ⟨rfl, hg13, hm13⟩
    have HB13 := Lib.hid (Below.trans HB12.out (HX12.out.belowG hg13 HB12.out.size))
    have HY13 := Lib.hid (hm13 _ _ _ HY12.out)
    have HM13 := Lib.hid (HM12.out.spoil HX12.out hg13 hm13)
    clear hg13 hm13
    have HS2 := Lib.hid (spoilIq_any _ vy w13 w7.heap.size (by omega) HY13.out)
    go_wp2_with fail
    refine HS2.out.mono ?_
    rintro e w14 ⟨rfl, hg14, hm14⟩
    have HB14 := Lib.hid (Below.trans HB13.out (HY13.out.belowG hg14 HB13.out.size))
    have HM14 := Lib.hid (HM13.out.spoil HY13.out hg14 hm14)
    clear hg14 hm14
    go_wp2_with fail
    go_loopw [117] (fun i wr => ∃ k : Nat, k ≤ cn ∧ i = .int .i64 k ∧ Hid (RowsM wr w7.heap.size (.slice ra cn rcap) vs) ∧ Hid (Below w7.heap.size w7 wr)) (fun i _ => cn - (intOf i).toNat)
    case atStart => exact ⟨0, Nat.zero_le _, rfl, HM14, HB14⟩
    case round =>
      obtain ⟨k, hk, rfl, HMr, HBr⟩ := hrel
      by_cases hlt : k < cn
      · obtain ⟨y, hy⟩ : ∃ y, vs[k]? = some y := ⟨_, List.getElem?_eq_getElem (by rw [← HCN.out]; exact hlt)⟩
        obtain ⟨b5, o5, hae, hl5, hc5⟩ : ∃ b o, ra = some ⟨b, o, none⟩ ∧ b < wr.heap.size ∧ wr.cell? ⟨b, o + k, none⟩ = some y := by
          obtain ⟨a', c', hv', _, _, h3⟩ := HMr.out.1.rd
          obtain ⟨b5, o5, hae, _, hl5, hc5⟩ := h3 k y hy
          injection hv' with e1 _ _
          exact ⟨b5, o5, e1.trans hae, hl5, hc5⟩
        subst hae
        obtain ⟨n, hn, hOy⟩ := HMr.out.2 y (List.mem_of_getElem? hy)
        have HOY := Lib.hid hOy
        have HSy := Lib.hid (spoilIq_any n y wr w7.heap.size (by omega) hOy)
        have hw1 : IntKind.i64.wrap ((k : Int) + 1) = ((k + 1 : Nat) : Int) := by rw [IntWalk.i64_in _ (by omega)]; omega
        clear hOy hy hn
        go_wp2_with fail
        refine HSy.out.mono ?_
        rintro e wz ⟨rfl, hgz, hmz⟩
        have HMz := Lib.hid (HMr.out.spoil HOY.out hgz hmz)
        have HBz := Lib.hid (Below.trans HBr.out (HOY.out.belowG hgz HBr.out.size))
        clear hgz hmz hc5 hl5
        go_wp2
        go_roundw
        case rel => exact ⟨k + 1, by omega, by go_num, HMz, HBz⟩
        case measure => simp [intOf]; omega
      · have HE1 := EqualPt_any P P (.slice pa P.length pcap) (.slice qa P.length qcap) wr (by omega) (by omega) (HP7.out.below HBr.out) (HQ7.out.below HBr.out)
        rw [show decide (P = P) = true from decide_eq_true rfl] at HE1
        have HE1 := Lib.hid HE1
        have HE2 := Lib.hid (show ∀ W, Below wr.heap.size wr W → Calls Tryz.prog 27 #[.slice oa (nats o).length ocap, .slice sa (nats o).length scap] W fun e w' => e = .returned (.bool true) ∧ Below W.heap.size W w' from fun W hW => by
          have := EqualI_any (nats o) (nats o) (.slice oa (nats o).length ocap) (.slice sa (nats o).length scap) W (by omega) (by omega) ((HO7.out.below HBr.out).below hW) ((HS7.out.below HBr.out).below hW)
          rw [show eqL (nats o) (nats o) = true by simp [eqL]] at this
          exact this.mono fun e w' ⟨h1, q, h2⟩ => ⟨h1, h2 ▸ Bl.drewN (Below.refl _ _) q⟩)
        have HE3 := Lib.hid (fun W (hW : Below wr.heap.size wr W) => EqualStr_self K (.slice ka K.length kcap) (.slice wa K.length wcap) W (by omega) ((HK7.out.below HBr.out).below hW) ((HW7.out.below HBr.out).below hW))
        go_wp2_with fail
        refine HE1.out.mono ?_
        rintro e w16 ⟨rfl, hb16⟩
        go_wp2_with fail
        refine (HE2.out _ hb16).mono ?_
        rintro e w17 ⟨rfl, hb17⟩
        have hb17 := Bl.trans hb16 hb17
        go_wp2_with fail
        refine (HE3.out _ hb17).mono ?_
        rintro e w18 ⟨rfl, hb18⟩
        have hb18 := Bl.trans hb17 hb18
        go_wp2_with fail
        refine (ready_any _).mono ?_
        rintro e w19 ⟨rfl, hb19⟩
        have HF := Lib.hid (Bl.trans (Bl.trans HB7.out HBr.out) (Bl.trans hb18 hb19))
        clear hb16 hb17 hb18 hb19
        go_wp2
        go_ret
        exact ⟨rfl, HF.out⟩
end Go.Proofs.YtbkglhakhahfpaaGreatDoor
