/- The walk of ComponentsAddUp: whatever the input: true. No conditions. -/
import Derived.Test.YtcfeoapbbkfbnaaGreatDoorRh3
import Derived.Test.YtcfeoapbbkfbnaaGreatDoorRh9
import Derived.Test.YtcfeoapbbkfbnaaGreatDoorReady2
import Derived.Test.YtcfeoapbbkfbnaaGreatDoorStart
namespace Go.Proofs.YtcfeoapbbkfbnaaGreatDoor
open Go.RowKit Go.Sort Go.Maps

theorem ask_l {F : Int} (h : F = 0) {b : Bool} (hb : b = true) : askF F b (inB 0 345686399999 345686399999) 8 = 0 := by rw [h, hb]; decide
theorem ask_b {F : Int} (h : F = 0) {b : Bool} (hb : b = true) : askF F b true 8 = 0 := by rw [h, hb]; decide
theorem u3_ask {b : ByteArray} (h : b ∈ U3) {F : Int} (h0 : F = 0) : askF F (keyB b) true 5 = 0 ∧ b.size ≤ 140737488355328 := by
  rw [h0]
  simp only [U3, List.mem_cons, List.not_mem_nil, or_false] at h
  rcases h with rfl | rfl | rfl <;> exact ⟨by decide, by decide⟩
theorem f2_ask {b : ByteArray} (h : b ∈ F2) {F : Int} (h0 : F = 0) : askF F (keyB b) (inB 0 345686399999 345686399999) 5 = 0 ∧ b.size ≤ 140737488355328 ∧ b ≠ ByteArray.empty := by
  rw [h0]
  simp only [F2, List.mem_cons, List.not_mem_nil, or_false] at h
  rcases h with rfl | rfl <;> exact ⟨by decide, by decide, by decide⟩
theorem orgS_snoc {l : List Org} {j : Nat} {o : Org} (h : l[j]? = some o) : orgS (l.take (j + 1)) = orgS (l.take j) + o.2.2 := by
  rw [List.take_add_one, h, Option.toList_some, orgS_app]
  show _ + (o.2.2 + 0) = _
  omega
theorem manyS_snoc {l : List Rel} {j : Nat} {x : Rel} (h : l[j]? = some x) : manyS (l.take (j + 1)) = manyS (l.take j) + x.2.2 := by
  rw [List.take_add_one, h, Option.toList_some, manyS_app]
  show _ + (x.2.2 + 0) = _
  omega
theorem leftS_snoc (left : Lf) {l : List Rel} {j : Nat} {x : Rel} (h : l[j]? = some x) : sumL left (keysR (l.take (j + 1))) = sumL left (keysR (l.take j)) + left x.1 := by
  rw [List.take_add_one, h, Option.toList_some]
  show sumL left ((l.take j ++ [x]).map (·.1)) = sumL left ((l.take j).map (·.1)) + left x.1
  rw [List.map_append, sumL_app]
  show _ + (left x.1 + 0) = _
  omega
theorem tookU_snoc (log : List Tkn) {U : List ByteArray} {k : Nat} {b : ByteArray} (h : U[k]? = some b) : tookU log (U.take (k + 1)) = tookU log (U.take k) + orgS (orgL log b) := by
  rw [List.take_add_one, h, Option.toList_some, tookU_app]
  show _ + (orgS (orgL log b) + 0) = _
  omega
set_option maxHeartbeats 16000000 in
set_option maxRecDepth 100000 in
theorem ComponentsAddUp_any (l : List Int) (v : Value) (w : World) (rl : Ints w 0 v l) (hl : ∀ x ∈ l, -9223372036854775808 ≤ x ∧ x ≤ 9223372036854775807) :
    Calls Tryz.prog 6 #[v] w fun e w' => e = .returned (.bool true) ∧ Below w.heap.size w w' := by
  obtain ⟨va, cap, rfl, hc1, hc2⟩ := Ints.form rl
  have hs0 := Str.begin rl hl
  have hb0 := Bl.alloc (Below.refl w.heap.size w) (.cells #[.slice va l.length cap, .int .i64 0] 25)
  clear rl hl
  go_enter Tryz.func6, Tryz.ntmps6
  go_wp2_with fail
  refine (RightFeeds_any _ 0 _ hs0 (by omega)).mono ?_
  rintro e w1 ⟨vr, rs, vf, fs, rfl, hR1, hF1, hr4, hf15, hrk, hfk, hz, hs1, hg1⟩
  have hB1 := Below.trans hb0 (Gr.below hg1 (Nat.le_refl _) hb0.size)
  have hR1 := hR1.rec0
  have hF1 := hF1.rec0
  obtain ⟨ra, rc, rfl, _, _⟩ := hR1.form
  have HRZ := Lib.hid (RelOk.z hrk)
  have HGZ := Lib.hid (show FedZ (noCnt fs) from fun x hx => FedOk.z hfk x ((noCnt_sub fs).subset hx))
  have HCA := Lib.hid (caF hz hfk)
  have HGL := Lib.hid (show (noCnt fs).length ≤ 15 from Nat.le_trans (noCnt_sub fs).length_le hf15)
  have HR4 := Lib.hid hr4
  have HDE := Lib.hid (fun (v : Value) (W : World) (hB : w1.heap.size ≤ W.heap.size) => DeleteCnt_any fs v W w1.heap.size hB (by omega))
  have HCL := Lib.hid (CloneFe_any vf w1 (by omega) hF1)
  obtain ⟨g, hg⟩ : ∃ q, q = noCnt fs := ⟨_, rfl⟩
  rw [← hg] at HGZ HCA HGL HDE
  obtain ⟨A, hA⟩ : ∃ q, q = runM 345686400000 (newM rs) 0 g := ⟨_, rfl⟩
  rw [← hA] at HCA
  have HB1 := Lib.hid hB1
  have HR1 := Lib.hid hR1
  clear hs0 hb0 hR1 hF1 hr4 hf15 hrk hfk hz hs1 hg1 hg hA hB1
  go_wp2_with fail
  refine HCL.out.mono ?_
  rintro e w2 ⟨vq, rfl, hQ2, hb2⟩
  have HQ := Lib.hid (HDE.out vq w2 hb2.size hQ2)
  have HB2 := Lib.hid hb2
  clear hQ2 hb2 HDE HCL
  go_wp2_with fail
  refine HQ.out.mono ?_
  rintro e w3 ⟨⟨vg, rfl, hG3⟩, hb3⟩
  obtain ⟨ga, gc, rfl, _, _⟩ := hG3.form
  have hB3 := HB2.out.trans hb3
  have HG := Lib.hid (fun W (hW : Below w3.heap.size w3 W) => hG3.rec0.below hW)
  have HR := Lib.hid (fun W (hW : Below w3.heap.size w3 W) => (HR1.out.below hB3).below hW)
  have HB3 := Lib.hid (Bl.trans HB1.out hB3)
  have HN := Lib.hid (show rs.length ≤ 1000000 ∧ g.length ≤ 900 by have := HR4.out; have := HGL.out; omega)
  clear hG3 hb3 hB3 HQ HB2 HB1 HR1
  have hm0 : manyS (rs.take 0) = 0 := rfl
  have hl0 : sumL A.left (keysR (rs.take 0)) = 0 := rfl
  have HR40 := HR4.out
  go_wp2_with fail
  go_loopg [6, 7, 44] rs.length (fun gk v6 v7 i wr => ∃ k : Nat, gk = rs.length - k ∧ k ≤ rs.length ∧ i = .int .i64 k ∧ v6 = .int .i64 (manyS (rs.take k)) ∧ v7 = .int .i64 (sumL A.left (keysR (rs.take k))) ∧ Hid (Below w3.heap.size w3 wr))
  case atStart => exact ⟨0, by omega, Nat.zero_le _, rfl, by rw [hm0], by rw [hl0], Lib.hid (Below.refl _ _)⟩
  clear hm0 hl0
  case round =>
    obtain ⟨k, rfl, hk, rfl, rfl, rfl, HB⟩ := hrel
    by_cases hlt : k < rs.length
    case pos =>
      obtain ⟨x, hx⟩ : ∃ z, rs[k]? = some z := ⟨_, List.getElem?_eq_getElem hlt⟩
      have HSM := Lib.hid (manyS_snoc hx)
      have HSL := Lib.hid (leftS_snoc A.left hx)
      have hxm := List.mem_of_getElem? hx
      have hxb := HCA.out.rz x hxm
      have hxl := HCA.out.left hxm
      have hsm := manyS_le (rs.take k) fun y hy => HCA.out.rz y (List.mem_of_mem_take hy)
      have hsl := sumL_bd HCA.out.inv.lf (keysR (rs.take k))
      rw [List.length_map] at hsl
      have hkl : (rs.take k).length = k := by rw [List.length_take]; omega
      rw [hkl] at hsm hsl
      obtain ⟨b1, o1, hae, _, hb1', hc1'⟩ := (HR.out wr HB.out).at TRe.ok.len hx TRe.ok.pos
      subst hae
      have hhas : hasB rs x.1 = true := hasB_key.2 (List.mem_map.2 ⟨x, hxm, rfl⟩)
      obtain ⟨xk, xp, xm⟩ := x
      have c0 : wr.cell? ⟨b1, o1 + k * 3, none⟩ = some (.string xk) := hc1' 0 _ rfl
      have c1 : wr.cell? ⟨b1, o1 + k * 3 + 1, none⟩ = some (.string xp) := hc1' 1 _ rfl
      have c2 : wr.cell? ⟨b1, o1 + k * 3 + 2, none⟩ = some (.int .i64 xm) := hc1' 2 _ rfl
      have hw1 : IntKind.i64.wrap ((k : Int) + 1) = ((k + 1 : Nat) : Int) := by rw [IntWalk.i64_in _ (by omega)]; omega
      obtain ⟨n, hn⟩ : ∃ n, n = A.left xk := ⟨_, rfl⟩
      obtain ⟨S, hS⟩ : ∃ S, S = manyS (rs.take k) := ⟨_, rfl⟩
      obtain ⟨T, hT⟩ : ∃ T, T = sumL A.left (keysR (rs.take k)) := ⟨_, rfl⟩
      simp only at hxb hxl
      rw [← hn] at hxl
      rw [← hS] at hsm
      rw [← hT] at hsl
      simp only [← hn, ← hS, ← hT] at HSM HSL
      rw [← hS, ← hT]
      have hws : IntKind.i64.wrap (S + xm) = S + xm := IntWalk.i64_in _ (by omega)
      have hwt : IntKind.i64.wrap (T + n) = T + n := IntWalk.i64_in _ (by omega)
      have hn0 : ¬ n < 0 := by omega
      have hn1 : ¬ n > xm := by omega
      have hn2 : ¬ xm < n := by omega
      obtain ⟨w5, hw5⟩ : ∃ w5, w5 = wr.alloc (.cells #[.string xk, .string xp, .int .i64 xm] 73) := ⟨_, rfl⟩
      have hb5 : Below wr.heap.size wr w5 := by rw [hw5]; exact Bl.alloc (Below.refl _ _) _
      have hX5 : w5.heap[wr.heap.size]? = some (.cells #[.string xk, .string xp, .int .i64 xm] 73 (0, 0)) := by rw [hw5]; exact blk_new wr _
      have HB5 := Lib.hid (HB.out.trans (hb5.mono HB.out.size))
      have HLE := LeftR_any rs g xk 345686399999 _ _ w5 HN.out.1 HN.out.2 (HR.out w5 HB5.out) (HG.out w5 HB5.out) HRZ.out HGZ.out
      rw [ask_l HCA.out.f0 hhas, if_pos rfl, HCA.out.e1, ← hn] at HLE
      have HLE := Lib.hid HLE
      have HX5 := Lib.hid hX5
      have y0 := blk_cell hX5 0
      have y2 := blk_cell hX5 2
      simp at y0 y2
      have hz5 := blk_lt hX5
      clear hx hxm hxb hxl hsm hsl hkl hc1' hhas hn hS hT hb5 hX5
      go_wp2_with fail
      rw [← hw5]
      clear hw5
      refine HLE.out.mono ?_
      rintro e w6 ⟨rfl, hb6⟩
      have z2 := blk_cell (blk_below HX5.out hb6) 2
      simp at z2
      have hz6 := blk_lt (blk_below HX5.out hb6)
      have HB6 := Lib.hid (HB5.out.trans (hb6.mono HB5.out.size))
      clear hb6 HLE c0 c1 c2 y0 y2
      go_wp2
      go_roundg (rs.length - (k + 1))
      case rel => exact ⟨k + 1, rfl, by omega, by go_num, by rw [HSM.out], by rw [HSL.out], HB6⟩
      case measure => omega
    case neg =>
      obtain rfl : k = rs.length := by omega
      rw [List.take_length]
      have HB4 := HB
      clear HB
      generalize wr = w4 at *
      obtain ⟨S, hS⟩ : ∃ S, S = manyS rs := ⟨_, rfl⟩
      obtain ⟨T, hT⟩ : ∃ T, T = sumL A.left (keysR rs) := ⟨_, rfl⟩
      rw [← hS, ← hT]
      have HST := Lib.hid (And.intro hS hT)
      clear hS hT
      obtain ⟨w5, hw5⟩ : ∃ w5, w5 = w4.alloc (.cells #[.string ⟨#[117, 49]⟩, .string ⟨#[117, 50]⟩, .string ⟨#[117, 51]⟩] 9) := ⟨_, rfl⟩
      have hb5 : Below w4.heap.size w4 w5 := by rw [hw5]; exact Bl.alloc (Below.refl _ _) _
      have HX5 := Lib.hid (show w5.heap[w4.heap.size]? = some (.cells #[.string ⟨#[117, 49]⟩, .string ⟨#[117, 50]⟩, .string ⟨#[117, 51]⟩] 9 (0, 0)) by rw [hw5]; exact blk_new w4 _)
      have HB5 := Lib.hid (HB4.out.trans (hb5.mono HB4.out.size))
      have ht0 : tookU A.log (U3.take 0) = 0 := rfl
      clear hb5 HB4
      go_wp2_with fail
      rw [← hw5]
      clear hw5
      go_loopg [8, 78] 3 (fun gk v8 i wr => ∃ k : Nat, gk = 3 - k ∧ k ≤ 3 ∧ i = .int .i64 k ∧ v8 = .int .i64 (tookU A.log (U3.take k)) ∧ Hid (Below w5.heap.size w5 wr))
      case atStart => exact ⟨0, by omega, by omega, rfl, by rw [ht0], Lib.hid (Below.refl _ _)⟩
      clear ht0
      case round =>
        obtain ⟨k, rfl, hk, rfl, rfl, HB⟩ := hrel
        obtain ⟨wo, rfl⟩ : ∃ wo : World, wo = wr := ⟨_, rfl⟩
        by_cases hlt : k < 3
        case pos =>
          obtain ⟨b, hc, hbu⟩ : ∃ b, wo.cell? ⟨w4.heap.size, k, none⟩ = some (.string b) ∧ U3[k]? = some b := by
            have h5 := blk_below HX5.out HB.out
            have hk' : k = 0 ∨ k = 1 ∨ k = 2 := by omega
            rcases hk' with rfl | rfl | rfl
            · exact ⟨_, blk_cell h5 0, rfl⟩
            · exact ⟨_, blk_cell h5 1, rfl⟩
            · exact ⟨_, blk_cell h5 2, rfl⟩
          have hlt4 : w4.heap.size < wo.heap.size := blk_lt (blk_below HX5.out HB.out)
          have hw1 : IntKind.i64.wrap ((k : Int) + 1) = ((k + 1 : Nat) : Int) := by rw [IntWalk.i64_in _ (by omega)]; omega
          have HBU := Lib.hid hbu
          have HBM := Lib.hid (List.mem_of_getElem? hbu)
          have HB3r := Lib.hid (HB5.out.trans (HB.out.mono HB5.out.size))
          have HTA := Lib.hid (fun j => HCA.out.took HR4.out (j := j) hbu)
          have HTN := Lib.hid (tookU_snoc A.log hbu)
          obtain ⟨M, hM⟩ : ∃ q, q = orgL A.log b := ⟨_, rfl⟩
          have HTR := Trace_any rs g b _ _ wo HN.out.1 HN.out.2 (HR.out wo HB3r.out) (HG.out wo HB3r.out) HRZ.out HGZ.out (u3_ask HBM.out rfl).2
          rw [(u3_ask HBM.out HCA.out.f0).1, if_pos rfl, show traceM rs g b = M by unfold traceM; rw [HCA.out.e2, hM]] at HTR
          have HTR := Lib.hid HTR
          have HMO := Lib.hid (fun o (ho : o ∈ M) => HCA.out.one (hM ▸ ho))
          have HMT := Lib.hid (show traceM rs g b = M by unfold traceM; rw [HCA.out.e2, hM])
          have HML := Lib.hid (show M.length ≤ 225 by
            have h1 := orgL_len A.log b
            have h2 := HCA.out.inv.ll
            have h3 : g.length * g.length ≤ 15 * 15 := Nat.mul_le_mul HGL.out HGL.out
            rw [hM]; omega)
          rw [← hM] at HTA HTN
          obtain ⟨tk, htk⟩ : ∃ q, q = tookU A.log (U3.take k) := ⟨_, rfl⟩
          simp only [← htk] at HTA HTN
          rw [← htk]
          have HQ0 := Lib.hid (show tk = tk + orgS (M.take 0) by show tk = tk + 0; omega)
          clear hbu hM htk
          go_wp2_with fail
          refine HTR.out.mono ?_
          rintro e w6 ⟨⟨vM, rfl, hM6⟩, hb6⟩
          obtain ⟨ma, mc, rfl, _, _⟩ := hM6.form
          have HM6 := Lib.hid hM6.rec0
          have HB6 := Lib.hid (HB3r.out.trans (hb6.mono HB3r.out.size))
          have HBo6 := Lib.hid (HB.out.trans (hb6.mono HB.out.size))
          clear hM6 hb6 HTR
          go_wp2_with fail
          go_loopg [8, 93] M.length (fun gq v8 i wx => ∃ j : Nat, gq = M.length - j ∧ j ≤ M.length ∧ i = .int .i64 j ∧ v8 = .int .i64 (tk + orgS (M.take j)) ∧ Hid (Below w6.heap.size w6 wx))
          case atStart => exact ⟨0, by omega, by omega, rfl, by rw [← HQ0.out], Lib.hid (Below.refl _ _)⟩
          clear HQ0
          case round =>
            obtain ⟨j, rfl, hj, rfl, rfl, HBj⟩ := hrel
            by_cases hjl : j < M.length
            case pos =>
              obtain ⟨o, ho⟩ : ∃ z, M[j]? = some z := ⟨_, List.getElem?_eq_getElem hjl⟩
              have hom := List.mem_of_getElem? ho
              have HSO := Lib.hid (orgS_snoc ho)
              have h1 := HMO.out o hom
              have hhas : hasB rs o.2.1 = true := hasB_key.2 h1.2
              have hho : hasO M o.2.1 = true := hasO_mem hom
              have hta := HTA.out (j + 1)
              rw [HSO.out] at hta
              obtain ⟨b1, o1, hae, _, hb1', hc1'⟩ := (HM6.out.below HBj.out).at TOr.ok.len ho TOr.ok.pos
              subst hae
              obtain ⟨of, orl, om⟩ := o
              have c0 : wr.cell? ⟨b1, o1 + j * 3, none⟩ = some (.string of) := hc1' 0 _ rfl
              have c1 : wr.cell? ⟨b1, o1 + j * 3 + 1, none⟩ = some (.string orl) := hc1' 1 _ rfl
              have c2 : wr.cell? ⟨b1, o1 + j * 3 + 2, none⟩ = some (.int .i64 om) := hc1' 2 _ rfl
              have hwj : IntKind.i64.wrap ((j : Int) + 1) = ((j + 1 : Nat) : Int) := by have := HML.out; rw [IntWalk.i64_in _ (by omega)]; omega
              obtain ⟨S2, hS2⟩ : ∃ q, q = tk + orgS (M.take j) := ⟨_, rfl⟩
              simp only at hta h1 hhas hho
              rw [← Int.add_assoc, ← hS2] at hta
              have HSN := Lib.hid (show tk + orgS (M.take (j + 1)) = S2 + om by rw [HSO.out, hS2]; simp only; omega)
              rw [← hS2]
              have hws : IntKind.i64.wrap (S2 + om) = S2 + om := IntWalk.i64_in _ (by omega)
              have hom1 : ¬ om < 1 := by omega
              obtain ⟨w7, hw7⟩ : ∃ w7, w7 = wr.alloc (.cells #[.string of, .string orl, .int .i64 om] 81) := ⟨_, rfl⟩
              have hb7 : Below wr.heap.size wr w7 := by rw [hw7]; exact Bl.alloc (Below.refl _ _) _
              have hX7 : w7.heap[wr.heap.size]? = some (.cells #[.string of, .string orl, .int .i64 om] 81 (0, 0)) := by rw [hw7]; exact blk_new wr _
              have HB7 := Lib.hid (HBj.out.trans (hb7.mono HBj.out.size))
              have HB37 := Lib.hid (HB6.out.trans (HB7.out.mono HB6.out.size))
              have HBO := BrdsR_any rs g orl _ _ w7 HN.out.1 HN.out.2 (HR.out w7 HB37.out) (HG.out w7 HB37.out) HRZ.out HGZ.out
              rw [ask_b HCA.out.f0 hhas] at HBO
              have HBO := Lib.hid HBO
              have HHO := Lib.hid (show hasO (traceM rs g b) orl = true by rw [HMT.out]; exact hho)
              have HX7 := Lib.hid hX7
              have y1 := blk_cell hX7 1
              have y2 := blk_cell hX7 2
              simp at y1 y2
              have hz7 := blk_lt hX7
              clear ho hom h1 hhas hho hta hc1' hS2 hb7 hX7
              go_wp2_with fail
              rw [← hw7]
              clear hw7
              refine HBO.out.mono ?_
              rintro e w8 ⟨⟨vB, MB, rfl, hB8, hbl, _⟩, hb8⟩
              obtain ⟨ba, bc, rfl, _, _⟩ := hB8.form
              have hBL : BrdL rs g orl MB := by first | exact hbl rfl | exact hbl trivial
              have hct : Lib.containsS MB b = true := (Lib.containsS_iff MB b).2 ((hBL.mem b).2 HHO.out)
              have hmf : MB.length ≤ 100000 := by
                have h1 := hBL.few
                have h3 : g.length * g.length ≤ 15 * 15 := Nat.mul_le_mul HGL.out HGL.out
                omega
              have HHS := HasS_any MB (.slice ba MB.length bc) b w8 hmf hB8.rec0
              rw [hct] at HHS
              have HHS := Lib.hid HHS
              have z2 := blk_cell (blk_below HX7.out hb8) 2
              simp at z2
              have hz8 := blk_lt (blk_below HX7.out hb8)
              have HB8 := Lib.hid (HB7.out.trans (hb8.mono HB7.out.size))
              clear hB8 hbl hBL hct hmf hb8 HBO c0 c1 c2 y1 y2
              go_wp2_with fail
              refine HHS.out.mono ?_
              rintro e w' ⟨rfl, rfl⟩
              go_wp2
              go_roundg (M.length - (j + 1))
              case rel => exact ⟨j + 1, rfl, by omega, by go_num, by rw [HSN.out], HB8⟩
              case measure => omega
            case neg =>
              obtain rfl : j = M.length := by omega
              rw [List.take_length, ← HTN.out]
              have HBk := Lib.hid (HBo6.out.trans (HBj.out.mono HBo6.out.size))
              go_wp2
              go_roundg (3 - (k + 1))
              case rel => exact ⟨k + 1, rfl, by omega, by go_num, rfl, HBk⟩
              case measure => omega
        case neg =>
          obtain rfl : k = 3 := by omega
          have HB6 := Lib.hid (HB5.out.trans (HB.out.mono HB5.out.size))
          clear HB HB5 HX5
          generalize wo = w6 at *
          have htk := HCA.out.tookAll HR4.out 3
          rw [show U3.take 3 = U3 from rfl] at htk ⊢
          obtain ⟨K, hK⟩ : ∃ q, q = tookU A.log U3 := ⟨_, rfl⟩
          have hsum := HCA.out.sum
          have hTb := sumL_bd HCA.out.inv.lf (keysR rs)
          rw [List.length_map, ← HST.out.2] at hTb
          rw [← HST.out.1, ← HST.out.2, ← hK] at hsum
          rw [← hK] at htk ⊢
          have hr4 := HR4.out
          have hwT : IntKind.i64.wrap (T + K) = S := by rw [IntWalk.i64_in _ (by omega)]; omega
          have HWT := Lib.hid hwT
          clear htk hK hsum hTb hwT hr4
          obtain ⟨w7, hw7⟩ : ∃ w7, w7 = w6.alloc (.cells #[.string ⟨#[102, 49]⟩, .string ⟨#[102, 50]⟩] 9) := ⟨_, rfl⟩
          have hb7 : Below w6.heap.size w6 w7 := by rw [hw7]; exact Bl.alloc (Below.refl _ _) _
          have HX7 := Lib.hid (show w7.heap[w6.heap.size]? = some (.cells #[.string ⟨#[102, 49]⟩, .string ⟨#[102, 50]⟩] 9 (0, 0)) by rw [hw7]; exact blk_new w6 _)
          have HB7 := Lib.hid (HB6.out.trans (hb7.mono HB6.out.size))
          clear hb7 HB6
          go_wp2_with fail
          rw [← hw7]
          clear hw7
          go_loopg [21, 126] 2 (fun gk v21 i wr => ∃ k : Nat, gk = 2 - k ∧ k ≤ 2 ∧ i = .int .i64 k ∧ Hid (OwnR TS wr w7.heap.size v21 (metR A k ByteArray.empty 0)) ∧ Hid (Below w7.heap.size w7 wr))
          case atStart => exact ⟨0, by omega, by omega, rfl, Lib.hid (OwnR.nil _ _), Lib.hid (Below.refl _ _)⟩
          case round =>
            obtain ⟨k, rfl, hk, rfl, HI, HB⟩ := hrel
            obtain ⟨wo, rfl⟩ : ∃ wo : World, wo = wr := ⟨_, rfl⟩
            by_cases hlt : k < 2
            case pos =>
              obtain ⟨f, hc, hfu⟩ : ∃ b, wo.cell? ⟨w6.heap.size, k, none⟩ = some (.string b) ∧ F2[k]? = some b := by
                have h5 := blk_below HX7.out HB.out
                have hk' : k = 0 ∨ k = 1 := by omega
                rcases hk' with rfl | rfl
                · exact ⟨_, blk_cell h5 0, rfl⟩
                · exact ⟨_, blk_cell h5 1, rfl⟩
              have hlt6 : w6.heap.size < wo.heap.size := blk_lt (blk_below HX7.out HB.out)
              have hw1 : IntKind.i64.wrap ((k : Int) + 1) = ((k + 1 : Nat) : Int) := by rw [IntWalk.i64_in _ (by omega)]; omega
              have HFU := Lib.hid hfu
              have HFM := Lib.hid (List.mem_of_getElem? hfu)
              have HB3r := Lib.hid (HB7.out.trans (HB.out.mono HB7.out.size))
              obtain ⟨R, hR⟩ : ∃ q, q = A.row f := ⟨_, rfl⟩
              have HFE := Feeder_any rs g f 345686399999 _ _ wo HN.out.1 HN.out.2 (HR.out wo HB3r.out) (HG.out wo HB3r.out) HRZ.out HGZ.out (f2_ask HFM.out rfl).2.1
              rw [(f2_ask HFM.out HCA.out.f0).1, if_pos rfl, show feederM rs g 345686399999 f = loadL A.left R by unfold feederM; rw [HCA.out.e1, hR]] at HFE
              have HFE := Lib.hid HFE
              have HRE := Lib.hid hR
              have hll : (loadL A.left R).length = R.length := by unfold loadL; exact List.length_map _
              have HRL := Lib.hid (show R.length ≤ 15 by rw [hR]; exact Nat.le_trans (HCA.out.inv.ln f) HGL.out)
              have HI0 := Lib.hid (show OwnR TS wo w7.heap.size u21 (metR A k f 0) from by have := HI.out; unfold metR at this ⊢; exact this)
              clear hfu hR HI
              go_wp2_with fail
              refine HFE.out.mono ?_
              rintro e w8 ⟨⟨vL, rfl, hL8⟩, hb8⟩
              obtain ⟨la, lc, hlv, _, _⟩ := hL8.form
              rw [hll] at hlv
              subst hlv
              have HL8 := Lib.hid (show OwnR TLo w8 w7.heap.size (.slice la R.length lc) (loadL A.left R) from hL8.base HB.out.size)
              have HB8 := Lib.hid (HB3r.out.trans (hb8.mono HB3r.out.size))
              have HBo8 := Lib.hid (HB.out.trans (hb8.mono HB.out.size))
              have HI8 := Lib.hid (HI0.out.below hb8)
              clear hL8 hb8 HFE hll HI0
              go_wp2_with fail
              go_loopg [21, 141] R.length (fun gq v21 i wx => ∃ j : Nat, gq = R.length - j ∧ j ≤ R.length ∧ i = .int .i64 j ∧ Hid (OwnR TS wx w7.heap.size v21 (metR A k f j)) ∧ Hid (OwnR TLo wx w7.heap.size (.slice la R.length lc) (loadL A.left R)) ∧ Hid (Below w7.heap.size w7 wx))
              case atStart => exact ⟨0, by omega, by omega, rfl, HI8, HL8, HBo8⟩
              case round =>
                obtain ⟨j, rfl, hj, rfl, HIj, HLj, HB7j⟩ := hrel
                by_cases hjl : j < R.length
                case pos =>
                  obtain ⟨x, hx⟩ : ∃ z, R[j]? = some z := ⟨_, List.getElem?_eq_getElem hjl⟩
                  have hxr : (A.row f)[j]? = some x := by rw [← HRE.out]; exact hx
                  have hxm := List.mem_of_getElem? hxr
                  have hhas : hasB rs x = true := hasB_key.2 (HCA.out.c.rowk f x hxm)
                  have hpos := HCA.out.inv.in1 f x hxm
                  have HFR := Lib.hid (HCA.out.fresh HFU.out hxr)
                  have HMS := Lib.hid (metR_snoc A k hxr)
                  have hml := metR_few HCA.out HGL.out k f j
                  have hlx : (loadL A.left R)[j]? = some (x, A.left x) := by unfold loadL; rw [List.getElem?_map, hx]; rfl
                  obtain ⟨b1, o1, hae, _, hb1', hc1'⟩ := HLj.out.rec0.at TLo.ok.len hlx TLo.ok.pos
                  subst hae
                  obtain ⟨n, hn⟩ : ∃ n, n = A.left x := ⟨_, rfl⟩
                  have c0 : wr.cell? ⟨b1, o1 + j * 2, none⟩ = some (.string x) := hc1' 0 _ rfl
                  have c1 : wr.cell? ⟨b1, o1 + j * 2 + 1, none⟩ = some (.int .i64 n) := by rw [hn]; exact hc1' 1 _ rfl
                  have hwj : IntKind.i64.wrap ((j : Int) + 1) = ((j + 1 : Nat) : Int) := by have := HRL.out; rw [IntWalk.i64_in _ (by omega)]; omega
                  obtain ⟨w9, hw9⟩ : ∃ w9, w9 = wr.alloc (.cells #[.string x, .int .i64 n] 65) := ⟨_, rfl⟩
                  have hb9 : Below wr.heap.size wr w9 := by rw [hw9]; exact Bl.alloc (Below.refl _ _) _
                  have hX9 : w9.heap[wr.heap.size]? = some (.cells #[.string x, .int .i64 n] 65 (0, 0)) := by rw [hw9]; exact blk_new wr _
                  have HL9 := Lib.hid (HLj.out.below hb9)
                  have HB79 := Lib.hid (HB7j.out.trans (hb9.mono HB7j.out.size))
                  have HB39 := Lib.hid (HB7.out.trans (HB79.out.mono HB7.out.size))
                  have HI9 := Lib.hid (HIj.out.below hb9)
                  have HWH0 := Where_any rs g x 345686399999 _ _ w9 HN.out.1 HN.out.2 (HR.out w9 HB39.out) (HG.out w9 HB39.out) HRZ.out HGZ.out
                  rw [ask_l HCA.out.f0 hhas, HCA.out.e1, hpos] at HWH0
                  have HWH := Lib.hid (show Calls Tryz.prog 17 #[.slice ra rs.length rc, .slice ga g.length gc, .string x, .int .i64 345686399999] w9 fun e w' => e = .returned (.tuple #[.string f, .bool true, .int .i64 0]) ∧ Below w9.heap.size w9 w' from HWH0.mono fun e w' h => by
                    obtain ⟨⟨q, b, he, h1, _⟩, hb⟩ := h
                    obtain ⟨e1, e2⟩ := h1 rfl
                    refine ⟨?_, hb⟩
                    rw [he, e1, e2, decide_eq_true (f2_ask HFM.out rfl).2.2])
                  have HX9 := Lib.hid hX9
                  have y0 := blk_cell hX9 0
                  simp at y0
                  have hz9 := blk_lt hX9
                  clear HWH0 hx hxr hxm hhas hpos hlx hc1' hn hb9 hX9 HIj HLj
                  go_wp2_with fail
                  rw [← hw9]
                  clear hw9
                  refine HWH.out.mono ?_
                  rintro e wA ⟨rfl, hbA⟩
                  have hXA := blk_below HX9.out hbA
                  have z0 := blk_cell hXA 0
                  simp at z0
                  have hzA := blk_lt hXA
                  have HIA := Lib.hid (HI9.out.below hbA)
                  have HLA := Lib.hid (HL9.out.below hbA)
                  have HB7A := Lib.hid (HB79.out.trans (hbA.mono HB79.out.size))
                  have hct : Lib.containsS (metR A k f j) x = false := by
                    rw [← Bool.not_eq_true, Lib.containsS_iff]; exact HFR.out
                  obtain ⟨ia, ic, hiv, _, _⟩ := HIA.out.form
                  have HHS := HasS_any (metR A k f j) u21 x wA (by omega) HIA.out.rec0
                  rw [hct] at HHS
                  have HHS := Lib.hid HHS
                  obtain ⟨L0, hL0⟩ : ∃ q, q = metR A k f j := ⟨_, rfl⟩
                  rw [← hL0] at hiv hml
                  simp only [← hL0] at HIA HMS HHS
                  subst hiv
                  have hff : (f.toList == f.toList) = true := by simp
                  have hal : L0.length ≤ 1000000 := by omega
                  have hszA := HB7A.out.size
                  clear hbA hXA hct hL0 HWH c0 c1 y0
                  go_wp2_with fail
                  refine HHS.out.mono ?_
                  rintro e w' ⟨rfl, rfl⟩
                  go_wp2_with (at_builtin; refine wp_app_rec TS.ok rfl _ _ rfl w7.heap.size _ L0 rfl (HIA.out.alloc _) wA.heap.size 1 x rfl (blk_new wA _) rfl hal (by simp; omega) ?_)
                  intro vZ wZ hOZ hAZ hbZ
                  have HOZ := Lib.hid hOZ
                  have HBZ := Lib.hid ((Bl.alloc HB7A.out _).trans hbZ)
                  have HLZ := Lib.hid (own_apart (HLA.out.alloc _) (HIA.out.alloc _) hAZ (by decide))
                  clear hOZ hAZ hbZ
                  go_wp2
                  go_roundg (R.length - (j + 1))
                  case rel => exact ⟨j + 1, rfl, by omega, by go_num, Lib.hid (by rw [HMS.out]; exact HOZ.out), HLZ, HBZ⟩
                  case measure => omega
                case neg =>
                  obtain rfl : j = R.length := by omega
                  have HIk := Lib.hid (show OwnR TS wr w7.heap.size u21 (metR A (k + 1) ByteArray.empty 0) by
                    rw [← metR_next A HFU.out]
                    rw [← HRE.out]
                    exact HIj.out)
                  go_wp2
                  go_roundg (2 - (k + 1))
                  case rel => exact ⟨k + 1, rfl, by omega, by go_num, HIk, HB7j⟩
                  case measure => omega
            case neg =>
              obtain rfl : k = 2 := by omega
              have HBE := Lib.hid (HB3.out.trans ((HB7.out.trans (HB.out.mono HB7.out.size)).mono HB3.out.size))
              have hwT := HWT.out
              have hss : (S == S) = true := by simp
              go_wp2_with fail
              refine (ready_any wo).mono ?_
              rintro e wC ⟨rfl, hbC⟩
              have HBC := Lib.hid (Bl.trans HBE.out hbC)
              clear hbC
              go_wp2
              go_ret
              exact ⟨rfl, HBC.out⟩
end Go.Proofs.YtcfeoapbbkfbnaaGreatDoor
