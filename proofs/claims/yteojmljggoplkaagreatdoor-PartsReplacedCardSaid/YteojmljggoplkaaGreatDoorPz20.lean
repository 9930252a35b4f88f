/- Texts of the proof of a law, put together, part 20 of 46. Conditions: none beyond those that each theorem names. -/
import Derived.Test.YteojmljggoplkaaGreatDoorPz1
import Derived.Test.YteojmljggoplkaaGreatDoorPz19
import Derived.Sort.Grow
import Derived.Sort.Row
namespace Go.Proofs.YteojmljggoplkaaGreatDoor
open Go.RowKit Go.Sort
theorem growR_nd {U : List Bs} : ∀ (d out : List Bs), out.Nodup → (∀ s ∈ out, s ∈ U) → (∀ s ∈ d, s ∈ U) → (growR out d).Nodup ∧ ∀ s ∈ growR out d, s ∈ U
  | [], _, h1, h2, _ => ⟨h1, h2⟩
  | x :: r, out, h1, h2, h3 => by
    rw [growR]
    by_cases e : x ∈ out
    · rw [if_pos e]
      exact growR_nd r out h1 h2 fun s hs => h3 s (List.mem_cons_of_mem _ hs)
    · rw [if_neg e]
      refine growR_nd r _ ?_ ?_ fun s hs => h3 s (List.mem_cons_of_mem _ hs)
      · rw [List.nodup_append]
        refine ⟨h1, List.nodup_cons.2 ⟨List.not_mem_nil, List.nodup_nil⟩, ?_⟩
        intro a ha b hb
        rw [List.mem_singleton.1 hb]
        exact fun h => e (h ▸ ha)
      · intro s hs
        rcases List.mem_append.1 hs with q | q
        · exact h2 s q
        · rw [List.mem_singleton.1 q]
          exact h3 x List.mem_cons_self
/-- all that a part reaches, in the reference's order. -/
def reachB (ps : List Prt) (l : List Alt) (a : Bs) : List Bs := reachR (nextL l) ((keysP ps).length + 1) 0 [a]
theorem few_keys {ps : List Prt} {out : List Bs} (h1 : out.Nodup) (h2 : ∀ s ∈ out, s ∈ keysP ps) : out.length ≤ ps.length := by
  have h := List.Nodup.length_le_of_subset h1 (l₂ := keysP ps) h2
  have h7 : (keysP ps).length = ps.length := List.length_map _
  omega
theorem reachR_nd {ps : List Prt} {l : List Alt} (h : catsF ps l = 0) : ∀ (f i : Nat) (out : List Bs), out.Nodup → (∀ s ∈ out, s ∈ keysP ps) → (reachR (nextL l) f i out).Nodup ∧ ∀ s ∈ reachR (nextL l) f i out, s ∈ keysP ps
  | 0, _, _, h1, h2 => ⟨h1, h2⟩
  | f + 1, i, out, h1, h2 => by
    rw [reachR]
    cases out[i]? with
    | none => exact ⟨h1, h2⟩
    | some p =>
      obtain ⟨h3, h4⟩ := growR_nd (U := keysP ps) (nextL l p) out h1 h2 fun s hs => (next_in h hs).2.1
      exact reachR_nd h f (i + 1) _ h3 h4
theorem reachB_nd {ps : List Prt} {l : List Alt} (h : catsF ps l = 0) {a : Bs} (ha : a ∈ keysP ps) : (reachB ps l a).Nodup ∧ (∀ s ∈ reachB ps l a, s ∈ keysP ps) ∧ (reachB ps l a).length ≤ ps.length := by
  obtain ⟨h1, h2⟩ := reachR_nd h ((keysP ps).length + 1) 0 [a] (List.nodup_cons.2 ⟨List.not_mem_nil, List.nodup_nil⟩) (fun s hs => by rw [List.mem_singleton.1 hs]; exact ha)
  exact ⟨h1, h2, few_keys h1 h2⟩
theorem nextL_few (l : List Alt) (p : Bs) : (nextL l p).length ≤ 2 * l.length := by
  unfold nextL
  rw [List.length_mergeSort, List.length_map]
  exact Nat.le_trans (List.length_filter_le _ _) (waysL_len l)
set_option maxHeartbeats 4000000 in
set_option maxRecDepth 100000 in
theorem reach_any (ps : List Prt) (l : List Alt) (vp va : Value) (key : ByteArray) (w : World) (hl : ps.length ≤ 100000) (hl2 : l.length ≤ 100000) (h0 : catsF ps l = 0) (hc : CatR w vp va ps l) (hk : bsOf key ∈ keysP ps) :
    Calls Tryz.prog 63 #[.agg #[vp, va], .string key] w fun e w' => (∃ v, e = .returned v ∧ OwnR TS w' w.heap.size v ((reachB ps l (bsOf key)).map baOf)) ∧ Below w.heap.size w w' := by
  have HDF := Lib.hid fun (k : ByteArray) W (hW : Below w.heap.size w W) => DirectOf_any ps l vp va k W hl h0 (hc.low hW)
  obtain ⟨pa, pc, rfl, _, _⟩ := hc.p.form
  obtain ⟨aa, ac, rfl, _, _⟩ := hc.a.form
  obtain ⟨w0, hw0⟩ : ∃ w0, w0 = w.alloc (.cells #[.slice pa ps.length pc, .slice aa l.length ac] 29) := ⟨_, rfl⟩
  have hA0 : Below w.heap.size w w0 := by rw [hw0]; exact Bl.alloc (Below.refl _ _) _
  have hx0 : w0.heap[w.heap.size]? = some (.cells #[.slice pa ps.length pc, .slice aa l.length ac] 29 (0, 0)) := by rw [hw0]; exact blk_new w _
  have hz0 : w0.heap.size = w.heap.size + 1 := by rw [hw0]; simp
  obtain ⟨w1, hw1⟩ : ∃ w1, w1 = w0.alloc (.cells #[.string key] 9) := ⟨_, rfl⟩
  have hA1 : Below w0.heap.size w0 w1 := by rw [hw1]; exact Bl.alloc (Below.refl _ _) _
  have HO1 : Hid (OwnR TS w1 w0.heap.size (.slice (some ⟨w0.heap.size, 0, none⟩) 1 1) [key]) := Lib.hid (own_one TS.ok (x := key) (B := w0.heap.size) (g := w0.heap.size) (Nat.le_refl _) (by rw [hw1]; exact blk_new w0 _) rfl)
  have HXC := Lib.hid (show ∀ W, Below w0.heap.size w0 W → W.cell? ⟨w.heap.size, 0, none⟩ = some (.slice pa ps.length pc) ∧ W.cell? ⟨w.heap.size, 1, none⟩ = some (.slice aa l.length ac) ∧ w.heap.size < W.heap.size from fun W hW => ⟨blk_cell (blk_below hx0 hW) 0, blk_cell (blk_below hx0 hW) 1, blk_lt (blk_below hx0 hW)⟩)
  have HW1 := Lib.hid (And.intro hw0 (And.intro hw1 hz0))
  have HB0 := Lib.hid hA0
  have HB1 := Lib.hid hA1
  have HC0 := Lib.hid h0
  have HKY := Lib.hid hk
  clear hw0 hw1 hA0 hA1 hc h0 hx0 hk hz0
  go_enter Tryz.func63, Tryz.ntmps63
  go_wp2
  rw [← HW1.out.1, ← HW1.out.2.1, ← HW1.out.2.2]
  go_loopw [5, 6] (fun v i wr => ∃ (n : Nat) (out : List Bs), n ≤ out.length ∧ i = .int .i64 n ∧ Hid (OwnR TS wr w0.heap.size v (out.map baOf)) ∧ Hid (reachR (nextL l) ((keysP ps).length + 1 - n) n out = reachB ps l (bsOf key)) ∧ Hid (out.Nodup ∧ ∀ s ∈ out, s ∈ keysP ps) ∧ Hid (Below w0.heap.size w0 wr)) (fun _ i _ => ps.length - (intOf i).toNat)
  case atStart => exact ⟨0, [bsOf key], Nat.zero_le _, rfl, by rw [show ([bsOf key] : List Bs).map baOf = [key] from by rw [List.map_cons, List.map_nil, baD_bsOf]]; exact HO1, Lib.hid rfl, Lib.hid ⟨List.nodup_cons.2 ⟨List.not_mem_nil, List.nodup_nil⟩, fun s hs => by rw [List.mem_singleton.1 hs]; exact HKY.out⟩, HB1⟩
  case round =>
    obtain ⟨n, out, hn, rfl, HO, HR, HN, HB⟩ := hrel
    have hfew := few_keys HN.out.1 HN.out.2
    obtain ⟨ova, ocap, hov, hoc1, hoc2⟩ := HO.out.form
    rw [List.length_map] at hov hoc1
    subst hov
    obtain ⟨m, hm⟩ : ∃ m, m = out.length := ⟨_, rfl⟩
    have HM := Lib.hid hm
    rw [← hm] at HO hn hfew hoc1
    rw [← hm]
    clear hm
    by_cases hlt : n < m
    · obtain ⟨pk, hpk⟩ : ∃ p, out[n]? = some p := ⟨_, List.getElem?_eq_getElem (by have := HM.out; omega)⟩
      have HPK := Lib.hid (HN.out.2 pk (List.mem_of_getElem? hpk))
      obtain ⟨ob, oo, rfl, _, lob, _⟩ := str_at HO.out.rec0 (show (out.map baOf)[n]? = some (baOf pk) by rw [List.getElem?_map, hpk]; rfl)
      have HPN : Hid (∀ W, Below wr.heap.size wr W → W.cell? ⟨ob, oo + n, none⟩ = some (.string (baOf pk))) := Lib.hid fun W hW => by
        obtain ⟨b2, o2, e2, _, _, z⟩ := str_at (HO.out.below hW).rec0 (show (out.map baOf)[n]? = some (baOf pk) by rw [List.getElem?_map, hpk]; rfl)
        injection e2 with e2
        injection e2 with e3 e4 _
        subst e3 e4
        exact z
      have HXW : Hid (∀ W, Below wr.heap.size wr W → W.cell? ⟨w.heap.size, 0, none⟩ = some (.slice pa ps.length pc) ∧ W.cell? ⟨w.heap.size, 1, none⟩ = some (.slice aa l.length ac) ∧ w.heap.size < W.heap.size) := Lib.hid fun W hW => HXC.out W (Bl.trans HB.out hW)
      have HDI : Hid (∀ W, Below wr.heap.size wr W → Calls Tryz.prog 20 #[.agg #[.slice pa ps.length pc, .slice aa l.length ac], .string (baOf pk)] W fun e w' => (∃ v, e = .returned v ∧ OwnR TS w' W.heap.size v ((nextL l pk).map baOf)) ∧ Below W.heap.size W w') := Lib.hid fun W hW => by
        have h1 := HDF.out (baOf pk) W (Bl.trans HB0.out (Bl.trans HB.out hW))
        rw [bsOf_baOf] at h1
        exact h1
      have HRN : Hid (reachR (nextL l) ((keysP ps).length + 1 - (n + 1)) (n + 1) (growR out (nextL l pk)) = reachB ps l (bsOf key)) := Lib.hid (by
        have h7 : (keysP ps).length = ps.length := List.length_map _
        rw [← HR.out, show (keysP ps).length + 1 - n = ((keysP ps).length + 1 - (n + 1)) + 1 by omega, reachR, hpk])
      have HGN := Lib.hid (growR_nd (U := keysP ps) (nextL l pk) out HN.out.1 HN.out.2 fun s hs => (next_in HC0.out hs).2.1)
      have hadd : IntKind.i64.wrap ((n : Int) + 1) = ((n + 1 : Nat) : Int) := by rw [IntWalk.i64_in _ (by omega)]; omega
      have hzw : w0.heap.size ≤ wr.heap.size := HB.out.size
      clear hpk
      go_wp2
      refine wp_region_inv (by kernel_rfl) [17, 18, 19, 20, 21, 22, 23, 24] (fun _ W => Below wr.heap.size wr W) (fun W W' => Below W.heap.size W W') (fun i => [VE (.agg #[.slice pa ps.length pc, .slice aa l.length ac]), VE (.slice (some ⟨ob, oo, none⟩) m ocap), VE (.int .i64 n), VE (.pointer (some ⟨ob, oo + n, none⟩)), VE (.string (baOf pk)), VOw TS wr.heap.size ((nextL l pk).map baOf), VE (.int .i64 (nextL l pk).length), VE (.int .i64 0)].getD i VT) (by kernel_rfl) (by kernel_rfl) (fun u u' W hu h => h) (Below.drew (Below.refl _ _)) ?_ ?_ ?_ ?_
      · intro u W W' i v hB hR hV
        exact match i, hV with
          | 0, h => h
          | 1, h => h
          | 2, h => h
          | 3, h => h
          | 4, h => h
          | 5, h => VOw.low h hR
          | 6, h => h
          | 7, h => h
          | (_ + 8), _ => trivial
      · intro i o v W ho hd
        match i, ho with
          | 0, ho => (obtain rfl := Option.some.inj ho; cases hd)
          | 1, ho => (obtain rfl := Option.some.inj ho; cases hd)
          | 2, ho => (obtain rfl := Option.some.inj ho; cases hd)
          | 3, ho => (obtain rfl := Option.some.inj ho; cases hd)
          | 4, ho => (obtain rfl := Option.some.inj ho; cases hd)
          | 5, ho => (obtain rfl := Option.some.inj ho; cases hd)
          | 6, ho => (obtain rfl := Option.some.inj ho; cases hd)
          | 7, ho => (obtain rfl := Option.some.inj ho; cases hd)
          | (_ + 8), _ => trivial
      · intro i o u f W ho hi hB hdep
        have hi' : i = 0 ∨ i = 1 ∨ i = 2 ∨ i = 3 ∨ i = 4 ∨ i = 5 ∨ i = 6 ∨ i = 7 := by
          have : i < 8 := hi
          omega
        rcases hi' with rfl | rfl | rfl | rfl | rfl | rfl | rfl | rfl
        · obtain ⟨y0, y1, _⟩ := HXW.out W hB
          refine iv_val ho (by obtain rfl := Option.some.inj ho; rfl) (.agg #[.slice pa ps.length pc, .slice aa l.length ac]) W ?_ hB (Below.refl _ _) rfl
          · intro q hq
            obtain rfl := Option.some.inj ho
            have e2 := hq.tmp 2
            simp at e2
            simp [execOp, e2, go_sem, y0, y1]
        · refine iv_val ho (by obtain rfl := Option.some.inj ho; rfl) (.slice (some ⟨ob, oo, none⟩) m ocap) W ?_ hB (Below.refl _ _) rfl
          · intro q hq
            obtain rfl := Option.some.inj ho
            have e5 := hq.tmp 5
            simp at e5
            simp [execOp, e5, go_sem]
        · refine iv_val ho (by obtain rfl := Option.some.inj ho; rfl) (.int .i64 n) W ?_ hB (Below.refl _ _) rfl
          · intro q hq
            obtain rfl := Option.some.inj ho
            have e6 := hq.tmp 6
            simp at e6
            simp [execOp, e6, go_sem]
        · have d18 : f 18 = .slice (some ⟨ob, oo, none⟩) m ocap := hdep ⟨1, .data⟩ (by obtain rfl := Option.some.inj ho; simp) rfl
          have d19 : f 19 = .int .i64 n := hdep ⟨2, .data⟩ (by obtain rfl := Option.some.inj ho; simp) rfl
          have y0 := hlt
          refine iv_val ho (by obtain rfl := Option.some.inj ho; rfl) (.pointer (some ⟨ob, oo + n, none⟩)) W ?_ hB (Below.refl _ _) rfl
          · intro q hq
            obtain rfl := Option.some.inj ho
            have e18 := hq.tmp 18
            have e19 := hq.tmp 19
            simp at e18 e19
            simp [execOp, e18, e19, d18, d19, go_sem, y0]
        · have d20 : f 20 = .pointer (some ⟨ob, oo + n, none⟩) := hdep ⟨3, .data⟩ (by obtain rfl := Option.some.inj ho; simp) rfl
          have y0 := HPN.out W hB
          refine iv_val ho (by obtain rfl := Option.some.inj ho; rfl) (.string (baOf pk)) W ?_ hB (Below.refl _ _) rfl
          · intro q hq
            obtain rfl := Option.some.inj ho
            have e20 := hq.tmp 20
            simp at e20
            simp [execOp, e20, d20, go_sem, y0]
        · have d17 : f 17 = .agg #[.slice pa ps.length pc, .slice aa l.length ac] := hdep ⟨0, .data⟩ (by obtain rfl := Option.some.inj ho; simp) rfl
          have d21 : f 21 = .string (baOf pk) := hdep ⟨4, .data⟩ (by obtain rfl := Option.some.inj ho; simp) rfl
          refine iv_call ho (by obtain rfl := Option.some.inj ho; rfl) 20 #[.tmp 17, .tmp 21] _ (by obtain rfl := Option.some.inj ho; rfl) (enters_of Tryz.func20 (by kernel_rfl) rfl) #[.agg #[.slice pa ps.length pc, .slice aa l.length ac], .string (baOf pk)] (by intro q hq; have e17 := hq.tmp 17; simp at e17; have e21 := hq.tmp 21; simp at e21; simp [e17, e21, d17, d21, go_sem]) _ (HDI.out W hB) ?_
          rintro e W' ⟨⟨v', rfl, hr'⟩, hb'⟩
          exact ⟨_, rfl, Below.trans hB (hb'.mono hB.size), hb', OwnR.base hr' hB.size⟩
        · have l22 : VOw TS wr.heap.size ((nextL l pk).map baOf) (f 22) W := hdep ⟨5, .data⟩ (by obtain rfl := Option.some.inj ho; simp) rfl
          obtain ⟨la, lc, hlf, _, _⟩ := OwnR.form l22
          rw [List.length_map] at hlf
          refine iv_val ho (by obtain rfl := Option.some.inj ho; rfl) (.int .i64 (nextL l pk).length) W ?_ hB (Below.refl _ _) rfl
          · intro q hq
            obtain rfl := Option.some.inj ho
            have e22 := hq.tmp 22
            simp at e22
            simp [execOp, e22, go_sem, hlf, resolve, invoke, builtin]
        · refine iv_val ho (by obtain rfl := Option.some.inj ho; rfl) (.int .i64 0) W ?_ hB (Below.refl _ _) rfl
          · intro q hq
            obtain rfl := Option.some.inj ho
            simp [execOp, hq.const, go_sem]
      intro f0 wz hbz hV
      have HD : Hid (OwnR TS wz wr.heap.size (f0 22) ((nextL l pk).map baOf)) := Lib.hid (show VOw TS wr.heap.size _ (f0 22) wz from hV 5 (by decide))
      have hf23 : f0 23 = .int .i64 (nextL l pk).length := show VE _ (f0 23) wz from hV 6 (by decide)
      have hf24 : f0 24 = .int .i64 0 := show VE _ (f0 24) wz from hV 7 (by decide)
      clear hV
      unfold putsA
      simp only [List.mapIdx_toArray, List.mapIdx_cons, List.mapIdx_nil, List.contains_cons]
      simp
      rw [hf23, hf24]
      obtain ⟨vd, hvd⟩ : ∃ vd, vd = f0 22 := ⟨_, rfl⟩
      rw [← hvd] at HD ⊢
      obtain ⟨da, dcap, hdv, _, _⟩ := HD.out.form
      rw [List.length_map] at hdv
      obtain ⟨D, hD⟩ : ∃ D, D = nextL l pk := ⟨_, rfl⟩
      have HDL : Hid (D.length ≤ 200000) := Lib.hid (by rw [hD]; have := nextL_few l pk; omega)
      have HDU : Hid (∀ s ∈ D, s ∈ keysP ps) := Lib.hid fun s hs => by rw [hD] at hs; exact (next_in HC0.out hs).2.1
      rw [← hD] at HD HRN HGN hdv ⊢
      subst hdv
      have HDIS : Hid ((Value.slice (some ⟨ob, oo, none⟩) m ocap).ownBlock ≠ (Value.slice da D.length dcap).ownBlock ∨ D = []) := Lib.hid (by
        by_cases hD0 : D = []
        · exact .inr hD0
        · refine .inl fun e => ?_
          obtain ⟨gd, _, _, hgd, hgd2, _, _, _⟩ := HD.out.blk (by simpa using hD0)
          have h1 : (Value.slice (some ⟨ob, oo, none⟩) m ocap).ownBlock = some gd := by rw [e, hgd]; rfl
          have := (World.ownsRow.lt HO.out gd h1).2
          omega)
      obtain ⟨B2, hB2⟩ : ∃ B2, B2 = wr.heap.size := ⟨_, rfl⟩
      rw [← hB2] at HD
      clear hB2
      have HOz := Lib.hid (HO.out.below hbz)
      have HBz := Lib.hid (Bl.trans HB.out hbz)
      clear hbz hvd hf23 hf24 hD HDI HPN HXW lob
      go_wp2
      go_loopw [5, 24] (fun v i wr2 => ∃ (k : Nat) (cur : List Bs), k ≤ D.length ∧ i = .int .i64 k ∧ Hid (OwnR TS wr2 w0.heap.size v (cur.map baOf)) ∧ Hid (OwnR TS wr2 B2 (.slice da D.length dcap) (D.map baOf)) ∧ Hid (v.ownBlock ≠ (Value.slice da D.length dcap).ownBlock ∨ D = []) ∧ Hid (growR cur (D.drop k) = growR out D) ∧ Hid (cur.Nodup ∧ ∀ s ∈ cur, s ∈ keysP ps) ∧ Hid (Below w0.heap.size w0 wr2)) (fun _ i _ => D.length - (intOf i).toNat)
      case atStart => exact ⟨0, out, Nat.zero_le _, rfl, HOz, HD, HDIS, Lib.hid rfl, HN, HBz⟩
      case round =>
        obtain ⟨k, cur, hk, rfl, HC, HD2, HS, HG, HN2, HB2⟩ := hrel
        by_cases hlt2 : k < D.length
        · obtain ⟨x, hx⟩ : ∃ x, D[k]? = some x := ⟨_, List.getElem?_eq_getElem hlt2⟩
          have HXU := Lib.hid (HDU.out x (List.mem_of_getElem? hx))
          have HGX : Hid (growR (if x ∈ cur then cur else cur ++ [x]) (D.drop (k + 1)) = growR out D) := Lib.hid (by
            rw [← HG.out, List.drop_eq_getElem_cons hlt2, growR, show D[k] = x from by rw [List.getElem?_eq_getElem hlt2] at hx; injection hx])
          have HS1 : Hid (∀ v : Value, v.ownBlock = none ∨ True) := Lib.hid fun v => .inr trivial
          clear HS1
          have HDN : Hid (D ≠ []) := Lib.hid fun e => by rw [e] at hlt2; exact absurd hlt2 (by simp)
          obtain ⟨db, dof, rfl, _, ldb, zx⟩ := str_at HD2.out.rec0 (show (D.map baOf)[k]? = some (baOf x) by rw [List.getElem?_map, hx]; rfl)
          obtain ⟨dl, hdl⟩ : ∃ n, n = D.length := ⟨_, rfl⟩
          have HDL2 := Lib.hid hdl
          have hadd2 : IntKind.i64.wrap ((k : Int) + 1) = ((k + 1 : Nat) : Int) := by rw [IntWalk.i64_in _ (by have := HDL.out; omega)]; omega
          have hfew2 := few_keys HN2.out.1 HN2.out.2
          obtain ⟨cva, ccap, hcv, _, _⟩ := HC.out.form
          obtain ⟨c, hcc⟩ : ∃ c, c = decide (x ∈ cur) := ⟨_, rfl⟩
          have HCS0 := HasS_any (cur.map baOf) _ (baOf x) _ (by rw [List.length_map]; omega) HC.out.rec0
          rw [show Lib.containsS (cur.map baOf) (baOf x) = c from by rw [hcc, Bool.eq_iff_iff, Lib.containsS_iff, decide_eq_true_eq, List.mem_map]; exact ⟨fun ⟨y, hy, e⟩ => by have := congrArg bsOf e; rw [bsOf_baOf, bsOf_baOf] at this; exact this ▸ hy, fun h => ⟨x, h, rfl⟩⟩] at HCS0
          have HCS := Lib.hid HCS0
          have HCC := Lib.hid hcc
          clear hx hcc HCS0 hcv hdl
          go_wp2_with fail
          refine HCS.out.mono ?_
          rintro e w8 ⟨rfl, rfl⟩
          clear HCS
          cases c
          · have hnx : x ∉ cur := of_decide_eq_false HCC.out.symm
            have HGN2 : Hid (growR (cur ++ [x]) (D.drop (k + 1)) = growR out D) := Lib.hid (by have := HGX.out; rw [if_neg hnx] at this; exact this)
            have HN3 : Hid ((cur ++ [x]).Nodup ∧ ∀ s ∈ cur ++ [x], s ∈ keysP ps) := Lib.hid ⟨by
              rw [List.nodup_append]
              exact ⟨HN2.out.1, List.nodup_cons.2 ⟨List.not_mem_nil, List.nodup_nil⟩, fun a ha b hb => by rw [List.mem_singleton.1 hb]; exact fun h => hnx (h ▸ ha)⟩, fun s hs => by
              rcases List.mem_append.1 hs with q | q
              · exact HN2.out.2 s q
              · rw [List.mem_singleton.1 q]; exact HXU.out⟩
            have hz2 := HB2.out.size
            clear hnx
            go_wp2_with (at_builtin; refine wp_app_r TS.ok rfl _ _ rfl w0.heap.size _ (cur.map baOf) rfl (HC.out.alloc _) _ 1 (baOf x) rfl (blk_new _ _) rfl (by rw [List.length_map]; omega) (by simp; omega) ?_)
            intro v5 w5 hO5 hg5 hown5
            rw [show cur.map baOf ++ [baOf x] = (cur ++ [x]).map baOf from by rw [List.map_append]; rfl] at hO5
            have HO5 := Lib.hid hO5
            have HB5 : Hid (Below w0.heap.size w0 w5) := Lib.hid (Below.trans (Bl.alloc HB2.out _) (app_belowR (HC.out.alloc _) hg5 (by simp; omega)))
            obtain ⟨gd, _, _, hgd, hgd1, hgd2, _, _⟩ := HD2.out.blk (by simpa using HDN.out)
            have hgl := blk_lt hgd2
            have hobd : (Value.slice (some ⟨db, dof, none⟩) D.length dcap).ownBlock = some gd := by rw [hgd]; rfl
            have HD5 : Hid (OwnR TS w5 B2 (.slice (some ⟨db, dof, none⟩) D.length dcap) (D.map baOf)) := Lib.hid ((ownR_k TS _).keep (HD2.out.alloc _) fun j hj => by
              rw [hobd] at hj
              injection hj with hj
              subst hj
              exact hg5.block gd (by simp; omega) fun e => HS.out.elim (fun h => h (e ▸ hobd.symm)) HDN.out)
            have HS5 : Hid (v5.ownBlock ≠ (Value.slice (some ⟨db, dof, none⟩) D.length dcap).ownBlock ∨ D = []) := Lib.hid (.inl fun e => by
              rw [hobd] at e
              rcases hown5 with q | q
              · rw [q] at e
                exact HS.out.elim (fun h => h (e.trans hobd.symm)) HDN.out
              · rw [q] at e
                injection e with e
                try simp at e
                omega)
            clear hO5 hg5 hown5 hgd hgd1 hgd2 hgl hobd zx
            go_wp2
            go_roundw
            case rel => exact ⟨k + 1, _, by omega, by go_num, HO5, HD5, HS5, HGN2, HN3, HB5⟩
            case measure => simp [intOf]; omega
          · have HGN2 : Hid (growR cur (D.drop (k + 1)) = growR out D) := Lib.hid (by have := HGX.out; rw [if_pos (of_decide_eq_true HCC.out.symm)] at this; exact this)
            go_wp2
            go_roundw
            case rel => exact ⟨k + 1, cur, by omega, by go_num, HC, HD2, HS, HGN2, HN2, HB2⟩
            case measure => simp [intOf]; omega
        · obtain rfl : k = D.length := by omega
          have HCE : Hid (cur = growR out D) := Lib.hid (by rw [← HG.out, List.drop_length]; rfl)
          have hle : n + 1 ≤ cur.length := by
            rw [HCE.out]
            have h1 : ∀ (d o : List Bs), o.length ≤ (growR o d).length := by
              intro d
              induction d with
              | nil => intro o; exact Nat.le_refl _
              | cons y r ih =>
                intro o
                rw [growR]
                refine Nat.le_trans ?_ (ih _)
                split
                · exact Nat.le_refl _
                · simp
            have := h1 D out
            have := HM.out
            omega
          have HRC : Hid (reachR (nextL l) ((keysP ps).length + 1 - (n + 1)) (n + 1) cur = reachB ps l (bsOf key)) := Lib.hid (by rw [HCE.out]; exact HRN.out)
          go_wp2
          go_roundw
          case rel => exact ⟨n + 1, cur, hle, by go_num, HC, HRC, HN2, HB2⟩
          case measure => simp [intOf]; omega
    · obtain rfl : n = m := by omega
      have HRE : Hid (out = reachB ps l (bsOf key)) := Lib.hid (by
        have h7 : (keysP ps).length = ps.length := List.length_map _
        rw [← HR.out, show (keysP ps).length + 1 - n = ((keysP ps).length - n) + 1 by omega, reachR, List.getElem?_eq_none (by rw [← HM.out]; exact Nat.le_refl _)])
      have HOE := Lib.hid (show OwnR TS wr w.heap.size _ ((reachB ps l (bsOf key)).map baOf) from by have := HO.out.base HB0.out.size; rw [HRE.out] at this; exact this)
      have HBE := Lib.hid (Bl.trans HB0.out HB.out)
      go_wp2
      go_ret
      exact ⟨⟨_, rfl, HOE.out⟩, HBE.out⟩
end Go.Proofs.YteojmljggoplkaaGreatDoor
namespace Go.Proofs.YteojmljggoplkaaGreatDoor
open Go.RowKit Go.Sort
theorem holds_row {α : Type} [Inhabited α] (enc : α → Value) {w : World} {g : Nat} {cur : Array Value} {e : TypeId} {l : List α} (hb : w.heap[g]? = some (.cells cur e (0, 0))) (ht : cur.toList.take l.length = l.map enc) : Holds enc w g 0 l.toArray := by
  intro j hj
  have hj' : j < l.length := by simpa using hj
  refine ⟨?_, by simp [World.frozen?, hb]⟩
  have h1 : (cur.toList.take l.length)[j]? = (l.map enc)[j]? := by rw [ht]
  rw [List.getElem?_take_of_lt hj'] at h1
  simp only [World.cell?, hb, Nat.zero_add]
  simp only [Option.isSome_none, Bool.false_eq_true, if_false]
  rw [← Array.getElem?_toList, h1]
  simp [hj']
theorem heap_resorted {α : Type} [Inhabited α] (enc : α → Value) {w : World} {g n : Nat} {os : Array Obj} {cur : Array Value} {e : TypeId} {fr : Nat × Nat} (d : Array α) (hb : w.heap[g]? = some (.cells cur e fr)) :
    (grow (putRow enc (Sort.ahead w n) g 0 d) os).heap[g]? = some (.cells (putCells enc 0 d cur) e fr) := by
  have hg : g < w.heap.size := (Array.getElem?_eq_some_iff.1 hb).1
  rw [heap_grow_old _ _ (by simpa using hg)]
  simp [putRow, mapBlock, Sort.ahead, Array.getElem?_modify, hb, onCells]
theorem grownBy_resorted {α : Type} [Inhabited α] (enc : α → Value) {w : World} {g n : Nat} {os : Array Obj} (d : Array α) : w.grownBy (grow (putRow enc (Sort.ahead w n) g 0 d) os) (some g) := by
  refine ⟨rfl, rfl, rfl, by simp, fun k hk hne => ?_⟩
  rw [heap_grow_old _ _ (by simpa using hk)]
  have : g ≠ k := fun e => hne (by rw [e])
  simp [putRow, mapBlock, Sort.ahead, Array.getElem?_modify, this]
theorem take_putCells' {α : Type} [Inhabited α] (enc : α → Value) (cur : Array Value) (ts : List α) (h : ts.length ≤ cur.size) : (putCells enc 0 ts.toArray cur).toList.take ts.length = ts.map enc := by
  apply List.ext_getElem?
  intro j
  by_cases hj : j < ts.length
  · rw [List.getElem?_take_of_lt hj, Array.getElem?_toList]
    simp [putCells, hj, show j < cur.size by omega]
  · rw [List.getElem?_take_eq_none (by omega), List.getElem?_eq_none (by simp; omega)]
theorem own_resorted {α : Type} [Inhabited α] (enc : α → Value) {w : World} {base g cap n q : Nat} {e : TypeId} {os : Array Obj} {l m : List α} (h : w.ownsRow base e 1 (.slice (some ⟨g, 0, none⟩) n cap) n (l.map enc)) (hn : n = l.length) (hm : m.length = l.length) :
    (grow (putRow enc (Sort.ahead w q) g 0 m.toArray) os).ownsRow base e 1 (.slice (some ⟨g, 0, none⟩) n cap) n (m.map enc) := by
  subst hn
  rcases h.2 with ⟨h0, _⟩ | ⟨g', cap', cur, hv, hg, hb, h1, h2, h3, h4⟩
  · cases h0
  · obtain ⟨hv1, _, hv2⟩ := Value.slice.inj hv
    injection hv1 with hv1
    injection hv1 with hv1
    subst hv1 hv2
    exact ⟨by simp [hm], .inr ⟨g, cap, _, rfl, hg, heap_resorted enc _ hb, h1, h2, by simp [putCells, h3], by rw [Nat.mul_one, ← hm]; exact take_putCells' enc cur m (by omega)⟩⟩
theorem holds_own {α : Type} [Inhabited α] (enc : α → Value) {w : World} {base g cap n : Nat} {e : TypeId} {l : List α} (h : w.ownsRow base e 1 (.slice (some ⟨g, 0, none⟩) n cap) n (l.map enc)) (hn : n = l.length) : Holds enc w g 0 l.toArray ∧ g < w.heap.size ∧ base ≤ g := by
  subst hn
  rcases h.2 with ⟨h0, _⟩ | ⟨g', cap', cur, hv, hg, hb, h1, h2, h3, h4⟩
  · cases h0
  · obtain ⟨hv1, _, hv2⟩ := Value.slice.inj hv
    injection hv1 with hv1
    injection hv1 with hv1
    subst hv1
    exact ⟨holds_row enc hb (by simpa using h4), blk_lt hb, hg⟩
end Go.Proofs.YteojmljggoplkaaGreatDoor
