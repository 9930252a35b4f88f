/- Texts of the proof of a law, put together, part 30 of 46. Conditions: none beyond those that each theorem names. -/
import Derived.Test.YtilhonppgedoiaaGreatDoorFz10
import Derived.Test.YtilhonppgedoiaaGreatDoorFz28
import Derived.Test.YtilhonppgedoiaaGreatDoorFz29
import Derived.BigQuiet
import Derived.Deep.RegionLaw
namespace Go.Proofs.YtilhonppgedoiaaGreatDoor
open Go.RowKit Go.Sort Go.Maps
set_option maxHeartbeats 4000000 in
set_option maxRecDepth 100000 in
theorem set_any (L : Loc) (s : Sts) (N : Nat) (k : ByteArray) (n : Int) (w : World) (h : StM w L s N) (hN : N + 1 ≤ 1000000000) (hk : k.size ≤ maxLen) :
    Calls Tryz.prog 142 #[.pointer (some ⟨L.S, 0, none⟩), .string k, .int .i64 n] w fun e w' => e = .returned (.tuple #[]) ∧ StM w' L { s with R := s.R.put k.data.toList (((s.R.get k.data.toList).getD TMr.z).1, ((s.R.get k.data.toList).getD TMr.z).2.1, n) } (N + 1) ∧ Kt L.B w w' := by
  obtain ⟨c0, -, -, -, -⟩ := h.cells
  have hlr := h.sb.mR.look TMr.ok k hk
  obtain ⟨q, hq⟩ : ∃ q, q = (s.R.get k.data.toList).getD TMr.z := ⟨_, rfl⟩
  rw [← hq] at hlr ⊢
  obtain ⟨qk, qp, qn⟩ := q
  have hlr2 : (Instr.lookup 178 (.map (some L.m0)) (.string k) false).run Tryz.prog w = .ok (.agg #[.string qk, .string qp, .int .i64 qn]) w := hlr
  obtain ⟨lS, -⟩ := h.lt
  obtain ⟨w2, hw2⟩ : ∃ w2, w2 = w.alloc (.cells #[.string qk, .string qp, .int .i64 n] 90) := ⟨_, rfl⟩
  have hb2 : Below w.heap.size w w2 := by rw [hw2]; exact Bl.alloc (Below.refl _ _) _
  have hx2 : w2.heap[w.heap.size]? = some (.cells #[.string qk, .string qp, .int .i64 n] 90 (0, 0)) := by rw [hw2]; exact blk_new w _
  have h2 := h.low hb2
  have hd : Below w2.heap.size w2 w2.drew := Below.drew (Below.refl _ _)
  obtain ⟨w3, hr3, h3, hk3⟩ := (h2.low hd).putR hN k hk (qk, qp, n)
  have e0 : w2.cell? ⟨L.S, 0, none⟩ = some (.map (some L.m0)) := h2.cells.1
  have d0 : w2.cell? ⟨w.heap.size, 0, none⟩ = some (.string qk) := blk_cell hx2 0
  have d1 : w2.cell? ⟨w.heap.size, 1, none⟩ = some (.string qp) := blk_cell hx2 1
  have d2 : w2.cell? ⟨w.heap.size, 2, none⟩ = some (.int .i64 n) := blk_cell hx2 2
  have HF := Lib.hid (And.intro h3 (Kt.trans (Kt.of_below hb2) (Kt.trans (Kt.of_below hd) hk3)))
  have lx := blk_lt hx2
  have lS2 : L.S < w2.heap.size := h2.lt.1
  clear h h2 h3 hk3 hb2 hd hx2 hlr hq
  go_enter Tryz.func142, Tryz.ntmps142
  go_wp2_with fail
  rw [← hw2]
  clear hw2 c0 hlr2
  go_region
  go_wp2
  go_end0
  exact ⟨rfl, HF.out⟩
set_option maxHeartbeats 4000000 in
set_option maxRecDepth 100000 in
theorem put_any (L : Loc) (s : Sts) (N : Nat) (f : Fed) (w : World) (h : StM w L s N) (hN : N + 2 ≤ 1000000000) (hf : f.fd.size ≤ maxLen) (hr : f.rl.size ≤ maxLen) (hlen : (rowO s.F f.fd).length ≤ 1000000) :
    Calls Tryz.prog 140 #[.pointer (some ⟨L.S, 0, none⟩), fedV f] w fun e w' => e = .returned (.tuple #[]) ∧ ∃ hd, StM w' L { s with F := s.F.put f.fd.data.toList (hd, rowO s.F f.fd ++ [f.rl]), P := s.P.put f.rl.data.toList f.fd } (N + 2) ∧ Kt L.B w w' := by
  obtain ⟨at', kd, fd, rk, mn, bd⟩ := f
  obtain ⟨w1, hw1⟩ : ∃ w1, w1 = w.alloc (.cells #[.int .i64 at', .int .i64 kd, .string fd, .string rk, .int .i64 mn, .string bd] 37) := ⟨_, rfl⟩
  have hb1 : Below w.heap.size w w1 := by rw [hw1]; exact Bl.alloc (Below.refl _ _) _
  have hx1 : w1.heap[w.heap.size]? = some (.cells #[.int .i64 at', .int .i64 kd, .string fd, .string rk, .int .i64 mn, .string bd] 37 (0, 0)) := by rw [hw1]; exact blk_new w _
  have h1 := h.low hb1
  have HN := Lib.hid hN
  have hz1 : L.B ≤ w1.heap.size := h1.lt.2
  -- the row as it is looked up, in all later worlds
  obtain ⟨hd, hlk0, hO, ha⟩ := h1.rowF fd hf
  obtain ⟨l, hl⟩ : ∃ l, l = rowO s.F fd := ⟨_, rfl⟩
  have hlen2 : l.length ≤ 1000000 := by rw [hl]; exact hlen
  have HL := Lib.hid hl
  have HLK : Hid (∀ W, Below w1.heap.size w1 W → (Instr.lookup 180 (.map (some L.m2)) (.string fd) false).run Tryz.prog W = .ok (hdrV hd) W) := Lib.hid fun W hW => by
    have h2 := (h1.sb.mF.below hW).look TMh.ok fd hf
    have h3 := h1.sb.mF.look TMh.ok fd hf
    rw [show (Instr.lookup TMh.t (.map (some L.m2)) (.string fd) false).run Tryz.prog w1 = _ from hlk0] at h3
    injection h3 with h3 _
    rw [h3]; exact h2
  have HO : Hid (∀ W, Below w1.heap.size w1 W → OwnO W L.B (hdrV hd) l) := Lib.hid fun W hW => by rw [hl]; exact hO.below hW
  have HA := Lib.hid ha
  have H1 := Lib.hid h1
  have HX1 := Lib.hid hx1
  have HB1 := Lib.hid hb1
  have HS1 := Lib.hid h1.sb.blk
  have HRD : Hid (∀ W, Kt L.B w1 W → W.heap[L.S]? = some (.cells #[.map (some L.m0), .map (some L.m1), .map (some L.m2), .map (some L.m3), .map (some L.m4)] 183 (0, 0)) → W.cell? ⟨L.S, 2, none⟩ = some (.map (some L.m2)) ∧ W.cell? ⟨w.heap.size, 2, none⟩ = some (.string fd) ∧ W.cell? ⟨w.heap.size, 3, none⟩ = some (.string rk)) := Lib.hid fun W hK hS => by
    have hx := hK.fix HX1.out (by decide)
    exact ⟨blk_cell hS 2, blk_cell hx 2, blk_cell hx 3⟩
  have hA1 : Below w1.heap.size w1 w1.drew := Below.drew (Below.refl _ _)
  have e2 : (Fed.fd (at', kd, fd, rk, mn, bd)) = fd := rfl
  have e3 : (Fed.rl (at', kd, fd, rk, mn, bd)) = rk := rfl
  rw [e2, e3, ← hl]
  have HRR := Lib.hid hr
  have HHF := Lib.hid hf
  change Calls _ _ #[_, .agg #[.int .i64 at', .int .i64 kd, .string fd, .string rk, .int .i64 mn, .string bd]] _ _
  clear h h1 hO ha hx1 hb1 hlk0 hl hlen hN hr hf e2 e3
  go_enter Tryz.func140, Tryz.ntmps140
  go_wp2_with fail
  rw [← hw1]
  clear hw1
  refine wp_region_app (by kernel_rfl) [4, 5, 6, 7, 8, 9, 10, 11, 12, 13, 14, 15, 16, 17, 18, 19, 20] (fun i => ([some (.pointer (some ⟨L.S, 0, none⟩)), some (.pointer (some ⟨L.S, 0, none⟩)), some (.pointer (some ⟨L.S, 2, none⟩)), some (.map (some L.m2)), some (.pointer (some ⟨w.heap.size, 2, none⟩)), some (.string fd), some (.pointer (some ⟨L.S, 0, none⟩)), some (.pointer (some ⟨L.S, 0, none⟩)), some (.pointer (some ⟨L.S, 2, none⟩)), some (.map (some L.m2)), some (.pointer (some ⟨w.heap.size, 2, none⟩)), some (.string fd), some (hdrV hd), some (.pointer (some ⟨w.heap.size, 3, none⟩)), some (.string rk), none, none, none] : List (Option Value)).getD i none) 15 16 17 1000 19 20 0
    (fun W => Below w1.heap.size w1 W) (fun W => Hid ((∃ hd4, StM W L { s with F := s.F.put fd.data.toList (hd4, l ++ [rk]) } (N + 1)) ∧ Kt L.B w1 W))
    (fun W => W.cell? ⟨L.S, 2, none⟩ = some (.map (some L.m2)) ∧ W.cell? ⟨w.heap.size, 2, none⟩ = some (.string fd) ∧ W.cell? ⟨w.heap.size, 3, none⟩ = some (.string rk))
    (fun v W => ∃ hd4, v = hdrV hd4 ∧ Hid (StF W L s fd.data.toList v (l ++ [rk]) N ∧ Kt L.B w1 W)) (fun v W => ∃ g, v = .slice (some ⟨g, 0, none⟩) 1 1 ∧ W.heap[g]? = some (.cells #[.string rk] 9 (0, 0))) (fun _ _ => True)
    (by kernel_rfl) (by kernel_rfl) (by rfl) (by rfl) (by rfl) (by decide) (by decide) ⟨rfl, rfl, fun h => absurd h (by decide)⟩ rfl rfl rfl (fun h => absurd h (by decide))
    (fun l hcl h => hcl.no h 16 ⟨15, .data⟩ rfl rfl (by simp) rfl) (fun l hcl h => hcl.no h 17 ⟨16, .data⟩ rfl rfl (by simp) rfl) (fun h => absurd h (by decide))
    (fun o ho => by obtain rfl := Option.some.inj ho; exact ⟨⟨⟨15, .data⟩, by simp, rfl, rfl⟩, fun h => absurd h (by decide)⟩) (fun o ho => by obtain rfl := Option.some.inj ho; exact ⟨⟨16, .data⟩, by simp, rfl, rfl⟩)
    hA1 (fun v W W' ⟨g, h1, h2⟩ hb => ⟨g, h1, blk_below h2 hb⟩) (fun _ _ _ _ _ => trivial) (fun W hW => HRD.out W (Kt.of_below hW) (blk_below HS1.out hW)) (fun v W ⟨hd4, _, h⟩ => HRD.out W h.out.2 h.out.1.sb.blk) (fun W h => (h.out.1.elim fun hd4 h4 => HRD.out W h.out.2 h4.sb.blk)) ?_ ?_ (fun h => absurd h (by decide)) ?_ ?_ ?_
  · intro listed f i o v W ho hc hdep hR hPre hcl hli hV
    obtain ⟨r1, r2, r3⟩ := hR
    match i, ho, hc with
    | 0, ho, hc =>
      obtain rfl := Option.some.inj ho
      obtain rfl := Option.some.inj hc
      refine ⟨rfl, fun q hq => ?_⟩
      have e0 := hq.tmp 0
      simp at e0
      simp [execOp, e0, go_sem]
    | 1, ho, hc =>
      obtain rfl := Option.some.inj ho
      obtain rfl := Option.some.inj hc
      refine ⟨rfl, fun q hq => ?_⟩
      have e4 := hq.tmp 4
      simp at e4
      have d4 : f 4 = .pointer (some ⟨L.S, 0, none⟩) := hV 0 _ (by decide) (hdep ⟨0, .data⟩ (by simp) rfl) rfl
      simp [execOp, e4, d4, go_sem]
    | 2, ho, hc =>
      obtain rfl := Option.some.inj ho
      obtain rfl := Option.some.inj hc
      refine ⟨rfl, fun q hq => ?_⟩
      have e5 := hq.tmp 5
      simp at e5
      have d5 : f 5 = .pointer (some ⟨L.S, 0, none⟩) := hV 1 _ (by decide) (hdep ⟨1, .data⟩ (by simp) rfl) rfl
      simp [execOp, e5, d5, go_sem]
    | 3, ho, hc =>
      obtain rfl := Option.some.inj ho
      obtain rfl := Option.some.inj hc
      refine ⟨rfl, fun q hq => ?_⟩
      have e6 := hq.tmp 6
      simp at e6
      have d6 : f 6 = .pointer (some ⟨L.S, 2, none⟩) := hV 2 _ (by decide) (hdep ⟨2, .data⟩ (by simp) rfl) rfl
      simp [execOp, e6, d6, r1, go_sem]
    | 4, ho, hc =>
      obtain rfl := Option.some.inj ho
      obtain rfl := Option.some.inj hc
      refine ⟨rfl, fun q hq => ?_⟩
      have e3 := hq.tmp 3
      simp at e3
      simp [execOp, e3, go_sem]
    | 5, ho, hc =>
      obtain rfl := Option.some.inj ho
      obtain rfl := Option.some.inj hc
      refine ⟨rfl, fun q hq => ?_⟩
      have e8 := hq.tmp 8
      simp at e8
      have d8 : f 8 = .pointer (some ⟨w.heap.size, 2, none⟩) := hV 4 _ (by decide) (hdep ⟨4, .data⟩ (by simp) rfl) rfl
      simp [execOp, e8, d8, r2, go_sem]
    | 6, ho, hc =>
      obtain rfl := Option.some.inj ho
      obtain rfl := Option.some.inj hc
      refine ⟨rfl, fun q hq => ?_⟩
      have e0 := hq.tmp 0
      simp at e0
      simp [execOp, e0, go_sem]
    | 7, ho, hc =>
      obtain rfl := Option.some.inj ho
      obtain rfl := Option.some.inj hc
      refine ⟨rfl, fun q hq => ?_⟩
      have e10 := hq.tmp 10
      simp at e10
      have d10 : f 10 = .pointer (some ⟨L.S, 0, none⟩) := hV 6 _ (by decide) (hdep ⟨6, .data⟩ (by simp) rfl) rfl
      simp [execOp, e10, d10, go_sem]
    | 8, ho, hc =>
      obtain rfl := Option.some.inj ho
      obtain rfl := Option.some.inj hc
      refine ⟨rfl, fun q hq => ?_⟩
      have e11 := hq.tmp 11
      simp at e11
      have d11 : f 11 = .pointer (some ⟨L.S, 0, none⟩) := hV 7 _ (by decide) (hdep ⟨7, .data⟩ (by simp) rfl) rfl
      simp [execOp, e11, d11, go_sem]
    | 9, ho, hc =>
      obtain rfl := Option.some.inj ho
      obtain rfl := Option.some.inj hc
      refine ⟨rfl, fun q hq => ?_⟩
      have e12 := hq.tmp 12
      simp at e12
      have d12 : f 12 = .pointer (some ⟨L.S, 2, none⟩) := hV 8 _ (by decide) (hdep ⟨8, .data⟩ (by simp) rfl) rfl
      simp [execOp, e12, d12, r1, go_sem]
    | 10, ho, hc =>
      obtain rfl := Option.some.inj ho
      obtain rfl := Option.some.inj hc
      refine ⟨rfl, fun q hq => ?_⟩
      have e3 := hq.tmp 3
      simp at e3
      simp [execOp, e3, go_sem]
    | 11, ho, hc =>
      obtain rfl := Option.some.inj ho
      obtain rfl := Option.some.inj hc
      refine ⟨rfl, fun q hq => ?_⟩
      have e14 := hq.tmp 14
      simp at e14
      have d14 : f 14 = .pointer (some ⟨w.heap.size, 2, none⟩) := hV 10 _ (by decide) (hdep ⟨10, .data⟩ (by simp) rfl) rfl
      simp [execOp, e14, d14, r2, go_sem]
    | 12, ho, hc =>
      obtain rfl := Option.some.inj ho
      obtain rfl := Option.some.inj hc
      refine ⟨rfl, fun q hq => ?_⟩
      have e13 := hq.tmp 13
      simp at e13
      have d13 : f 13 = .map (some L.m2) := hV 9 _ (by decide) (hdep ⟨9, .data⟩ (by simp) rfl) rfl
      have e15 := hq.tmp 15
      simp at e15
      have d15 : f 15 = .string fd := hV 11 _ (by decide) (hdep ⟨11, .data⟩ (by simp) rfl) rfl
      have hlk := HLK.out W (hPre (hcl.no hli 16 ⟨12, .data⟩ rfl rfl (by simp) rfl))
      simp [execOp, e13, d13, e15, d15, hlk, go_sem]
    | 13, ho, hc =>
      obtain rfl := Option.some.inj ho
      obtain rfl := Option.some.inj hc
      refine ⟨rfl, fun q hq => ?_⟩
      have e3 := hq.tmp 3
      simp at e3
      simp [execOp, e3, go_sem]
    | 14, ho, hc =>
      obtain rfl := Option.some.inj ho
      obtain rfl := Option.some.inj hc
      refine ⟨rfl, fun q hq => ?_⟩
      have e17 := hq.tmp 17
      simp at e17
      have d17 : f 17 = .pointer (some ⟨w.heap.size, 3, none⟩) := hV 13 _ (by decide) (hdep ⟨13, .data⟩ (by simp) rfl) rfl
      simp [execOp, e17, d17, r3, go_sem]
    | 15, ho, hc => exact absurd hc (by simp)
    | 16, ho, hc => exact absurd hc (by simp)
    | 17, ho, hc => exact absurd hc (by simp)
    | (_ + 18), ho, hc => exact absurd hc (by simp)
  · intro listed f o W ho hdep hP hV
    obtain rfl := Option.some.inj ho
    have hbA := Bl.alloc (Below.refl W.heap.size W) (.cells #[.string rk] 9)
    refine ⟨rfl, .slice (some ⟨W.heap.size, 0, none⟩) 1 1, W.alloc (.cells #[.string rk] 9), fun q hq => ?_, Bl.trans hP hbA, ⟨W.heap.size, rfl, blk_new W _⟩, hbA⟩
    have e18 := hq.tmp 18
    simp at e18
    have d18 : f 18 = .string rk := hV 14 _ (by decide) (hdep ⟨14, .data⟩ (by simp) rfl) rfl
    simp [execOp, e18, d18, go_sem]
  · intro listed f o W ho hdep hP hS _ hV
    obtain rfl := Option.some.inj ho
    obtain ⟨g, hg1, hg2⟩ := hS
    have d16 : f 16 = hdrV hd := hV 12 _ (by decide) (hdep ⟨12, .data⟩ (by simp) rfl) rfl
    refine ⟨rfl, fun K hK => ?_⟩
    have hcell : W.cell? ⟨g, 0, none⟩ = some (.string rk) := blk_cell hg2 0
    obtain ⟨v', w', hr, h2, h3, h4⟩ := (HO.out W hP).app 63 ⟨g, 0, none⟩ 1 rk hcell hlen2 (Nat.le_trans hz1 hP.size)
    refine oper_append (.tmp 16) (.tmp 19) 63 rfl (hdrV hd) (.slice (some ⟨g, 0, none⟩) 1 1) v' (by rw [← d16]; simp [putsA_eval]) (by rw [← hg1]; simp [putsA_eval]) hr (hK v' w' ?_)
    obtain ⟨hF, hk⟩ := (H1.out.low hP).turnF (HO.out W hP) HA.out h2 h3 h4
    obtain ⟨hd4, rfl⟩ := hdr_ofO h2
    exact ⟨hd4, rfl, Lib.hid ⟨hF, (Kt.of_below hP).trans hk⟩⟩
  · intro listed f o W ho hdep hMid hV
    obtain rfl := Option.some.inj ho
    obtain ⟨hd4, e4, hF⟩ := hMid
    have hF1 := hF.out.1
    rw [e4] at hF1
    obtain ⟨w5, hr5, h5, hk5⟩ := hF1.put (by have := HN.out; omega) HHF.out
    refine ⟨rfl, w5, fun q hq => ?_, Lib.hid ⟨⟨hd4, h5⟩, hF.out.2.trans hk5⟩⟩
    have e7 := hq.tmp 7
    have e9 := hq.tmp 9
    have e20 := hq.tmp 20
    simp at e7 e9 e20
    have d7 : f 7 = .map (some L.m2) := hV 3 _ (by decide) (hdep ⟨3, .data⟩ (by simp) rfl) rfl
    have d9 : f 9 = .string fd := hV 5 _ (by decide) (hdep ⟨5, .data⟩ (by simp) rfl) rfl
    simp [execOp, e7, e9, e20, d7, d9, e4, hr5, go_sem]
  intro f w5 hP hV
  clear hV
  unfold putsA
  simp only [List.mapIdx_toArray, List.mapIdx_cons, List.mapIdx_nil, List.contains_cons]
  simp
  obtain ⟨⟨hd4, h5⟩, hk5⟩ := hP.out
  have hd5 : Below w5.heap.size w5 w5.drew := Below.drew (Below.refl _ _)
  obtain ⟨w6, hr6, h6, hk6⟩ := (h5.low hd5).putP (by have := HN.out; omega) rk HRR.out fd
  have hx5 := hk5.fix HX1.out (by decide)
  have HS6 := Lib.hid (And.intro h6 ((Kt.of_below HB1.out).trans (hk5.trans ((Kt.of_below hd5).trans hk6))))
  have u1 : w5.cell? ⟨L.S, 1, none⟩ = some (.map (some L.m1)) := h5.cells.2.1
  have u2 : w5.cell? ⟨w.heap.size, 2, none⟩ = some (.string fd) := blk_cell hx5 2
  have u3 : w5.cell? ⟨w.heap.size, 3, none⟩ = some (.string rk) := blk_cell hx5 3
  have lx5 := blk_lt hx5
  have lS5 := h5.lt.1
  clear h5 hk5 h6 hk6 hd5 hx5 hP
  go_wp2
  go_region
  go_wp2
  go_end0
  exact ⟨rfl, hd4, HS6.out⟩
end Go.Proofs.YtilhonppgedoiaaGreatDoor
namespace Go.Proofs.YtilhonppgedoiaaGreatDoor
open Go.RowKit Go.Sort Go.Maps
def slLen : Value → Nat
  | .slice _ n _ => n
  | _ => 0
/-- where clear stands: the reels that were taken out, those that are left. -/
structure ClI (L : Loc) (s : Sts) (N : Nat) (lf : Lf) (l : List ByteArray) (w wr : World) (v : Value) (n : Nat) (ds l' : List ByteArray) : Prop where
  len : n = l'.length
  eq : l = ds ++ l'
  drop : dropE lf l = dropE lf l'
  own : OwnO wr L.B v l'
  st : StM wr L { s with P := delA s.P ds } N
  kt : Kt L.B w wr
set_option maxHeartbeats 8000000 in
set_option maxRecDepth 100000 in
theorem clear_any (L : Loc) (s : Sts) (N : Nat) (f : ByteArray) (w : World) (h : StM w L s N) (hN : N + 1 ≤ 1000000000) (hf : f.size ≤ maxLen) (hne : rowO s.F f ≠ []) (hn : ∀ x ∈ rowO s.F f, x.size ≤ maxLen) :
    Calls Tryz.prog 175 #[.pointer (some ⟨L.S, 0, none⟩), .string f] w fun e w' => e = .returned (.tuple #[]) ∧ ∃ hd ds, rowO s.F f = ds ++ dropE (lfO s.R) (rowO s.F f) ∧ StM w' L { s with F := s.F.put f.data.toList (hd, dropE (lfO s.R) (rowO s.F f)), P := delA s.P ds } (N + 1) ∧ Kt L.B w w' := by
  obtain ⟨-, -, c2, -, -⟩ := h.cells
  obtain ⟨hd, hlk0, hO, ha⟩ := h.rowF f hf
  obtain ⟨l, hl⟩ : ∃ l, l = rowO s.F f := ⟨_, rfl⟩
  obtain ⟨lf, hlf⟩ : ∃ lf, lf = lfO s.R := ⟨_, rfl⟩
  rw [← hl] at hO hne hn
  rw [← hl, ← hlf]
  obtain ⟨x0, hx0⟩ : ∃ x, l[0]? = some x := ⟨_, List.getElem?_eq_getElem (List.length_pos_iff.2 hne)⟩
  obtain ⟨g, o, cap, hv, -⟩ := hO.at hx0
  rw [hv] at hO ha hlk0
  have hl0 : 0 < l.length := List.length_pos_iff.2 hne
  obtain ⟨n0, hn0⟩ : ∃ n0, n0 = l.length := ⟨_, rfl⟩
  rw [← hn0] at hO ha hlk0 hl0
  have HA := Lib.hid ha
  have HN := Lib.hid hN
  have HF := Lib.hid hf
  have HNM := Lib.hid hn
  have HLF := Lib.hid hlf
  have HI0 : Hid (ClI L s N lf l w w (.slice (some ⟨g, o, none⟩) n0 cap) n0 [] l) := Lib.hid ⟨hn0, rfl, rfl, hO, h, Kt.refl _ _⟩
  have lS := h.lt.1
  have HEND : Hid (∀ (ds l' : List ByteArray) (n o' cap' : Nat) (wr : World), n = l'.length → l = ds ++ l' → dropE lf l = l' → OwnO wr L.B (.slice (some ⟨g, o', none⟩) n cap') l' → StM wr L { s with P := delA s.P ds } N → Kt L.B w wr →
      ∃ w5, (Instr.mapUpdate 180 (.map (some L.m2)) (.string f) (.slice (some ⟨g, o', none⟩) n cap')).run Tryz.prog wr = .ok () w5 ∧ Hid (∃ hd ds, l = ds ++ dropE lf l ∧ StM w5 L { s with F := s.F.put f.data.toList (hd, dropE lf l), P := delA s.P ds } (N + 1) ∧ Kt L.B w w5)) := Lib.hid fun ds l' n o' cap' wr e1 e2 e3 hO' hS' hK' => by
    have hF4 : StF wr L { s with P := delA s.P ds } f.data.toList (hdrV (some (g, o'), n, cap')) l' N := hS'.openF (k := f) (v := .slice (some ⟨g, o, none⟩) n0 cap) HA.out hO' rfl
    obtain ⟨w5, hr5, h5, hk5⟩ := hF4.put HN.out HF.out
    exact ⟨w5, hr5, Lib.hid ⟨(some (g, o'), n, cap'), ds, by rw [e3]; exact e2, by rw [e3]; exact h5, hK'.trans hk5⟩⟩
  clear h hO ha hn hl hlf hx0 hne hn0 hf hN
  go_enter Tryz.func175, Tryz.ntmps175
  go_wp2_with fail
  clear hlk0 c2
  go_loopw [4] (fun v4 wr => ∃ (ds l' : List ByteArray) (n o' cap' : Nat), v4 = .slice (some ⟨g, o', none⟩) n cap' ∧ 0 < n ∧ Hid (ClI L s N lf l w wr (.slice (some ⟨g, o', none⟩) n cap') n ds l')) (fun v4 _ => slLen v4)
  case atStart => exact ⟨[], l, n0, o, cap, rfl, hl0, HI0⟩
  case round =>
    obtain ⟨ds, l', n, o', cap', rfl, hn0, HI⟩ := hrel
    obtain ⟨i1, i2, i3, i4, i5, i6⟩ := HI.out
    obtain ⟨x, r, rfl⟩ : ∃ x r, l' = x :: r := by
      cases l' with
      | nil => simp at i1; omega
      | cons x r => exact ⟨x, r, rfl⟩
    obtain ⟨g', o2, cap2, hv2, d0⟩ := i4.at (k := 0) rfl
    injection hv2 with e1 e2 e3
    injection e1 with e1
    injection e1 with e1 e4 _
    subst e1 e4
    clear e2 e3
    rw [Nat.add_zero] at d0
    have hcap : n ≤ cap' := by
      obtain ⟨a3, c3, e3, h3, -⟩ := i4.form
      injection e3 with _ e3 e4
      rw [e3, e4]; exact h3
    have hxs : x.size ≤ maxLen := HNM.out x (by rw [i2]; simp)
    have hlr := fun m => (i5.low (Bl.drewN (Below.refl _ _) m)).sb.mR.look TMr.ok x hxs
    obtain ⟨q, hq⟩ : ∃ q, q = (s.R.get x.data.toList).getD TMr.z := ⟨_, rfl⟩
    have hqv : q.2.2 = lf x := by rw [HLF.out, hq]; rfl
    have hlr1 := hlr
    simp only [← hq] at hlr1
    obtain ⟨qk, qp, qn⟩ := q
    have hlr2 : ∀ m, (Instr.lookup 178 (.map (some L.m0)) (.string x) false).run Tryz.prog (wr.drewN m) = .ok (.agg #[.string qk, .string qp, .int .i64 qn]) (wr.drewN m) := hlr1
    have hfi : ∀ W, (Instr.field 90 (.agg #[.string qk, .string qp, .int .i64 qn]) 2).run Tryz.prog W = .ok (.int .i64 qn) W := fun _ => rfl
    obtain ⟨a0, a1, a2, -, -⟩ := i5.cells
    have lS2 := i5.lt.1
    have lg2 := World.block_lt_of_cell? _ _ d0
    simp only at lg2
    have HQV : Hid (qn = lf x) := Lib.hid hqv
    have HXS := Lib.hid hxs
    clear hlr hlr1 hq hqv i1 i2 i3 i4 i5 i6 hxs
    by_cases h1 : n = 1
    case' pos =>
      subst h1
      have HD : Hid (dropE lf (x :: r) = x :: r) := Lib.hid (by
        have := HI.out.len
        cases r with
        | nil => rfl
        | cons y t => simp at this)
      go_wp2_with fail
      go_quiet (fail)
    case' neg =>
      have hn2 : (1 : Int) < (n : Int) := by omega
      have hn3 : 1 < n := by omega
      by_cases hq0 : qn = 0
      case pos =>
        subst hq0
        go_wp2_with fail
        go_quiet (fail)
        obtain ⟨i1, i2, i3, i4, i5, i6⟩ := HI.out
        have hbd : Below wr.heap.size wr (wr.drewN nq) := Bl.drewN (Below.refl _ _) nq
        have hbd2 : Below wr.heap.size wr (wr.drewN nq).drew := Bl.trans hbd (Below.drew (Below.refl _ _))
        obtain ⟨w3, hr3, h3, hk3, hg3⟩ := (i5.low hbd2).delP x HXS.out 0
        have hrn : n = r.length + 1 := by rw [i1]; rfl
        have hO3 : OwnO w3 L.B (.slice (some ⟨g, o' + 1, none⟩) (n - 1) (cap' - 1)) r := by
          have h1 := i4.below hbd2
          rw [hrn] at h1 ⊢
          refine (OwnO.tail h1).keep fun k hk => ?_
          injection hk with hk
          subst hk
          obtain ⟨_, cur, hc⟩ := (ownO_k L.B).blk h1 rfl
          exact hg3.block g (blk_lt hc) fun e => by injection e with e; exact (i5.low hbd2).sb.mP.noCells _ _ (e ▸ hc)
        have HN3 : Hid (ClI L s N lf l w w3 (.slice (some ⟨g, o' + 1, none⟩) (n - 1) (cap' - 1)) (n - 1) (ds ++ [x]) r) := Lib.hid ⟨by omega, by rw [i2]; simp, by
          rw [i3]
          cases r with
          | nil => simp at hrn; omega
          | cons y t => show (if lf x = 0 then _ else _) = _; rw [if_pos HQV.out.symm], hO3, by rw [delA_app]; exact h3, i6.trans ((Kt.of_below hbd2).trans hk3)⟩
        have b1 : (wr.drewN nq).cell? ⟨L.S, 1, none⟩ = some (.map (some L.m1)) := a1
        have dx : (wr.drewN nq).cell? ⟨g, o', none⟩ = some (.string x) := d0
        have hn1 : 1 ≤ n := by omega
        have lg3 : g < (wr.drewN nq).heap.size := lg2
        have lS3 : L.S < (wr.drewN nq).heap.size := lS2
        have hc2 : ¬ cap' = 1 := by omega
        have hc3 : ¬ cap' - 1 = 0 := by omega
        have hn4 : n - 1 < n := by omega
        have hn5 : 0 < n - 1 := by omega
        have hcn : n ≤ cap' := hcap
        clear i1 i2 i3 i4 i5 i6 hbd hbd2 h3 hk3 hg3 hO3 hlr2 hfi a0 a1 a2 d0 hrn HI lg2 lS2
        generalize wr.drewN nq = W1 at *
        go_wp2_with fail
        go_region
        go_wp2_with fail
        go_roundw
        case rel => exact ⟨ds ++ [x], r, n - 1, o' + 1, cap' - 1, rfl, hn5, HN3⟩
        case measure => simp [slLen]; omega
      case' neg =>
        have hqf : (qn == 0) = false := by simp [hq0]
        have HD : Hid (dropE lf (x :: r) = x :: r) := Lib.hid (dropE_pos r (by rw [← HQV.out]; exact hq0))
        go_wp2_with fail
        go_quiet (fail)
    all_goals (
      obtain ⟨i1, i2, i3, i4, i5, i6⟩ := HI.out
      have hbd : Below wr.heap.size wr (wr.drewN nq) := Bl.drewN (Below.refl _ _) nq
      obtain ⟨w5, hr5, HE⟩ := HEND.out ds (x :: r) _ o' cap' (wr.drewN nq) i1 i2 (i3.trans HD.out) (i4.below hbd) (i5.low hbd) (i6.trans (Kt.of_below hbd))
      have b2 : (wr.drewN nq).cell? ⟨L.S, 2, none⟩ = some (.map (some L.m2)) := a2
      clear i1 i2 i3 i4 i5 i6 hbd hlr2 hfi a0 a1 a2 d0
      go_wp2
      go_end0
      obtain ⟨hd, ds', u1, u2, u3⟩ := HE.out
      exact ⟨rfl, hd, ds', u1, u2, u3⟩)
end Go.Proofs.YtilhonppgedoiaaGreatDoor
namespace Go.Proofs.YtilhonppgedoiaaGreatDoor
open Go.RowKit Go.Sort Go.Maps
def ptO (R : Sm Rel) (x : ByteArray) : ByteArray := ((R.get x.data.toList).getD TMr.z).2.1
theorem lfO_put (R : Sm Rel) (k : ByteArray) (a b : ByteArray) (n : Int) : lfO (R.put k.data.toList (a, b, n)) = updL (lfO R) k n := by
  funext x
  unfold lfO updL
  by_cases h : x = k
  · subst h; rw [Sm.get_put_same, if_pos rfl]; rfl
  · rw [Sm.get_put_other (fun e => h (ba_ext e).symm), if_neg h]
theorem ptO_put (R : Sm Rel) (k : ByteArray) (n : Int) (x : ByteArray) : ptO (R.put k.data.toList (((R.get k.data.toList).getD TMr.z).1, ((R.get k.data.toList).getD TMr.z).2.1, n)) x = ptO R x := by
  unfold ptO
  by_cases h : x = k
  · subst h; rw [Sm.get_put_same]; rfl
  · rw [Sm.get_put_other (fun e => h (ba_ext e).symm)]
/-- from where a board has its components. -/
def orgL (log : List Tkn) (b : ByteArray) : List Org := (log.filter fun t => decide (t.2.2.1 = b)).map fun t => (t.2.2.2.1, t.2.2.2.2.1, t.2.2.2.2.2)
theorem orgL_app (log : List Tkn) (i : Int) (e : Fed) (lg : List (ByteArray × Int)) (b : ByteArray) : orgL (log ++ logU i e lg) b = orgL log b ++ (if b = e.bd then lg.reverse.map (fun p => (e.fd, p.1, p.2)) else []) := by
  unfold orgL
  rw [List.filter_append, List.map_append]
  congr 1
  unfold logU
  rw [List.filter_map]
  by_cases h : b = e.bd
  · have hh : lg.reverse.filter ((fun t : Tkn => decide (t.2.2.1 = b)) ∘ fun p => (i, e.at, e.bd, e.fd, p.1, p.2)) = lg.reverse := List.filter_eq_self.2 fun p _ => decide_eq_true (show e.bd = b from h.symm)
    rw [if_pos h, hh, List.map_map]
    rfl
  · have hh : lg.reverse.filter ((fun t : Tkn => decide (t.2.2.1 = b)) ∘ fun p => (i, e.at, e.bd, e.fd, p.1, p.2)) = [] := List.filter_eq_nil_iff.2 fun p _ => by
      show ¬ decide (e.bd = b) = true
      rw [decide_eq_false (fun e1 : e.bd = b => h e1.symm)]; exact Bool.false_ne_true
    rw [if_neg h, hh]
    rfl
theorem orgL_len (log : List Tkn) (b : ByteArray) : (orgL log b).length ≤ log.length := by
  unfold orgL
  rw [List.length_map]
  exact List.length_filter_le _ _
/-- the program's store holds what the model tells. -/
structure RelP (s : Sts) (A : Mdl) : Prop where
  left : lfO s.R = A.left
  part : ∀ x, ptO s.R x = A.part x
  row : ∀ f, rowO s.F f = A.row f
  pos : ∀ x, s.P.get x.data.toList = if A.pos x = ByteArray.empty then none else some (A.pos x)
  org : ∀ b, rowOr s.O b = orgL A.log b
  spl : ∀ b : ByteArray, 0 ≤ (s.X.get b.data.toList).getD 0 ∧ (s.X.get b.data.toList).getD 0 ≤ A.log.length
  nm : ∀ p ∈ s.O, p.1.length ≤ 1000
  spx : ∀ b : ByteArray, (s.X.get b.data.toList).getD 0 = splL b none A.log
  fw : s.O.length ≤ A.log.length
theorem takeP_logge : ∀ (fuel : Nat) (n : Int) (left : Lf) (l : List ByteArray) (lg : List (ByteArray × Int)), lg.length ≤ (takeP fuel n left l lg).2.2.length
  | 0, _, _, _, _ => Nat.le_refl _
  | fuel + 1, n, left, l, lg => by
    by_cases hn : n ≤ 0
    · rw [takeP_done hn]; exact Nat.le_refl _
    · cases l with
      | nil => rw [takeP_nil]; exact Nat.le_refl _
      | cons k r =>
        rw [takeP_cons hn]
        have := takeP_logge fuel (n - min n (left k)) (updL left k (left k - min n (left k))) (dropE (updL left k (left k - min n (left k))) (k :: r)) ((k, min n (left k)) :: lg)
        simp only [List.length_cons] at this
        omega
theorem takeP_step {fuel : Nat} {n : Int} {left : Lf} {k : ByteArray} {r : List ByteArray} {lg : List (ByteArray × Int)} (h : 0 < n) (hf : n ≤ fuel) (hk : 0 < left k) : ∃ fuel', takeP fuel n left (k :: r) lg = takeP fuel' (n - min n (left k)) (updL left k (left k - min n (left k))) (dropE (updL left k (left k - min n (left k))) (k :: r)) ((k, min n (left k)) :: lg) ∧ n - min n (left k) ≤ fuel' := by
  cases fuel with
  | zero => omega
  | succ f => exact ⟨f, takeP_cons (by omega), by omega⟩
/-- where a use stands: how many are still to be taken, what is left, what was taken. -/
structure UsI (L : Loc) (s : Sts) (N : Nat) (fd bd : ByteArray) (l : List ByteArray) (T : Lf × List ByteArray × List (ByteArray × Int)) (w wr : World) (n c : Int) (fuel : Nat) (left : Lf) (l' : List ByteArray) (lg : List (ByteArray × Int)) (s' : Sts) : Prop where
  tk : takeP fuel n left l' lg = T
  fu : 0 ≤ n ∧ n ≤ fuel
  dr : dropE left l' = l'
  su : n ≤ sumL left l'
  nn : ∀ x, 0 ≤ left x ∧ left x ≤ 100000
  nd : l'.Nodup
  ne : l' ≠ []
  c : c = lg.length
  st : StM wr L s' (N + 1 + 3 * lg.length)
  lf : lfO s'.R = left
  pt : ∀ x, ptO s'.R x = ptO s.R x
  rw : ∀ g, rowO s'.F g = if g = fd then l' else rowO s.F g
  ps : ∃ ds, l = ds ++ l' ∧ s'.P = delA s.P ds
  or : ∀ b, rowOr s'.O b = rowOr s.O b ++ (if b = bd then lg.reverse.map (fun p => (fd, p.1, p.2)) else [])
  sp : s'.X = s.X
  nm : ∀ p ∈ s'.O, p.1.length ≤ 1000
  fw : s'.O.length ≤ s.O.length + lg.length
  kt : Kt L.B w wr
theorem UsI.few {L : Loc} {s : Sts} {N : Nat} {fd bd : ByteArray} {l : List ByteArray} {T : Lf × List ByteArray × List (ByteArray × Int)} {w wr : World} {n c : Int} {fuel : Nat} {left : Lf} {l' : List ByteArray} {lg : List (ByteArray × Int)} {s' : Sts} (h : UsI L s N fd bd l T w wr n c fuel left l' lg s') : lg.length ≤ T.2.2.length := by
  rw [← h.tk]; exact takeP_logge _ _ _ _ _
set_option maxRecDepth 100000 in
/-- rows and reels as they are looked up, in all later worlds. -/
theorem StM.rowB {w : World} {L : Loc} {s : Sts} {N : Nat} (h : StM w L s N) (k : ByteArray) (hk : k.size ≤ maxLen) : ∃ hd, (∀ W, Below w.heap.size w W → (Instr.lookup 180 (.map (some L.m2)) (.string k) false).run Tryz.prog W = .ok (hdrV hd) W) ∧ OwnO w L.B (hdrV hd) (rowO s.F k) ∧ Apart s.F k.data.toList (hdrV hd) := by
  obtain ⟨hd, h1, h2, h3⟩ := h.rowF k hk
  refine ⟨hd, fun W hW => ?_, h2, h3⟩
  have e1 := h.sb.mF.look TMh.ok k hk
  have e2 := (h.sb.mF.below hW).look TMh.ok k hk
  rw [show (Instr.lookup TMh.t (.map (some L.m2)) (.string k) false).run Tryz.prog w = _ from h1] at e1
  injection e1 with e1 _
  rw [e1]; exact e2
set_option maxRecDepth 100000 in
theorem StM.rowOB {w : World} {L : Loc} {s : Sts} {N : Nat} (h : StM w L s N) (k : ByteArray) (hk : k.size ≤ maxLen) : ∃ hd, (∀ W, Below w.heap.size w W → (Instr.lookup 181 (.map (some L.m3)) (.string k) false).run Tryz.prog W = .ok (hdrV hd) W) ∧ OwnR TOr w L.B (hdrV hd) (Go.Proofs.YtilhonppgedoiaaGreatDoor.rowOr s.O k) ∧ Apart s.O k.data.toList (hdrV hd) := by
  obtain ⟨hd, h1, h2, h3⟩ := h.rowOr k hk
  refine ⟨hd, fun W hW => ?_, h2, h3⟩
  have e1 := h.sb.mO.look TMo.ok k hk
  have e2 := (h.sb.mO.below hW).look TMo.ok k hk
  rw [show (Instr.lookup TMo.t (.map (some L.m3)) (.string k) false).run Tryz.prog w = _ from h1] at e1
  injection e1 with e1 _
  rw [e1]; exact e2
theorem StM.reelB {w : World} {L : Loc} {s : Sts} {N : Nat} (h : StM w L s N) (k : ByteArray) (hk : k.size ≤ maxLen) : ∃ qk, ∀ W, Below w.heap.size w W → (Instr.lookup 178 (.map (some L.m0)) (.string k) false).run Tryz.prog W = .ok (.agg #[.string qk, .string (ptO s.R k), .int .i64 (lfO s.R k)]) W := by
  refine ⟨((s.R.get k.data.toList).getD TMr.z).1, fun W hW => ?_⟩
  exact (h.sb.mR.below hW).look TMr.ok k hk
end Go.Proofs.YtilhonppgedoiaaGreatDoor
namespace Go.Proofs.YtilhonppgedoiaaGreatDoor
open Go.RowKit Go.Sort Go.Maps
theorem posU_delA {P : Sm ByteArray} {pos : ByteArray → ByteArray} {l ds l' : List ByteArray} (h : ∀ x : ByteArray, P.get x.data.toList = if pos x = ByteArray.empty then none else some (pos x)) (hl : l = ds ++ l') (hnd : l.Nodup) (x : ByteArray) : (delA P ds).get x.data.toList = if posU pos l l' x = ByteArray.empty then none else some (posU pos l l' x) := by
  rw [delA_get]
  by_cases hx : x ∈ ds
  · have h1 : x ∈ l := by rw [hl]; exact List.mem_append_left _ hx
    have h2 : x ∉ l' := fun h2 => by
      rw [hl, List.nodup_append] at hnd
      exact hnd.2.2 x hx x h2 rfl
    rw [if_pos (memR_iff.2 hx), posU_gone h1 h2, if_pos rfl]
  · have hb : memR x ds = false := by
      cases hb : memR x ds with
      | false => rfl
      | true => exact absurd (memR_iff.1 hb) hx
    rw [hb, if_neg Bool.false_ne_true, posU_stay, h]
    rintro ⟨h1, h2⟩
    rw [hl, List.mem_append] at h1
    rcases h1 with h1 | h1
    · exact hx h1
    · exact h2 h1
set_option maxHeartbeats 16000000 in
set_option maxRecDepth 100000 in
theorem use_any (L : Loc) (s : Sts) (N n : Nat) (A : Mdl) (i : Int) (e : Fed) (w : World) (h : StM w L s N) (hN : N + 20000 ≤ 1000000000) (hR : RelP s A) (hI : InvM A n) (hn : n ≤ 900) (he : FedR e) (h4 : e.kd = 4) (hlg : ∀ t ∈ A.log, t.1 < i) :
    Calls Tryz.prog 141 #[.pointer (some ⟨L.S, 0, none⟩), fedV e] w fun r w' => r = .returned (.int .i64 (refM A e)) ∧ ∃ s', StM w' L s' (N + 20000) ∧ RelP s' (stepM A i e) ∧ Kt L.B w w' := by
  have HE := Lib.hid he
  have HLG := Lib.hid hlg
  clear hlg
  obtain ⟨e0, he0⟩ : ∃ e0, e0 = e := ⟨_, rfl⟩
  obtain ⟨at', kd, fd, rk, mn, bd⟩ := e
  have hk4 : kd = 4 := h4
  subst hk4
  have hfd : fd.size ≤ maxLen := Nat.le_trans he.fd (by unfold maxLen; omega)
  have hbd : bd.size ≤ maxLen := Nat.le_trans he.bd (by unfold maxLen; omega)
  have hm1 : 1 ≤ mn := he.use rfl
  have hm2 : mn ≤ 100000 := he.m1
  obtain ⟨w1, hw1⟩ : ∃ w1, w1 = w.alloc (.cells #[.int .i64 at', .int .i64 4, .string fd, .string rk, .int .i64 mn, .string bd] 37) := ⟨_, rfl⟩
  have hb1 : Below w.heap.size w w1 := by rw [hw1]; exact Bl.alloc (Below.refl _ _) _
  have hx1 : w1.heap[w.heap.size]? = some (.cells #[.int .i64 at', .int .i64 4, .string fd, .string rk, .int .i64 mn, .string bd] 37 (0, 0)) := by rw [hw1]; exact blk_new w _
  have h1 := h.low hb1
  obtain ⟨l, hl⟩ : ∃ l, l = A.row fd := ⟨_, rfl⟩
  obtain ⟨hd, hlk0, hO, -⟩ := h1.rowF fd hfd
  rw [hR.row, ← hl] at hO
  obtain ⟨ra, rc, hv, _, _⟩ := hO.form
  have hRF : refM A (at', 4, fd, rk, mn, bd) = if l = [] then 8 else if sumL A.left l < mn then 16 else 0 := by rw [hl]; rfl
  have hST : stepM A i (at', 4, fd, rk, mn, bd) = if refM A (at', 4, fd, rk, mn, bd) = 0 then doM A i (at', 4, fd, rk, mn, bd) else A := rfl
  obtain ⟨RF, hRFe⟩ : ∃ RF, RF = refM A (at', 4, fd, rk, mn, bd) := ⟨_, rfl⟩
  rw [← hRFe] at hRF hST ⊢
  have HLK : Hid (∀ m, (Instr.lookup 180 (.map (some L.m2)) (.string fd) false).run Tryz.prog (w1.drewN m) = .ok (.slice ra l.length rc) (w1.drewN m)) := Lib.hid fun m => by
    have h2 := (h1.sb.mF.below (Bl.drewN (Below.refl _ _) m)).look TMh.ok fd hfd
    have h3 := h1.sb.mF.look TMh.ok fd hfd
    rw [show (Instr.lookup TMh.t (.map (some L.m2)) (.string fd) false).run Tryz.prog w1 = _ from hlk0] at h3
    injection h3 with h3 _
    rw [← hv, h3]; exact h2
  have H1 := Lib.hid h1
  have HX1 := Lib.hid hx1
  have HB1 := Lib.hid hb1
  have HRR := Lib.hid hR
  have HII := Lib.hid hI
  have HRF := Lib.hid hRF
  have HST := Lib.hid hST
  have HL := Lib.hid hl
  have HN := Lib.hid hN
  have HFD := Lib.hid hfd
  have HBD := Lib.hid hbd
  have HM := Lib.hid (And.intro hm1 hm2)
  have HNN := Lib.hid hn
  have HE0 := Lib.hid he0
  have c2 : w1.cell? ⟨L.S, 2, none⟩ = some (.map (some L.m2)) := h1.cells.2.2.1
  have x2 : w1.cell? ⟨w.heap.size, 2, none⟩ = some (.string fd) := blk_cell hx1 2
  have x4 : w1.cell? ⟨w.heap.size, 4, none⟩ = some (.int .i64 mn) := blk_cell hx1 4
  have lS := h1.lt.1
  have lx := blk_lt hx1
  have HLEFT : Hid (∀ W, Below w1.heap.size w1 W → Calls Tryz.prog 174 #[.pointer (some ⟨L.S, 0, none⟩), .string fd] W fun e w' => e = .returned (.int .i64 (sumL A.left l)) ∧ w' = W) := Lib.hid fun W hW => by
    have h2 := h1.low hW
    have h3 := left_any L.S L.m0 L.m1 L.m2 L.m3 L.m4 L.B fd W s.R s.F h2.sb.blk h2.sb.mR h2.sb.mF (fun p hp => h2.rf.own p hp) hfd
      (fun x hx => Nat.le_trans (hI.sz fd x (by rw [← hR.row]; exact hx)) (by unfold maxLen; omega)) (by rw [hR.row]; have := hI.ln fd; omega) (fun x => by rw [hR.left]; exact hI.lf x)
    rw [sumO_L, hR.left, hR.row, ← hl] at h3
    exact h3.mono fun _ _ h => ⟨h.1, h.2.symm⟩
  have HX2 : Hid (∀ W, Below w1.heap.size w1 W → W.cell? ⟨w.heap.size, 2, none⟩ = some (.string fd) ∧ W.cell? ⟨w.heap.size, 4, none⟩ = some (.int .i64 mn) ∧ w.heap.size < W.heap.size) := Lib.hid fun W hW => by
    have h2 := blk_below hx1 hW
    exact ⟨blk_cell h2 2, blk_cell h2 4, blk_lt h2⟩
  change Calls _ _ #[_, .agg #[.int .i64 at', .int .i64 4, .string fd, .string rk, .int .i64 mn, .string bd]] _ _
  clear h h1 hO hv hx1 hb1 hlk0 hl hN hR hI he hfd hbd hm1 hm2 hn hRF hST hRFe he0 h4
  have hlk := HLK.out
  by_cases hl0 : l = []
  · have HRE : Hid (RF = 8) := Lib.hid (by rw [HRF.out, if_pos hl0])
    subst hl0
    go_enter Tryz.func141, Tryz.ntmps141
    go_wp2_with fail
    rw [← hw1]
    clear hw1
    go_quiet (fail)
    go_wp2
    go_ret
    refine ⟨ret_int HRE.out.symm, s, (H1.out.low (Bl.drewN (Below.refl _ _) _)).mono (by omega) HN.out, ?_, (Kt.of_below HB1.out).trans (Kt.of_below (Bl.drewN (Below.refl _ _) _))⟩
    rw [HST.out, HRE.out]
    exact HRR.out
  have hlp : ((l.length : Int) == 0) = false := by
    have : 0 < l.length := List.length_pos_iff.2 hl0
    simp; omega
  have hlp2 : ¬ (l.length : Int) = 0 := by simpa using hlp
  have hlp3 : ¬ l.length = 0 := by omega
  by_cases hsm : sumL A.left l < mn
  · have HRE : Hid (RF = 16) := Lib.hid (by rw [HRF.out, if_neg hl0, if_pos hsm])
    have hsd : decide (sumL A.left l < mn) = true := decide_eq_true hsm
    go_enter Tryz.func141, Tryz.ntmps141
    go_wp2_with fail
    rw [← hw1]
    clear hw1
    go_quiet (fail)
    clear c2 x2 x4 lx hlk
    have HB2 : Hid (Below w1.heap.size w1 (w1.drewN nq)) := Lib.hid (Bl.drewN (Below.refl _ _) _)
    obtain ⟨x2, x4, lx⟩ := HX2.out _ HB2.out
    generalize w1.drewN nq = w2 at *
    go_wp2_with fail
    go_quiet ((go_at_call 174; exact Calls.quiet_of_same (HLEFT.out _ (Bl.trans HB2.out (Bl.drewN (Below.refl _ _) _)))))
    have HB3 : Hid (Below w1.heap.size w1 (w2.drewN nq)) := Lib.hid (Bl.trans HB2.out (Bl.drewN (Below.refl _ _) _))
    go_wp2
    go_ret
    refine ⟨ret_int HRE.out.symm, s, (H1.out.low HB3.out).mono (by omega) HN.out, ?_, (Kt.of_below HB1.out).trans (Kt.of_below HB3.out)⟩
    rw [HST.out, HRE.out]
    exact HRR.out
  have HRE : Hid (RF = 0) := Lib.hid (by rw [HRF.out, if_neg hl0, if_neg hsm])
  have hsd : decide (sumL A.left l < mn) = false := decide_eq_false hsm
  have HL0 := Lib.hid hl0
  have HSM := Lib.hid hsm
  go_enter Tryz.func141, Tryz.ntmps141
  go_wp2_with fail
  rw [← hw1]
  clear hw1
  go_quiet (fail)
  clear c2 x2 x4 lx hlk
  have HB2 : Hid (Below w1.heap.size w1 (w1.drewN nq)) := Lib.hid (Bl.drewN (Below.refl _ _) _)
  obtain ⟨x2, x4, lx⟩ := HX2.out _ HB2.out
  generalize w1.drewN nq = w2 at *
  go_wp2_with fail
  go_quiet ((go_at_call 174; exact Calls.quiet_of_same (HLEFT.out _ (Bl.trans HB2.out (Bl.drewN (Below.refl _ _) _)))))
  clear x2 x4 lx
  have HB3 : Hid (Below w1.heap.size w1 (w2.drewN nq)) := Lib.hid (Bl.trans HB2.out (Bl.drewN (Below.refl _ _) _))
  obtain ⟨x2, x4, lx⟩ := HX2.out _ HB3.out
  generalize w2.drewN nq = w3 at *
  clear HB2
  -- the row is cleared
  have hI := HII.out
  have hl := HL.out
  have hne : rowO s.F fd ≠ [] := by rw [HRR.out.row, ← hl]; exact HL0.out
  have hnm : ∀ x ∈ l, x.size ≤ maxLen := fun x hx => Nat.le_trans (hI.sz fd x (by rw [← hl]; exact hx)) (by unfold maxLen; omega)
  have HNM := Lib.hid hnm
  have HC0 := Lib.hid (clear_any L s N fd w3 (H1.out.low HB3.out) (by have := HN.out; omega) HFD.out hne (by rw [HRR.out.row, ← hl]; exact hnm))
  obtain ⟨T, hT⟩ : ∃ T, T = takeP mn.toNat mn A.left (dropE A.left l) [] := ⟨_, rfl⟩
  have hmn : mn ≤ sumL A.left l := by have := HSM.out; omega
  have hsf := dropE_suffix A.left l
  have hndl : l.Nodup := by rw [hl]; exact hI.nd fd
  have hTl : T.2.2.length ≤ l.length := by
    rw [hT]
    have := takeP_log mn.toNat mn A.left (dropE A.left l) [] (dropE_idem _ _) (by rw [dropE_sum]; exact hmn) (fun x _ => (hI.lf x).1) (hndl.sublist hsf.sublist)
    have h2 := hsf.length_le
    simp only [List.length_nil] at this
    omega
  have hTU : useT A (at', 4, fd, rk, mn, bd) = T := by
    rw [hT, hl]
    exact useT_P hI (e := (at', 4, fd, rk, mn, bd)) (by show mn ≤ sumL A.left (A.row fd); rw [← hl]; exact hmn) (by show 0 ≤ mn; have := HM.out.1; omega)
  have hmt : (mn.toNat : Int) = mn := Int.toNat_of_nonneg (by have := HM.out.1; omega)
  have hT1 : 1 ≤ T.2.2.length := by
    obtain ⟨k, r, hkr⟩ : ∃ k r, dropE A.left l = k :: r := by
      cases hdd : dropE A.left l with
      | nil => exact absurd hdd (dropE_some HL0.out)
      | cons k r => exact ⟨k, r, rfl⟩
    have hkp : 0 < A.left k := head_pos (n := mn) (r := r) (by have := HM.out.1; omega) (by rw [← hkr]; exact dropE_idem _ _) (by rw [← hkr, dropE_sum]; exact hmn) (hI.lf k).1
    obtain ⟨f', h1, _⟩ := takeP_step (fuel := mn.toNat) (n := mn) (left := A.left) (k := k) (r := r) (lg := []) (by have := HM.out.1; omega) (by omega) hkp
    rw [hT, hkr, h1]
    exact takeP_logge f' _ _ _ [(k, _)]
  have HT := Lib.hid (And.intro hT (And.intro hTl (And.intro hTU hT1)))
  have HND := Lib.hid hndl
  have HMN := Lib.hid (And.intro hmn hmt)
  have hll : l.length ≤ 900 := by have h1 := hI.ln fd; have h2 := HNN.out; rw [← hl] at h1; omega
  have HLL := Lib.hid hll
  clear hI hl hne hnm hT hmn hsf hndl hTl hTU hT1 hlp hlp2 hlp3 hsd hmt hll
  go_wp2_with fail
  refine HC0.out.mono ?_
  rintro e w4 ⟨rfl, hdc, ds, hds, h4, hk4⟩
  rw [HRR.out.row, HRR.out.left, ← HL.out] at h4 hds
  have HI0 : Hid (UsI L s N fd bd l T w1 w4 mn 0 mn.toNat A.left (dropE A.left l) [] { s with F := s.F.put fd.data.toList (hdc, dropE A.left l), P := delA s.P ds }) := Lib.hid ⟨HT.out.1.symm, ⟨by have := HM.out.1; omega, by have := HMN.out.2; omega⟩, dropE_idem _ _, by rw [dropE_sum]; exact HMN.out.1, HII.out.lf, HND.out.sublist (dropE_suffix _ _).sublist, dropE_some HL0.out, rfl, h4, HRR.out.left, fun _ => rfl, fun g => rowO_put _ _ _ _ _, ⟨ds, hds, rfl⟩, fun b => by split <;> simp, rfl, HRR.out.nm, Nat.le_refl _, (Kt.of_below HB3.out).trans hk4⟩
  have HDO : Hid (doM A i (at', 4, fd, rk, mn, bd) = ⟨T.1, A.part, updR A.row fd T.2.1, posU A.pos l T.2.1, A.log ++ logU i (at', 4, fd, rk, mn, bd) T.2.2⟩) := Lib.hid (by
    unfold doM
    rw [if_neg (by show ¬ ((4 : Int) = 1 ∨ (4 : Int) = 2); omega), if_neg (by show ¬ (4 : Int) = 3; omega), if_pos (show (4 : Int) = 4 from rfl), HT.out.2.2.1, HL.out])
  clear h4 hk4 hds HC0
  go_wp2_with fail
  clear x2 x4 lx
  go_loopw [5, 6] (fun v5 v6 wr => ∃ (n' c : Int) (fuel : Nat) (left' : Lf) (l' : List ByteArray) (lg : List (ByteArray × Int)) (s' : Sts), v5 = .int .i64 n' ∧ v6 = .int .i64 c ∧ Hid (UsI L s N fd bd l T w1 wr n' c fuel left' l' lg s')) (fun v5 _ _ => (intOf v5).toNat)
  case atStart => exact ⟨mn, 0, _, _, _, _, _, rfl, rfl, HI0⟩
  case round =>
    obtain ⟨n', c, fuel, left', l', lg, s', rfl, rfl, HI⟩ := hrel
    have hI := HI.out
    have hxb := hI.kt.fix HX1.out (by decide)
    have hfew := hI.few
    have lxr := blk_lt hxb
    have lSr := hI.st.lt.1
    by_cases hn0 : 0 < n'
    case neg =>
      have hn1 : n' = 0 := by have := hI.fu.1; omega
      subst hn1
      have HTE : Hid (T = (left', l', lg)) := Lib.hid (by rw [← hI.tk, takeP_done (Int.le_refl _)])
      have a4 : wr.cell? ⟨L.S, 4, none⟩ = some (.map (some L.m4)) := hI.st.cells.2.2.2.2
      have x5 : wr.cell? ⟨w.heap.size, 5, none⟩ = some (.string bd) := blk_cell hxb 5
      have hdw : Below wr.heap.size wr wr.drew := Below.drew (Below.refl _ _)
      have hlkx := (hI.st.low hdw).sb.mX.look TMi.ok bd HBD.out
      obtain ⟨xv, hxv⟩ : ∃ xv, xv = (s'.X.get bd.data.toList).getD 0 := ⟨_, rfl⟩
      have hlkx2 : (Instr.lookup 149 (.map (some L.m4)) (.string bd) false).run Tryz.prog wr.drew = .ok (.int .i64 xv) wr.drew := by rw [hxv]; exact hlkx
      have hxb2 := HRR.out.spl bd
      rw [← hI.sp, ← hxv] at hxb2
      have hlogn := HII.out.ll
      have hnn2 : n * n ≤ 900 * 900 := Nat.mul_le_mul HNN.out HNN.out
      have hcb : 1 ≤ c ∧ c ≤ 900 := by
        have h1 := HT.out.2.2.2
        have h2 := HT.out.2.1
        have h3 := HLL.out
        rw [HTE.out] at h1 h2
        simp only at h1 h2
        have := hI.c
        omega
      have hw1 : IntKind.i64.wrap (c - 1) = c - 1 := IntWalk.i64_in _ (by omega)
      have hw2 : IntKind.i64.wrap (xv + (c - 1)) = xv + (c - 1) := IntWalk.i64_in _ (by omega)
      obtain ⟨w7, hr7, h7, hk7⟩ := (hI.st.low hdw).putX (by have h1 := HN.out; have h2 := HT.out.2.1; have h3 := HLL.out; omega) bd HBD.out (xv + (c - 1))
      have HE7 : Hid (∃ s7, StM w7 L s7 (N + 20000) ∧ RelP s7 (stepM A i (at', 4, fd, rk, mn, bd)) ∧ Kt L.B w w7) := Lib.hid (by
        refine ⟨_, h7.mono (by have h2 := HT.out.2.1; have h3 := HLL.out; omega) HN.out, ?_, (Kt.of_below HB1.out).trans (hI.kt.trans ((Kt.of_below hdw).trans hk7))⟩
        rw [HST.out, if_pos HRE.out, HDO.out, HTE.out]
        obtain ⟨ds', e1, e2⟩ := hI.ps
        refine ⟨hI.lf, fun x => (hI.pt x).trans (HRR.out.part x), fun g => ?_, fun x => ?_, fun b => ?_, fun b => ?_, hI.nm, fun b => ?_, ?_⟩
        · show rowO s'.F g = updR A.row fd l' g
          rw [hI.rw]
          unfold updR
          split
          · rfl
          · exact HRR.out.row g
        · show s'.P.get x.data.toList = if posU A.pos l l' x = ByteArray.empty then none else some (posU A.pos l l' x)
          rw [e2]
          exact posU_delA HRR.out.pos e1 HND.out x
        · show rowOr s'.O b = orgL (A.log ++ logU i (at', 4, fd, rk, mn, bd) lg) b
          rw [hI.or, orgL_app, HRR.out.org]
        · show 0 ≤ ((s'.X.put bd.data.toList (xv + (c - 1))).get b.data.toList).getD 0 ∧ ((s'.X.put bd.data.toList (xv + (c - 1))).get b.data.toList).getD 0 ≤ ((A.log ++ logU i (at', 4, fd, rk, mn, bd) lg).length : Int)
          have hlen : ((A.log ++ logU i (at', 4, fd, rk, mn, bd) lg).length : Int) = A.log.length + c := by
            unfold logU
            rw [List.length_append, List.length_map, List.length_reverse, hI.c]; omega
          rw [hlen]
          by_cases hb : b = bd
          · subst hb
            rw [Sm.get_put_same]
            show 0 ≤ xv + (c - 1) ∧ xv + (c - 1) ≤ _
            omega
          · rw [Sm.get_put_other (fun e => hb (ba_ext e).symm), hI.sp]
            have := HRR.out.spl b
            omega
        · show ((s'.X.put bd.data.toList (xv + (c - 1))).get b.data.toList).getD 0 = splL b none (A.log ++ logU i (at', 4, fd, rk, mn, bd) lg)
          have hlne : lg ≠ [] := fun e => by have h1 := hI.c; rw [e] at h1; simp at h1; omega
          rw [splL_app b i (at', 4, fd, rk, mn, bd) lg A.log none HLG.out (fun e => by cases e) hlne]
          by_cases hb : b = bd
          · subst hb
            rw [Sm.get_put_same, if_pos rfl, ← HRR.out.spx, ← hI.sp, ← hxv, ← hI.c]
            rfl
          · rw [Sm.get_put_other (fun e => hb (ba_ext e).symm), hI.sp, HRR.out.spx, if_neg (fun e => hb e.symm)]
            omega
        · show s'.O.length ≤ (A.log ++ logU i (at', 4, fd, rk, mn, bd) lg).length
          have h1 := hI.fw
          have h2 := HRR.out.fw
          unfold logU
          rw [List.length_append, List.length_map, List.length_reverse]
          omega)
      clear hI hxb hfew hlkx hxv hxb2 hlogn hnn2 hcb h7 hk7 hdw
      go_wp2_with fail
      go_region
      go_wp2
      go_ret
      exact ⟨ret_int HRE.out.symm, HE7.out⟩
    obtain ⟨x, r, rfl⟩ : ∃ x r, l' = x :: r := by
      cases l' with
      | nil => exact absurd rfl hI.ne
      | cons x r => exact ⟨x, r, rfl⟩
    have hmem : x ∈ l := by obtain ⟨ds', e, _⟩ := hI.ps; rw [e]; simp
    have hxs := HNM.out x hmem
    have HXS := Lib.hid hxs
    obtain ⟨hdf, hlkf, hOf, -⟩ := hI.st.rowB fd HFD.out
    rw [hI.rw, if_pos rfl] at hOf
    obtain ⟨g, o, cap, hvf, d0⟩ := hOf.at (k := 0) rfl
    rw [Nat.add_zero] at d0
    obtain ⟨qk, hlkq⟩ := hI.st.reelB x hxs
    rw [hI.lf] at hlkq
    obtain ⟨qp, hqp⟩ : ∃ qp, qp = ptO s'.R x := ⟨_, rfl⟩
    obtain ⟨qn, hqn⟩ : ∃ qn, qn = left' x := ⟨_, rfl⟩
    rw [← hqp, ← hqn] at hlkq
    have HLKQ := Lib.hid hlkq
    have hkp : 0 < qn := by rw [hqn]; exact head_pos hn0 hI.dr hI.su (hI.nn x).1
    have hqb : qn ≤ 100000 := by rw [hqn]; exact (hI.nn x).2
    have HQN := Lib.hid hqn
    obtain ⟨ln, hln⟩ : ∃ ln, ln = (x :: r).length := ⟨_, rfl⟩
    have hlp : 0 < ln := by rw [hln]; simp
    rw [hvf, ← hln] at hlkf
    have hlk2 : ∀ m, (Instr.lookup 180 (.map (some L.m2)) (.string fd) false).run Tryz.prog (wr.drewN m) = .ok (.slice (some ⟨g, o, none⟩) ln cap) (wr.drewN m) := fun m => hlkf _ (Bl.drewN (Below.refl _ _) m)
    have a2 : wr.cell? ⟨L.S, 2, none⟩ = some (.map (some L.m2)) := hI.st.cells.2.2.1
    have x2 : wr.cell? ⟨w.heap.size, 2, none⟩ = some (.string fd) := blk_cell hxb 2
    have lg2 := World.block_lt_of_cell? _ _ d0
    simp only at lg2
    obtain ⟨n1, hn1⟩ : ∃ n1, min n' qn = n1 := ⟨_, rfl⟩
    have hn1b : 1 ≤ n1 ∧ n1 ≤ n' ∧ n1 ≤ qn := by omega
    have hw1 : IntKind.i64.wrap (qn - n1) = qn - n1 := IntWalk.i64_in _ (by omega)
    have hnb : n' ≤ 100000000 := by
      have h1 := (sumL_bound hI.nn (x :: r)).2
      have h2 := hI.su
      have h3 : (x :: r).length ≤ l.length := by obtain ⟨ds', e, _⟩ := hI.ps; rw [e]; simp
      have h4 := HLL.out
      omega
    have hcb : 0 ≤ c ∧ c ≤ 900 := by
      have h1 := HT.out.2.1
      have h2 := HLL.out
      have := hI.c
      omega
    have hw2 : IntKind.i64.wrap (n' - n1) = n' - n1 := IntWalk.i64_in _ (by omega)
    have hw3 : IntKind.i64.wrap (c + 1) = c + 1 := IntWalk.i64_in _ (by omega)
    have HB := Lib.hid (And.intro hn1b (And.intro hcb (And.intro hn0 hfew)))
    have HXB := Lib.hid hxb
    clear hI hxb hfew hmem hxs hlkf hOf hvf hlkq hqp hqn hln hqb hcb
    go_wp2_with fail
    go_quiet (fail)
    have HB4 : Hid (Below wr.heap.size wr (wr.drewN nq)) := Lib.hid (Bl.drewN (Below.refl _ _) _)
    have hs4a := HI.out.st.low HB4.out
    have a0 : (wr.drewN nq).cell? ⟨L.S, 0, none⟩ = some (.map (some L.m0)) := hs4a.cells.1
    have hlq := HLKQ.out _ HB4.out
    have lSa := hs4a.lt.1
    obtain ⟨M0, hM0⟩ : ∃ M0, M0 = N + 1 + 3 * lg.length := ⟨_, rfl⟩
    rw [← hM0] at hs4a
    have HM0 : Hid (M0 = N + 1 + 3 * lg.length ∧ M0 + 3 ≤ 1000000000) := Lib.hid ⟨hM0, by have h1 := HN.out; have h2 := HT.out.2.1; have h3 := HLL.out; have h4 := HB.out.2.2.2; omega⟩
    have HSE := Lib.hid (set_any L s' M0 x (qn - n1) (wr.drewN nq) hs4a (by have := HM0.out.2; omega) HXS.out)
    have hfi : ∀ W, (Instr.field 90 (.agg #[.string qk, .string qp, .int .i64 qn]) 2).run Tryz.prog W = .ok (.int .i64 qn) W := fun _ => rfl
    clear hs4a hM0 hlk2 a2 x2 d0 lg2
    generalize wr.drewN nq = w4a at *
    go_wp2_with fail
    refine HSE.out.mono ?_
    rintro e w4 ⟨rfl, h4, hk4⟩
    have HN1 := Lib.hid hn1
    clear hw1 hn1 a0 hlq hfi HSE
    obtain ⟨s4, hs4⟩ : ∃ s4 : Sts, s4 = { s' with R := s'.R.put x.data.toList (((s'.R.get x.data.toList).getD TMr.z).1, ((s'.R.get x.data.toList).getD TMr.z).2.1, qn - n1) } := ⟨_, rfl⟩
    rw [← hs4] at h4
    obtain ⟨M, hM⟩ : ∃ M, M = M0 + 1 := ⟨_, rfl⟩
    rw [← hM] at h4
    have HM : Hid (M + 1 ≤ 1000000000) := Lib.hid (by have := HM0.out.2; omega)
    have H4 : Hid (StM w4 L s4 M ∧ Kt L.B wr w4) := Lib.hid ⟨h4, (Kt.of_below HB4.out).trans hk4⟩
    obtain ⟨lo, hlo⟩ : ∃ lo, lo = rowOr s4.O bd := ⟨_, rfl⟩
    obtain ⟨hdo, hlko, hoo, hao⟩ := h4.rowOB bd HBD.out
    rw [← hlo] at hoo
    have HLKO := Lib.hid hlko
    have hlol : lo.length ≤ 1000000 := by
      have e1 : lo = rowOr s'.O bd := by rw [hlo, hs4]
      rw [e1, HI.out.or, HRR.out.org, if_pos rfl, List.length_append, List.length_map, List.length_reverse]
      have h1 := orgL_len A.log bd
      have h2 := HII.out.ll
      have h3 : n * n ≤ 900 * 900 := Nat.mul_le_mul HNN.out HNN.out
      have h4 := HB.out.2.2.2
      have h5 := HT.out.2.1
      have h6 := HLL.out
      omega
    have HOO : Hid (OwnR TOr w4 L.B (hdrV hdo) lo ∧ Apart s4.O bd.data.toList (hdrV hdo) ∧ lo.length ≤ 1000000) := Lib.hid ⟨hoo, hao, hlol⟩
    have HLO := Lib.hid hlo
    have HX4 := Lib.hid ((Kt.trans (Kt.of_below HB4.out) hk4).fix HXB.out (by decide))
    have HRD : Hid (∀ W, Kt L.B w4 W → W.heap[L.S]? = some (.cells #[.map (some L.m0), .map (some L.m1), .map (some L.m2), .map (some L.m3), .map (some L.m4)] 183 (0, 0)) → W.cell? ⟨L.S, 3, none⟩ = some (.map (some L.m3)) ∧ W.cell? ⟨w.heap.size, 2, none⟩ = some (.string fd) ∧ W.cell? ⟨w.heap.size, 5, none⟩ = some (.string bd)) := Lib.hid fun W hK hS => by
      have hx := hK.fix HX4.out (by decide)
      exact ⟨blk_cell hS 3, blk_cell hx 2, blk_cell hx 5⟩
    have HS4 := Lib.hid hs4
    have HMM := Lib.hid hM
    clear h4 hk4 hlko hoo hao hlol hlo hs4 hM
    go_wp2_with fail
    refine wp_region_app (by kernel_rfl) [63, 64, 65, 66, 67, 68, 69, 70, 71, 72, 73, 74, 75, 76, 77, 78, 79, 80, 81, 82] (fun i => ([some (.pointer (some ⟨L.S, 0, none⟩)), some (.pointer (some ⟨L.S, 0, none⟩)), some (.pointer (some ⟨L.S, 3, none⟩)), some (.map (some L.m3)), some (.pointer (some ⟨w.heap.size, 5, none⟩)), some (.string bd), some (.pointer (some ⟨L.S, 0, none⟩)), some (.pointer (some ⟨L.S, 0, none⟩)), some (.pointer (some ⟨L.S, 3, none⟩)), some (.map (some L.m3)), some (.pointer (some ⟨w.heap.size, 5, none⟩)), some (.string bd), some (hdrV hdo), some (.pointer (some ⟨w.heap.size, 2, none⟩)), some (.string fd), some (.string x), some (.int .i64 n1), some (.agg #[.string fd, .string x, .int .i64 n1]), none, none, none] : List (Option Value)).getD i none) 18 19 20 1000 81 82 0
      (fun W => Below w4.heap.size w4 W) (fun W => Hid ((∃ hdo', StM W L { s4 with O := s4.O.put bd.data.toList (hdo', lo ++ [(fd, x, n1)]) } (M + 1)) ∧ Kt L.B w4 W))
      (fun W => W.cell? ⟨L.S, 3, none⟩ = some (.map (some L.m3)) ∧ W.cell? ⟨w.heap.size, 2, none⟩ = some (.string fd) ∧ W.cell? ⟨w.heap.size, 5, none⟩ = some (.string bd))
      (fun v W => ∃ hdo', v = hdrV hdo' ∧ Hid (StO W L s4 bd.data.toList v (lo ++ [(fd, x, n1)]) M ∧ Kt L.B w4 W)) (fun v W => ∃ g, v = .slice (some ⟨g, 0, none⟩) 1 1 ∧ W.heap[g]? = some (.cells #[.string fd, .string x, .int .i64 n1] 219 (0, 0))) (fun _ _ => True)
      (by kernel_rfl) (by kernel_rfl) (by rfl) (by rfl) (by rfl) (by decide) (by decide) ⟨rfl, rfl, fun h => absurd h (by decide)⟩ rfl rfl rfl (fun h => absurd h (by decide))
      (fun l hcl h => hcl.no h 19 ⟨18, .data⟩ rfl rfl (by simp) rfl) (fun l hcl h => hcl.no h 20 ⟨19, .data⟩ rfl rfl (by simp) rfl) (fun h => absurd h (by decide))
      (fun o ho => by obtain rfl := Option.some.inj ho; exact ⟨⟨⟨18, .data⟩, by simp, rfl, rfl⟩, fun h => absurd h (by decide)⟩) (fun o ho => by obtain rfl := Option.some.inj ho; exact ⟨⟨19, .data⟩, by simp, rfl, rfl⟩)
      (Below.drew (Below.refl _ _)) (fun v W W' ⟨g, h1, h2⟩ hb => ⟨g, h1, blk_below h2 hb⟩) (fun _ _ _ _ _ => trivial) (fun W hW => HRD.out W (Kt.of_below hW) (blk_below H4.out.1.sb.blk hW)) (fun v W ⟨hd4, _, h⟩ => HRD.out W h.out.2 h.out.1.sb.blk) (fun W h => (h.out.1.elim fun hd4 h4 => HRD.out W h.out.2 h4.sb.blk)) ?_ ?_ (fun h => absurd h (by decide)) ?_ ?_ ?_
    · intro listed f i o v W ho hc hdep hR hPre hcl hli hV
      obtain ⟨r1, r2, r3⟩ := hR
      match i, ho, hc with
      | 0, ho, hc =>
        obtain rfl := Option.some.inj ho
        obtain rfl := Option.some.inj hc
        refine ⟨rfl, fun q hq => ?_⟩
        have e0 := hq.tmp 0
        simp at e0
        simp [execOp, e0, go_sem]
      | 1, ho, hc =>
        obtain rfl := Option.some.inj ho
        obtain rfl := Option.some.inj hc
        refine ⟨rfl, fun q hq => ?_⟩
        have e63 := hq.tmp 63
        simp at e63
        have d63 : f 63 = .pointer (some ⟨L.S, 0, none⟩) := hV 0 _ (by decide) (hdep ⟨0, .data⟩ (by simp) rfl) rfl
        simp [execOp, e63, d63, go_sem]
      | 2, ho, hc =>
        obtain rfl := Option.some.inj ho
        obtain rfl := Option.some.inj hc
        refine ⟨rfl, fun q hq => ?_⟩
        have e64 := hq.tmp 64
        simp at e64
        have d64 : f 64 = .pointer (some ⟨L.S, 0, none⟩) := hV 1 _ (by decide) (hdep ⟨1, .data⟩ (by simp) rfl) rfl
        simp [execOp, e64, d64, go_sem]
      | 3, ho, hc =>
        obtain rfl := Option.some.inj ho
        obtain rfl := Option.some.inj hc
        refine ⟨rfl, fun q hq => ?_⟩
        have e65 := hq.tmp 65
        simp at e65
        have d65 : f 65 = .pointer (some ⟨L.S, 3, none⟩) := hV 2 _ (by decide) (hdep ⟨2, .data⟩ (by simp) rfl) rfl
        simp [execOp, e65, d65, r1, go_sem]
      | 4, ho, hc =>
        obtain rfl := Option.some.inj ho
        obtain rfl := Option.some.inj hc
        refine ⟨rfl, fun q hq => ?_⟩
        have e3 := hq.tmp 3
        simp at e3
        simp [execOp, e3, go_sem]
      | 5, ho, hc =>
        obtain rfl := Option.some.inj ho
        obtain rfl := Option.some.inj hc
        refine ⟨rfl, fun q hq => ?_⟩
        have e67 := hq.tmp 67
        simp at e67
        have d67 : f 67 = .pointer (some ⟨w.heap.size, 5, none⟩) := hV 4 _ (by decide) (hdep ⟨4, .data⟩ (by simp) rfl) rfl
        simp [execOp, e67, d67, r3, go_sem]
      | 6, ho, hc =>
        obtain rfl := Option.some.inj ho
        obtain rfl := Option.some.inj hc
        refine ⟨rfl, fun q hq => ?_⟩
        have e0 := hq.tmp 0
        simp at e0
        simp [execOp, e0, go_sem]
      | 7, ho, hc =>
        obtain rfl := Option.some.inj ho
        obtain rfl := Option.some.inj hc
        refine ⟨rfl, fun q hq => ?_⟩
        have e69 := hq.tmp 69
        simp at e69
        have d69 : f 69 = .pointer (some ⟨L.S, 0, none⟩) := hV 6 _ (by decide) (hdep ⟨6, .data⟩ (by simp) rfl) rfl
        simp [execOp, e69, d69, go_sem]
      | 8, ho, hc =>
        obtain rfl := Option.some.inj ho
        obtain rfl := Option.some.inj hc
        refine ⟨rfl, fun q hq => ?_⟩
        have e70 := hq.tmp 70
        simp at e70
        have d70 : f 70 = .pointer (some ⟨L.S, 0, none⟩) := hV 7 _ (by decide) (hdep ⟨7, .data⟩ (by simp) rfl) rfl
        simp [execOp, e70, d70, go_sem]
      | 9, ho, hc =>
        obtain rfl := Option.some.inj ho
        obtain rfl := Option.some.inj hc
        refine ⟨rfl, fun q hq => ?_⟩
        have e71 := hq.tmp 71
        simp at e71
        have d71 : f 71 = .pointer (some ⟨L.S, 3, none⟩) := hV 8 _ (by decide) (hdep ⟨8, .data⟩ (by simp) rfl) rfl
        simp [execOp, e71, d71, r1, go_sem]
      | 10, ho, hc =>
        obtain rfl := Option.some.inj ho
        obtain rfl := Option.some.inj hc
        refine ⟨rfl, fun q hq => ?_⟩
        have e3 := hq.tmp 3
        simp at e3
        simp [execOp, e3, go_sem]
      | 11, ho, hc =>
        obtain rfl := Option.some.inj ho
        obtain rfl := Option.some.inj hc
        refine ⟨rfl, fun q hq => ?_⟩
        have e73 := hq.tmp 73
        simp at e73
        have d73 : f 73 = .pointer (some ⟨w.heap.size, 5, none⟩) := hV 10 _ (by decide) (hdep ⟨10, .data⟩ (by simp) rfl) rfl
        simp [execOp, e73, d73, r3, go_sem]
      | 12, ho, hc =>
        obtain rfl := Option.some.inj ho
        obtain rfl := Option.some.inj hc
        refine ⟨rfl, fun q hq => ?_⟩
        have e72 := hq.tmp 72
        simp at e72
        have d72 : f 72 = .map (some L.m3) := hV 9 _ (by decide) (hdep ⟨9, .data⟩ (by simp) rfl) rfl
        have e74 := hq.tmp 74
        simp at e74
        have d74 : f 74 = .string bd := hV 11 _ (by decide) (hdep ⟨11, .data⟩ (by simp) rfl) rfl
        have hlk := HLKO.out W (hPre (hcl.no hli 19 ⟨12, .data⟩ rfl rfl (by simp) rfl))
        simp [execOp, e72, d72, e74, d74, hlk, go_sem]
      | 13, ho, hc =>
        obtain rfl := Option.some.inj ho
        obtain rfl := Option.some.inj hc
        refine ⟨rfl, fun q hq => ?_⟩
        have e3 := hq.tmp 3
        simp at e3
        simp [execOp, e3, go_sem]
      | 14, ho, hc =>
        obtain rfl := Option.some.inj ho
        obtain rfl := Option.some.inj hc
        refine ⟨rfl, fun q hq => ?_⟩
        have e76 := hq.tmp 76
        simp at e76
        have d76 : f 76 = .pointer (some ⟨w.heap.size, 2, none⟩) := hV 13 _ (by decide) (hdep ⟨13, .data⟩ (by simp) rfl) rfl
        simp [execOp, e76, d76, r2, go_sem]
      | 15, ho, hc =>
        obtain rfl := Option.some.inj ho
        obtain rfl := Option.some.inj hc
        refine ⟨rfl, fun q hq => ?_⟩
        have e7 := hq.tmp 7
        simp at e7
        simp [execOp, e7, go_sem]
      | 16, ho, hc =>
        obtain rfl := Option.some.inj ho
        obtain rfl := Option.some.inj hc
        refine ⟨rfl, fun q hq => ?_⟩
        have e8 := hq.tmp 8
        simp at e8
        simp [execOp, e8, go_sem]
      | 17, ho, hc =>
        obtain rfl := Option.some.inj ho
        obtain rfl := Option.some.inj hc
        refine ⟨rfl, fun q hq => ?_⟩
        have e77 := hq.tmp 77
        simp at e77
        have d77 : f 77 = .string fd := hV 14 _ (by decide) (hdep ⟨14, .data⟩ (by simp) rfl) rfl
        have e78 := hq.tmp 78
        simp at e78
        have d78 : f 78 = .string x := hV 15 _ (by decide) (hdep ⟨15, .data⟩ (by simp) rfl) rfl
        have e79 := hq.tmp 79
        simp at e79
        have d79 : f 79 = .int .i64 n1 := hV 16 _ (by decide) (hdep ⟨16, .data⟩ (by simp) rfl) rfl
        simp [execOp, e77, d77, e78, d78, e79, d79, go_sem]
      | 18, ho, hc => exact absurd hc (by simp)
      | 19, ho, hc => exact absurd hc (by simp)
      | 20, ho, hc => exact absurd hc (by simp)
      | (_ + 21), ho, hc => exact absurd hc (by simp)
    · intro listed f o W ho hdep hP hV
      obtain rfl := Option.some.inj ho
      have hbA := Bl.alloc (Below.refl W.heap.size W) (.cells #[.string fd, .string x, .int .i64 n1] 219)
      refine ⟨rfl, .slice (some ⟨W.heap.size, 0, none⟩) 1 1, W.alloc (.cells #[.string fd, .string x, .int .i64 n1] 219), fun q hq => ?_, Bl.trans hP hbA, ⟨W.heap.size, rfl, blk_new W _⟩, hbA⟩
      have e80 := hq.tmp 80
      simp at e80
      have d80 : f 80 = .agg #[.string fd, .string x, .int .i64 n1] := hV 17 _ (by decide) (hdep ⟨17, .data⟩ (by simp) rfl) rfl
      simp [execOp, e80, d80, go_sem]
    · intro listed f o W ho hdep hP hS _ hV
      obtain rfl := Option.some.inj ho
      obtain ⟨g, hg1, hg2⟩ := hS
      have d75 : f 75 = hdrV hdo := hV 12 _ (by decide) (hdep ⟨12, .data⟩ (by simp) rfl) rfl
      refine ⟨rfl, fun K hK => ?_⟩
      obtain ⟨v', w', hr, h2, h3, h4⟩ := (HOO.out.1.below hP).app TOr.ok 217 g 1 (fd, x, n1) hg2 rfl HOO.out.2.2 (Nat.le_trans H4.out.1.lt.2 hP.size)
      refine oper_append (.tmp 75) (.tmp 81) 217 rfl (hdrV hdo) (.slice (some ⟨g, 0, none⟩) 1 1) v' (by rw [← d75]; simp [putsA_eval]) (by rw [← hg1]; simp [putsA_eval]) hr (hK v' w' ?_)
      obtain ⟨hF, hk⟩ := (H4.out.1.low hP).turnO (HOO.out.1.below hP) HOO.out.2.1 h2 h3 h4
      obtain ⟨hd4, rfl⟩ := hdr_ofR h2
      exact ⟨hd4, rfl, Lib.hid ⟨hF, (Kt.of_below hP).trans hk⟩⟩
    · intro listed f o W ho hdep hMid hV
      obtain rfl := Option.some.inj ho
      obtain ⟨hd4, e4, hF⟩ := hMid
      have hF1 := hF.out.1
      rw [e4] at hF1
      obtain ⟨w5, hr5, h5, hk5⟩ := hF1.put HM.out HBD.out
      refine ⟨rfl, w5, fun q hq => ?_, Lib.hid ⟨⟨hd4, h5⟩, hF.out.2.trans hk5⟩⟩
      have e66 := hq.tmp 66
      have e68 := hq.tmp 68
      have e82 := hq.tmp 82
      simp at e66 e68 e82
      have d66 : f 66 = .map (some L.m3) := hV 3 _ (by decide) (hdep ⟨3, .data⟩ (by simp) rfl) rfl
      have d68 : f 68 = .string bd := hV 5 _ (by decide) (hdep ⟨5, .data⟩ (by simp) rfl) rfl
      simp [execOp, e66, e68, e82, d66, d68, e4, hr5, go_sem]
    intro f w5 hP hV
    clear hV
    unfold putsA
    simp only [List.mapIdx_toArray, List.mapIdx_cons, List.mapIdx_nil, List.contains_cons]
    simp
    obtain ⟨⟨hdo', h5⟩, hk5⟩ := hP.out
    obtain ⟨s5, hs5⟩ : ∃ s5 : Sts, s5 = { s4 with O := s4.O.put bd.data.toList (hdo', lo ++ [(fd, x, n1)]) } := ⟨_, rfl⟩
    rw [← hs5] at h5
    have hx5 := hk5.fix HX4.out (by decide)
    have x2 : w5.cell? ⟨w.heap.size, 2, none⟩ = some (.string fd) := blk_cell hx5 2
    have lx5 := blk_lt hx5
    have hF5 : rowO s5.F fd = x :: r := by rw [hs5]; show rowO s4.F fd = _; rw [HS4.out]; show rowO s'.F fd = _; rw [HI.out.rw, if_pos rfl]
    have hR5 : lfO s5.R = updL left' x (left' x - n1) := by rw [hs5]; show lfO s4.R = _; rw [HS4.out]; show lfO (s'.R.put _ _) = _; rw [lfO_put, HI.out.lf, HQN.out]
    have HCL := Lib.hid (clear_any L s5 (M + 1) fd w5 h5 (by have h1 := HM0.out.2; have h2 := HMM.out; omega) HFD.out (by rw [hF5]; simp) (by rw [hF5]; intro y hy; obtain ⟨ds', e, _⟩ := HI.out.ps; exact HNM.out y (by rw [e]; exact List.mem_append_right _ hy)))
    have H5 := Lib.hid (And.intro hF5 (And.intro hR5 (And.intro hs5 (H4.out.2.trans hk5))))
    clear h5 hk5 hP hx5 hF5 hR5 hs5
    go_wp2_with fail
    refine HCL.out.mono ?_
    rintro e w6 ⟨rfl, hdc', ds', hds', h6, hk6⟩
    rw [H5.out.1, H5.out.2.1] at h6 hds'
    have HNX : Hid (∃ fuel' s6, UsI L s N fd bd l T w1 w6 (n' - n1) (c + 1) fuel' (updL left' x (left' x - n1)) (dropE (updL left' x (left' x - n1)) (x :: r)) ((x, n1) :: lg) s6) := Lib.hid (by
      have hI := HI.out
      have hq := HQN.out
      have hb := HB.out
      have hmin : n1 = min n' (left' x) := by rw [← hq]; exact HN1.out.symm
      obtain ⟨fuel', e1, e2⟩ := takeP_step (fuel := fuel) (n := n') (left := left') (k := x) (r := r) (lg := lg) hn0 hI.fu.2 (by rw [← hq]; exact hkp)
      rw [← hmin] at e1 e2
      have hxr : x ∉ r := (List.nodup_cons.1 hI.nd).1
      have hsfx := dropE_suffix (updL left' x (left' x - n1)) (x :: r)
      obtain ⟨ds1, f1, f2⟩ := hI.ps
      refine ⟨fuel', _, ⟨e1.symm.trans hI.tk, ⟨by omega, e2⟩, dropE_idem _ _, ?_, fun y => ?_, hI.nd.sublist hsfx.sublist, dropE_some (by simp), ?_, h6.mono ?_ ?_, H5.out.2.1, fun y => ?_, fun g' => ?_, ⟨ds1 ++ ds', ?_, ?_⟩, fun b => ?_, ?_, ?_, ?_, hI.kt.trans (H5.out.2.2.2.trans hk6)⟩⟩
      · rw [dropE_sum]
        show _ ≤ updL left' x (left' x - n1) x + sumL (updL left' x (left' x - n1)) r
        rw [updL_at, sumL_upd left' x _ r hxr]
        have h1 : sumL left' (x :: r) = left' x + sumL left' r := rfl
        have h2 := hI.su
        omega
      · have h1 := hI.nn y
        unfold updL
        split
        · have := hI.nn x; omega
        · exact h1
      · rw [hI.c]; simp
      · have h1 := HM0.out.1; have h2 := HMM.out; simp only [List.length_cons]; omega
      · have h1 := HM0.out; simp only [List.length_cons]; omega
      · show ptO s5.R y = _
        rw [H5.out.2.2.1]
        show ptO s4.R y = _
        rw [HS4.out]
        show ptO (s'.R.put _ _) y = _
        rw [ptO_put, hI.pt]
      · show rowO (s5.F.put fd.data.toList (hdc', _)) g' = _
        rw [rowO_put]
        by_cases hg : g' = fd
        · rw [if_pos hg, if_pos hg]
        · rw [if_neg hg, if_neg hg, H5.out.2.2.1]
          show rowO s4.F g' = _
          rw [HS4.out]
          show rowO s'.F g' = _
          rw [hI.rw, if_neg hg]
      · rw [f1, List.append_assoc, ← hds']
      · show delA s5.P ds' = _
        rw [H5.out.2.2.1]
        show delA s4.P ds' = _
        rw [HS4.out]
        show delA s'.P ds' = _
        rw [f2, delA_app]
      · show rowOr s5.O b = _
        rw [H5.out.2.2.1]
        show rowOr (s4.O.put bd.data.toList (hdo', lo ++ [(fd, x, n1)])) b = _
        rw [rowOr_put]
        have e3 : rowOr s4.O b = rowOr s'.O b := by rw [HS4.out]
        by_cases hb : b = bd
        · subst hb
          rw [if_pos rfl, if_pos rfl, HLO.out, e3, hI.or, if_pos rfl]
          simp
        · rw [if_neg hb, e3, hI.or, if_neg hb, if_neg hb]
      · show s5.X = _
        rw [H5.out.2.2.1]
        show s4.X = _
        rw [HS4.out]
        show s'.X = _
        exact hI.sp
      · rw [H5.out.2.2.1]
        intro p hp
        have hp2 : p ∈ s4.O.put bd.data.toList (hdo', lo ++ [(fd, x, n1)]) := hp
        have e3 : s4.O = s'.O := by rw [HS4.out]
        rw [e3] at hp2
        rcases (Sm.ins_mem p).1 hp2 with rfl | hp3
        · have h1 : bd.size ≤ 1000 := HE.out.bd
          have h2 : bd.data.toList.length = bd.size := Array.length_toList
          show bd.data.toList.length ≤ 1000
          omega
        · exact hI.nm p (List.mem_filter.1 hp3).1
      · rw [H5.out.2.2.1]
        show (s4.O.put bd.data.toList (hdo', lo ++ [(fd, x, n1)])).length ≤ _
        have e3 : s4.O = s'.O := by rw [HS4.out]
        have h1 := Sm.put_le s4.O bd.data.toList (hdo', lo ++ [(fd, x, n1)])
        have h2 := hI.fw
        rw [e3] at h1 ⊢
        rw [List.length_cons]
        omega)
    clear h6 hk6 hds' HCL H5
    go_wp2_with fail
    go_roundw
    case rel => obtain ⟨fuel', s6, h⟩ := HNX.out; exact ⟨_, _, fuel', _, _, _, s6, rfl, rfl, Lib.hid h⟩
    case measure => simp [intOf]; omega
end Go.Proofs.YtilhonppgedoiaaGreatDoor
namespace Go.Proofs.YtilhonppgedoiaaGreatDoor
open Go.RowKit Go.Sort Go.Maps
theorem RelP.put {s : Sts} {A : Mdl} (h : RelP s A) {e : Fed} (i : Int) (hk : e.kd = 1 ∨ e.kd = 2) (hf : e.fd ≠ ByteArray.empty) (hd : Hdr) : RelP { s with F := s.F.put e.fd.data.toList (hd, rowO s.F e.fd ++ [e.rl]), P := s.P.put e.rl.data.toList e.fd } (doM A i e) := by
  unfold doM
  rw [if_pos hk]
  refine ⟨h.left, h.part, fun g => ?_, fun x => ?_, h.org, h.spl, h.nm, h.spx, h.fw⟩
  · show rowO (s.F.put _ _) g = updR A.row e.fd (A.row e.fd ++ [e.rl]) g
    rw [rowO_put]
    unfold updR
    split
    · rw [h.row]
    · exact h.row g
  · show (s.P.put e.rl.data.toList e.fd).get x.data.toList = if updR A.pos e.rl e.fd x = ByteArray.empty then none else some (updR A.pos e.rl e.fd x)
    by_cases hx : x = e.rl
    · rw [hx, Sm.get_put_same, updR_at, if_neg hf]
    · rw [Sm.get_put_other (fun e1 => hx (ba_ext e1).symm), updR_ne _ _ hx]; exact h.pos x
theorem RelP.unload {s : Sts} {A : Mdl} (h : RelP s A) {e : Fed} (i : Int) (hk : e.kd = 3) (hnd : (A.row e.fd).Nodup) : RelP { s with P := delA s.P (A.row e.fd), F := s.F.del e.fd.data.toList } (doM A i e) := by
  unfold doM
  rw [if_neg (by omega), if_pos hk]
  refine ⟨h.left, h.part, fun g => ?_, fun x => ?_, h.org, h.spl, h.nm, h.spx, h.fw⟩
  · show rowO (s.F.del _) g = updR A.row e.fd [] g
    rw [rowO_del]
    unfold updR
    split
    · rfl
    · exact h.row g
  · exact posU_delA (l' := []) h.pos (by simp) hnd x
theorem RelP.count {s : Sts} {A : Mdl} (h : RelP s A) {e : Fed} (i : Int) (hk : e.kd = 5) : RelP { s with R := s.R.put e.rl.data.toList (((s.R.get e.rl.data.toList).getD TMr.z).1, ((s.R.get e.rl.data.toList).getD TMr.z).2.1, e.mn) } (doM A i e) := by
  unfold doM
  rw [if_neg (by omega), if_neg (by omega), if_neg (by omega)]
  refine ⟨?_, fun x => ?_, h.row, h.pos, h.org, h.spl, h.nm, h.spx, h.fw⟩
  · show lfO (s.R.put _ _) = _
    rw [lfO_put, h.left]
  · show ptO (s.R.put _ _) x = _
    rw [ptO_put, h.part]
theorem ba_eq_iff (a b : ByteArray) : a.toList = b.toList ↔ a = b := ⟨fun h => ba_ext (by rw [← ByteArray.toList_eq, ← ByteArray.toList_eq, h]), fun h => by rw [h]⟩
theorem refM_1 (A : Mdl) (a : Int) (fd rk : ByteArray) (mn : Int) (bd : ByteArray) : refM A (a, 1, fd, rk, mn, bd) = if A.row fd = [] ∧ A.pos rk = ByteArray.empty then 0 else 11 := by
  unfold refM; rw [if_pos (show (1 : Int) = 1 from rfl)]
theorem refM_2 (A : Mdl) (a : Int) (fd rk : ByteArray) (mn : Int) (bd : ByteArray) : refM A (a, 2, fd, rk, mn, bd) = if A.row fd = [] then 8 else if A.pos rk ≠ ByteArray.empty then 11 else if A.part rk ≠ A.part ((A.row fd).headD ByteArray.empty) then 10 else 0 := by
  unfold refM; rw [if_neg (show ¬ (2 : Int) = 1 by decide), if_pos (show (2 : Int) = 2 from rfl)]
theorem refM_3 (A : Mdl) (a : Int) (fd rk : ByteArray) (mn : Int) (bd : ByteArray) : refM A (a, 3, fd, rk, mn, bd) = if A.row fd = [] then 8 else 0 := by
  unfold refM; rw [if_neg (show ¬ (3 : Int) = 1 by decide), if_neg (show ¬ (3 : Int) = 2 by decide), if_pos (show (3 : Int) = 3 from rfl)]
theorem refM_5 (A : Mdl) (a : Int) (fd rk : ByteArray) (mn : Int) (bd : ByteArray) : refM A (a, 5, fd, rk, mn, bd) = 0 := by
  unfold refM; rw [if_neg (show ¬ (5 : Int) = 1 by decide), if_neg (show ¬ (5 : Int) = 2 by decide), if_neg (show ¬ (5 : Int) = 3 by decide), if_neg (show ¬ (5 : Int) = 4 by decide)]
set_option maxHeartbeats 16000000 in
set_option maxRecDepth 100000 in
theorem SDo_any (L : Loc) (s : Sts) (N n : Nat) (A : Mdl) (i : Int) (e : Fed) (w : World) (h : StM w L s N) (hN : N + 20000 ≤ 1000000000) (hR : RelP s A) (hI : InvM A n) (hn : n ≤ 900) (he : FedR e) (hlg : ∀ t ∈ A.log, t.1 < i) :
    Calls Tryz.prog 102 #[.pointer (some ⟨L.S, 0, none⟩), fedV e] w fun r w' => r = .returned (.int .i64 (refM A e)) ∧ ∃ s', StM w' L s' (N + 20000) ∧ RelP s' (stepM A i e) ∧ Kt L.B w w' := by
  have HE := Lib.hid he
  have HLG := Lib.hid hlg
  clear hlg
  obtain ⟨at', kd, fd, rk, mn, bd⟩ := e
  have hfd : fd.size ≤ maxLen := Nat.le_trans he.fd (by unfold maxLen; omega)
  have hrk : rk.size ≤ maxLen := Nat.le_trans he.rl (by unfold maxLen; omega)
  have hk : kd = 1 ∨ kd = 2 ∨ kd = 3 ∨ kd = 4 ∨ kd = 5 := by have h1 : 1 ≤ kd := he.k1; have h2 : kd ≤ 5 := he.k5; omega
  obtain ⟨w1, hw1⟩ : ∃ w1, w1 = w.alloc (.cells #[.int .i64 at', .int .i64 kd, .string fd, .string rk, .int .i64 mn, .string bd] 37) := ⟨_, rfl⟩
  have hb1 : Below w.heap.size w w1 := by rw [hw1]; exact Bl.alloc (Below.refl _ _) _
  have hx1 : w1.heap[w.heap.size]? = some (.cells #[.int .i64 at', .int .i64 kd, .string fd, .string rk, .int .i64 mn, .string bd] 37 (0, 0)) := by rw [hw1]; exact blk_new w _
  have h1 := h.low hb1
  obtain ⟨l, hl⟩ : ∃ l, l = A.row fd := ⟨_, rfl⟩
  obtain ⟨hd, hlkf, hO, -⟩ := h1.rowB fd hfd
  rw [hR.row, ← hl] at hO
  obtain ⟨ra, rc, hv, _, _⟩ := hO.form
  rw [hv] at hlkf hO
  have hlf : ∀ m, (Instr.lookup 180 (.map (some L.m2)) (.string fd) false).run Tryz.prog (w1.drewN m) = .ok (.slice ra l.length rc) (w1.drewN m) := fun m => hlkf _ (Bl.drewN (Below.refl _ _) m)
  obtain ⟨pv, lies, hlp, hpl⟩ : ∃ (pv : ByteArray) (lies : Bool), (∀ W, Below w1.heap.size w1 W → (Instr.lookup 179 (.map (some L.m1)) (.string rk) true).run Tryz.prog W = .ok (.tuple #[.string pv, .bool lies]) W) ∧ (lies = true ↔ A.pos rk ≠ ByteArray.empty) := by
    refine ⟨(s.P.get rk.data.toList).getD ByteArray.empty, s.P.has rk.data.toList, fun W hW => (h1.sb.mP.below hW).look_ok TMs.ok rk hrk, ?_⟩
    unfold Sm.has
    rw [hR.pos]
    by_cases h0 : A.pos rk = ByteArray.empty
    · rw [if_pos h0]; simp [h0]
    · rw [if_neg h0]; simp [h0]
  have hST : stepM A i (at', kd, fd, rk, mn, bd) = if refM A (at', kd, fd, rk, mn, bd) = 0 then doM A i (at', kd, fd, rk, mn, bd) else A := rfl
  have H1 := Lib.hid h1
  have HX1 := Lib.hid hx1
  have HB1 := Lib.hid hb1
  have HRR := Lib.hid hR
  have HII := Lib.hid hI
  have HST := Lib.hid hST
  have HL := Lib.hid hl
  have HN := Lib.hid hN
  have HFD := Lib.hid hfd
  have HRK := Lib.hid hrk
  have HNN := Lib.hid hn
  have HPL := Lib.hid hpl
  have HLP := Lib.hid hlp
  have HO := Lib.hid hO
  have c2 : w1.cell? ⟨L.S, 2, none⟩ = some (.map (some L.m2)) := h1.cells.2.2.1
  have x2 : w1.cell? ⟨w.heap.size, 2, none⟩ = some (.string fd) := blk_cell hx1 2
  have lS := h1.lt.1
  have lx := blk_lt hx1
  -- behind the two looks: a later world
  have HW : Hid (∀ W, Below w1.heap.size w1 W → W.cell? ⟨L.S, 0, none⟩ = some (.map (some L.m0)) ∧ W.cell? ⟨L.S, 1, none⟩ = some (.map (some L.m1)) ∧ W.cell? ⟨L.S, 2, none⟩ = some (.map (some L.m2)) ∧ W.cell? ⟨w.heap.size, 0, none⟩ = some (.int .i64 at') ∧ W.cell? ⟨w.heap.size, 1, none⟩ = some (.int .i64 kd) ∧ W.cell? ⟨w.heap.size, 2, none⟩ = some (.string fd) ∧ W.cell? ⟨w.heap.size, 3, none⟩ = some (.string rk) ∧ W.cell? ⟨w.heap.size, 4, none⟩ = some (.int .i64 mn) ∧ W.cell? ⟨w.heap.size, 5, none⟩ = some (.string bd) ∧ L.S < W.heap.size ∧ w.heap.size < W.heap.size) := Lib.hid fun W hW => by
    have h2 := h1.low hW
    have h3 := blk_below hx1 hW
    exact ⟨h2.cells.1, h2.cells.2.1, h2.cells.2.2.1, blk_cell h3 0, blk_cell h3 1, blk_cell h3 2, blk_cell h3 3, blk_cell h3 4, blk_cell h3 5, h2.lt.1, blk_lt h3⟩
  -- what is answered where nothing is done
  have HNO : Hid (∀ W R, Below w1.heap.size w1 W → refM A (at', kd, fd, rk, mn, bd) = R → R ≠ 0 → ∃ s', StM W L s' (N + 20000) ∧ RelP s' (stepM A i (at', kd, fd, rk, mn, bd)) ∧ Kt L.B w W) := Lib.hid fun W R hW e1 e2 => by
    refine ⟨s, (h1.low hW).mono (by omega) hN, ?_, (Kt.of_below hb1).trans (Kt.of_below hW)⟩
    rw [hST, e1, if_neg e2]
    exact hR
  change Calls _ _ #[_, .agg #[.int .i64 at', .int .i64 kd, .string fd, .string rk, .int .i64 mn, .string bd]] _ _
  clear h h1 hO hv hx1 hb1 hlkf hl hN hR hI he hfd hrk hn hST hpl hlp
  rcases hk with rfl | rfl | rfl | rfl | rfl
  all_goals (
    go_enter Tryz.func102, Tryz.ntmps102
    go_wp2_with fail
    rw [← hw1]
    clear hw1
    go_quiet (fail)
    clear c2 x2 lS lx hlf
    have HB2 : Hid (Below w1.heap.size w1 (w1.drewN nq)) := Lib.hid (Bl.drewN (Below.refl _ _) _)
    obtain ⟨c0, c1, c2, x0, x1, x2, x3, x4, x5, lS, lx⟩ := HW.out _ HB2.out
    generalize w1.drewN nq = w2 at *
    have hlp2 : ∀ m, (Instr.lookup 179 (.map (some L.m1)) (.string rk) true).run Tryz.prog (w2.drewN m) = .ok (.tuple #[.string pv, .bool lies]) (w2.drewN m) := fun m => HLP.out _ (Bl.trans HB2.out (Bl.drewN (Below.refl _ _) _))
    go_wp2_with fail
    go_quiet (fail)
    clear c0 c1 c2 x0 x1 x2 x3 x4 x5 lS lx hlp2
    have HB3 : Hid (Below w1.heap.size w1 (w2.drewN nq)) := Lib.hid (Bl.trans HB2.out (Bl.drewN (Below.refl _ _) _))
    obtain ⟨c0, c1, c2, x0, x1, x2, x3, x4, x5, lS, lx⟩ := HW.out _ HB3.out
    generalize w2.drewN nq = w3 at *
    clear HB2
    have HKT : Hid (∀ W, Kt L.B w3 W → Kt L.B w W) := Lib.hid fun W hW => (Kt.of_below HB1.out).trans ((Kt.of_below HB3.out).trans hW)
    have H3 := Lib.hid (H1.out.low HB3.out))
  · by_cases hl0 : l = []
    · cases lies
      · have hp0 : A.pos rk = ByteArray.empty := Classical.byContradiction fun h0 => by have := HPL.out.2 h0; cases this
        have HR0 : Hid (refM A (at', 1, fd, rk, mn, bd) = 0) := Lib.hid (by rw [refM_1, ← HL.out, if_pos ⟨hl0, hp0⟩])
        have HPU := Lib.hid (put_any L s N (at', 1, fd, rk, mn, bd) w3 H3.out (by have := HN.out; omega) HFD.out HRK.out (by rw [HRR.out.row]; have h1 := HII.out.ln fd; have h2 := HNN.out; show (A.row fd).length ≤ _; omega))
        clear hp0
        subst hl0
        go_wp2_with fail
        refine HPU.out.mono ?_
        rintro e w4 ⟨rfl, hd4, h4, hk4⟩
        have HF := Lib.hid (And.intro (h4.mono (show N + 2 ≤ N + 20000 by omega) HN.out) (HKT.out _ hk4))
        have HRP := Lib.hid (HRR.out.put (e := (at', 1, fd, rk, mn, bd)) i (.inl rfl) (HE.out.fnz (by show ¬ (1 : Int) = 5; omega)) hd4)
        clear h4 hk4 HPU
        go_wp2
        go_ret
        exact ⟨ret_int HR0.out.symm, _, HF.out.1, by rw [HST.out, if_pos HR0.out]; exact HRP.out, HF.out.2⟩
      · have HR0 : Hid (refM A (at', 1, fd, rk, mn, bd) = 11) := Lib.hid (by rw [refM_1, if_neg (fun h => HPL.out.1 rfl h.2)])
        subst hl0
        go_wp2
        go_ret
        exact ⟨ret_int HR0.out.symm, HNO.out _ _ HB3.out HR0.out (by decide)⟩
    · have HR0 : Hid (refM A (at', 1, fd, rk, mn, bd) = 11) := Lib.hid (by rw [refM_1, ← HL.out, if_neg (fun h => hl0 h.1)])
      have hp1 : (0 : Int) < (l.length : Int) := by have := List.length_pos_iff.2 hl0; omega
      have hp2 : 0 < l.length := by omega
      clear hl0
      go_wp2
      go_ret
      exact ⟨ret_int HR0.out.symm, HNO.out _ _ HB3.out HR0.out (by decide)⟩
  · by_cases hl0 : l = []
    · have HR0 : Hid (refM A (at', 2, fd, rk, mn, bd) = 8) := Lib.hid (by rw [refM_2, ← HL.out, if_pos hl0])
      subst hl0
      go_wp2
      go_ret
      exact ⟨ret_int HR0.out.symm, HNO.out _ _ HB3.out HR0.out (by decide)⟩
    have hp1 : (0 : Int) < (l.length : Int) := by have := List.length_pos_iff.2 hl0; omega
    have hp2 : 0 < l.length := by omega
    have hp3 : ((l.length : Int) == 0) = false := by simp; omega
    have hp4 : ¬ (l.length : Int) = 0 := by omega
    have hp5 : ¬ l.length = 0 := by omega
    have HL0 := Lib.hid hl0
    clear hl0
    cases lies
    case true =>
      have HR0 : Hid (refM A (at', 2, fd, rk, mn, bd) = 11) := Lib.hid (by rw [refM_2, ← HL.out, if_neg HL0.out, if_pos (HPL.out.1 rfl)])
      go_wp2
      go_ret
      exact ⟨ret_int HR0.out.symm, HNO.out _ _ HB3.out HR0.out (by decide)⟩
    have hp0 : A.pos rk = ByteArray.empty := Classical.byContradiction fun h0 => by have := HPL.out.2 h0; cases this
    obtain ⟨x, r, hxr⟩ : ∃ x r, l = x :: r := by
      cases l with
      | nil => exact absurd rfl HL0.out
      | cons x r => exact ⟨x, r, rfl⟩
    have hxs : x.size ≤ maxLen := Nat.le_trans (HII.out.sz fd x (by rw [← HL.out, hxr]; simp)) (by unfold maxLen; omega)
    have hO3 := HO.out.below HB3.out
    obtain ⟨g, o, cap, hva, d0⟩ := hO3.at (k := 0) (x := x) (by rw [hxr]; rfl)
    injection hva with e1 e2 e3
    subst e1 e3
    rw [Nat.add_zero] at d0
    have lg := World.block_lt_of_cell? _ _ d0
    simp only at lg
    obtain ⟨qk1, hq1⟩ := H3.out.reelB rk HRK.out
    obtain ⟨qk2, hq2⟩ := H3.out.reelB x hxs
    have hq1a := fun m => hq1 _ (Bl.drewN (Below.refl w3.heap.size w3) m)
    have hq2a := fun m => hq2 _ (Bl.drewN (Below.refl w3.heap.size w3) m)
    obtain ⟨p1, hp1e⟩ : ∃ p, p = ptO s.R rk := ⟨_, rfl⟩
    obtain ⟨p2, hp2e⟩ : ∃ p, p = ptO s.R x := ⟨_, rfl⟩
    obtain ⟨n1, hn1e⟩ : ∃ p, p = lfO s.R rk := ⟨_, rfl⟩
    obtain ⟨n2, hn2e⟩ : ∃ p, p = lfO s.R x := ⟨_, rfl⟩
    rw [← hp1e, ← hn1e] at hq1a
    rw [← hp2e, ← hn2e] at hq2a
    have HP12 : Hid (p1 = A.part rk ∧ p2 = A.part (l.headD ByteArray.empty)) := Lib.hid ⟨by rw [hp1e, HRR.out.part], by rw [hp2e, HRR.out.part, hxr]; rfl⟩
    have hfi : ∀ (a b : ByteArray) (m : Int) (W : World), (Instr.field 90 (.agg #[.string a, .string b, .int .i64 m]) 1).run Tryz.prog W = .ok (.string b) W := fun _ _ _ _ => rfl
    have HXR := Lib.hid hxr
    have HP0 := Lib.hid hp0
    clear hxs hO3 hq1 hq2 hp1e hp2e hn1e hn2e hxr e2 hp0
    by_cases hpp : p1 = p2
    · have hpb : (p1.toList == p2.toList) = true := by rw [hpp]; simp
      have hpe : p1.toList = p2.toList := by rw [hpp]
      have HR0 : Hid (refM A (at', 2, fd, rk, mn, bd) = 0) := Lib.hid (by rw [refM_2, ← HL.out, if_neg HL0.out, if_neg (fun h => h HP0.out), if_neg (fun h => h (by rw [← HP12.out.1, ← HP12.out.2, hpp]))])
      clear hpp
      go_wp2_with fail
      go_quiet (fail)
      clear c0 c1 c2 x0 x1 x2 x3 x4 x5 lS lx d0 lg hq1a hq2a hfi hpb hpe
      have HB4 : Hid (Below w3.heap.size w3 (w3.drewN nq)) := Lib.hid (Bl.drewN (Below.refl _ _) _)
      obtain ⟨c0, c1, c2, x0, x1, x2, x3, x4, x5, lS, lx⟩ := HW.out _ (Bl.trans HB3.out HB4.out)
      have HPU := Lib.hid (put_any L s N (at', 2, fd, rk, mn, bd) (w3.drewN nq) (H3.out.low HB4.out) (by have := HN.out; omega) HFD.out HRK.out (by rw [HRR.out.row]; have h1 := HII.out.ln fd; have h2 := HNN.out; show (A.row fd).length ≤ _; omega))
      generalize w3.drewN nq = w4 at *
      go_wp2_with fail
      refine HPU.out.mono ?_
      rintro e w5 ⟨rfl, hd4, h4, hk4⟩
      have HF := Lib.hid (And.intro (h4.mono (show N + 2 ≤ N + 20000 by omega) HN.out) (HKT.out _ ((Kt.of_below HB4.out).trans hk4)))
      have HRP := Lib.hid (HRR.out.put (e := (at', 2, fd, rk, mn, bd)) i (.inr rfl) (HE.out.fnz (by show ¬ (2 : Int) = 5; omega)) hd4)
      clear h4 hk4 HPU
      go_wp2
      go_ret
      exact ⟨ret_int HR0.out.symm, _, HF.out.1, by rw [HST.out, if_pos HR0.out]; exact HRP.out, HF.out.2⟩
    · have hpe : ¬ p1.toList = p2.toList := fun h => hpp ((ba_eq_iff _ _).1 h)
      have hpb : (p1.toList == p2.toList) = false := by simpa using hpe
      have HR0 : Hid (refM A (at', 2, fd, rk, mn, bd) = 10) := Lib.hid (by rw [refM_2, ← HL.out, if_neg HL0.out, if_neg (fun h => h HP0.out), if_pos (fun h => hpp (by rw [HP12.out.1, HP12.out.2, h]))])
      clear hpp
      go_wp2_with fail
      go_quiet (fail)
      have HB4 : Hid (Below w1.heap.size w1 (w3.drewN nq)) := Lib.hid (Bl.trans HB3.out (Bl.drewN (Below.refl _ _) _))
      go_wp2
      go_ret
      exact ⟨ret_int HR0.out.symm, HNO.out _ _ HB4.out HR0.out (by decide)⟩
  · by_cases hl0 : l = []
    · have HR0 : Hid (refM A (at', 3, fd, rk, mn, bd) = 8) := Lib.hid (by rw [refM_3, ← HL.out, if_pos hl0])
      subst hl0
      go_wp2
      go_ret
      exact ⟨ret_int HR0.out.symm, HNO.out _ _ HB3.out HR0.out (by decide)⟩
    have hp3 : ((l.length : Int) == 0) = false := by have := List.length_pos_iff.2 hl0; simp; omega
    have hp4 : ¬ (l.length : Int) = 0 := by simpa using hp3
    have hp5 : ¬ l.length = 0 := by omega
    have HR0 : Hid (refM A (at', 3, fd, rk, mn, bd) = 0) := Lib.hid (by rw [refM_3, ← HL.out, if_neg hl0])
    have hll : l.length ≤ 900 := by rw [HL.out]; exact Nat.le_trans (HII.out.ln fd) HNN.out
    have HUL : Hid (RelP { s with P := delA s.P l, F := s.F.del fd.data.toList } (doM A i (at', 3, fd, rk, mn, bd))) := Lib.hid (by
      have := HRR.out.unload (e := (at', 3, fd, rk, mn, bd)) i rfl (HII.out.nd fd)
      rw [HL.out]; exact this)
    have HNM : Hid (∀ x ∈ l, x.size ≤ maxLen) := Lib.hid fun x hx => Nat.le_trans (HII.out.sz fd x (by rw [← HL.out]; exact hx)) (by unfold maxLen; omega)
    clear hl0
    go_wp2_with fail
    clear hp3 hp4 hp5
    go_loopw [77] (fun v wr => ∃ k : Nat, k ≤ l.length ∧ v = .int .i64 k ∧ Hid (StM wr L { s with P := delA s.P (l.take k) } N ∧ Kt L.B w3 wr ∧ OwnO wr L.B (.slice ra l.length rc) l)) (fun v _ => l.length - (intOf v).toNat)
    case atStart => exact ⟨0, Nat.zero_le _, rfl, Lib.hid ⟨H3.out, Kt.refl _ _, HO.out.below HB3.out⟩⟩
    case round =>
      obtain ⟨k, hk, rfl, HI⟩ := hrel
      have hxr := (HI.out.2.1.fix (blk_below HX1.out HB3.out) (by decide))
      clear c0 c1 c2 x0 x1 x2 x3 x4 x5 lS lx
      have lS := HI.out.1.lt.1
      have lx := blk_lt hxr
      by_cases hlt : k < l.length
      · obtain ⟨x, hx⟩ : ∃ x, l[k]? = some x := ⟨_, List.getElem?_eq_getElem hlt⟩
        have HX := Lib.hid hx
        have c1 : wr.cell? ⟨L.S, 1, none⟩ = some (.map (some L.m1)) := HI.out.1.cells.2.1
        obtain ⟨g, o, cap, hva, d0⟩ := HI.out.2.2.at hx
        injection hva with e1 e2 e3
        subst e1 e3
        have lg := World.block_lt_of_cell? _ _ d0
        simp only at lg
        have hxs := HNM.out x (List.mem_of_getElem? hx)
        obtain ⟨w4, hr4, h4, hk4, hg4⟩ := HI.out.1.delP x hxs 0
        have HN4 : Hid (StM w4 L { s with P := delA s.P (l.take (k + 1)) } N ∧ Kt L.B w3 w4 ∧ OwnO w4 L.B (.slice (some ⟨g, o, none⟩) l.length rc) l) := Lib.hid ⟨by
          rw [List.take_add_one, HX.out, Option.toList_some, delA_app]; exact h4, HI.out.2.1.trans hk4, HI.out.2.2.keep fun b hb => by
          injection hb with hb
          subst hb
          obtain ⟨_, cur, hc⟩ := (ownO_k L.B).blk HI.out.2.2 rfl
          exact hg4.block g (blk_lt hc) fun e => by injection e with e; exact HI.out.1.sb.mP.noCells _ _ (e ▸ hc)⟩
        have hw1 : IntKind.i64.wrap ((k : Int) + 1) = ((k + 1 : Nat) : Int) := by rw [IntWalk.i64_in _ (by omega)]; omega
        clear hx h4 hk4 hg4 hxr e2 hxs
        go_wp2
        go_roundw
        case rel => exact ⟨k + 1, by omega, by go_num, HN4⟩
        case measure => simp [intOf]; omega
      · obtain rfl : k = l.length := by omega
        have hI := HI.out
        rw [List.take_length] at hI
        have c2 : wr.cell? ⟨L.S, 2, none⟩ = some (.map (some L.m2)) := hI.1.cells.2.2.1
        have x2 : wr.cell? ⟨w.heap.size, 2, none⟩ = some (.string fd) := blk_cell hxr 2
        have hdw : Below wr.heap.size wr wr.drew := Below.drew (Below.refl _ _)
        obtain ⟨w4, hr4, h4, hk4⟩ := (hI.1.low hdw).delF fd HFD.out 0
        have HF := Lib.hid (And.intro (h4.mono (show N ≤ N + 20000 by omega) HN.out) (HKT.out _ (hI.2.1.trans ((Kt.of_below hdw).trans hk4))))
        clear hI hdw h4 hk4 hxr
        go_wp2_with fail
        go_region
        go_wp2
        go_ret
        exact ⟨ret_int HR0.out.symm, _, HF.out.1, by rw [HST.out, if_pos HR0.out]; exact HUL.out, HF.out.2⟩
  · have HU := Lib.hid (use_any L s N n A i (at', 4, fd, rk, mn, bd) w3 H3.out HN.out HRR.out HII.out HNN.out HE.out rfl HLG.out)
    go_wp2_with fail
    refine HU.out.mono ?_
    rintro e w4 ⟨rfl, s4, h4, hr4, hk4⟩
    have HF := Lib.hid (And.intro h4 (And.intro hr4 (HKT.out _ hk4)))
    clear h4 hr4 hk4 HU
    go_wp2
    go_ret
    exact ⟨rfl, s4, HF.out.1, HF.out.2.1, HF.out.2.2⟩
  · have HR0 : Hid (refM A (at', 5, fd, rk, mn, bd) = 0) := Lib.hid (refM_5 ..)
    have HU := Lib.hid (set_any L s N rk mn w3 H3.out (by have := HN.out; omega) HRK.out)
    go_wp2_with fail
    refine HU.out.mono ?_
    rintro e w4 ⟨rfl, h4, hk4⟩
    have HF := Lib.hid (And.intro (h4.mono (show N + 1 ≤ N + 20000 by omega) HN.out) (HKT.out _ hk4))
    clear h4 hk4 HU
    go_wp2
    go_ret
    exact ⟨ret_int HR0.out.symm, _, HF.out.1, by rw [HST.out, if_pos HR0.out]; exact HRR.out.count (e := (at', 5, fd, rk, mn, bd)) i rfl, HF.out.2⟩
end Go.Proofs.YtilhonppgedoiaaGreatDoor
namespace Go.Proofs.YtilhonppgedoiaaGreatDoor
open Go.RowKit Go.Sort Go.Maps
theorem newM_snoc (rs : List Rel) (x : Rel) : newM (rs ++ [x]) = ⟨updL (newM rs).left x.1 x.2.2, updR (newM rs).part x.1 x.2.1, fun _ => [], fun _ => ByteArray.empty, []⟩ := by
  unfold newM
  congr 1
  · funext y
    unfold updL
    rw [List.reverse_append]
    show (((x :: rs.reverse).find? _).map _).getD 0 = _
    rw [List.find?_cons]
    by_cases h : y = x.1
    · rw [if_pos h, decide_eq_true h.symm]; rfl
    · rw [if_neg h, decide_eq_false (fun e => h e.symm)]
  · funext y
    unfold updR
    rw [List.reverse_append]
    show (((x :: rs.reverse).find? _).map _).getD ByteArray.empty = _
    rw [List.find?_cons]
    by_cases h : y = x.1
    · rw [if_pos h, decide_eq_true h.symm]; rfl
    · rw [if_neg h, decide_eq_false (fun e => h e.symm)]
/-- a store with reels alone. -/
def onlyR (R : Sm Rel) : Sts := ⟨R, [], [], [], []⟩
theorem relP_new : RelP (onlyR []) (newM []) := ⟨rfl, fun _ => rfl, fun _ => rfl, fun _ => rfl, fun _ => rfl, fun _ => ⟨Int.le_refl _, Int.le_refl _⟩, fun p hp => by simp [onlyR] at hp, fun _ => rfl, Nat.le_refl _⟩
theorem relP_add {R : Sm Rel} {rs : List Rel} (h : RelP (onlyR R) (newM rs)) (x : Rel) : RelP (onlyR (R.put x.1.data.toList x)) (newM (rs ++ [x])) := by
  obtain ⟨a, b, n⟩ := x
  rw [newM_snoc]
  refine ⟨?_, fun y => ?_, fun _ => rfl, fun _ => rfl, fun _ => rfl, fun _ => ⟨Int.le_refl _, Int.le_refl _⟩, fun p hp => by simp [onlyR] at hp, fun _ => rfl, Nat.le_refl _⟩
  · show lfO (R.put a.data.toList (a, b, n)) = updL (newM rs).left a n
    rw [lfO_put]
    have := h.left
    rw [show lfO R = (newM rs).left from this]
  · show ptO (R.put a.data.toList (a, b, n)) y = updR (newM rs).part a b y
    unfold updR ptO
    by_cases hy : y = a
    · subst hy; rw [Sm.get_put_same, if_pos rfl]; rfl
    · rw [Sm.get_put_other (fun e => hy (ba_ext e).symm), if_neg hy]; exact h.part y
set_option maxHeartbeats 4000000 in
set_option maxRecDepth 100000 in
theorem NewStore_any (B : Nat) (w : World) (hB : B ≤ w.heap.size) : Calls Tryz.prog 100 #[] w fun e w' => ∃ L : Loc, L.B = B ∧ e = .returned (.pointer (some ⟨L.S, 0, none⟩)) ∧ StM w' L (onlyR []) 0 ∧ Below w.heap.size w w' := by
  have hmm := @run_makeMap Tryz.prog
  obtain ⟨w5, hw5⟩ : ∃ w5, w5 = (((((w.alloc (.map #[] 0)).alloc (.map #[] 0)).alloc (.map #[] 0)).alloc (.map #[] 0)).alloc (.map #[] 0)).alloc (.cells #[.map (some w.heap.size), .map (some (w.heap.size + 1)), .map (some (w.heap.size + 1 + 1)), .map (some (w.heap.size + 1 + 1 + 1)), .map (some (w.heap.size + 1 + 1 + 1 + 1))] 183) := ⟨_, rfl⟩
  have hb : Below w.heap.size w w5 := by rw [hw5]; exact Bl.alloc (Bl.alloc (Bl.alloc (Bl.alloc (Bl.alloc (Bl.alloc (Below.refl _ _) _) _) _) _) _) _
  have h0 : w5.heap[w.heap.size]? = some (.map #[] 0) := by rw [hw5]; exact blk_old (blk_old (blk_old (blk_old (blk_old (blk_new w _) _) _) _) _) _
  have h1 : w5.heap[w.heap.size + 1]? = some (.map #[] 0) := by rw [hw5]; exact blk_old (blk_old (blk_old (blk_old (blk_new' _ _ (by simp)) _) _) _) _
  have h2 : w5.heap[w.heap.size + 1 + 1]? = some (.map #[] 0) := by rw [hw5]; exact blk_old (blk_old (blk_old (blk_new' _ _ (by simp)) _) _) _
  have h3 : w5.heap[w.heap.size + 1 + 1 + 1]? = some (.map #[] 0) := by rw [hw5]; exact blk_old (blk_old (blk_new' _ _ (by simp)) _) _
  have h4 : w5.heap[w.heap.size + 1 + 1 + 1 + 1]? = some (.map #[] 0) := by rw [hw5]; exact blk_old (blk_new' _ _ (by simp)) _
  have hS : w5.heap[w.heap.size + 1 + 1 + 1 + 1 + 1]? = some (.cells #[.map (some w.heap.size), .map (some (w.heap.size + 1)), .map (some (w.heap.size + 1 + 1)), .map (some (w.heap.size + 1 + 1 + 1)), .map (some (w.heap.size + 1 + 1 + 1 + 1))] 183 (0, 0)) := by rw [hw5]; exact blk_new' _ _ (by simp)
  have HF : Hid (StM w5 ⟨w.heap.size + 1 + 1 + 1 + 1 + 1, w.heap.size, w.heap.size + 1, w.heap.size + 1 + 1, w.heap.size + 1 + 1 + 1, w.heap.size + 1 + 1 + 1 + 1, B⟩ (onlyR []) 0 ∧ Below w.heap.size w w5) := Lib.hid ⟨⟨by omega, ⟨Nat.le_refl _, Nat.le_refl _, Nat.le_refl _, Nat.le_refl _, Nat.le_refl _⟩, ⟨⟨by simp only; omega, by simp only; omega, by simp only; omega, by simp only; omega, by simp only; omega, by simp only; omega⟩, ⟨by simp only; omega, by simp only; omega, by simp only; omega, by simp only; omega, by simp only; omega, by simp only; omega, by simp only; omega, by simp only; omega, by simp only; omega, by simp only; omega⟩, hS, MapS.of_blk h0, MapS.of_blk h1, MapS.of_blk h2, MapS.of_blk h3, MapS.of_blk h4⟩, ⟨fun p hp => by simp [onlyR] at hp, fun p hp => by simp [onlyR] at hp⟩, ⟨fun p hp => by simp [onlyR] at hp, fun p hp => by simp [onlyR] at hp⟩⟩, hb⟩
  clear hb h0 h1 h2 h3 h4 hS hB
  go_enter Tryz.func100, Tryz.ntmps100
  go_wp2_with fail
  rw [← hw5]
  clear hw5 hmm
  go_ret
  exact ⟨_, rfl, rfl, HF.out⟩
set_option maxHeartbeats 4000000 in
set_option maxRecDepth 100000 in
theorem Add_any (L : Loc) (s : Sts) (N : Nat) (x : Rel) (w : World) (h : StM w L s N) (hN : N + 1 ≤ 1000000000) (hx : x.1.size ≤ maxLen) :
    Calls Tryz.prog 101 #[.pointer (some ⟨L.S, 0, none⟩), .agg #[.string x.1, .string x.2.1, .int .i64 x.2.2]] w fun e w' => e = .returned (.tuple #[]) ∧ StM w' L { s with R := s.R.put x.1.data.toList x } (N + 1) ∧ Kt L.B w w' := by
  obtain ⟨a, b, n⟩ := x
  obtain ⟨w1, hw1⟩ : ∃ w1, w1 = w.alloc (.cells #[.string a, .string b, .int .i64 n] 90) := ⟨_, rfl⟩
  have hb1 : Below w.heap.size w w1 := by rw [hw1]; exact Bl.alloc (Below.refl _ _) _
  have hx1 : w1.heap[w.heap.size]? = some (.cells #[.string a, .string b, .int .i64 n] 90 (0, 0)) := by rw [hw1]; exact blk_new w _
  have hd : Below w1.heap.size w1 w1.drew := Below.drew (Below.refl _ _)
  obtain ⟨w3, hr3, h3, hk3⟩ := ((h.low hb1).low hd).putR hN a hx (a, b, n)
  have e0 : w1.cell? ⟨L.S, 0, none⟩ = some (.map (some L.m0)) := (h.low hb1).cells.1
  have d0 : w1.cell? ⟨w.heap.size, 0, none⟩ = some (.string a) := blk_cell hx1 0
  have d1 : w1.cell? ⟨w.heap.size, 1, none⟩ = some (.string b) := blk_cell hx1 1
  have d2 : w1.cell? ⟨w.heap.size, 2, none⟩ = some (.int .i64 n) := blk_cell hx1 2
  have HF := Lib.hid (And.intro h3 (Kt.trans (Kt.of_below hb1) (Kt.trans (Kt.of_below hd) hk3)))
  have lx := blk_lt hx1
  have lS2 : L.S < w1.heap.size := (h.low hb1).lt.1
  clear h h3 hk3 hb1 hd hx1 hx
  go_enter Tryz.func101, Tryz.ntmps101
  go_wp2_with fail
  rw [← hw1]
  clear hw1
  go_region
  go_wp2
  go_end0
  exact ⟨rfl, HF.out⟩
end Go.Proofs.YtilhonppgedoiaaGreatDoor
namespace Go.Proofs.YtilhonppgedoiaaGreatDoor
open Go.RowKit Go.Sort Go.Maps
/-- a world in which, from B on, only blocks of types that no store has have turned; nothing below B0. -/
structure Kf (B0 B : Nat) (w w' : World) : Prop where
  os : w'.os = w.os
  tape : w'.tape = w.tape
  output : w'.output = w.output
  size : w.heap.size ≤ w'.heap.size
  block : ∀ i, i < w.heap.size → (i < B0 ∨ (B ≤ i ∧ ¬ Fix w i)) → w'.heap[i]? = w.heap[i]?
theorem Kf.of_below {B0 B : Nat} {w w' : World} (h : Below w.heap.size w w') : Kf B0 B w w' := ⟨h.os, h.tape, h.output, h.size, fun i hi _ => h.block i hi⟩
theorem Kf.below {B0 B : Nat} {a b : World} (h : Kf B0 B a b) (hB : B0 ≤ a.heap.size) : Below B0 a b := ⟨h.os, h.tape, h.output, h.size, fun i hi => h.block i (Nat.lt_of_lt_of_le hi hB) (.inl hi)⟩
theorem noFix_str {w : World} {i : Nat} {cur : Array Value} {t : TypeId} (h : w.heap[i]? = some (.cells cur t (0, 0))) (ht : t = 9 ∨ t = 219 ∨ t = 183) : ¬ Fix w i := by
  rintro ⟨c', t', e, h1, h2, h3, h4, h5⟩
  rw [h] at e
  injection e with e
  injection e with _ e _
  rcases ht with rfl | rfl | rfl
  · exact h1 e.symm
  · exact h2 e.symm
  · exact h5 e.symm
theorem StM.other {w w' : World} {L : Loc} {s : Sts} {N B0 B : Nat} (h : StM w L s N) (hk : Kf B0 B w w') (hB : B ≤ L.B) : StM w' L s N := by
  obtain ⟨b1, b2, b3, b4, b5, b6⟩ := h.sb.b
  have hm : ∀ {α : Type} {T : Mty α} {b : Nat} {l : Sm α}, MapS T w b l → B ≤ b → MapS T w' b l := fun {α T b l} hM hb => hM.keep (hk.block b hM.lt (.inr ⟨hb, hM.noFix⟩))
  refine ⟨h.big, h.ln, ⟨h.sb.b, h.sb.ne, (hk.block _ (blk_lt h.sb.blk) (.inr ⟨by omega, noFix_str h.sb.blk (.inr (.inr rfl))⟩)).trans h.sb.blk, hm h.sb.mR (by omega), hm h.sb.mP (by omega), hm h.sb.mF (by omega), hm h.sb.mO (by omega), hm h.sb.mX (by omega)⟩,
    ⟨fun p hp => (h.rf.own p hp).keep fun k e => ?_, h.rf.sep⟩, ⟨fun p hp => (ownR_k TOr L.B).keep (h.ro.own p hp) fun k e => ?_, h.ro.sep⟩⟩
  · obtain ⟨h1, cur, hc⟩ := (ownO_k L.B).blk (h.rf.own p hp) e
    exact hk.block k (blk_lt hc) (.inr ⟨by omega, noFix_str hc (.inl rfl)⟩)
  · obtain ⟨h1, cur, hc⟩ := (ownR_k TOr L.B).blk (h.ro.own p hp) e
    exact hk.block k (blk_lt hc) (.inr ⟨by omega, noFix_str hc (.inr (.inl rfl))⟩)
/-- what a closure that follow tells of each event must keep and do. -/
structure ClD (fid : Nat) (cargs : Value → Value → Array Value) (l : List Fed) (B0 : Nat) (w0 : World) (J : Nat → Mdl → World → Prop) : Prop where
  st : ∀ k A W W', w0.heap.size ≤ W.heap.size → J k A W → Kt w0.heap.size W W' → J k A W'
  call : ∀ (k : Nat) (A : Mdl) (e : Fed) (W : World), l[k]? = some e → w0.heap.size ≤ W.heap.size → J k A W →
    Calls Tryz.prog fid (cargs (.int .i64 k) (.int .i64 (refM A e))) W fun r W' => r = .returned (.tuple #[]) ∧ J (k + 1) (stepM A k e) W' ∧ Kf B0 w0.heap.size W W'
/-- where follow stands among the events. -/
structure FlI (rs : List Rel) (l : List Fed) (at' : Int) (B0 : Nat) (w0 : World) (J : Nat → Mdl → World → Prop) (L : Loc) (k : Nat) (A : Mdl) (s : Sts) (wr : World) : Prop where
  rest : runM at' (newM rs) 0 l = runM at' A k (l.drop k)
  inv : InvM A k
  st : StM wr L s (rs.length + 20000 * k)
  rel : RelP s A
  bel : Below B0 w0 wr
  LB : L.B = w0.heap.size
  j : J k A wr
  lg : LogB A k
structure FlH (rs : List Rel) (l : List Fed) (at' : Int) (B0 : Nat) (w0 : World) (J : Nat → Mdl → World → Prop) (L : Loc) (k : Nat) (A : Mdl) (e : Fed) (s : Sts) (wr : World) : Prop where
  rest : runM at' (newM rs) 0 l = runM at' (stepM A k e) (k + 1) (l.drop (k + 1))
  inv : InvM (stepM A k e) (k + 1)
  st : StM wr L s (rs.length + 20000 * (k + 1))
  rel : RelP s (stepM A k e)
  bel : Below B0 w0 wr
  LB : L.B = w0.heap.size
  j : J k A wr
  lg : LogB (stepM A k e) (k + 1)
section
variable {fid : Nat} {cargs : Value → Value → Array Value} {rs : List Rel} {l : List Fed} {at' : Int} {B0 : Nat} {w0 : World} {J : Nat → Mdl → World → Prop} {L : Loc} {k : Nat} {A : Mdl} {e : Fed} {s : Sts} {wr : World}
theorem FlI.alloc (C : ClD fid cargs l B0 w0 J) (hB : B0 ≤ w0.heap.size) (h : FlI rs l at' B0 w0 J L k A s wr) (o : Obj) : FlI rs l at' B0 w0 J L k A s (wr.alloc o) := by
  have hb : Below wr.heap.size wr (wr.alloc o) := Bl.alloc (Below.refl _ _) o
  have hz := h.bel.size
  exact ⟨h.rest, h.inv, h.st.low hb, h.rel, h.bel.trans (hb.mono (by omega)), h.LB, C.st _ _ _ _ hz h.j (Kt.of_below hb), h.lg⟩
theorem FlI.call (C : ClD fid cargs l B0 w0 J) (hB : B0 ≤ w0.heap.size) (h : FlI rs l at' B0 w0 J L k A s wr) (hs : l[k]? = some e) (h1 : ¬ at' < e.at) (he : FedR e) (hk : k ≤ 900) (hrs : rs.length ≤ 1000) :
    Calls Tryz.prog 102 #[.pointer (some ⟨L.S, 0, none⟩), fedV e] wr fun r w' => r = .returned (.int .i64 (refM A e)) ∧ ∃ s', FlH rs l at' B0 w0 J L k A e s' w' := by
  refine (SDo_any L s _ k A k e wr h.st (by omega) h.rel h.inv hk he h.lg).mono ?_
  rintro r w' ⟨rfl, s', h2, h3, h4⟩
  have hz := h.bel.size
  have hlt := h.st.lt.2
  exact ⟨rfl, s', h.rest.trans (runM_go hs h1), h.inv.step he _, by rw [show rs.length + 20000 * (k + 1) = rs.length + 20000 * k + 20000 by omega]; exact h2, h3, h.bel.trans ((h4.below hlt).mono (by rw [h.LB]; exact hB)), h.LB, C.st _ _ _ _ hz h.j (by rw [← h.LB]; exact h4), h.lg.step e⟩
theorem FlH.call (C : ClD fid cargs l B0 w0 J) (hB : B0 ≤ w0.heap.size) (h : FlH rs l at' B0 w0 J L k A e s wr) (hs : l[k]? = some e) :
    Calls Tryz.prog fid (cargs (.int .i64 k) (.int .i64 (refM A e))) wr fun r w' => r = .returned (.tuple #[]) ∧ FlI rs l at' B0 w0 J L (k + 1) (stepM A k e) s w' := by
  have hz := h.bel.size
  refine (C.call k A e wr hs hz h.j).mono ?_
  rintro r w' ⟨rfl, h1, h2⟩
  exact ⟨rfl, h.rest, h.inv, h.st.other h2 (by rw [h.LB]; exact Nat.le_refl _), h.rel, h.bel.trans (h2.below (by omega)), h.LB, h1, h.lg⟩
end
/-- what follow leaves. -/
structure FlE (rs : List Rel) (l : List Fed) (at' : Int) (B0 : Nat) (w0 : World) (J : Nat → Mdl → World → Prop) (L : Loc) (w' : World) : Prop where
  st : ∃ s N, StM w' L s N ∧ RelP s (runM at' (newM rs) 0 l)
  inv : InvM (runM at' (newM rs) 0 l) l.length
  LB : L.B = w0.heap.size
  bel : Below B0 w0 w'
  j : ∃ k, k ≤ l.length ∧ (∀ e ∈ l.drop k, at' < e.at) ∧ J k (runM at' (newM rs) 0 l) w'
set_option maxHeartbeats 8000000 in
set_option maxRecDepth 100000 in
theorem followR_any (fid : Nat) (caps : Array Value) (cargs : Value → Value → Array Value) (x y : Value)
    (hcl : (fid = 57 ∧ caps = #[x, y] ∧ cargs = fun a b => #[a, b, x, y]) ∨ (fid = 151 ∧ caps = #[] ∧ cargs = fun a b => #[a, b]) ∨ False)
    (rs : List Rel) (l : List Fed) (at' : Int) (vr vl : Value) (w : World) (B0 : Nat) (J : Nat → Mdl → World → Prop) (hB0 : B0 ≤ w.heap.size) (C : ClD fid cargs l B0 w J) (rr : ∀ W, Below B0 w W → RecR TRe W 0 vr rs) (rl : ∀ W, Below B0 w W → RecR TFe W 0 vl l)
    (hrn : rs.length ≤ 1000) (hrs : ∀ x ∈ rs, x.1.size ≤ 1000 ∧ 0 ≤ x.2.2 ∧ x.2.2 ≤ 100000) (hln : l.length ≤ 900) (hl : ∀ e ∈ l, FedR e) (hS : FedS l) (hJ : ∀ W, Below w.heap.size w W → J 0 (newM rs) W) :
    Calls Tryz.prog 56 #[vr, vl, .int .i64 at', .func (.func fid) #[] caps] w fun e w' => ∃ L : Loc, e = .returned (.pointer (some ⟨L.S, 0, none⟩)) ∧ FlE rs l at' B0 w J L w' := by
  obtain ⟨ra, rc, rfl, _, _⟩ := (rr w (Below.refl _ _)).form
  obtain ⟨la, lc, rfl, _, _⟩ := (rl w (Below.refl _ _)).form
  have RR := Lib.hid rr
  have RL := Lib.hid rl
  have HRS := Lib.hid hrs
  have HL := Lib.hid hl
  have HSS := Lib.hid hS
  have HJ := Lib.hid hJ
  have HC := Lib.hid C
  have HB0 := Lib.hid hB0
  have HRN := Lib.hid hrn
  have HLN := Lib.hid hln
  have HIN := Lib.hid (newM_inv (rs := rs) fun x hx => (hrs x hx).2)
  clear rr rl hrs hl hS hJ C hB0 hrn hln
  rcases hcl with ⟨rfl, rfl, rfl⟩ | ⟨rfl, rfl, rfl⟩ | hF
  all_goals first | exact False.elim (by assumption) | skip
  all_goals (
    go_enter Tryz.func56, Tryz.ntmps56
    go_wp2_with fail
    refine (NewStore_any w.heap.size w (Nat.le_refl _)).mono ?_
    rintro e w2 ⟨L, hLB, rfl, h2, hb2⟩
    have HI0 : Hid (∃ R, StM w2 L (onlyR R) 0 ∧ RelP (onlyR R) (newM (rs.take 0)) ∧ Below w.heap.size w w2) := Lib.hid ⟨[], h2, relP_new, hb2⟩
    have HLB := Lib.hid hLB
    clear h2 hb2 hLB
    go_wp2_with fail
    go_loopw [17] (fun v wr => ∃ k : Nat, k ≤ rs.length ∧ v = .int .i64 k ∧ Hid (∃ R, StM wr L (onlyR R) k ∧ RelP (onlyR R) (newM (rs.take k)) ∧ Below w.heap.size w wr)) (fun v _ => rs.length - (intOf v).toNat)
    case atStart => exact ⟨0, Nat.zero_le _, rfl, HI0⟩
    case round =>
      obtain ⟨k, hk, rfl, HI⟩ := hrel
      by_cases hlt : k < rs.length
      case pos =>
        obtain ⟨R, h3, h4, h5⟩ := HI.out
        obtain ⟨z, hz⟩ : ∃ z, rs[k]? = some z := ⟨_, List.getElem?_eq_getElem hlt⟩
        obtain ⟨b1, o1, hae, _, hb1, hc1⟩ := (RR.out wr (h5.mono HB0.out)).at TRe.ok.len hz TRe.ok.pos
        subst hae
        have hzz := HRS.out z (List.mem_of_getElem? hz)
        have HZ := Lib.hid hz
        obtain ⟨a, b, n⟩ := z
        have c0 : wr.cell? ⟨b1, o1 + k * 3, none⟩ = some (.string a) := hc1 0 _ rfl
        have c1 : wr.cell? ⟨b1, o1 + k * 3 + 1, none⟩ = some (.string b) := hc1 1 _ rfl
        have c2 : wr.cell? ⟨b1, o1 + k * 3 + 2, none⟩ = some (.int .i64 n) := hc1 2 _ rfl
        have hw1 : IntKind.i64.wrap ((k : Int) + 1) = ((k + 1 : Nat) : Int) := by have := HRN.out; rw [IntWalk.i64_in _ (by omega)]; omega
        have hbA : Below wr.heap.size wr (wr.alloc (.cells #[.string a, .string b, .int .i64 n] 90)) := Bl.alloc (Below.refl _ _) _
        have HA := Lib.hid (Add_any L (onlyR R) k (a, b, n) _ (h3.low hbA) (by have := HRN.out; omega) (Nat.le_trans hzz.1 (by unfold maxLen; omega)))
        have H4 := Lib.hid (And.intro h4 (And.intro h5 (And.intro hbA (h3.low hbA).lt.2)))
        clear hz hc1 h3 h4 h5 hzz hbA
        go_wp2_with fail
        refine HA.out.mono ?_
        rintro e w4 ⟨rfl, h6, hk6⟩
        have HN : Hid (∃ R, StM w4 L (onlyR R) (k + 1) ∧ RelP (onlyR R) (newM (rs.take (k + 1))) ∧ Below w.heap.size w w4) := Lib.hid ⟨_, h6, by
          rw [List.take_add_one, HZ.out, Option.toList_some]
          exact relP_add H4.out.1 (a, b, n), (H4.out.2.1.trans (H4.out.2.2.1.mono H4.out.2.1.size)).trans ((hk6.below H4.out.2.2.2).mono (by rw [HLB.out]; exact Nat.le_refl _))⟩
        clear h6 hk6 HA H4
        go_wp2
        go_roundw
        case rel => exact ⟨k + 1, by omega, by go_num, HN⟩
        case measure => simp [intOf]; omega
      case neg =>
        obtain rfl : k = rs.length := by omega
        have HF0 : Hid (∃ s, FlI rs l at' B0 w J L 0 (newM rs) s wr) := Lib.hid (by
          obtain ⟨R, h3, h4, h5⟩ := HI.out
          rw [List.take_length] at h4
          exact ⟨onlyR R, rfl, HIN.out, by rw [Nat.mul_zero, Nat.add_zero]; exact h3, h4, h5.mono HB0.out, HLB.out, HJ.out _ h5, fun t ht => by simp [newM] at ht⟩)
        clear HI HI0
        go_wp2_with fail
        go_loopw [27] (fun v wr => ∃ (k : Nat) (A : Mdl), k ≤ l.length ∧ v = .int .i64 k ∧ Hid (∃ s, FlI rs l at' B0 w J L k A s wr)) (fun v _ => l.length - (intOf v).toNat)
        case atStart => exact ⟨0, newM rs, Nat.zero_le _, rfl, HF0⟩
        case round =>
          obtain ⟨k, A, hk, rfl, HI⟩ := hrel
          by_cases hlt : k < l.length
          case pos =>
            obtain ⟨e, he⟩ : ∃ z, l[k]? = some z := ⟨_, List.getElem?_eq_getElem hlt⟩
            obtain ⟨s, hI⟩ := HI.out
            obtain ⟨b1, o1, hae, _, hb1, hc1⟩ := (RL.out wr hI.bel).at TFe.ok.len he TFe.ok.pos
            subst hae
            have HER := Lib.hid (HL.out e (List.mem_of_getElem? he))
            have HE := Lib.hid he
            obtain ⟨t, kd, fd, rk, mn, bd⟩ := e
            have c0 : wr.cell? ⟨b1, o1 + k * 6, none⟩ = some (.int .i64 t) := hc1 0 _ rfl
            have c1 : wr.cell? ⟨b1, o1 + k * 6 + 1, none⟩ = some (.int .i64 kd) := hc1 1 _ rfl
            have c2 : wr.cell? ⟨b1, o1 + k * 6 + 2, none⟩ = some (.string fd) := hc1 2 _ rfl
            have c3 : wr.cell? ⟨b1, o1 + k * 6 + 3, none⟩ = some (.string rk) := hc1 3 _ rfl
            have c4 : wr.cell? ⟨b1, o1 + k * 6 + 4, none⟩ = some (.int .i64 mn) := hc1 4 _ rfl
            have c5 : wr.cell? ⟨b1, o1 + k * 6 + 5, none⟩ = some (.string bd) := hc1 5 _ rfl
            have hw1 : IntKind.i64.wrap ((k : Int) + 1) = ((k + 1 : Nat) : Int) := by have := HLN.out; rw [IntWalk.i64_in _ (by omega)]; omega
            have HIA := Lib.hid (hI.alloc HC.out HB0.out (.cells #[.int .i64 t, .int .i64 kd, .string fd, .string rk, .int .i64 mn, .string bd] 37))
            clear he hc1 hI
            by_cases hat : at' < t
            case pos =>
              have HEND : Hid (FlE rs l at' B0 w J L (wr.alloc (.cells #[.int .i64 t, .int .i64 kd, .string fd, .string rk, .int .i64 mn, .string bd] 37))) := Lib.hid (by
                have hI := HIA.out
                have hst : runM at' (newM rs) 0 l = A := hI.rest.trans (runM_stop HSS.out HE.out hat)
                have hinv := hI.inv.mono (Nat.le_of_lt hlt)
                refine ⟨⟨s, _, hI.st, by rw [hst]; exact hI.rel⟩, by rw [hst]; exact hinv, hI.LB, hI.bel, k, hk, fun q hq => ?_, by rw [hst]; exact hI.j⟩
                obtain ⟨j, hj⟩ := List.getElem?_of_mem hq
                rw [List.getElem?_drop] at hj
                by_cases h0 : j = 0
                · subst h0
                  rw [Nat.add_zero, HE.out] at hj
                  injection hj with hj
                  rw [← hj]; exact hat
                · obtain ⟨h1, e1⟩ := List.getElem?_eq_some_iff.1 HE.out
                  obtain ⟨h2, e2⟩ := List.getElem?_eq_some_iff.1 hj
                  have := List.pairwise_iff_getElem.1 HSS.out k (k + j) h1 h2 (by omega)
                  rw [e1, e2] at this
                  have h3 : t ≤ q.at := this
                  omega)
              have hgt : (t > at') := hat
              go_wp2
              go_ret
              exact ⟨L, rfl, HEND.out⟩
            case neg =>
              have HD := Lib.hid (HIA.out.call HC.out HB0.out HE.out hat HER.out (by have := HLN.out; omega) HRN.out)
              go_wp2_with fail
              refine HD.out.mono ?_
              rintro r w5 ⟨rfl, s', hF⟩
              have HF := Lib.hid (hF.call HC.out HB0.out HE.out)
              clear hF HD HIA
              generalize refM A (t, kd, fd, rk, mn, bd) = RR1 at HF ⊢
              generalize stepM A k (t, kd, fd, rk, mn, bd) = A1 at HF
              go_wp2_with fail
              refine HF.out.mono ?_
              rintro r w6 ⟨rfl, hI⟩
              have HI2 : Hid (∃ s, FlI rs l at' B0 w J L (k + 1) A1 s w6) := Lib.hid ⟨s', hI⟩
              clear hI HF
              go_wp2
              go_roundw
              case rel => exact ⟨k + 1, A1, by omega, by go_num, HI2⟩
              case measure => simp [intOf]; omega
          case neg =>
            obtain rfl : k = l.length := by omega
            have HEND : Hid (FlE rs l at' B0 w J L wr) := Lib.hid (by
              obtain ⟨s, hI⟩ := HI.out
              have hst : runM at' (newM rs) 0 l = A := by rw [hI.rest, List.drop_length]; rfl
              exact ⟨⟨s, _, hI.st, by rw [hst]; exact hI.rel⟩, by rw [hst]; exact hI.inv, hI.LB, hI.bel, l.length, Nat.le_refl _, fun q hq => by rw [List.drop_length] at hq; simp at hq, by rw [hst]; exact hI.j⟩)
            go_wp2
            go_ret
            exact ⟨L, rfl, HEND.out⟩)
end Go.Proofs.YtilhonppgedoiaaGreatDoor
