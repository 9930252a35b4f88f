/- Steps of the program's store: set, put, clear. Conditions: names of at most 2^47 bytes, fewer than 10^9 entries a map. · The program's store: clear, which takes empty first reels out of a feeder. Conditions: a feeder that has a reel, names of at most 2^47 bytes. -/
import Derived.Test.YtfhfncnnendnfaaGreatDoorReK
import Derived.Test.YtfhfncnnendnfaaGreatDoorRe3
import Derived.BigQuiet
import Derived.Deep.RegionLaw
import Derived.Test.YtfhfncnnendnfaaGreatDoorRgn
namespace Go.Proofs.YtfhfncnnendnfaaGreatDoor
open Go.RowKit Go.Sort Go.Maps

set_option maxHeartbeats 4000000 in
set_option maxRecDepth 100000 in
theorem set_any (L : Loc) (s : Sts) (N : Nat) (k : ByteArray) (n : Int) (w : World) (h : StM w L s N) (hN : N + 1 ≤ 1000000000) (hk : k.size ≤ maxLen) :
    Calls Tryz.prog 58 #[.pointer (some ⟨L.S, 0, none⟩), .string k, .int .i64 n] w fun e w' => e = .returned (.tuple #[]) ∧ StM w' L { s with R := s.R.put k.data.toList (((s.R.get k.data.toList).getD TMr.z).1, ((s.R.get k.data.toList).getD TMr.z).2.1, n) } (N + 1) ∧ Kt L.B w w' := by
  obtain ⟨c0, -, -, -, -⟩ := h.cells
  have hlr := h.sb.mR.look TMr.ok k hk
  obtain ⟨q, hq⟩ : ∃ q, q = (s.R.get k.data.toList).getD TMr.z := ⟨_, rfl⟩
  rw [← hq] at hlr ⊢
  obtain ⟨qk, qp, qn⟩ := q
  have hlr2 : (Instr.lookup 56 (.map (some L.m0)) (.string k) false).run Tryz.prog w = .ok (.agg #[.string qk, .string qp, .int .i64 qn]) w := hlr
  obtain ⟨lS, -⟩ := h.lt
  obtain ⟨w2, hw2⟩ : ∃ w2, w2 = w.alloc (.cells #[.string qk, .string qp, .int .i64 n] 35) := ⟨_, rfl⟩
  have hb2 : Below w.heap.size w w2 := by rw [hw2]; exact Bl.alloc (Below.refl _ _) _
  have hx2 : w2.heap[w.heap.size]? = some (.cells #[.string qk, .string qp, .int .i64 n] 35 (0, 0)) := by rw [hw2]; exact blk_new w _
  have h2 := h.low hb2
  have hd : Below w2.heap.size w2 w2.drew := Below.drew (Below.refl _ _)
  obtain ⟨w3, hr3, h3, hk3⟩ := (h2.low hd).putR hN k hk (qk, qp, n)
  have e0 : w2.cell? ⟨L.S, 0, none⟩ = some (.map (some L.m0)) := h2.cells.1
  have d0 : w2.cell? ⟨w.heap.size, 0, none⟩ = some (.string qk) := blk_cell hx2 0
  have d1 : w2.cell? ⟨w.heap.size, 1, none⟩ = some (.string qp) := blk_cell hx2 1
  have d2 : w2.cell? ⟨w.heap.size, 2, none⟩ = some (.int .i64 n) := blk_cell hx2 2
  have HF := Lib.hid (And.intro h3 (Kt.trans (Kt.of_below hb2) (Kt.trans (Kt.of_below hd) hk3)))
  have lx := blk_lt hx2
  have lS2 : L.S < w2.heap.size := h2.lt.1
  clear h h2 h3 hk3 hb2 hd hx2 hlr hq
  go_enter Tryz.func58, Tryz.ntmps58
  go_wp2_with fail
  rw [← hw2]
  clear hw2 c0 hlr2
  go_region
  go_wp2
  go_end0
  exact ⟨rfl, HF.out⟩
set_option maxHeartbeats 4000000 in
set_option maxRecDepth 100000 in
theorem put_any (L : Loc) (s : Sts) (N : Nat) (f : Fed) (w : World) (h : StM w L s N) (hN : N + 2 ≤ 1000000000) (hf : f.fd.size ≤ maxLen) (hr : f.rl.size ≤ maxLen) (hlen : (rowO s.F f.fd).length ≤ 1000000) :
    Calls Tryz.prog 56 #[.pointer (some ⟨L.S, 0, none⟩), fedV f] w fun e w' => e = .returned (.tuple #[]) ∧ ∃ hd, StM w' L { s with F := s.F.put f.fd.data.toList (hd, rowO s.F f.fd ++ [f.rl]), P := s.P.put f.rl.data.toList f.fd } (N + 2) ∧ Kt L.B w w' := by
  obtain ⟨at', kd, fd, rk, mn, bd⟩ := f
  obtain ⟨w1, hw1⟩ : ∃ w1, w1 = w.alloc (.cells #[.int .i64 at', .int .i64 kd, .string fd, .string rk, .int .i64 mn, .string bd] 38) := ⟨_, rfl⟩
  have hb1 : Below w.heap.size w w1 := by rw [hw1]; exact Bl.alloc (Below.refl _ _) _
  have hx1 : w1.heap[w.heap.size]? = some (.cells #[.int .i64 at', .int .i64 kd, .string fd, .string rk, .int .i64 mn, .string bd] 38 (0, 0)) := by rw [hw1]; exact blk_new w _
  have h1 := h.low hb1
  have HN := Lib.hid hN
  have hz1 : L.B ≤ w1.heap.size := h1.lt.2
  -- the row as it is looked up, in all later worlds
  obtain ⟨hd, hlk0, hO, ha⟩ := h1.rowF fd hf
  obtain ⟨l, hl⟩ : ∃ l, l = rowO s.F fd := ⟨_, rfl⟩
  have hlen2 : l.length ≤ 1000000 := by rw [hl]; exact hlen
  have HL := Lib.hid hl
  have HLK : Hid (∀ W, Below w1.heap.size w1 W → (Instr.lookup 58 (.map (some L.m2)) (.string fd) false).run Tryz.prog W = .ok (hdrV hd) W) := Lib.hid fun W hW => by
    have h2 := (h1.sb.mF.below hW).look TMh.ok fd hf
    have h3 := h1.sb.mF.look TMh.ok fd hf
    rw [show (Instr.lookup TMh.t (.map (some L.m2)) (.string fd) false).run Tryz.prog w1 = _ from hlk0] at h3
    injection h3 with h3 _
    rw [h3]; exact h2
  have HO : Hid (∀ W, Below w1.heap.size w1 W → OwnO W L.B (hdrV hd) l) := Lib.hid fun W hW => by rw [hl]; exact hO.below hW
  have HA := Lib.hid ha
  have H1 := Lib.hid h1
  have HX1 := Lib.hid hx1
  have HB1 := Lib.hid hb1
  have HS1 := Lib.hid h1.sb.blk
  have HRD : Hid (∀ W, Kt L.B w1 W → W.heap[L.S]? = some (.cells #[.map (some L.m0), .map (some L.m1), .map (some L.m2), .map (some L.m3), .map (some L.m4)] 62 (0, 0)) → W.cell? ⟨L.S, 2, none⟩ = some (.map (some L.m2)) ∧ W.cell? ⟨w.heap.size, 2, none⟩ = some (.string fd) ∧ W.cell? ⟨w.heap.size, 3, none⟩ = some (.string rk)) := Lib.hid fun W hK hS => by
    have hx := hK.fix HX1.out (by decide)
    exact ⟨blk_cell hS 2, blk_cell hx 2, blk_cell hx 3⟩
  have hA1 : Below w1.heap.size w1 w1.drew := Below.drew (Below.refl _ _)
  have e2 : (Fed.fd (at', kd, fd, rk, mn, bd)) = fd := rfl
  have e3 : (Fed.rl (at', kd, fd, rk, mn, bd)) = rk := rfl
  rw [e2, e3, ← hl]
  have HRR := Lib.hid hr
  have HHF := Lib.hid hf
  change Calls _ _ #[_, .agg #[.int .i64 at', .int .i64 kd, .string fd, .string rk, .int .i64 mn, .string bd]] _ _
  clear h h1 hO ha hx1 hb1 hlk0 hl hlen hN hr hf e2 e3
  go_enter Tryz.func56, Tryz.ntmps56
  go_wp2_with fail
  rw [← hw1]
  clear hw1
  refine wp_region_app (by kernel_rfl) [4, 5, 6, 7, 8, 9, 10, 11, 12, 13, 14, 15, 16, 17, 18, 19, 20] (fun i => ([some (.pointer (some ⟨L.S, 0, none⟩)), some (.pointer (some ⟨L.S, 0, none⟩)), some (.pointer (some ⟨L.S, 2, none⟩)), some (.map (some L.m2)), some (.pointer (some ⟨w.heap.size, 2, none⟩)), some (.string fd), some (.pointer (some ⟨L.S, 0, none⟩)), some (.pointer (some ⟨L.S, 0, none⟩)), some (.pointer (some ⟨L.S, 2, none⟩)), some (.map (some L.m2)), some (.pointer (some ⟨w.heap.size, 2, none⟩)), some (.string fd), some (hdrV hd), some (.pointer (some ⟨w.heap.size, 3, none⟩)), some (.string rk), none, none, none] : List (Option Value)).getD i none) 15 16 17 1000 19 20 0
    (fun W => Below w1.heap.size w1 W) (fun W => Hid ((∃ hd4, StM W L { s with F := s.F.put fd.data.toList (hd4, l ++ [rk]) } (N + 1)) ∧ Kt L.B w1 W))
    (fun W => W.cell? ⟨L.S, 2, none⟩ = some (.map (some L.m2)) ∧ W.cell? ⟨w.heap.size, 2, none⟩ = some (.string fd) ∧ W.cell? ⟨w.heap.size, 3, none⟩ = some (.string rk))
    (fun v W => ∃ hd4, v = hdrV hd4 ∧ Hid (StF W L s fd.data.toList v (l ++ [rk]) N ∧ Kt L.B w1 W)) (fun v W => ∃ g, v = .slice (some ⟨g, 0, none⟩) 1 1 ∧ W.heap[g]? = some (.cells #[.string rk] 9 (0, 0))) (fun _ _ => True)
    (by kernel_rfl) (by kernel_rfl) (by rfl) (by rfl) (by rfl) (by decide) (by decide) ⟨rfl, rfl, fun h => absurd h (by decide)⟩ rfl rfl rfl (fun h => absurd h (by decide))
    (fun l hcl h => hcl.no h 16 ⟨15, .data⟩ rfl rfl (by simp) rfl) (fun l hcl h => hcl.no h 17 ⟨16, .data⟩ rfl rfl (by simp) rfl) (fun h => absurd h (by decide))
    (fun o ho => by obtain rfl := Option.some.inj ho; exact ⟨⟨⟨15, .data⟩, by simp, rfl, rfl⟩, fun h => absurd h (by decide)⟩) (fun o ho => by obtain rfl := Option.some.inj ho; exact ⟨⟨16, .data⟩, by simp, rfl, rfl⟩)
    hA1 (fun v W W' ⟨g, h1, h2⟩ hb => ⟨g, h1, blk_below h2 hb⟩) (fun _ _ _ _ _ => trivial) (fun W hW => HRD.out W (Kt.of_below hW) (blk_below HS1.out hW)) (fun v W ⟨hd4, _, h⟩ => HRD.out W h.out.2 h.out.1.sb.blk) (fun W h => (h.out.1.elim fun hd4 h4 => HRD.out W h.out.2 h4.sb.blk)) ?_ ?_ (fun h => absurd h (by decide)) ?_ ?_ ?_
  · intro listed f i o v W ho hc hdep hR hPre hcl hli hV
    obtain ⟨r1, r2, r3⟩ := hR
    match i, ho, hc with
    | 0, ho, hc =>
      obtain rfl := Option.some.inj ho
      obtain rfl := Option.some.inj hc
      refine ⟨rfl, fun q hq => ?_⟩
      have e0 := hq.tmp 0
      simp at e0
      simp [execOp, e0, go_sem]
    | 1, ho, hc =>
      obtain rfl := Option.some.inj ho
      obtain rfl := Option.some.inj hc
      refine ⟨rfl, fun q hq => ?_⟩
      have e4 := hq.tmp 4
      simp at e4
      have d4 : f 4 = .pointer (some ⟨L.S, 0, none⟩) := hV 0 _ (by decide) (hdep ⟨0, .data⟩ (by simp) rfl) rfl
      simp [execOp, e4, d4, go_sem]
    | 2, ho, hc =>
      obtain rfl := Option.some.inj ho
      obtain rfl := Option.some.inj hc
      refine ⟨rfl, fun q hq => ?_⟩
      have e5 := hq.tmp 5
      simp at e5
      have d5 : f 5 = .pointer (some ⟨L.S, 0, none⟩) := hV 1 _ (by decide) (hdep ⟨1, .data⟩ (by simp) rfl) rfl
      simp [execOp, e5, d5, go_sem]
    | 3, ho, hc =>
      obtain rfl := Option.some.inj ho
      obtain rfl := Option.some.inj hc
      refine ⟨rfl, fun q hq => ?_⟩
      have e6 := hq.tmp 6
      simp at e6
      have d6 : f 6 = .pointer (some ⟨L.S, 2, none⟩) := hV 2 _ (by decide) (hdep ⟨2, .data⟩ (by simp) rfl) rfl
      simp [execOp, e6, d6, r1, go_sem]
    | 4, ho, hc =>
      obtain rfl := Option.some.inj ho
      obtain rfl := Option.some.inj hc
      refine ⟨rfl, fun q hq => ?_⟩
      have e3 := hq.tmp 3
      simp at e3
      simp [execOp, e3, go_sem]
    | 5, ho, hc =>
      obtain rfl := Option.some.inj ho
      obtain rfl := Option.some.inj hc
      refine ⟨rfl, fun q hq => ?_⟩
      have e8 := hq.tmp 8
      simp at e8
      have d8 : f 8 = .pointer (some ⟨w.heap.size, 2, none⟩) := hV 4 _ (by decide) (hdep ⟨4, .data⟩ (by simp) rfl) rfl
      simp [execOp, e8, d8, r2, go_sem]
    | 6, ho, hc =>
      obtain rfl := Option.some.inj ho
      obtain rfl := Option.some.inj hc
      refine ⟨rfl, fun q hq => ?_⟩
      have e0 := hq.tmp 0
      simp at e0
      simp [execOp, e0, go_sem]
    | 7, ho, hc =>
      obtain rfl := Option.some.inj ho
      obtain rfl := Option.some.inj hc
      refine ⟨rfl, fun q hq => ?_⟩
      have e10 := hq.tmp 10
      simp at e10
      have d10 : f 10 = .pointer (some ⟨L.S, 0, none⟩) := hV 6 _ (by decide) (hdep ⟨6, .data⟩ (by simp) rfl) rfl
      simp [execOp, e10, d10, go_sem]
    | 8, ho, hc =>
      obtain rfl := Option.some.inj ho
      obtain rfl := Option.some.inj hc
      refine ⟨rfl, fun q hq => ?_⟩
      have e11 := hq.tmp 11
      simp at e11
      have d11 : f 11 = .pointer (some ⟨L.S, 0, none⟩) := hV 7 _ (by decide) (hdep ⟨7, .data⟩ (by simp) rfl) rfl
      simp [execOp, e11, d11, go_sem]
    | 9, ho, hc =>
      obtain rfl := Option.some.inj ho
      obtain rfl := Option.some.inj hc
      refine ⟨rfl, fun q hq => ?_⟩
      have e12 := hq.tmp 12
      simp at e12
      have d12 : f 12 = .pointer (some ⟨L.S, 2, none⟩) := hV 8 _ (by decide) (hdep ⟨8, .data⟩ (by simp) rfl) rfl
      simp [execOp, e12, d12, r1, go_sem]
    | 10, ho, hc =>
      obtain rfl := Option.some.inj ho
      obtain rfl := Option.some.inj hc
      refine ⟨rfl, fun q hq => ?_⟩
      have e3 := hq.tmp 3
      simp at e3
      simp [execOp, e3, go_sem]
    | 11, ho, hc =>
      obtain rfl := Option.some.inj ho
      obtain rfl := Option.some.inj hc
      refine ⟨rfl, fun q hq => ?_⟩
      have e14 := hq.tmp 14
      simp at e14
      have d14 : f 14 = .pointer (some ⟨w.heap.size, 2, none⟩) := hV 10 _ (by decide) (hdep ⟨10, .data⟩ (by simp) rfl) rfl
      simp [execOp, e14, d14, r2, go_sem]
    | 12, ho, hc =>
      obtain rfl := Option.some.inj ho
      obtain rfl := Option.some.inj hc
      refine ⟨rfl, fun q hq => ?_⟩
      have e13 := hq.tmp 13
      simp at e13
      have d13 : f 13 = .map (some L.m2) := hV 9 _ (by decide) (hdep ⟨9, .data⟩ (by simp) rfl) rfl
      have e15 := hq.tmp 15
      simp at e15
      have d15 : f 15 = .string fd := hV 11 _ (by decide) (hdep ⟨11, .data⟩ (by simp) rfl) rfl
      have hlk := HLK.out W (hPre (hcl.no hli 16 ⟨12, .data⟩ rfl rfl (by simp) rfl))
      simp [execOp, e13, d13, e15, d15, hlk, go_sem]
    | 13, ho, hc =>
      obtain rfl := Option.some.inj ho
      obtain rfl := Option.some.inj hc
      refine ⟨rfl, fun q hq => ?_⟩
      have e3 := hq.tmp 3
      simp at e3
      simp [execOp, e3, go_sem]
    | 14, ho, hc =>
      obtain rfl := Option.some.inj ho
      obtain rfl := Option.some.inj hc
      refine ⟨rfl, fun q hq => ?_⟩
      have e17 := hq.tmp 17
      simp at e17
      have d17 : f 17 = .pointer (some ⟨w.heap.size, 3, none⟩) := hV 13 _ (by decide) (hdep ⟨13, .data⟩ (by simp) rfl) rfl
      simp [execOp, e17, d17, r3, go_sem]
    | 15, ho, hc => exact absurd hc (by simp)
    | 16, ho, hc => exact absurd hc (by simp)
    | 17, ho, hc => exact absurd hc (by simp)
    | (_ + 18), ho, hc => exact absurd hc (by simp)
  · intro listed f o W ho hdep hP hV
    obtain rfl := Option.some.inj ho
    have hbA := Bl.alloc (Below.refl W.heap.size W) (.cells #[.string rk] 9)
    refine ⟨rfl, .slice (some ⟨W.heap.size, 0, none⟩) 1 1, W.alloc (.cells #[.string rk] 9), fun q hq => ?_, Bl.trans hP hbA, ⟨W.heap.size, rfl, blk_new W _⟩, hbA⟩
    have e18 := hq.tmp 18
    simp at e18
    have d18 : f 18 = .string rk := hV 14 _ (by decide) (hdep ⟨14, .data⟩ (by simp) rfl) rfl
    simp [execOp, e18, d18, go_sem]
  · intro listed f o W ho hdep hP hS _ hV
    obtain rfl := Option.some.inj ho
    obtain ⟨g, hg1, hg2⟩ := hS
    have d16 : f 16 = hdrV hd := hV 12 _ (by decide) (hdep ⟨12, .data⟩ (by simp) rfl) rfl
    refine ⟨rfl, fun K hK => ?_⟩
    have hcell : W.cell? ⟨g, 0, none⟩ = some (.string rk) := blk_cell hg2 0
    obtain ⟨v', w', hr, h2, h3, h4⟩ := (HO.out W hP).app 70 ⟨g, 0, none⟩ 1 rk hcell hlen2 (Nat.le_trans hz1 hP.size)
    refine oper_append (.tmp 16) (.tmp 19) 70 rfl (hdrV hd) (.slice (some ⟨g, 0, none⟩) 1 1) v' (by rw [← d16]; simp [putsA_eval]) (by rw [← hg1]; simp [putsA_eval]) hr (hK v' w' ?_)
    obtain ⟨hF, hk⟩ := (H1.out.low hP).turnF (HO.out W hP) HA.out h2 h3 h4
    obtain ⟨hd4, rfl⟩ := hdr_ofO h2
    exact ⟨hd4, rfl, Lib.hid ⟨hF, (Kt.of_below hP).trans hk⟩⟩
  · intro listed f o W ho hdep hMid hV
    obtain rfl := Option.some.inj ho
    obtain ⟨hd4, e4, hF⟩ := hMid
    have hF1 := hF.out.1
    rw [e4] at hF1
    obtain ⟨w5, hr5, h5, hk5⟩ := hF1.put (by have := HN.out; omega) HHF.out
    refine ⟨rfl, w5, fun q hq => ?_, Lib.hid ⟨⟨hd4, h5⟩, hF.out.2.trans hk5⟩⟩
    have e7 := hq.tmp 7
    have e9 := hq.tmp 9
    have e20 := hq.tmp 20
    simp at e7 e9 e20
    have d7 : f 7 = .map (some L.m2) := hV 3 _ (by decide) (hdep ⟨3, .data⟩ (by simp) rfl) rfl
    have d9 : f 9 = .string fd := hV 5 _ (by decide) (hdep ⟨5, .data⟩ (by simp) rfl) rfl
    simp [execOp, e7, e9, e20, d7, d9, e4, hr5, go_sem]
  intro f w5 hP hV
  clear hV
  unfold putsA
  simp only [List.mapIdx_toArray, List.mapIdx_cons, List.mapIdx_nil, List.contains_cons]
  simp
  obtain ⟨⟨hd4, h5⟩, hk5⟩ := hP.out
  have hd5 : Below w5.heap.size w5 w5.drew := Below.drew (Below.refl _ _)
  obtain ⟨w6, hr6, h6, hk6⟩ := (h5.low hd5).putP (by have := HN.out; omega) rk HRR.out fd
  have hx5 := hk5.fix HX1.out (by decide)
  have HS6 := Lib.hid (And.intro h6 ((Kt.of_below HB1.out).trans (hk5.trans ((Kt.of_below hd5).trans hk6))))
  have u1 : w5.cell? ⟨L.S, 1, none⟩ = some (.map (some L.m1)) := h5.cells.2.1
  have u2 : w5.cell? ⟨w.heap.size, 2, none⟩ = some (.string fd) := blk_cell hx5 2
  have u3 : w5.cell? ⟨w.heap.size, 3, none⟩ = some (.string rk) := blk_cell hx5 3
  have lx5 := blk_lt hx5
  have lS5 := h5.lt.1
  clear h5 hk5 h6 hk6 hd5 hx5 hP
  go_wp2
  go_region
  go_wp2
  go_end0
  exact ⟨rfl, hd4, HS6.out⟩
end Go.Proofs.YtfhfncnnendnfaaGreatDoor
namespace Go.Proofs.YtfhfncnnendnfaaGreatDoor
open Go.RowKit Go.Sort Go.Maps

def slLen : Value → Nat
  | .slice _ n _ => n
  | _ => 0
/-- where clear stands: the reels that were taken out, those that are left. -/
structure ClI (L : Loc) (s : Sts) (N : Nat) (lf : Lf) (l : List ByteArray) (w wr : World) (v : Value) (n : Nat) (ds l' : List ByteArray) : Prop where
  len : n = l'.length
  eq : l = ds ++ l'
  drop : dropE lf l = dropE lf l'
  own : OwnO wr L.B v l'
  st : StM wr L { s with P := delA s.P ds } N
  kt : Kt L.B w wr
set_option maxHeartbeats 8000000 in
set_option maxRecDepth 100000 in
theorem clear_any (L : Loc) (s : Sts) (N : Nat) (f : ByteArray) (w : World) (h : StM w L s N) (hN : N + 1 ≤ 1000000000) (hf : f.size ≤ maxLen) (hne : rowO s.F f ≠ []) (hn : ∀ x ∈ rowO s.F f, x.size ≤ maxLen) :
    Calls Tryz.prog 71 #[.pointer (some ⟨L.S, 0, none⟩), .string f] w fun e w' => e = .returned (.tuple #[]) ∧ ∃ hd ds, rowO s.F f = ds ++ dropE (lfO s.R) (rowO s.F f) ∧ StM w' L { s with F := s.F.put f.data.toList (hd, dropE (lfO s.R) (rowO s.F f)), P := delA s.P ds } (N + 1) ∧ Kt L.B w w' := by
  obtain ⟨-, -, c2, -, -⟩ := h.cells
  obtain ⟨hd, hlk0, hO, ha⟩ := h.rowF f hf
  obtain ⟨l, hl⟩ : ∃ l, l = rowO s.F f := ⟨_, rfl⟩
  obtain ⟨lf, hlf⟩ : ∃ lf, lf = lfO s.R := ⟨_, rfl⟩
  rw [← hl] at hO hne hn
  rw [← hl, ← hlf]
  obtain ⟨x0, hx0⟩ : ∃ x, l[0]? = some x := ⟨_, List.getElem?_eq_getElem (List.length_pos_iff.2 hne)⟩
  obtain ⟨g, o, cap, hv, -⟩ := hO.at hx0
  rw [hv] at hO ha hlk0
  have hl0 : 0 < l.length := List.length_pos_iff.2 hne
  obtain ⟨n0, hn0⟩ : ∃ n0, n0 = l.length := ⟨_, rfl⟩
  rw [← hn0] at hO ha hlk0 hl0
  have HA := Lib.hid ha
  have HN := Lib.hid hN
  have HF := Lib.hid hf
  have HNM := Lib.hid hn
  have HLF := Lib.hid hlf
  have HI0 : Hid (ClI L s N lf l w w (.slice (some ⟨g, o, none⟩) n0 cap) n0 [] l) := Lib.hid ⟨hn0, rfl, rfl, hO, h, Kt.refl _ _⟩
  have lS := h.lt.1
  have HEND : Hid (∀ (ds l' : List ByteArray) (n o' cap' : Nat) (wr : World), n = l'.length → l = ds ++ l' → dropE lf l = l' → OwnO wr L.B (.slice (some ⟨g, o', none⟩) n cap') l' → StM wr L { s with P := delA s.P ds } N → Kt L.B w wr →
      ∃ w5, (Instr.mapUpdate 58 (.map (some L.m2)) (.string f) (.slice (some ⟨g, o', none⟩) n cap')).run Tryz.prog wr = .ok () w5 ∧ Hid (∃ hd ds, l = ds ++ dropE lf l ∧ StM w5 L { s with F := s.F.put f.data.toList (hd, dropE lf l), P := delA s.P ds } (N + 1) ∧ Kt L.B w w5)) := Lib.hid fun ds l' n o' cap' wr e1 e2 e3 hO' hS' hK' => by
    have hF4 : StF wr L { s with P := delA s.P ds } f.data.toList (hdrV (some (g, o'), n, cap')) l' N := hS'.openF (k := f) (v := .slice (some ⟨g, o, none⟩) n0 cap) HA.out hO' rfl
    obtain ⟨w5, hr5, h5, hk5⟩ := hF4.put HN.out HF.out
    exact ⟨w5, hr5, Lib.hid ⟨(some (g, o'), n, cap'), ds, by rw [e3]; exact e2, by rw [e3]; exact h5, hK'.trans hk5⟩⟩
  clear h hO ha hn hl hlf hx0 hne hn0 hf hN
  go_enter Tryz.func71, Tryz.ntmps71
  go_wp2_with fail
  clear hlk0 c2
  go_loopw [4] (fun v4 wr => ∃ (ds l' : List ByteArray) (n o' cap' : Nat), v4 = .slice (some ⟨g, o', none⟩) n cap' ∧ 0 < n ∧ Hid (ClI L s N lf l w wr (.slice (some ⟨g, o', none⟩) n cap') n ds l')) (fun v4 _ => slLen v4)
  case atStart => exact ⟨[], l, n0, o, cap, rfl, hl0, HI0⟩
  case round =>
    obtain ⟨ds, l', n, o', cap', rfl, hn0, HI⟩ := hrel
    obtain ⟨i1, i2, i3, i4, i5, i6⟩ := HI.out
    obtain ⟨x, r, rfl⟩ : ∃ x r, l' = x :: r := by
      cases l' with
      | nil => simp at i1; omega
      | cons x r => exact ⟨x, r, rfl⟩
    obtain ⟨g', o2, cap2, hv2, d0⟩ := i4.at (k := 0) rfl
    injection hv2 with e1 e2 e3
    injection e1 with e1
    injection e1 with e1 e4 _
    subst e1 e4
    clear e2 e3
    rw [Nat.add_zero] at d0
    have hcap : n ≤ cap' := by
      obtain ⟨a3, c3, e3, h3, -⟩ := i4.form
      injection e3 with _ e3 e4
      rw [e3, e4]; exact h3
    have hxs : x.size ≤ maxLen := HNM.out x (by rw [i2]; simp)
    have hlr := fun m => (i5.low (Bl.drewN (Below.refl _ _) m)).sb.mR.look TMr.ok x hxs
    obtain ⟨q, hq⟩ : ∃ q, q = (s.R.get x.data.toList).getD TMr.z := ⟨_, rfl⟩
    have hqv : q.2.2 = lf x := by rw [HLF.out, hq]; rfl
    have hlr1 := hlr
    simp only [← hq] at hlr1
    obtain ⟨qk, qp, qn⟩ := q
    have hlr2 : ∀ m, (Instr.lookup 56 (.map (some L.m0)) (.string x) false).run Tryz.prog (wr.drewN m) = .ok (.agg #[.string qk, .string qp, .int .i64 qn]) (wr.drewN m) := hlr1
    have hfi : ∀ W, (Instr.field 35 (.agg #[.string qk, .string qp, .int .i64 qn]) 2).run Tryz.prog W = .ok (.int .i64 qn) W := fun _ => rfl
    obtain ⟨a0, a1, a2, -, -⟩ := i5.cells
    have lS2 := i5.lt.1
    have lg2 := World.block_lt_of_cell? _ _ d0
    simp only at lg2
    have HQV : Hid (qn = lf x) := Lib.hid hqv
    have HXS := Lib.hid hxs
    clear hlr hlr1 hq hqv i1 i2 i3 i4 i5 i6 hxs
    by_cases h1 : n = 1
    case' pos =>
      subst h1
      have HD : Hid (dropE lf (x :: r) = x :: r) := Lib.hid (by
        have := HI.out.len
        cases r with
        | nil => rfl
        | cons y t => simp at this)
      go_wp2_with fail
      go_quiet (fail)
    case' neg =>
      have hn2 : (1 : Int) < (n : Int) := by omega
      have hn3 : 1 < n := by omega
      by_cases hq0 : qn = 0
      case pos =>
        subst hq0
        go_wp2_with fail
        go_quiet (fail)
        obtain ⟨i1, i2, i3, i4, i5, i6⟩ := HI.out
        have hbd : Below wr.heap.size wr (wr.drewN nq) := Bl.drewN (Below.refl _ _) nq
        have hbd2 : Below wr.heap.size wr (wr.drewN nq).drew := Bl.trans hbd (Below.drew (Below.refl _ _))
        obtain ⟨w3, hr3, h3, hk3, hg3⟩ := (i5.low hbd2).delP x HXS.out 0
        have hrn : n = r.length + 1 := by rw [i1]; rfl
        have hO3 : OwnO w3 L.B (.slice (some ⟨g, o' + 1, none⟩) (n - 1) (cap' - 1)) r := by
          have h1 := i4.below hbd2
          rw [hrn] at h1 ⊢
          refine (OwnO.tail h1).keep fun k hk => ?_
          injection hk with hk
          subst hk
          obtain ⟨_, cur, hc⟩ := (ownO_k L.B).blk h1 rfl
          exact hg3.block g (blk_lt hc) fun e => by injection e with e; exact (i5.low hbd2).sb.mP.noCells _ _ (e ▸ hc)
        have HN3 : Hid (ClI L s N lf l w w3 (.slice (some ⟨g, o' + 1, none⟩) (n - 1) (cap' - 1)) (n - 1) (ds ++ [x]) r) := Lib.hid ⟨by omega, by rw [i2]; simp, by
          rw [i3]
          cases r with
          | nil => simp at hrn; omega
          | cons y t => show (if lf x = 0 then _ else _) = _; rw [if_pos HQV.out.symm], hO3, by rw [delA_app]; exact h3, i6.trans ((Kt.of_below hbd2).trans hk3)⟩
        have b1 : (wr.drewN nq).cell? ⟨L.S, 1, none⟩ = some (.map (some L.m1)) := a1
        have dx : (wr.drewN nq).cell? ⟨g, o', none⟩ = some (.string x) := d0
        have hn1 : 1 ≤ n := by omega
        have lg3 : g < (wr.drewN nq).heap.size := lg2
        have lS3 : L.S < (wr.drewN nq).heap.size := lS2
        have hc2 : ¬ cap' = 1 := by omega
        have hc3 : ¬ cap' - 1 = 0 := by omega
        have hn4 : n - 1 < n := by omega
        have hn5 : 0 < n - 1 := by omega
        have hcn : n ≤ cap' := hcap
        clear i1 i2 i3 i4 i5 i6 hbd hbd2 h3 hk3 hg3 hO3 hlr2 hfi a0 a1 a2 d0 hrn HI lg2 lS2
        generalize wr.drewN nq = W1 at *
        go_wp2_with fail
        go_region
        go_wp2_with fail
        go_roundw
        case rel => exact ⟨ds ++ [x], r, n - 1, o' + 1, cap' - 1, rfl, hn5, HN3⟩
        case measure => simp [slLen]; omega
      case' neg =>
        have hqf : (qn == 0) = false := by simp [hq0]
        have HD : Hid (dropE lf (x :: r) = x :: r) := Lib.hid (dropE_pos r (by rw [← HQV.out]; exact hq0))
        go_wp2_with fail
        go_quiet (fail)
    all_goals (
      obtain ⟨i1, i2, i3, i4, i5, i6⟩ := HI.out
      have hbd : Below wr.heap.size wr (wr.drewN nq) := Bl.drewN (Below.refl _ _) nq
      obtain ⟨w5, hr5, HE⟩ := HEND.out ds (x :: r) _ o' cap' (wr.drewN nq) i1 i2 (i3.trans HD.out) (i4.below hbd) (i5.low hbd) (i6.trans (Kt.of_below hbd))
      have b2 : (wr.drewN nq).cell? ⟨L.S, 2, none⟩ = some (.map (some L.m2)) := a2
      clear i1 i2 i3 i4 i5 i6 hbd hlr2 hfi a0 a1 a2 d0
      go_wp2
      go_end0
      obtain ⟨hd, ds', u1, u2, u3⟩ := HE.out
      exact ⟨rfl, hd, ds', u1, u2, u3⟩)
end Go.Proofs.YtfhfncnnendnfaaGreatDoor
