/- The reference's store does an event as the model tells. Conditions: an event as the checks let it through, at most 900 events before it. -/
import Derived.Test.YtcfeoapbbkfbnaaGreatDoorReV
namespace Go.Proofs.YtcfeoapbbkfbnaaGreatDoor
open Go.RowKit Go.Sort Go.Maps

theorem RelR.put {s : RSt} {A : Mdl} (h : RelR s A) {e : Fed} (i : Int) (hk : e.kd = 1 ∨ e.kd = 2) (hd : Hdr) : RelR { s with F := s.F.put e.fd.data.toList (hd, A.row e.fd ++ [e.rl]) } (doM A i e) := by
  unfold doM
  rw [if_pos hk]
  refine ⟨h.left, h.part, fun g => ?_, h.log⟩
  show rowO (s.F.put _ _) g = updR A.row e.fd (A.row e.fd ++ [e.rl]) g
  rw [rowO_put]
  unfold updR
  split
  · rfl
  · exact h.row g
theorem RelR.unload {s : RSt} {A : Mdl} (h : RelR s A) {e : Fed} (i : Int) (hk : e.kd = 3) : RelR { s with F := s.F.del e.fd.data.toList } (doM A i e) := by
  unfold doM
  rw [if_neg (by omega), if_pos hk]
  refine ⟨h.left, h.part, fun g => ?_, h.log⟩
  show rowO (s.F.del _) g = updR A.row e.fd [] g
  rw [rowO_del]
  unfold updR
  split
  · rfl
  · exact h.row g
theorem RelR.count {s : RSt} {A : Mdl} (h : RelR s A) {e : Fed} (i : Int) (hk : e.kd = 5) : RelR { s with V := s.V.put e.rl.data.toList e.mn } (doM A i e) := by
  unfold doM
  rw [if_neg (by omega), if_neg (by omega), if_neg (by omega)]
  refine ⟨?_, h.part, h.row, h.log⟩
  show lfI (s.V.put _ _) = _
  rw [lfI_put, h.left]
set_option maxHeartbeats 16000000 in
set_option maxRecDepth 100000 in
theorem rdo_any (L : Loc) (s : RSt) (N n : Nat) (A : Mdl) (i : Int) (e : Fed) (w : World) (h : StR w L s N) (hN : N + 200000 ≤ 1000000000) (hR : RelR s A) (hI : InvM A n) (hn : n ≤ 900) (he : FedR e) (hev : ∀ t ∈ A.log, t.1 ≠ i) :
    Calls Tryz.prog 119 #[.pointer (some ⟨L.S, 0, none⟩), .int .i64 i, fedV e] w fun r w' => r = .returned (.int .i64 (refM A e)) ∧ ∃ s', StR w' L s' (N + 200000) ∧ RelR s' (stepM A i e) ∧ Kt L.B w w' := by
  have HE := Lib.hid he
  obtain ⟨at', kd, fd, rk, mn, bd⟩ := e
  have hfd : fd.size ≤ maxLen := Nat.le_trans he.fd (by unfold maxLen; omega)
  have hrk : rk.size ≤ maxLen := Nat.le_trans he.rl (by unfold maxLen; omega)
  have hk : kd = 1 ∨ kd = 2 ∨ kd = 3 ∨ kd = 4 ∨ kd = 5 := by have h1 : 1 ≤ kd := he.k1; have h2 : kd ≤ 5 := he.k5; omega
  obtain ⟨w1, hw1⟩ : ∃ w1, w1 = w.alloc (.cells #[.int .i64 at', .int .i64 kd, .string fd, .string rk, .int .i64 mn, .string bd] 76) := ⟨_, rfl⟩
  have hb1 : Below w.heap.size w w1 := by rw [hw1]; exact Bl.alloc (Below.refl _ _) _
  have hx1 : w1.heap[w.heap.size]? = some (.cells #[.int .i64 at', .int .i64 kd, .string fd, .string rk, .int .i64 mn, .string bd] 76 (0, 0)) := by rw [hw1]; exact blk_new w _
  have h1 := h.low hb1
  obtain ⟨l, hl⟩ : ∃ l, l = A.row fd := ⟨_, rfl⟩
  have hST : stepM A i (at', kd, fd, rk, mn, bd) = if refM A (at', kd, fd, rk, mn, bd) = 0 then doM A i (at', kd, fd, rk, mn, bd) else A := rfl
  have HRE := Lib.hid (refuses_any L s N n A (at', kd, fd, rk, mn, bd) w1 h1 hR hI hn he)
  have H1 := Lib.hid h1
  have HX1 := Lib.hid hx1
  have HB1 := Lib.hid hb1
  have HRR := Lib.hid hR
  have HII := Lib.hid hI
  have HST := Lib.hid hST
  have HL := Lib.hid hl
  have HN := Lib.hid hN
  have HFD := Lib.hid hfd
  have HRK := Lib.hid hrk
  have HNN := Lib.hid hn
  have HEV := Lib.hid hev
  have HLL : Hid (l.length ≤ 900) := Lib.hid (by rw [hl]; exact Nat.le_trans (hI.ln fd) hn)
  have x0 : w1.cell? ⟨w.heap.size, 0, none⟩ = some (.int .i64 at') := blk_cell hx1 0
  have x1 : w1.cell? ⟨w.heap.size, 1, none⟩ = some (.int .i64 kd) := blk_cell hx1 1
  have x2 : w1.cell? ⟨w.heap.size, 2, none⟩ = some (.string fd) := blk_cell hx1 2
  have x3 : w1.cell? ⟨w.heap.size, 3, none⟩ = some (.string rk) := blk_cell hx1 3
  have x4 : w1.cell? ⟨w.heap.size, 4, none⟩ = some (.int .i64 mn) := blk_cell hx1 4
  have x5 : w1.cell? ⟨w.heap.size, 5, none⟩ = some (.string bd) := blk_cell hx1 5
  have lS := h1.lt.1
  have lx := blk_lt hx1
  have HW : Hid (∀ W, Below w1.heap.size w1 W → W.cell? ⟨L.S, 1, none⟩ = some (.map (some L.m1)) ∧ W.cell? ⟨L.S, 2, none⟩ = some (.map (some L.m2)) ∧ W.cell? ⟨w.heap.size, 0, none⟩ = some (.int .i64 at') ∧ W.cell? ⟨w.heap.size, 1, none⟩ = some (.int .i64 kd) ∧ W.cell? ⟨w.heap.size, 2, none⟩ = some (.string fd) ∧ W.cell? ⟨w.heap.size, 3, none⟩ = some (.string rk) ∧ W.cell? ⟨w.heap.size, 4, none⟩ = some (.int .i64 mn) ∧ W.cell? ⟨w.heap.size, 5, none⟩ = some (.string bd) ∧ L.S < W.heap.size ∧ w.heap.size < W.heap.size) := Lib.hid fun W hW => by
    have h2 := h1.low hW
    have h3 := blk_below hx1 hW
    exact ⟨h2.cells.2.1, h2.cells.2.2, blk_cell h3 0, blk_cell h3 1, blk_cell h3 2, blk_cell h3 3, blk_cell h3 4, blk_cell h3 5, h2.lt.1, blk_lt h3⟩
  have HNO : Hid (∀ W R, Below w1.heap.size w1 W → refM A (at', kd, fd, rk, mn, bd) = R → R ≠ 0 → ∃ s', StR W L s' (N + 200000) ∧ RelR s' (stepM A i (at', kd, fd, rk, mn, bd)) ∧ Kt L.B w W) := Lib.hid fun W R hW e1 e2 => by
    refine ⟨s, (h1.low hW).mono (by omega) hN, ?_, (Kt.of_below hb1).trans (Kt.of_below hW)⟩
    rw [hST, e1, if_neg e2]
    exact hR
  change Calls _ _ #[_, _, .agg #[.int .i64 at', .int .i64 kd, .string fd, .string rk, .int .i64 mn, .string bd]] _ _
  change Hid (Calls _ _ #[_, .agg #[.int .i64 at', .int .i64 kd, .string fd, .string rk, .int .i64 mn, .string bd]] _ _) at HRE
  clear h h1 hx1 hb1 hl hN hR hI he hfd hrk hn hST hev
  obtain ⟨RF, hRF⟩ : ∃ RF, RF = refM A (at', kd, fd, rk, mn, bd) := ⟨_, rfl⟩
  rw [← hRF] at HRE ⊢
  have HRF := Lib.hid hRF
  clear hRF
  by_cases hr0 : RF = 0
  case neg =>
    have hrb : (RF == 0) = false := by simp [hr0]
    have HR0 := Lib.hid hr0
    go_enter Tryz.func119, Tryz.ntmps119
    go_wp2_with fail
    rw [← hw1]
    clear hw1
    go_wp2_with fail
    refine HRE.out.mono ?_
    rintro r w3 ⟨rfl, hb3⟩
    have HB3 := Lib.hid hb3
    clear hb3
    go_wp2
    go_ret
    exact ⟨rfl, HNO.out _ _ HB3.out HRF.out.symm HR0.out⟩
  have HR0 : Hid (refM A (at', kd, fd, rk, mn, bd) = 0) := Lib.hid (by rw [← HRF.out]; exact hr0)
  subst hr0
  rcases hk with rfl | rfl | rfl | rfl | rfl
  all_goals (
    go_enter Tryz.func119, Tryz.ntmps119
    go_wp2_with fail
    rw [← hw1]
    clear hw1
    go_wp2_with fail
    refine HRE.out.mono ?_
    rintro r w3 ⟨rfl, hb3⟩
    clear x0 x1 x2 x3 x4 x5 lS lx HRE
    have HB3 := Lib.hid hb3
    have H3 := Lib.hid (H1.out.low hb3)
    obtain ⟨c1, c2, x0, x1, x2, x3, x4, x5, lS, lx⟩ := HW.out _ hb3
    have HX3 := Lib.hid (blk_below HX1.out hb3)
    have HKT : Hid (∀ W, Kt L.B w3 W → Kt L.B w W) := Lib.hid fun W hW => (Kt.of_below HB1.out).trans ((Kt.of_below HB3.out).trans hW)
    clear hb3)
  · have HRP : Hid (∀ hd, RelR { s with F := s.F.put fd.data.toList (hd, l ++ [rk]) } (doM A i (at', 1, fd, rk, mn, bd))) := Lib.hid fun hd => by
      rw [HL.out]; exact HRR.out.put (e := (at', 1, fd, rk, mn, bd)) i (.inl rfl) hd
    obtain ⟨hd, hlk, hO⟩ := H3.out.rowB fd HFD.out
    rw [HRR.out.row, ← HL.out] at hO
    have HLK := Lib.hid hlk
    have HRD : Hid (∀ W, Kt L.B w3 W → W.cell? ⟨L.S, 2, none⟩ = some (.map (some L.m2)) → W.cell? ⟨L.S, 2, none⟩ = some (.map (some L.m2)) ∧ W.cell? ⟨w.heap.size, 2, none⟩ = some (.string fd) ∧ W.cell? ⟨w.heap.size, 3, none⟩ = some (.string rk)) := Lib.hid fun W hK hS => by
      have hx := hK.fix HX3.out (by decide)
      exact ⟨hS, blk_cell hx 2, blk_cell hx 3⟩
    have HCL : Hid (∀ W, Below w3.heap.size w3 W → Calls Tryz.prog 156 #[hdrV hd] W fun e w' => ∃ v', e = .returned v' ∧ OwnR TS w' W.heap.size v' l ∧ Below W.heap.size W w') := Lib.hid fun W hW => CloneSr_any l _ W (by have := HLL.out; omega) (hO.below hW).rec
    clear hlk
    go_wp2_with fail
    refine wp_region_app (by kernel_rfl) [27, 28, 29, 30, 31, 32, 33, 34, 35, 36, 37, 38, 39, 40, 41, 42, 43, 44] (fun ii => ([some (.pointer (some ⟨L.S, 0, none⟩)), some (.pointer (some ⟨L.S, 0, none⟩)), some (.pointer (some ⟨L.S, 2, none⟩)), some (.map (some L.m2)), some (.pointer (some ⟨w.heap.size, 2, none⟩)), some (.string fd), some (.pointer (some ⟨L.S, 0, none⟩)), some (.pointer (some ⟨L.S, 0, none⟩)), some (.pointer (some ⟨L.S, 2, none⟩)), some (.map (some L.m2)), some (.pointer (some ⟨w.heap.size, 2, none⟩)), some (.string fd), some (hdrV hd), none, some (.pointer (some ⟨w.heap.size, 3, none⟩)), some (.string rk), none, none, none] : List (Option Value)).getD ii none) 16 17 18 13 43 44 40
      (fun W => Below w3.heap.size w3 W) (fun W => Hid ((∃ hd4, StR W L { s with F := s.F.put fd.data.toList (hd4, l ++ [rk]) } (N + 1)) ∧ Kt L.B w3 W))
      (fun W => W.cell? ⟨L.S, 2, none⟩ = some (.map (some L.m2)) ∧ W.cell? ⟨w.heap.size, 2, none⟩ = some (.string fd) ∧ W.cell? ⟨w.heap.size, 3, none⟩ = some (.string rk))
      (fun v W => ∃ hd4, v = hdrV hd4 ∧ Hid (OwnR TS W w3.heap.size v (l ++ [rk]) ∧ Below w3.heap.size w3 W)) (fun v W => ∃ g, v = .slice (some ⟨g, 0, none⟩) 1 1 ∧ W.heap[g]? = some (.cells #[.string rk] 9 (0, 0))) (fun v W => OwnR TS W w3.heap.size v l)
      (by kernel_rfl) (by kernel_rfl) (by rfl) (by rfl) (by rfl) (by decide) (by decide) ⟨rfl, rfl, fun _ => rfl⟩ rfl rfl rfl (fun _ => rfl)
      (fun l hcl h => hcl.no h 17 ⟨16, .data⟩ rfl rfl (by simp) rfl) (fun l hcl h => hcl.no h 18 ⟨17, .data⟩ rfl rfl (by simp) rfl) (fun _ l hcl h => hcl.no h 17 ⟨13, .data⟩ rfl rfl (by simp) rfl)
      (fun o ho => by obtain rfl := Option.some.inj ho; exact ⟨⟨⟨16, .data⟩, by simp, rfl, rfl⟩, fun _ => ⟨⟨13, .data⟩, by simp, rfl, rfl⟩⟩) (fun o ho => by obtain rfl := Option.some.inj ho; exact ⟨⟨17, .data⟩, by simp, rfl, rfl⟩)
      (Below.drew (Below.refl _ _)) (fun v W W' ⟨g, h1, h2⟩ hb => ⟨g, h1, blk_below h2 hb⟩) (fun v W W' h hb => h.below hb) (fun W hW => HRD.out W (Kt.of_below hW) (H3.out.low hW).cells.2.2) (fun v W h => h.elim fun hd4 h2 => HRD.out W (Kt.of_below h2.2.out.2) (H3.out.low h2.2.out.2).cells.2.2) (fun W h => (h.out.1.elim fun hd4 h4 => HRD.out W h.out.2 h4.cells.2.2)) ?_ ?_ ?_ ?_ ?_ ?_
    · intro listed f i' o v W ho hc hdep hR hPre hcl hli hV
      obtain ⟨r1, r2, r3⟩ := hR
      match i', ho, hc with
      | 0, ho, hc =>
        obtain rfl := Option.some.inj ho
        obtain rfl := Option.some.inj hc
        refine ⟨rfl, fun q hq => ?_⟩
        have e0 := hq.tmp 0
        simp at e0
        simp [execOp, e0, go_sem]
      | 1, ho, hc =>
        obtain rfl := Option.some.inj ho
        obtain rfl := Option.some.inj hc
        refine ⟨rfl, fun q hq => ?_⟩
        have e27 := hq.tmp 27
        simp at e27
        have d27 : f 27 = .pointer (some ⟨L.S, 0, none⟩) := hV 0 _ (by decide) (hdep ⟨0, .data⟩ (by simp) rfl) rfl
        simp [execOp, e27, d27, go_sem]
      | 2, ho, hc =>
        obtain rfl := Option.some.inj ho
        obtain rfl := Option.some.inj hc
        refine ⟨rfl, fun q hq => ?_⟩
        have e28 := hq.tmp 28
        simp at e28
        have d28 : f 28 = .pointer (some ⟨L.S, 0, none⟩) := hV 1 _ (by decide) (hdep ⟨1, .data⟩ (by simp) rfl) rfl
        simp [execOp, e28, d28, go_sem]
      | 3, ho, hc =>
        obtain rfl := Option.some.inj ho
        obtain rfl := Option.some.inj hc
        refine ⟨rfl, fun q hq => ?_⟩
        have e29 := hq.tmp 29
        simp at e29
        have d29 : f 29 = .pointer (some ⟨L.S, 2, none⟩) := hV 2 _ (by decide) (hdep ⟨2, .data⟩ (by simp) rfl) rfl
        simp [execOp, e29, d29, r1, go_sem]
      | 4, ho, hc =>
        obtain rfl := Option.some.inj ho
        obtain rfl := Option.some.inj hc
        refine ⟨rfl, fun q hq => ?_⟩
        have e5 := hq.tmp 5
        simp at e5
        simp [execOp, e5, go_sem]
      | 5, ho, hc =>
        obtain rfl := Option.some.inj ho
        obtain rfl := Option.some.inj hc
        refine ⟨rfl, fun q hq => ?_⟩
        have e31 := hq.tmp 31
        simp at e31
        have d31 : f 31 = .pointer (some ⟨w.heap.size, 2, none⟩) := hV 4 _ (by decide) (hdep ⟨4, .data⟩ (by simp) rfl) rfl
        simp [execOp, e31, d31, r2, go_sem]
      | 6, ho, hc =>
        obtain rfl := Option.some.inj ho
        obtain rfl := Option.some.inj hc
        refine ⟨rfl, fun q hq => ?_⟩
        have e0 := hq.tmp 0
        simp at e0
        simp [execOp, e0, go_sem]
      | 7, ho, hc =>
        obtain rfl := Option.some.inj ho
        obtain rfl := Option.some.inj hc
        refine ⟨rfl, fun q hq => ?_⟩
        have e33 := hq.tmp 33
        simp at e33
        have d33 : f 33 = .pointer (some ⟨L.S, 0, none⟩) := hV 6 _ (by decide) (hdep ⟨6, .data⟩ (by simp) rfl) rfl
        simp [execOp, e33, d33, go_sem]
      | 8, ho, hc =>
        obtain rfl := Option.some.inj ho
        obtain rfl := Option.some.inj hc
        refine ⟨rfl, fun q hq => ?_⟩
        have e34 := hq.tmp 34
        simp at e34
        have d34 : f 34 = .pointer (some ⟨L.S, 0, none⟩) := hV 7 _ (by decide) (hdep ⟨7, .data⟩ (by simp) rfl) rfl
        simp [execOp, e34, d34, go_sem]
      | 9, ho, hc =>
        obtain rfl := Option.some.inj ho
        obtain rfl := Option.some.inj hc
        refine ⟨rfl, fun q hq => ?_⟩
        have e35 := hq.tmp 35
        simp at e35
        have d35 : f 35 = .pointer (some ⟨L.S, 2, none⟩) := hV 8 _ (by decide) (hdep ⟨8, .data⟩ (by simp) rfl) rfl
        simp [execOp, e35, d35, r1, go_sem]
      | 10, ho, hc =>
        obtain rfl := Option.some.inj ho
        obtain rfl := Option.some.inj hc
        refine ⟨rfl, fun q hq => ?_⟩
        have e5 := hq.tmp 5
        simp at e5
        simp [execOp, e5, go_sem]
      | 11, ho, hc =>
        obtain rfl := Option.some.inj ho
        obtain rfl := Option.some.inj hc
        refine ⟨rfl, fun q hq => ?_⟩
        have e37 := hq.tmp 37
        simp at e37
        have d37 : f 37 = .pointer (some ⟨w.heap.size, 2, none⟩) := hV 10 _ (by decide) (hdep ⟨10, .data⟩ (by simp) rfl) rfl
        simp [execOp, e37, d37, r2, go_sem]
      | 12, ho, hc =>
        obtain rfl := Option.some.inj ho
        obtain rfl := Option.some.inj hc
        refine ⟨rfl, fun q hq => ?_⟩
        have e36 := hq.tmp 36
        simp at e36
        have d36 : f 36 = .map (some L.m2) := hV 9 _ (by decide) (hdep ⟨9, .data⟩ (by simp) rfl) rfl
        have e38 := hq.tmp 38
        simp at e38
        have d38 : f 38 = .string fd := hV 11 _ (by decide) (hdep ⟨11, .data⟩ (by simp) rfl) rfl
        have hlk := HLK.out W (hPre (hcl.no (hcl.no hli 13 ⟨12, .data⟩ rfl rfl (by simp) rfl) 17 ⟨13, .data⟩ rfl rfl (by simp) rfl))
        simp [execOp, e36, d36, e38, d38, hlk, go_sem]
      | 14, ho, hc =>
        obtain rfl := Option.some.inj ho
        obtain rfl := Option.some.inj hc
        refine ⟨rfl, fun q hq => ?_⟩
        have e5 := hq.tmp 5
        simp at e5
        simp [execOp, e5, go_sem]
      | 15, ho, hc =>
        obtain rfl := Option.some.inj ho
        obtain rfl := Option.some.inj hc
        refine ⟨rfl, fun q hq => ?_⟩
        have e41 := hq.tmp 41
        simp at e41
        have d41 : f 41 = .pointer (some ⟨w.heap.size, 3, none⟩) := hV 14 _ (by decide) (hdep ⟨14, .data⟩ (by simp) rfl) rfl
        simp [execOp, e41, d41, r3, go_sem]
      | 13, ho, hc => exact absurd hc (by simp)
      | 16, ho, hc => exact absurd hc (by simp)
      | 17, ho, hc => exact absurd hc (by simp)
      | 18, ho, hc => exact absurd hc (by simp)
      | (_ + 19), ho, hc => exact absurd hc (by simp)
    · intro listed f o W ho hdep hP hV
      obtain rfl := Option.some.inj ho
      have hbA := Bl.alloc (Below.refl W.heap.size W) (.cells #[.string rk] 9)
      refine ⟨rfl, .slice (some ⟨W.heap.size, 0, none⟩) 1 1, W.alloc (.cells #[.string rk] 9), fun q hq => ?_, Bl.trans hP hbA, ⟨W.heap.size, rfl, blk_new W _⟩, hbA⟩
      have e42 := hq.tmp 42
      simp at e42
      have d42 : f 42 = .string rk := hV 15 _ (by decide) (hdep ⟨15, .data⟩ (by simp) rfl) rfl
      simp [execOp, e42, d42, go_sem]
    · intro _ listed f o W ho hdep hP hV
      obtain rfl := Option.some.inj ho
      have d39 : f 39 = hdrV hd := hV 12 _ (by decide) (hdep ⟨12, .data⟩ (by simp) rfl) rfl
      refine ⟨rfl, fun K hK => ?_⟩
      refine oper_call rfl 156 #[.tmp 39] _ rfl (enters_of Tryz.func156 (by kernel_rfl) rfl) #[hdrV hd] (by rw [← d39]; simp [putsA_eval]) _ (HCL.out W hP) ?_
      rintro e w' ⟨cv, rfl, h1, h2⟩
      exact ⟨cv, rfl, hK cv w' (Bl.trans hP h2) (h1.base hP.size) h2⟩
    · intro listed f o W ho hdep hP hS hC hV
      obtain rfl := Option.some.inj ho
      obtain ⟨g, hg1, hg2⟩ := hS
      have hC1 := hC (by decide)
      refine ⟨rfl, fun K hK => ?_⟩
      obtain ⟨v', w', hr, h2, h3, h4⟩ := hC1.app TS.ok 45 g 1 rk hg2 rfl (by have := HLL.out; omega) hP.size
      refine oper_append (.tmp 40) (.tmp 43) 45 rfl (f 40) (.slice (some ⟨g, 0, none⟩) 1 1) v' (by simp [putsA_eval]) (by rw [← hg1]; simp [putsA_eval]) hr (hK v' w' ?_)
      obtain ⟨hd4, rfl⟩ := hdr_ofR h2
      exact ⟨hd4, rfl, Lib.hid ⟨h2, Below.trans hP (app_belowR hC1 h3 hP.size)⟩⟩
    · intro listed f o W ho hdep hMid hV
      obtain rfl := Option.some.inj ho
      obtain ⟨hd4, e4, hF⟩ := hMid
      have hF1 := hF.out.1
      rw [e4] at hF1
      obtain ⟨w5, hr5, h5, hk5⟩ := (H3.out.low hF.out.2).putF (M := N + 1) (by have := HN.out; omega) fd HFD.out hd4 (l ++ [rk]) (OwnO.of_own (hF1.base H3.out.lt.2)) (by omega) (Nat.le_trans (Sm.put_le _ _ _) (by have := H3.out.ln.2.2; omega))
      refine ⟨rfl, w5, fun q hq => ?_, Lib.hid ⟨⟨hd4, h5⟩, (Kt.of_below hF.out.2).trans hk5⟩⟩
      have e30 := hq.tmp 30
      have e32 := hq.tmp 32
      have e44 := hq.tmp 44
      simp at e30 e32 e44
      have d30 : f 30 = .map (some L.m2) := hV 3 _ (by decide) (hdep ⟨3, .data⟩ (by simp) rfl) rfl
      have d32 : f 32 = .string fd := hV 5 _ (by decide) (hdep ⟨5, .data⟩ (by simp) rfl) rfl
      simp [execOp, e30, e32, e44, d30, d32, e4, hr5, go_sem]
    intro f w5 hP hV
    clear hV
    unfold putsA
    simp only [List.mapIdx_toArray, List.mapIdx_cons, List.mapIdx_nil, List.contains_cons]
    simp
    obtain ⟨⟨hd4, h5⟩, hk5⟩ := hP.out
    have HF := Lib.hid (And.intro (h5.mono (show N + 1 ≤ N + 200000 by omega) HN.out) (HKT.out _ hk5))
    clear h5 hk5 hP hO
    go_wp2
    go_ret
    exact ⟨rfl, _, HF.out.1, by rw [HST.out, if_pos HR0.out]; exact HRP.out hd4, HF.out.2⟩
  · have HRP : Hid (∀ hd, RelR { s with F := s.F.put fd.data.toList (hd, l ++ [rk]) } (doM A i (at', 2, fd, rk, mn, bd))) := Lib.hid fun hd => by
      rw [HL.out]; exact HRR.out.put (e := (at', 2, fd, rk, mn, bd)) i (.inr rfl) hd
    obtain ⟨hd, hlk, hO⟩ := H3.out.rowB fd HFD.out
    rw [HRR.out.row, ← HL.out] at hO
    have HLK := Lib.hid hlk
    have HRD : Hid (∀ W, Kt L.B w3 W → W.cell? ⟨L.S, 2, none⟩ = some (.map (some L.m2)) → W.cell? ⟨L.S, 2, none⟩ = some (.map (some L.m2)) ∧ W.cell? ⟨w.heap.size, 2, none⟩ = some (.string fd) ∧ W.cell? ⟨w.heap.size, 3, none⟩ = some (.string rk)) := Lib.hid fun W hK hS => by
      have hx := hK.fix HX3.out (by decide)
      exact ⟨hS, blk_cell hx 2, blk_cell hx 3⟩
    have HCL : Hid (∀ W, Below w3.heap.size w3 W → Calls Tryz.prog 156 #[hdrV hd] W fun e w' => ∃ v', e = .returned v' ∧ OwnR TS w' W.heap.size v' l ∧ Below W.heap.size W w') := Lib.hid fun W hW => CloneSr_any l _ W (by have := HLL.out; omega) (hO.below hW).rec
    clear hlk
    go_wp2_with fail
    refine wp_region_app (by kernel_rfl) [27, 28, 29, 30, 31, 32, 33, 34, 35, 36, 37, 38, 39, 40, 41, 42, 43, 44] (fun ii => ([some (.pointer (some ⟨L.S, 0, none⟩)), some (.pointer (some ⟨L.S, 0, none⟩)), some (.pointer (some ⟨L.S, 2, none⟩)), some (.map (some L.m2)), some (.pointer (some ⟨w.heap.size, 2, none⟩)), some (.string fd), some (.pointer (some ⟨L.S, 0, none⟩)), some (.pointer (some ⟨L.S, 0, none⟩)), some (.pointer (some ⟨L.S, 2, none⟩)), some (.map (some L.m2)), some (.pointer (some ⟨w.heap.size, 2, none⟩)), some (.string fd), some (hdrV hd), none, some (.pointer (some ⟨w.heap.size, 3, none⟩)), some (.string rk), none, none, none] : List (Option Value)).getD ii none) 16 17 18 13 43 44 40
      (fun W => Below w3.heap.size w3 W) (fun W => Hid ((∃ hd4, StR W L { s with F := s.F.put fd.data.toList (hd4, l ++ [rk]) } (N + 1)) ∧ Kt L.B w3 W))
      (fun W => W.cell? ⟨L.S, 2, none⟩ = some (.map (some L.m2)) ∧ W.cell? ⟨w.heap.size, 2, none⟩ = some (.string fd) ∧ W.cell? ⟨w.heap.size, 3, none⟩ = some (.string rk))
      (fun v W => ∃ hd4, v = hdrV hd4 ∧ Hid (OwnR TS W w3.heap.size v (l ++ [rk]) ∧ Below w3.heap.size w3 W)) (fun v W => ∃ g, v = .slice (some ⟨g, 0, none⟩) 1 1 ∧ W.heap[g]? = some (.cells #[.string rk] 9 (0, 0))) (fun v W => OwnR TS W w3.heap.size v l)
      (by kernel_rfl) (by kernel_rfl) (by rfl) (by rfl) (by rfl) (by decide) (by decide) ⟨rfl, rfl, fun _ => rfl⟩ rfl rfl rfl (fun _ => rfl)
      (fun l hcl h => hcl.no h 17 ⟨16, .data⟩ rfl rfl (by simp) rfl) (fun l hcl h => hcl.no h 18 ⟨17, .data⟩ rfl rfl (by simp) rfl) (fun _ l hcl h => hcl.no h 17 ⟨13, .data⟩ rfl rfl (by simp) rfl)
      (fun o ho => by obtain rfl := Option.some.inj ho; exact ⟨⟨⟨16, .data⟩, by simp, rfl, rfl⟩, fun _ => ⟨⟨13, .data⟩, by simp, rfl, rfl⟩⟩) (fun o ho => by obtain rfl := Option.some.inj ho; exact ⟨⟨17, .data⟩, by simp, rfl, rfl⟩)
      (Below.drew (Below.refl _ _)) (fun v W W' ⟨g, h1, h2⟩ hb => ⟨g, h1, blk_below h2 hb⟩) (fun v W W' h hb => h.below hb) (fun W hW => HRD.out W (Kt.of_below hW) (H3.out.low hW).cells.2.2) (fun v W h => h.elim fun hd4 h2 => HRD.out W (Kt.of_below h2.2.out.2) (H3.out.low h2.2.out.2).cells.2.2) (fun W h => (h.out.1.elim fun hd4 h4 => HRD.out W h.out.2 h4.cells.2.2)) ?_ ?_ ?_ ?_ ?_ ?_
    · intro listed f i' o v W ho hc hdep hR hPre hcl hli hV
      obtain ⟨r1, r2, r3⟩ := hR
      match i', ho, hc with
      | 0, ho, hc =>
        obtain rfl := Option.some.inj ho
        obtain rfl := Option.some.inj hc
        refine ⟨rfl, fun q hq => ?_⟩
        have e0 := hq.tmp 0
        simp at e0
        simp [execOp, e0, go_sem]
      | 1, ho, hc =>
        obtain rfl := Option.some.inj ho
        obtain rfl := Option.some.inj hc
        refine ⟨rfl, fun q hq => ?_⟩
        have e27 := hq.tmp 27
        simp at e27
        have d27 : f 27 = .pointer (some ⟨L.S, 0, none⟩) := hV 0 _ (by decide) (hdep ⟨0, .data⟩ (by simp) rfl) rfl
        simp [execOp, e27, d27, go_sem]
      | 2, ho, hc =>
        obtain rfl := Option.some.inj ho
        obtain rfl := Option.some.inj hc
        refine ⟨rfl, fun q hq => ?_⟩
        have e28 := hq.tmp 28
        simp at e28
        have d28 : f 28 = .pointer (some ⟨L.S, 0, none⟩) := hV 1 _ (by decide) (hdep ⟨1, .data⟩ (by simp) rfl) rfl
        simp [execOp, e28, d28, go_sem]
      | 3, ho, hc =>
        obtain rfl := Option.some.inj ho
        obtain rfl := Option.some.inj hc
        refine ⟨rfl, fun q hq => ?_⟩
        have e29 := hq.tmp 29
        simp at e29
        have d29 : f 29 = .pointer (some ⟨L.S, 2, none⟩) := hV 2 _ (by decide) (hdep ⟨2, .data⟩ (by simp) rfl) rfl
        simp [execOp, e29, d29, r1, go_sem]
      | 4, ho, hc =>
        obtain rfl := Option.some.inj ho
        obtain rfl := Option.some.inj hc
        refine ⟨rfl, fun q hq => ?_⟩
        have e5 := hq.tmp 5
        simp at e5
        simp [execOp, e5, go_sem]
      | 5, ho, hc =>
        obtain rfl := Option.some.inj ho
        obtain rfl := Option.some.inj hc
        refine ⟨rfl, fun q hq => ?_⟩
        have e31 := hq.tmp 31
        simp at e31
        have d31 : f 31 = .pointer (some ⟨w.heap.size, 2, none⟩) := hV 4 _ (by decide) (hdep ⟨4, .data⟩ (by simp) rfl) rfl
        simp [execOp, e31, d31, r2, go_sem]
      | 6, ho, hc =>
        obtain rfl := Option.some.inj ho
        obtain rfl := Option.some.inj hc
        refine ⟨rfl, fun q hq => ?_⟩
        have e0 := hq.tmp 0
        simp at e0
        simp [execOp, e0, go_sem]
      | 7, ho, hc =>
        obtain rfl := Option.some.inj ho
        obtain rfl := Option.some.inj hc
        refine ⟨rfl, fun q hq => ?_⟩
        have e33 := hq.tmp 33
        simp at e33
        have d33 : f 33 = .pointer (some ⟨L.S, 0, none⟩) := hV 6 _ (by decide) (hdep ⟨6, .data⟩ (by simp) rfl) rfl
        simp [execOp, e33, d33, go_sem]
      | 8, ho, hc =>
        obtain rfl := Option.some.inj ho
        obtain rfl := Option.some.inj hc
        refine ⟨rfl, fun q hq => ?_⟩
        have e34 := hq.tmp 34
        simp at e34
        have d34 : f 34 = .pointer (some ⟨L.S, 0, none⟩) := hV 7 _ (by decide) (hdep ⟨7, .data⟩ (by simp) rfl) rfl
        simp [execOp, e34, d34, go_sem]
      | 9, ho, hc =>
        obtain rfl := Option.some.inj ho
        obtain rfl := Option.some.inj hc
        refine ⟨rfl, fun q hq => ?_⟩
        have e35 := hq.tmp 35
        simp at e35
        have d35 : f 35 = .pointer (some ⟨L.S, 2, none⟩) := hV 8 _ (by decide) (hdep ⟨8, .data⟩ (by simp) rfl) rfl
        simp [execOp, e35, d35, r1, go_sem]
      | 10, ho, hc =>
        obtain rfl := Option.some.inj ho
        obtain rfl := Option.some.inj hc
        refine ⟨rfl, fun q hq => ?_⟩
        have e5 := hq.tmp 5
        simp at e5
        simp [execOp, e5, go_sem]
      | 11, ho, hc =>
        obtain rfl := Option.some.inj ho
        obtain rfl := Option.some.inj hc
        refine ⟨rfl, fun q hq => ?_⟩
        have e37 := hq.tmp 37
        simp at e37
        have d37 : f 37 = .pointer (some ⟨w.heap.size, 2, none⟩) := hV 10 _ (by decide) (hdep ⟨10, .data⟩ (by simp) rfl) rfl
        simp [execOp, e37, d37, r2, go_sem]
      | 12, ho, hc =>
        obtain rfl := Option.some.inj ho
        obtain rfl := Option.some.inj hc
        refine ⟨rfl, fun q hq => ?_⟩
        have e36 := hq.tmp 36
        simp at e36
        have d36 : f 36 = .map (some L.m2) := hV 9 _ (by decide) (hdep ⟨9, .data⟩ (by simp) rfl) rfl
        have e38 := hq.tmp 38
        simp at e38
        have d38 : f 38 = .string fd := hV 11 _ (by decide) (hdep ⟨11, .data⟩ (by simp) rfl) rfl
        have hlk := HLK.out W (hPre (hcl.no (hcl.no hli 13 ⟨12, .data⟩ rfl rfl (by simp) rfl) 17 ⟨13, .data⟩ rfl rfl (by simp) rfl))
        simp [execOp, e36, d36, e38, d38, hlk, go_sem]
      | 14, ho, hc =>
        obtain rfl := Option.some.inj ho
        obtain rfl := Option.some.inj hc
        refine ⟨rfl, fun q hq => ?_⟩
        have e5 := hq.tmp 5
        simp at e5
        simp [execOp, e5, go_sem]
      | 15, ho, hc =>
        obtain rfl := Option.some.inj ho
        obtain rfl := Option.some.inj hc
        refine ⟨rfl, fun q hq => ?_⟩
        have e41 := hq.tmp 41
        simp at e41
        have d41 : f 41 = .pointer (some ⟨w.heap.size, 3, none⟩) := hV 14 _ (by decide) (hdep ⟨14, .data⟩ (by simp) rfl) rfl
        simp [execOp, e41, d41, r3, go_sem]
      | 13, ho, hc => exact absurd hc (by simp)
      | 16, ho, hc => exact absurd hc (by simp)
      | 17, ho, hc => exact absurd hc (by simp)
      | 18, ho, hc => exact absurd hc (by simp)
      | (_ + 19), ho, hc => exact absurd hc (by simp)
    · intro listed f o W ho hdep hP hV
      obtain rfl := Option.some.inj ho
      have hbA := Bl.alloc (Below.refl W.heap.size W) (.cells #[.string rk] 9)
      refine ⟨rfl, .slice (some ⟨W.heap.size, 0, none⟩) 1 1, W.alloc (.cells #[.string rk] 9), fun q hq => ?_, Bl.trans hP hbA, ⟨W.heap.size, rfl, blk_new W _⟩, hbA⟩
      have e42 := hq.tmp 42
      simp at e42
      have d42 : f 42 = .string rk := hV 15 _ (by decide) (hdep ⟨15, .data⟩ (by simp) rfl) rfl
      simp [execOp, e42, d42, go_sem]
    · intro _ listed f o W ho hdep hP hV
      obtain rfl := Option.some.inj ho
      have d39 : f 39 = hdrV hd := hV 12 _ (by decide) (hdep ⟨12, .data⟩ (by simp) rfl) rfl
      refine ⟨rfl, fun K hK => ?_⟩
      refine oper_call rfl 156 #[.tmp 39] _ rfl (enters_of Tryz.func156 (by kernel_rfl) rfl) #[hdrV hd] (by rw [← d39]; simp [putsA_eval]) _ (HCL.out W hP) ?_
      rintro e w' ⟨cv, rfl, h1, h2⟩
      exact ⟨cv, rfl, hK cv w' (Bl.trans hP h2) (h1.base hP.size) h2⟩
    · intro listed f o W ho hdep hP hS hC hV
      obtain rfl := Option.some.inj ho
      obtain ⟨g, hg1, hg2⟩ := hS
      have hC1 := hC (by decide)
      refine ⟨rfl, fun K hK => ?_⟩
      obtain ⟨v', w', hr, h2, h3, h4⟩ := hC1.app TS.ok 45 g 1 rk hg2 rfl (by have := HLL.out; omega) hP.size
      refine oper_append (.tmp 40) (.tmp 43) 45 rfl (f 40) (.slice (some ⟨g, 0, none⟩) 1 1) v' (by simp [putsA_eval]) (by rw [← hg1]; simp [putsA_eval]) hr (hK v' w' ?_)
      obtain ⟨hd4, rfl⟩ := hdr_ofR h2
      exact ⟨hd4, rfl, Lib.hid ⟨h2, Below.trans hP (app_belowR hC1 h3 hP.size)⟩⟩
    · intro listed f o W ho hdep hMid hV
      obtain rfl := Option.some.inj ho
      obtain ⟨hd4, e4, hF⟩ := hMid
      have hF1 := hF.out.1
      rw [e4] at hF1
      obtain ⟨w5, hr5, h5, hk5⟩ := (H3.out.low hF.out.2).putF (M := N + 1) (by have := HN.out; omega) fd HFD.out hd4 (l ++ [rk]) (OwnO.of_own (hF1.base H3.out.lt.2)) (by omega) (Nat.le_trans (Sm.put_le _ _ _) (by have := H3.out.ln.2.2; omega))
      refine ⟨rfl, w5, fun q hq => ?_, Lib.hid ⟨⟨hd4, h5⟩, (Kt.of_below hF.out.2).trans hk5⟩⟩
      have e30 := hq.tmp 30
      have e32 := hq.tmp 32
      have e44 := hq.tmp 44
      simp at e30 e32 e44
      have d30 : f 30 = .map (some L.m2) := hV 3 _ (by decide) (hdep ⟨3, .data⟩ (by simp) rfl) rfl
      have d32 : f 32 = .string fd := hV 5 _ (by decide) (hdep ⟨5, .data⟩ (by simp) rfl) rfl
      simp [execOp, e30, e32, e44, d30, d32, e4, hr5, go_sem]
    intro f w5 hP hV
    clear hV
    unfold putsA
    simp only [List.mapIdx_toArray, List.mapIdx_cons, List.mapIdx_nil, List.contains_cons]
    simp
    obtain ⟨⟨hd4, h5⟩, hk5⟩ := hP.out
    have HF := Lib.hid (And.intro (h5.mono (show N + 1 ≤ N + 200000 by omega) HN.out) (HKT.out _ hk5))
    clear h5 hk5 hP hO
    go_wp2
    go_ret
    exact ⟨rfl, _, HF.out.1, by rw [HST.out, if_pos HR0.out]; exact HRP.out hd4, HF.out.2⟩
  · have hdw : Below w3.heap.size w3 w3.drew := Below.drew (Below.refl _ _)
    obtain ⟨w4, hr4, h4, hk4⟩ := (H3.out.low hdw).delF fd HFD.out 0
    have HF := Lib.hid (And.intro (h4.mono (show N ≤ N + 200000 by omega) HN.out) (HKT.out _ ((Kt.of_below hdw).trans hk4)))
    clear hdw h4 hk4
    go_wp2_with fail
    go_region
    go_wp2
    go_ret
    exact ⟨rfl, _, HF.out.1, by rw [HST.out, if_pos HR0.out]; exact HRR.out.unload (e := (at', 3, fd, rk, mn, bd)) i rfl, HF.out.2⟩
  · have HU := Lib.hid (ruse_any L s N n A i (at', 4, fd, rk, mn, bd) w3 H3.out HN.out HRR.out HII.out HNN.out HE.out rfl HR0.out HEV.out)
    go_wp2_with fail
    refine HU.out.mono ?_
    rintro r w4 ⟨rfl, s4, h4, hr4, hk4⟩
    have HF := Lib.hid (And.intro h4 (And.intro hr4 (HKT.out _ hk4)))
    clear h4 hr4 hk4 HU
    go_wp2
    go_ret
    exact ⟨rfl, s4, HF.out.1, by rw [HST.out, if_pos HR0.out]; exact HF.out.2.1, HF.out.2.2⟩
  · have hdw : Below w3.heap.size w3 w3.drew := Below.drew (Below.refl _ _)
    obtain ⟨w4, hr4, h4, hk4⟩ := (H3.out.low hdw).putV (by have := HN.out; omega) rk HRK.out mn
    have HF := Lib.hid (And.intro (h4.mono (show N + 1 ≤ N + 200000 by omega) HN.out) (HKT.out _ ((Kt.of_below hdw).trans hk4)))
    clear hdw h4 hk4
    go_wp2_with fail
    go_region
    go_wp2
    go_ret
    exact ⟨rfl, _, HF.out.1, by rw [HST.out, if_pos HR0.out]; exact HRR.out.count (e := (at', 5, fd, rk, mn, bd)) i rfl, HF.out.2⟩
end Go.Proofs.YtcfeoapbbkfbnaaGreatDoor
