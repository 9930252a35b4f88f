/- Shop.Do over general maps. Conditions: names of at most 1000 bytes, fewer than 10^5 boards and steps. -/
import Derived.Test.YtnmimagninhkkaaGreatDoorShp
namespace Go.Proofs.YtnmimagninhkkaaGreatDoor
open Go.RowKit Go.Sort Go.Maps

theorem doS_zero {rh rr : Int} {m : Sm Bd0} {s : Stp} {b : Bd0} (hb : (m.get s.bd.data.toList).getD newB = b) (h : refB rh rr b s = 0) : doS rh rr m s = (m.put s.bd.data.toList (doB b s), 0) := by
  unfold doS; rw [hb, if_pos h]
theorem doS_ref {rh rr : Int} {m : Sm Bd0} {s : Stp} {b : Bd0} (hb : (m.get s.bd.data.toList).getD newB = b) (h : refB rh rr b s ≠ 0) : doS rh rr m s = (m.put s.bd.data.toList b, refB rh rr b s) := by
  unfold doS; rw [hb, if_neg h]
/-- a new board in a shop. -/
theorem ShM.new {w w' : World} {S g : Nat} {rh rr : Int} {L : Sm BdM} {k : Bs} (h : ShM w S rh rr L) (hg : L.get k = none) (hk : Kp w w' (fun i => i = S - 1)) (hmap : MapS TP w' (S - 1) ((L.mapv fun x => some x.1).put k (some g))) (hb : BrdM w' g newB) (hgw : w.heap.size + 2 ≤ g) : ShM w' S rh rr (L.put k (g, newB)) := by
  have h2 := h.two
  have hS := h.lt
  refine ⟨h.two, hk.blk h.blk (by omega), ?_, h.ok.put _ _, ?_, ?_⟩
  · rw [Sm.put_mapv]; exact hmap
  · intro p hp
    rcases Sm.put_mem.1 hp with rfl | ⟨hp, hne⟩
    · exact ⟨by show S + 3 ≤ g; omega, hb⟩
    · have h3 := (h.brd p hp).1
      exact ⟨h3, (h.brd p hp).2.keep hk (by omega) (by omega) (by omega)⟩
  · have hlt : ∀ p ∈ L, p.2.1 + 3 ≤ g := fun p hp => by have := (h.brd p hp).2.lt; omega
    intro p hp q hq hne
    rcases Sm.put_mem.1 hp with rfl | ⟨hp, hpk⟩
    · rcases Sm.put_mem.1 hq with rfl | ⟨hq, hqk⟩
      · exact absurd rfl hne
      · exact .inr (hlt q hq)
    · rcases Sm.put_mem.1 hq with rfl | ⟨hq, hqk⟩
      · exact .inl (hlt p hp)
      · exact h.sep p hp q hq hne
/-- the blocks that a step of a shop may change. -/
def DoX (S : Nat) (L : Sm BdM) (i : Nat) : Prop := i = S - 1 ∨ ∃ p ∈ L, InB p.2.1 i
theorem Kp.tr {a b c : World} {X Y : Nat → Prop} (h : Kp a b X) (k : Kp b c Y) (hy : ∀ i, i < a.heap.size → Y i → X i) : Kp a c X :=
  ⟨k.os.trans h.os, k.tape.trans h.tape, k.output.trans h.output, Nat.le_trans h.size k.size, fun i hi hx => (k.block i (Nat.lt_of_lt_of_le hi h.size) fun hh => hx (hy i hi hh)).trans (h.block i hi hx)⟩
theorem DoX.put {S n g : Nat} {L : Sm BdM} {L0 : Sm BdM} {k : Bs} {b : Bd0} (h : ∀ i, i < n → InB g i → DoX S L i) (h1 : ∀ i, i < n → DoX S L0 i → DoX S L i) : ∀ i, i < n → DoX S (L0.put k (g, b)) i → DoX S L i := by
  intro i hi hx
  rcases hx with rfl | ⟨p, hp, hx⟩
  · exact .inl rfl
  · rcases Sm.put_mem.1 hp with rfl | ⟨hp, _⟩
    · exact h i hi hx
    · exact h1 i hi (.inr ⟨p, hp, hx⟩)
theorem DoX.below {S : Nat} {rh rr : Int} {L : Sm BdM} {w w' : World} (h : ShM w S rh rr L) (hk : Kp w w' (DoX S L)) : Below (S - 1) w w' := by
  have := h.lt
  have h2 := h.two
  refine hk.below (fun i _ hx => ?_) (by omega)
  rcases hx with rfl | ⟨p, hp, hx⟩
  · exact Nat.le_refl _
  · have h1 := (h.brd p hp).1; have h3 := hx.1; omega
set_option maxHeartbeats 4000000 in
set_option maxRecDepth 100000 in
theorem Do_any (S : Nat) (rh rr : Int) (L : Sm BdM) (s : Stp) (w : World) (h : ShM w S rh rr L) (hs1 : s.bd.size ≤ 1000) (hs2 : s.co.size ≤ 1000) (hL : AllSm (L.mapv (·.2)) 100000) :
    Calls Tryz.prog 87 #[.pointer (some ⟨S, 0, none⟩), stpV s] w fun e w' => e = .returned (.int .i64 (doS rh rr (L.mapv (·.2)) s).2) ∧ ∃ L', ShM w' S rh rr L' ∧ L'.mapv (·.2) = (doS rh rr (L.mapv (·.2)) s).1 ∧ Kp w w' (DoX S L) ∧ ∀ i, i < w.heap.size → DoX S L' i → DoX S L i := by
  obtain ⟨at', bs, kd, cs⟩ := s
  have hbs : bs.size ≤ maxLen := Nat.le_trans hs1 (by unfold maxLen; omega)
  have hcs : cs.size ≤ maxLen := Nat.le_trans hs2 (by unfold maxLen; omega)
  obtain ⟨k, hk⟩ : ∃ k, k = bs.data.toList := ⟨_, rfl⟩
  have OkL := Lib.hid (h.ok.mapv (f := fun x : BdM => x.2))
  have lS := h.lt
  have h2 := h.two
  have c2 : w.cell? ⟨S, 2, none⟩ = some (.map (some (S - 1))) := blk_cell h.blk 2
  obtain ⟨w0, hw0⟩ : ∃ w0, w0 = w.alloc (.cells #[.int .i64 at', .string bs, .int .i64 kd, .string cs] 34) := ⟨_, rfl⟩
  have hA : Below w.heap.size w w0 := by rw [hw0]; exact Bl.alloc (Below.refl _ _) _
  have hX0 : w0.heap[w.heap.size]? = some (.cells #[.int .i64 at', .string bs, .int .i64 kd, .string cs] 34 (0, 0)) := by rw [hw0]; exact blk_new w _
  have h0 : ShM w0 S rh rr L := h.below hA
  have hz0 : w0.heap.size = w.heap.size + 1 := by rw [hw0]; simp
  have hLl : L.length ≤ 100000 := by have := hL.1; rwa [Sm.len_mapv] at this
  have hl1 : (Instr.lookup 130 (.map (some (S - 1))) (.string bs) false).run Tryz.prog w0.drew = .ok (TP.V (((L.get k).map fun x => some x.1).getD none)) w0.drew := by
    have := (h0.map.drew).look TP.ok bs hbs
    rw [← hk, Sm.get_mapv] at this
    exact this
  have HW0 := Lib.hid hw0
  have hm0 : ((L.mapv (·.2)).get k).getD newB = ((L.get k).map (·.2)).getD newB := by rw [Sm.get_mapv]
  have HMB : Hid (∀ b, ((L.get k).map (·.2)).getD newB = b → ((L.mapv (·.2)).get (Stp.bd (at', bs, kd, cs)).data.toList).getD newB = b) := Lib.hid fun b hb => by rw [← hb, ← hm0, hk]
  have HSM : Hid ((((L.get k).map (·.2)).getD newB).Sm1 100000) := Lib.hid (by rw [← hm0]; exact hL.get k)
  have HKK : Hid ((Stp.bd (at', bs, kd, cs)).data.toList = k) := Lib.hid hk.symm
  change Calls _ _ #[_, .agg #[.int .i64 at', .string bs, .int .i64 kd, .string cs]] _ _
  clear hk hm0 h hs1 hs2 hL
  subst hw0
  have HL0 : Hid (∀ L1 : Sm BdM, L1.mapv (·.2) = (L.mapv (·.2)).put k (((L.get k).map (·.2)).getD newB) → True) := Lib.hid fun _ _ => trivial
  clear HL0
  cases hg : L.get k
  case' some x =>
    obtain ⟨g, b⟩ := x
    rw [hg] at hl1 HMB HSM
    have hl1' : (Instr.lookup 130 (.map (some (S - 1))) (.string bs) false).run Tryz.prog (w.alloc (.cells #[.int .i64 at', .string bs, .int .i64 kd, .string cs] 34)).drew = .ok (.pointer (some ⟨g, 0, none⟩)) (w.alloc (.cells #[.int .i64 at', .string bs, .int .i64 kd, .string cs] 34)).drew := hl1
    have HMB2 := Lib.hid (HMB.out b rfl)
    have HBS : Hid (b.Sm1 100000) := Lib.hid HSM.out
    obtain ⟨L1, hL1⟩ : ∃ L1, L1 = L := ⟨_, rfl⟩
    have HLS : Hid (ShM (w.alloc (.cells #[.int .i64 at', .string bs, .int .i64 kd, .string cs] 34)).drew S rh rr L1 ∧ L1.get k = some (g, b) ∧ L1.mapv (·.2) = (L.mapv (·.2)).put k b) := Lib.hid ⟨by rw [hL1]; exact h0.below (Below.drew (Below.refl _ _)), by rw [hL1]; exact hg, by rw [hL1, Sm.put_same h0.ok.mapv (by rw [Sm.get_mapv, hg]; rfl)]⟩
    have hX1 : (w.alloc (.cells #[.int .i64 at', .string bs, .int .i64 kd, .string cs] 34)).drew.heap[w.heap.size]? = _ := hX0
    have hB1 : Kp w (w.alloc (.cells #[.int .i64 at', .string bs, .int .i64 kd, .string cs] 34)).drew (DoX S L) := Kp.of_below (Below.drew hA)
    have HGX : Hid (∀ i, i < w.heap.size → InB g i → DoX S L i) := Lib.hid fun i _ hx => .inr ⟨(k, (g, b)), Sm.get_mem hg, hx⟩
    have HL1X : Hid (∀ i, i < w.heap.size → DoX S L1 i → DoX S L i) := Lib.hid fun i _ hx => by rw [hL1] at hx; exact hx
    clear hl1 hg h0 hA hX0 HMB HSM HW0 hL1 hLl
    go_enter Tryz.func87, Tryz.ntmps87
    go_wp2
    go_region
    go_wp2_with fail
    clear hl1' c2
    generalize (w.alloc (.cells #[.int .i64 at', .string bs, .int .i64 kd, .string cs] 34)).drew = w3 at *
  case' none =>
    rw [hg] at hl1 HMB HSM
    have hl1' : (Instr.lookup 130 (.map (some (S - 1))) (.string bs) false).run Tryz.prog (w.alloc (.cells #[.int .i64 at', .string bs, .int .i64 kd, .string cs] 34)).drew = .ok (.pointer none) (w.alloc (.cells #[.int .i64 at', .string bs, .int .i64 kd, .string cs] 34)).drew := hl1
    have HMBn := Lib.hid (HMB.out newB rfl)
    have HBS : Hid (newB.Sm1 100000) := Lib.hid HSM.out
    have hX1 : (w.alloc (.cells #[.int .i64 at', .string bs, .int .i64 kd, .string cs] 34)).drew.heap[w.heap.size]? = _ := hX0
    have hB1 : Kp w (w.alloc (.cells #[.int .i64 at', .string bs, .int .i64 kd, .string cs] 34)).drew (DoX S L) := Kp.of_below (Below.drew hA)
    have h1 : ShM (w.alloc (.cells #[.int .i64 at', .string bs, .int .i64 kd, .string cs] 34)).drew S rh rr L := h0.below (Below.drew (Below.refl _ _))
    have hz1 : w.heap.size < (w.alloc (.cells #[.int .i64 at', .string bs, .int .i64 kd, .string cs] 34)).drew.heap.size := by show w.heap.size < (w.alloc (.cells #[.int .i64 at', .string bs, .int .i64 kd, .string cs] 34)).heap.size; simp
    clear hl1 h0 hA hX0 HMB HSM HW0 hz0
    have HG := Lib.hid hg
    clear hg
    go_enter Tryz.func87, Tryz.ntmps87
    go_wp2
    go_region
    go_wp2_with fail
    clear hl1' c2
    generalize (w.alloc (.cells #[.int .i64 at', .string bs, .int .i64 kd, .string cs] 34)).drew = w1 at *
    refine (newBoard_any w1).mono ?_
    rintro e w2 ⟨rfl, hb2a, hm2a, hm2b, hb2, hz2⟩
    have hX2 := blk_below hX1 hb2
    have h2s := h1.below hb2
    obtain ⟨w3, hrun3, hM3, ht3⟩ := MapS.put (h2s.map.drew) TP.ok bs hbs (some (w1.heap.size + 1 + 1)) (by rw [Sm.len_mapv]; unfold maxLen; omega)
    have hg3 := ht3.grown
    have hbr2 : BrdM w2 (w1.heap.size + 1 + 1) newB := ⟨by omega, hb2a, MapS.of_blk hm2a, MapS.of_blk hm2b⟩
    have hk3 : Kp w2 w3 (fun i => i = S - 1) := Kp.of_gr (a := w2) ⟨hg3.os, hg3.tape, hg3.output, hg3.size, hg3.block⟩ rfl
    have hbr3 : BrdM w3 (w1.heap.size + 1 + 1) newB := hbr2.keep hk3 (by have := h1.lt; omega) (by have := h1.lt; omega) (by have := h1.lt; omega)
    have hK3 : Kp w1 w3 (fun i => i = S - 1) := (Kp.of_below hb2).trans hk3
    rw [show (ByteArray.data bs).toList = k from HKK.out] at hM3
    have h3s : ShM w3 S rh rr (L.put k (w1.heap.size + 1 + 1, newB)) := h1.new HG.out hK3 hM3 hbr3 (by omega)
    have hX3 := hk3.blk hX2 (by omega)
    have hB3 : Kp w w3 (DoX S L) := hB1.tr hK3 (fun i _ hi => .inl hi)
    have HGX : Hid (∀ i, i < w.heap.size → InB (w1.heap.size + 1 + 1) i → DoX S L i) := Lib.hid fun i hi hx => by have := hx.1; omega
    have c32 : w2.cell? ⟨S, 2, none⟩ = some (.map (some (S - 1))) := blk_cell h2s.blk 2
    have x32 : w2.cell? ⟨w.heap.size, 1, none⟩ = some (.string bs) := blk_cell hX2 1
    have lS2 := h2s.lt
    simp only [TP, Option.map_some] at hrun3
    obtain ⟨L1, hL1⟩ : ∃ L1, L1 = L.put k (w1.heap.size + 1 + 1, newB) := ⟨_, rfl⟩
    obtain ⟨b, hb⟩ : ∃ b, b = newB := ⟨_, rfl⟩
    have HLS : Hid (ShM w3 S rh rr L1 ∧ L1.get k = some (w1.heap.size + 1 + 1, b) ∧ L1.mapv (·.2) = (L.mapv (·.2)).put k b) := Lib.hid ⟨by rw [hL1]; exact h3s, by rw [hL1, hb]; exact Sm.get_put_same _ _ _, by rw [hL1, hb, Sm.put_mapv]⟩
    have HMB2 := Lib.hid (HMBn.out.trans hb.symm)
    rw [← hb] at HBS
    have HL1X : Hid (∀ i, i < w.heap.size → DoX S L1 i → DoX S L i) := Lib.hid fun i hi hx => by rw [hL1] at hx; exact DoX.put HGX.out (fun _ _ h => h) i hi hx
    clear h1 h2s hM3 ht3 hg3 hbr2 hk3 hbr3 hK3 h3s hX2 hX1 hB1 hb2a hm2a hm2b hb2 hL1 hb HG
    go_wp2
    go_region
    go_wp2_with fail
    clear hrun3 c32 x32
    have hX1 := hX3
    have hB1 := hB3
    clear hX3 hB3
    generalize w1.heap.size + 1 + 1 = g at *
  all_goals (
    have hM3 := ((HLS.out.1).brd _ (Sm.get_mem HLS.out.2.1)).2
    have hS3 := (HLS.out.1).blk
    have r0 : w3.cell? ⟨S, 0, none⟩ = some (.int .i64 rh) := blk_cell hS3 0
    have r1 : w3.cell? ⟨S, 1, none⟩ = some (.int .i64 rr) := blk_cell hS3 1
    have s0 : w3.cell? ⟨w.heap.size, 0, none⟩ = some (.int .i64 at') := blk_cell hX1 0
    have s1 : w3.cell? ⟨w.heap.size, 1, none⟩ = some (.string bs) := blk_cell hX1 1
    have s2 : w3.cell? ⟨w.heap.size, 2, none⟩ = some (.int .i64 kd) := blk_cell hX1 2
    have s3 : w3.cell? ⟨w.heap.size, 3, none⟩ = some (.string cs) := blk_cell hX1 3
    have e1 := cell_regrown r0
    have e2 := cell_regrown r1
    have e3 := cell_regrown s0
    have e4 := cell_regrown s1
    have e5 := cell_regrown s2
    have e6 := cell_regrown s3
    have HREF0 := fun (d : Nat) (os : Array Obj) => Calls.regrown_of (w := w3) (d := d) (os := os) (refusal_any g b rh rr (at', bs, kd, cs) _ (hM3.below (below_regrown w3 d os)) hcs)
    obtain ⟨R, hR⟩ : ∃ R, R = refB rh rr b (at', bs, kd, cs) := ⟨_, rfl⟩
    rw [← hR] at HREF0
    have HREF := Lib.hid HREF0
    have HD : Hid ((R = 0 → doS rh rr (L.mapv (·.2)) (at', bs, kd, cs) = ((L.mapv (·.2)).put k (doB b (at', bs, kd, cs)), 0)) ∧ (R ≠ 0 → doS rh rr (L.mapv (·.2)) (at', bs, kd, cs) = ((L.mapv (·.2)).put k b, R))) := Lib.hid (by
      rw [hR]
      refine ⟨fun h => ?_, fun h => ?_⟩
      · rw [doS_zero HMB2.out h, HKK.out]
      · rw [doS_ref HMB2.out h, HKK.out])
    have hz3 : S < w3.heap.size := blk_lt hS3
    have lX1 := blk_lt hX1
    have lg3 := hM3.lt
    clear hM3 hS3 HREF0 hR
    go_wp2
    refine wp_region_quiet_below (by kernel_rfl) (by kernel_rfl) ?_
    repeat (go_big_quiet_step ((go_at_call 175; exact HREF.out _ _)))
    refine wpQuiet_nil ?_
    intro w4 hw'
    obtain ⟨⟨dq, osq⟩, hw''⟩ := hw'
    have hb4 : Below w3.heap.size w3 w4 := hw'' ▸ below_regrown w3 dq osq
    clear hw'' e1 e2 e3 e4 e5 e6 HREF r0 r1 s0 s1 s2 s3
    have hX4 := blk_below hX1 hb4
    have hB4 := hB1.tr (Kp.of_below (X := fun _ => False) hb4) (fun _ _ h => h.elim)
    have HL4 := Lib.hid ((HLS.out.1).below hb4)
    by_cases hR0 : R = 0
    case' pos =>
      subst hR0
      have HD1 := Lib.hid (HD.out.1 rfl)
      have HDO := Lib.hid (do_any g b (at', bs, kd, cs) w4 ((HL4.out.brd _ (Sm.get_mem HLS.out.2.1)).2) hcs (HBS.out.mono (by omega)))
      have hgS : S + 3 ≤ g := (HL4.out.brd _ (Sm.get_mem HLS.out.2.1)).1
      have s0 : w4.cell? ⟨w.heap.size, 0, none⟩ = some (.int .i64 at') := blk_cell hX4 0
      have s1 : w4.cell? ⟨w.heap.size, 1, none⟩ = some (.string bs) := blk_cell hX4 1
      have s2 : w4.cell? ⟨w.heap.size, 2, none⟩ = some (.int .i64 kd) := blk_cell hX4 2
      have s3 : w4.cell? ⟨w.heap.size, 3, none⟩ = some (.string cs) := blk_cell hX4 3
      have hz4 := hb4.size
      clear hX1 hX4 hb4 hB1
      go_wp2_with fail
      refine HDO.out.mono ?_
      rintro e w5 ⟨rfl, hM5, hK5⟩
      have HF := Lib.hid (And.intro (HL4.out.turn HLS.out.2.1 hK5 hM5) (hB4.tr hK5 HGX.out))
      clear hM5 hK5 hB4 s0 s1 s2 s3
      go_wp2
      go_ret
      refine ⟨by rw [HD1.out] <;> rfl, L1.put k (g, doB b (at', bs, kd, cs)), HF.out.1, ?_, HF.out.2, DoX.put HGX.out HL1X.out⟩
      rw [HD1.out, Sm.put_mapv, HLS.out.2.2, Sm.put_put OkL.out]
    case' neg =>
      clear hX1 hX4 hb4 hB1
      go_wp2
      go_ret
      exact ⟨by rw [HD.out.2 hR0] <;> rfl, L1, HL4.out, by rw [HD.out.2 hR0, HLS.out.2.2], hB4, HL1X.out⟩)
end Go.Proofs.YtnmimagninhkkaaGreatDoor
