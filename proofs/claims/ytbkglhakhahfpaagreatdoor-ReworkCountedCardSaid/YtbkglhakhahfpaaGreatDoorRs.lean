/- Which steps are refused, and why: the plain law. No conditions. · The reference's shop does a step. Conditions: names of at most 1000 bytes, fewer than 10^5 boards, components, heats; a kind that is one, states that are some. · The reference's shop after all steps up to a moment, and which are refused. Conditions: right steps. -/
import Derived.Test.YtbkglhakhahfpaaGreatDoorHop
import Derived.Test.YtbkglhakhahfpaaGreatDoorRr
import Derived.Deep.CutBlock
import Derived.Test.YtbkglhakhahfpaaGreatDoorSpr
namespace Go.Proofs.YtbkglhakhahfpaaGreatDoor
open Go.RowKit Go.Sort Go.Maps

/-- the steps that are refused behind so many, and why. -/
def refL (rh rr : Int) : Nat → Sm Bd0 → List Stp → List (Int × Int)
  | _, _, [] => []
  | i, m, s :: l => if (doS rh rr m s).2 = 0 then refL rh rr (i + 1) (doS rh rr m s).1 l else ((i : Int), (doS rh rr m s).2) :: refL rh rr (i + 1) (doS rh rr m s).1 l
theorem refL_go {rh rr : Int} {l : List Stp} {k : Nat} {s : Stp} {m : Sm Bd0} (hs : l[k]? = some s) (h : (doS rh rr m s).2 = 0) : refL rh rr k m (l.drop k) = refL rh rr (k + 1) (doS rh rr m s).1 (l.drop (k + 1)) := by
  obtain ⟨hk, he⟩ := List.getElem?_eq_some_iff.1 hs
  rw [List.drop_eq_getElem_cons hk, he, refL, if_pos h]
theorem refL_no {rh rr : Int} {l : List Stp} {k : Nat} {s : Stp} {m : Sm Bd0} (hs : l[k]? = some s) (h : (doS rh rr m s).2 ≠ 0) : refL rh rr k m (l.drop k) = ((k : Int), (doS rh rr m s).2) :: refL rh rr (k + 1) (doS rh rr m s).1 (l.drop (k + 1)) := by
  obtain ⟨hk, he⟩ := List.getElem?_eq_some_iff.1 hs
  rw [List.drop_eq_getElem_cons hk, he, refL, if_neg h]
theorem refL_len {rh rr : Int} : ∀ (l : List Stp) (i : Nat) (m : Sm Bd0), (refL rh rr i m l).length ≤ l.length
  | [], _, _ => Nat.le_refl _
  | s :: l, i, m => by
    rw [refL]
    split
    · exact Nat.le_trans (refL_len l _ _) (Nat.le_succ _)
    · exact Nat.succ_le_succ (refL_len l _ _)
end Go.Proofs.YtbkglhakhahfpaaGreatDoor
namespace Go.Proofs.YtbkglhakhahfpaaGreatDoor
open Go.RowKit Go.Sort Go.Maps

theorem Kp.set1 {a w : World} {g : Nat} (h : Kp a w (fun i => i = g)) (j : Nat) (u : Value) : Kp a (w.setCell ⟨g, j, none⟩ u) (fun i => i = g) :=
  h.trans (Kp.of_gr (s := g) (Gr.set (Gr.refl w (some g)) g j (.inl rfl) u) rfl)
theorem LifeM.noG {w : World} {g : Nat} {b : Bd0} (h : LifeM w g b) : NoStr w (fun i => i = g) := fun i cur hi e => by
  subst e; exact h.noStr cur hi
theorem Kp.tail {a b c : World} {X : Nat → Prop} (h : Kp a b X) (k : Below a.heap.size b c) : Kp a c X :=
  ⟨k.os.trans h.os, k.tape.trans h.tape, k.output.trans h.output, Nat.le_trans h.size k.size, fun i hi hx => (k.block i hi).trans (h.block i hi hx)⟩
theorem key_map {ks : List Bs} {c : ByteArray} : ks.map baOf ++ [c] = (ks ++ [c.data.toList]).map baOf := by
  rw [List.map_append]
  congr 1
/-- a life whose block has been written. -/
theorem LifeM.wrote {w w' : World} {g : Nat} {b : Bd0} (h : LifeM w g b) (hk : Kp w w' (fun i => i = g)) {st si he : Int} {op : Sm Bool} {v : Value} (hop : Sm.Ok op ∧ ∀ p ∈ op, p.2 = true)
    (hb : w'.heap[g]? = some (.cells #[.int .i64 st, .int .i64 si, .int .i64 he, v, .map (some (g - 1))] 177 (0, 0))) (hv : OwnR TS w' 0 v (op.keys.map baOf)) : LifeM w' g { b with st := st, si := si, he := he, op := op } := by
  obtain ⟨k1, k2, k3, u, k4, k5⟩ := h
  exact ⟨k1, hk.ms k2 (by omega), hop, v, hb, hv⟩
/-- a life behind a step, its state not yet turned; its next state. -/
def midB (b : Bd0) (s : Stp) : Bd0 × Int :=
  if s.kd = 1 then ({ b with he := b.he + 1 }, 2)
  else if s.kd = 2 then ({ b with op := b.op.put s.co.data.toList true }, 3)
  else if s.kd = 3 then (b, 4)
  else if s.kd = 4 then (if (b.op.del s.co.data.toList).length = 0 then ({ b with op := b.op.del s.co.data.toList, rp := b.rp.put s.co.data.toList (b.reps s.co + 1), he := b.he + 1, lp := b.lp + 1 }, 2)
    else ({ b with op := b.op.del s.co.data.toList, rp := b.rp.put s.co.data.toList (b.reps s.co + 1), he := b.he + 1 }, b.st))
  else if s.kd = 5 then (b, 5) else (b, 6)
theorem doB_mid {b : Bd0} {s : Stp} (hk : 1 ≤ s.kd ∧ s.kd ≤ 6) : doB b s = (midB b s).1.become (midB b s).2 s.at ∧ (midB b s).1.st = b.st := by
  unfold doB midB
  by_cases h1 : s.kd = 1
  · simp only [if_pos h1]; exact ⟨by first | trivial | rfl, by first | trivial | rfl⟩
  by_cases h2 : s.kd = 2
  · simp only [if_neg h1, if_pos h2]; exact ⟨by first | trivial | rfl, by first | trivial | rfl⟩
  by_cases h3 : s.kd = 3
  · simp only [if_neg h1, if_neg h2, if_pos h3]; exact ⟨by first | trivial | rfl, by first | trivial | rfl⟩
  by_cases h4 : s.kd = 4
  · simp only [if_neg h1, if_neg h2, if_neg h3, if_pos h4]
    split
    · exact ⟨by first | trivial | rfl, by first | trivial | rfl⟩
    · refine ⟨?_, rfl⟩
      unfold Bd0.become becA
      simp
  by_cases h5 : s.kd = 5
  · simp only [if_neg h1, if_neg h2, if_neg h3, if_neg h4, if_pos h5]; exact ⟨by first | trivial | rfl, by first | trivial | rfl⟩
  have h6 : s.kd = 6 := by omega
  simp only [if_neg h1, if_neg h2, if_neg h3, if_neg h4, if_neg h5, if_pos h6]; exact ⟨by first | trivial | rfl, by first | trivial | rfl⟩
/-- a life whose loops are counted otherwise lies alike. -/
theorem LifeM.lp {w : World} {g : Nat} {b : Bd0} (h : LifeM w g b) (n : Int) : LifeM w g { b with lp := n } := h
set_option maxHeartbeats 4000000 in
set_option maxRecDepth 100000 in
theorem RDo_any (S : Nat) (rh rr : Int) (L : Sm BdM) (s : Stp) (w : World) (h : ShR w S rh rr L) (hbd : s.bd.size ≤ 1000) (hco : s.co.size ≤ 1000) (hkd : 1 ≤ s.kd ∧ s.kd ≤ 6) (hL : AllSm (L.mapv (·.2)) 100000)
    (hst : ∀ p ∈ L, 1 ≤ p.2.2.st ∧ p.2.2.st ≤ 6) :
    Calls Tryz.prog 111 #[.pointer (some ⟨S, 0, none⟩), stpV s] w fun e w' => e = .returned (.int .i64 (doS rh rr (L.mapv (·.2)) s).2) ∧ ∃ L', ShR w' S rh rr L' ∧ L'.mapv (·.2) = (doS rh rr (L.mapv (·.2)) s).1 ∧ Kp w w' (DoR S L) := by
  obtain ⟨at', bs, kd, cs⟩ := s
  have hbs : bs.size ≤ 1000 := hbd
  have hcs : cs.size ≤ 1000 := hco
  have hk1 : 1 ≤ kd ∧ kd ≤ 6 := hkd
  have hLl : L.length ≤ 100000 := by have := hL.1; rwa [Sm.len_mapv] at this
  have hlS := h.lt
  have h2 := h.two
  have hop : ∀ p ∈ L, p.2.2.op.length ≤ 100000 := fun p hp => by
    have h1 := hL.get p.1
    rw [Sm.get_mapv, Sm.get_of_mem h.ok (show (p.1, p.2) ∈ L from hp)] at h1
    exact h1.2.2.2.2.1
  obtain ⟨w0, hw0⟩ : ∃ w0, w0 = w.alloc (.cells #[.int .i64 at', .string bs, .int .i64 kd, .string cs] 133) := ⟨_, rfl⟩
  have hA : Below w.heap.size w w0 := by rw [hw0]; exact Bl.alloc (Below.refl _ _) _
  have hX0 : w0.heap[w.heap.size]? = some (.cells #[.int .i64 at', .string bs, .int .i64 kd, .string cs] 133 (0, 0)) := by rw [hw0]; exact blk_new w _
  have hz0 : w.heap.size < w0.heap.size := blk_lt hX0
  have c0 : w0.cell? ⟨w.heap.size, 0, none⟩ = some (.int .i64 at') := blk_cell hX0 0
  have c1 : w0.cell? ⟨w.heap.size, 1, none⟩ = some (.string bs) := blk_cell hX0 1
  have c2 : w0.cell? ⟨w.heap.size, 2, none⟩ = some (.int .i64 kd) := blk_cell hX0 2
  have c3 : w0.cell? ⟨w.heap.size, 3, none⟩ = some (.string cs) := blk_cell hX0 3
  have HRF0 := RRefuses_any S rh rr L (at', bs, kd, cs) w0 (h.below hA) hbd hco hkd hLl hst hop
  have HRF := Lib.hid HRF0
  have HX0 := Lib.hid hX0
  have HA := Lib.hid hA
  have HOK := Lib.hid (And.intro h.ok hL)
  change Calls _ _ #[_, .agg #[.int .i64 at', .string bs, .int .i64 kd, .string cs]] _ _
  clear hX0 hA h hst hop HRF0 hL
  go_enter Tryz.func111, Tryz.ntmps111
  go_wp2_with fail
  rw [← hw0]
  clear hw0
  refine HRF.out.mono ?_
  rintro e w1 ⟨g, b, rfl, hS1, hor, hK1⟩
  obtain ⟨k, hkk⟩ : ∃ k, k = bs.data.toList := ⟨_, rfl⟩
  have hkk2 : (Stp.bd (at', bs, kd, cs)).data.toList = k := hkk.symm
  rw [hkk2] at hS1 hor
  obtain ⟨R, hR⟩ : ∃ R, R = refB rh rr b (at', bs, kd, cs) := ⟨_, rfl⟩
  rw [← hR]
  have hm0 : ((L.mapv (·.2)).get k).getD newB = b := by
    rw [Sm.get_mapv]
    rcases hor with e | ⟨e, e2, _⟩
    · rw [e]; rfl
    · rw [e, e2]; rfl
  have HDS : Hid (∀ b', b' = doB b (at', bs, kd, cs) → doS rh rr (L.mapv (·.2)) (at', bs, kd, cs) = if R = 0 then ((L.mapv (·.2)).put k b', 0) else ((L.mapv (·.2)).put k b, R)) := Lib.hid fun b' hb' => by
    unfold doS
    rw [hkk2, hm0, ← hR, hb']
  have hX1 := hK1.blk HX0.out (by omega)
  have hKX : Kp w w1 (DoR S L) := (Kp.of_below (X := DoR S L) HA.out).trans (hK1.mono fun i _ hi => .inl hi)
  have hSb : b.Sm1 100000 := by
    have h1 := HOK.out.2.get k
    rw [hm0] at h1
    exact h1
  have HS1 := Lib.hid (And.intro hS1 (And.intro hor (And.intro hKX hSb)))
  have hHP : Hid ((L.put k (g, b)).mapv (·.2) = (L.mapv (·.2)).put k b) := Lib.hid (Sm.put_mapv ..)
  have HRR := Lib.hid hR
  clear hR
  by_cases h0 : R = 0
  case' neg =>
    clear hS1 hor hK1 hX1 hKX hSb hm0 hkk hkk2 c0 c1 c2 c3
    go_wp2
    go_ret
    refine ⟨by rw [HDS.out _ rfl, if_neg h0] <;> rfl, L.put k (g, b), HS1.out.1, ?_, HS1.out.2.2.1⟩
    rw [HDS.out _ rfl, if_neg h0, hHP.out]
  case' pos =>
    subst h0
    have hz1 := hK1.size
    have hor2 := hor
    have hg1 : (L.put k (g, b)).get k = some (g, b) := Sm.get_put_same L k (g, b)
    have hplen : (L.put k (g, b)).length ≤ 100001 := Nat.le_trans (Sm.put_le L k (g, b)) (by omega)
    have HBD0 := RBoard_any S rh rr (L.put k (g, b)) bs w1 hS1 (by unfold maxLen; omega) (by omega)
    rw [← hkk, hg1] at HBD0
    have HBD : Hid (Calls Tryz.prog 110 #[.pointer (some ⟨S, 0, none⟩), .string bs] w1 fun e w' => e = .returned (.pointer (some ⟨g, 0, none⟩)) ∧ w1 = w') := Lib.hid (HBD0.mono (by
      rintro e w' ⟨g', b', rfl, _, ⟨h1, h2⟩ | ⟨h1, _⟩⟩
      · injection h1 with h1
        injection h1 with h1 _
        rw [h1]; exact ⟨rfl, h2⟩
      · cases h1))
    have hgm := hS1.brd _ (Sm.get_mem hg1)
    obtain ⟨hgS, hLf⟩ := hgm
    have HLf := Lib.hid hLf
    obtain ⟨_, _, hopk, v, hgb, hov⟩ := hLf
    obtain ⟨va, vc, rfl, _, _⟩ := hov.form
    obtain ⟨ol, hol⟩ : ∃ n, n = (b.op.keys.map baOf).length := ⟨_, rfl⟩
    rw [← hol] at hov hgb
    have HOV := Lib.hid hov
    have HGB := Lib.hid hgb
    have HOPK := Lib.hid hopk
    have HOL := Lib.hid hol
    have lX1 := blk_lt hX1
    have lg := blk_lt hgb
    have x0 : w1.cell? ⟨w.heap.size, 0, none⟩ = some (.int .i64 at') := blk_cell hX1 0
    have x1 : w1.cell? ⟨w.heap.size, 1, none⟩ = some (.string bs) := blk_cell hX1 1
    have x2 : w1.cell? ⟨w.heap.size, 2, none⟩ = some (.int .i64 kd) := blk_cell hX1 2
    have x3 : w1.cell? ⟨w.heap.size, 3, none⟩ = some (.string cs) := blk_cell hX1 3
    have p0 : w1.cell? ⟨g, 0, none⟩ = some (.int .i64 b.st) := blk_cell hgb 0
    have p1 : w1.cell? ⟨g, 1, none⟩ = some (.int .i64 b.si) := blk_cell hgb 1
    have p2 : w1.cell? ⟨g, 2, none⟩ = some (.int .i64 b.he) := blk_cell hgb 2
    have p3 : w1.cell? ⟨g, 3, none⟩ = some (.slice va ol vc) := blk_cell hgb 3
    have p4 : w1.cell? ⟨g, 4, none⟩ = some (.map (some (g - 1))) := blk_cell hgb 4
    have f0 := blk_free hgb 0
    have f1 := blk_free hgb 1
    have f2 := blk_free hgb 2
    have f3 := blk_free hgb 3
    have HMID := Lib.hid (doB_mid (b := b) (s := (at', bs, kd, cs)) hkd)
    have HX1 := Lib.hid hX1
    have hXg : w.heap.size ≠ g := by
      intro e
      have h1 := HX1.out
      rw [e, HGB.out] at h1
      injection h1 with h1
      injection h1 with _ h1 _
      exact absurd h1 (by decide)
    have hwhe : IntKind.i64.wrap (b.he + 1) = b.he + 1 := IntWalk.i64_in _ (by have h1 := hSb.1; have h2 := hSb.2.1; omega)
    clear hS1 hor hor2 hK1 hX1 hKX hm0 hgb hov hopk hol c0 c1 c2 c3 HBD0 hg1 hplen
    go_wp2_with fail
    refine HBD.out.mono ?_
    rintro e w' ⟨rfl, rfl⟩
    go_upto_block 0 with fail
    go_cut [7] from 25 to 99 (fun v7 wx => Hid (v7 = .int .i64 (midB b (at', bs, kd, cs)).2 ∧ LifeM wx g (midB b (at', bs, kd, cs)).1 ∧ Kp w1 wx (InL g)))
    case first =>
      have hcase : kd = 1 ∨ kd = 2 ∨ kd = 3 ∨ kd = 4 ∨ kd = 5 ∨ kd = 6 := by omega
      rcases hcase with rfl | rfl | rfl | rfl | rfl | rfl
      · have hb := blk_set HGB.out 2 (.int .i64 (b.he + 1))
        have hk := (Kp.refl w1 (fun i => i = g)).set1 2 (.int .i64 (b.he + 1))
        have hov := HOV.out.keepS hk HLf.out.noG
        rw [HOL.out] at hb
        have HF : Hid (LifeM (w1.setCell ⟨g, 2, none⟩ (.int .i64 (b.he + 1))) g (midB b (at', bs, 1, cs)).1 ∧ Kp w1 (w1.setCell ⟨g, 2, none⟩ (.int .i64 (b.he + 1))) (InL g)) := Lib.hid ⟨HLf.out.wrote hk HOPK.out hb (by rw [← HOL.out]; exact hov), hk.mono fun i _ h => .inl h⟩
        clear hb hk hov
        go_wp2
        go_meet
        case rel => exact Lib.hid ⟨rfl, HF.out.1, HF.out.2⟩
      · have hno : b.op.get cs.data.toList = none := by
          have h1 := HRR.out
          unfold refB at h1
          rw [if_neg (show ¬ (2 : Int) = 1 by decide), if_pos (show (2 : Int) = 2 from rfl)] at h1
          split at h1
          · cases h1
          · split at h1
            · cases h1
            · rename_i h3
              cases hg : b.op.get cs.data.toList with
              | none => rfl
              | some x =>
                exfalso
                apply h3
                show (b.op.get cs.data.toList).getD false = true
                rw [hg]
                exact HOPK.out.2 _ (Sm.get_mem hg)
        have hkl : b.op.keys.length ≤ 100000 := by rw [keys_len]; exact hSb.2.2.2.2.1
        have HCL : Hid (∀ U : World, Below w1.heap.size w1 U → Calls Tryz.prog 48 #[.slice va ol vc] U fun e w' => ∃ cv, e = .returned cv ∧ Hid (OwnR TS w' w1.heap.size cv (b.op.keys.map baOf)) ∧ Below U.heap.size U w') := Lib.hid fun U hU => by
          refine (CloneS_any (b.op.keys.map baOf) (.slice va ol vc) U (by rw [List.length_map]; exact hkl) (HOV.out.rec0.below hU)).mono ?_
          rintro e w' ⟨cv, rfl, h1, h2⟩
          exact ⟨cv, rfl, Lib.hid (h1.base hU.size), h2⟩
        have HNO := Lib.hid hno
        have HKL := Lib.hid hkl
        clear hno hkl
        go_upto_region 13 with fail
        go_cut [7] from 25 to 51 (fun v7 wx => Hid (v7 = .int .i64 3 ∧ ∃ v3 w3, wx = w3.setCell ⟨g, 3, none⟩ v3 ∧ OwnR TS w3 w1.heap.size v3 ((b.op.keys ++ [cs.data.toList]).map baOf) ∧ Below w1.heap.size w1 w3))
        case first =>
          go_region_law (first
            | (refine step_goN rfl 48 #[.tmp 43] _ rfl (enters_of Tryz.func48 (by kernel_rfl) rfl) #[.slice va ol vc] (by simp [Act.eval, Act.put]) _ (by have hh := HCL.out; first | exact hh _ (Below.drew (Below.refl _ _)) | exact hh _ (Bl.alloc (Below.drew (Below.refl _ _)) _)) ?_; rintro e w2 ⟨cv, rfl, HCO, hb2⟩; refine ⟨_, rfl, ?_⟩; have hbU : Below w1.heap.size w1 w2 := (by first | exact Bl.trans (Below.drew (Below.refl _ _)) hb2 | exact Bl.trans (Bl.alloc (Below.drew (Below.refl _ _)) _) hb2); have d3 := (hbU.cell (p := ⟨w.heap.size, 3, none⟩) lX1).trans x3; have lx2 : w.heap.size < w2.heap.size := Nat.lt_of_lt_of_le lX1 hbU.size; (first | (have HLB : Hid (w2.heap[w1.heap.size]? = some (.cells #[.string cs] 9 (0, 0))) := Lib.hid (blk_below (blk_new w1.drew (.cells #[.string cs] 9)) hb2)) | skip); have HBU := Lib.hid hbU; clear hbU hb2)
            | (refine step_app_rec TS.ok rfl (.tmp 44) (.tmp 47) rfl w1.heap.size cv (b.op.keys.map baOf) (by simp [Act.eval, Act.put]) HCO.out w1.heap.size 1 cs (by simp [Act.eval, Act.put]) HLB.out rfl (by rw [List.length_map]; have := HKL.out; omega) HBU.out.size ?_; intro v3 w3 hO3 hg3 hb3; obtain ⟨a3, n3, c3v, rfl⟩ : ∃ a n c, v3 = .slice a n c := (by obtain ⟨a, c, h, _, _⟩ := hO3.form; exact ⟨a, _, c, h⟩); have hb13 := Below.trans HBU.out hb3; have hgb3 := blk_below HGB.out hb13; have u3 := blk_cell hgb3 3; have y3 := blk_free hgb3 3; have HO3 := Lib.hid (And.intro hO3 hb13); simp at u3; clear hO3 hg3 hb3 hb13 hgb3)
            | (refine step_app_rec TS.ok rfl (.tmp 44) (.tmp 47) rfl w1.heap.size cv (b.op.keys.map baOf) (by simp [Act.eval, Act.put]) (HCO.out.alloc _) w2.heap.size 1 cs (by simp [Act.eval, Act.put]) (blk_new w2 _) rfl (by rw [List.length_map]; have := HKL.out; omega) (by have := HBU.out.size; simp; omega) ?_; intro v3 w3 hO3 hg3 hb3; obtain ⟨a3, n3, c3v, rfl⟩ : ∃ a n c, v3 = .slice a n c := (by obtain ⟨a, c, h, _, _⟩ := hO3.form; exact ⟨a, _, c, h⟩); have hb13 := Below.trans (Bl.alloc HBU.out _) hb3; have hgb3 := blk_below HGB.out hb13; have u3 := blk_cell hgb3 3; have y3 := blk_free hgb3 3; have HO3 := Lib.hid (And.intro hO3 hb13); simp at u3; clear hO3 hg3 hb3 hb13 hgb3))
          all_goals (
            go_wp2
            go_meet
            case rel => exact Lib.hid ⟨rfl, .slice a3 n3 c3v, w3, rfl, by rw [← key_map]; exact HO3.out.1, HO3.out.2⟩)
        case rest =>
          obtain ⟨rfl, v3, w3, rfl, hO3, hb13⟩ := hcut.out
          obtain ⟨a3, n3, c3v, rfl⟩ : ∃ a n c, v3 = .slice a n c := (by obtain ⟨a, c, h, _, _⟩ := hO3.form; exact ⟨a, _, c, h⟩)
          have hgb3 := blk_below HGB.out hb13
          obtain ⟨Wb, hWb⟩ : ∃ Wb, Wb = w3.setCell ⟨g, 3, none⟩ (.slice a3 n3 c3v) := ⟨_, rfl⟩
          have hgbb : Wb.heap[g]? = some (.cells #[.int .i64 b.st, .int .i64 b.si, .int .i64 b.he, .slice a3 n3 c3v, .map (some (g - 1))] 177 (0, 0)) := by rw [hWb]; exact blk_set hgb3 3 (.slice a3 n3 c3v)
          have hob : OwnR TS Wb w1.heap.size (.slice a3 n3 c3v) ((b.op.keys ++ [cs.data.toList]).map baOf) := by rw [hWb]; exact hO3.far lg 3 _
          have hkb : Kp w1 Wb (fun i => i = g) := by rw [hWb]; exact (Kp.of_below (X := fun i => i = g) hb13).set1 3 _
          have b3 : Wb.cell? ⟨g, 3, none⟩ = some (.slice a3 n3 c3v) := blk_cell hgbb 3
          have HSO := Lib.hid (SortK_any (HOPK.out.1.put cs.data.toList true) (b.op.keys ++ [cs.data.toList]) (keys_put HNO.out true).symm w1.heap.size (.slice a3 n3 c3v) Wb hob (by rw [List.length_append]; have := HKL.out; simp; omega))
          have HBB := Lib.hid (And.intro hgbb (And.intro hob hkb))
          rw [← hWb]
          clear hWb hgbb hob hkb hgb3 hO3 hb13 hcut
          go_wp2_with fail
          refine HSO.out.mono ?_
          rintro e w5 ⟨rfl, hO5, hG5⟩
          have hb5 : Below w1.heap.size Wb w5 := app_belowR HBB.out.2.1 hG5 HBB.out.2.2.size
          have hk5 := HBB.out.2.2.tail hb5
          have HF : Hid (LifeM w5 g (midB b (at', bs, 2, cs)).1 ∧ Kp w1 w5 (InL g)) := Lib.hid ⟨HLf.out.wrote (st := b.st) (si := b.si) (he := b.he) hk5 ⟨HOPK.out.1.put _ _, fun p hp => by
            rcases Sm.put_mem.1 hp with rfl | ⟨hp, _⟩
            · rfl
            · exact HOPK.out.2 p hp⟩ ((hb5.block g lg).trans HBB.out.1) (hO5.base (Nat.zero_le _)), hk5.mono fun i _ h => .inl h⟩
          clear hb5 hk5 hO5 hG5
          go_wp2
          go_meet
          case rel => exact Lib.hid ⟨rfl, HF.out.1, HF.out.2⟩
      · go_wp2
        go_meet
        case rel => exact Lib.hid ⟨rfl, HLf.out, Kp.refl _ _⟩
      · have hkl : b.op.keys.length ≤ 100000 := by rw [keys_len]; exact hSb.2.2.2.2.1
        have hrpl : b.rp.length ≤ 100000 := hSb.2.2.2.2.2.1
        have hrb := hSb.reps cs
        have HCL := Lib.hid (CloneS_any (b.op.keys.map baOf) (.slice va ol vc) w1 (by rw [List.length_map]; exact hkl) HOV.out.rec0)
        have HKL := Lib.hid (And.intro hkl hrpl)
        clear hkl hrpl
        go_wp2_with fail
        refine HCL.out.mono ?_
        rintro e w2 ⟨cv, rfl, hCO, hb2⟩
        have hDQ : DoQ w2 w1.heap.size w.heap.size b.op.keys (fun x => decide (x = cs.data.toList)) := fun W hW x _ => doC_any w.heap.size cs x W (((Below.trans hb2 hW).cell (p := ⟨w.heap.size, 3, none⟩) lX1).trans x3)
        have HDL := Lib.hid (DeleteD_any w2 w1.heap.size w.heap.size hb2.size b.op.keys (fun x => decide (x = cs.data.toList)) cv HKL.out.1 hCO hDQ)
        have HB2 := Lib.hid hb2
        clear hDQ hCO hb2 HCL
        go_wp2_with fail
        refine HDL.out.mono ?_
        rintro e w3 ⟨⟨v3, rfl, hO3⟩, hb3⟩
        have hO3' : OwnR TS w3 w1.heap.size v3 ((b.op.del cs.data.toList).keys.map baOf) := by
          rw [keys_del, show (fun x : Bs => decide (x ≠ cs.data.toList)) = fun x => !decide (x = cs.data.toList) from funext fun x => by simp]
          exact hO3
        obtain ⟨a3, n3, c3v, hv3, hn3⟩ : ∃ a n c, v3 = .slice a n c ∧ n = (b.op.del cs.data.toList).length := by
          obtain ⟨a, c, h, _, _⟩ := hO3'.form
          exact ⟨a, _, c, h, by rw [List.length_map, keys_len]⟩
        subst hv3
        have hb13 := Below.trans HB2.out hb3
        have hgb3 := blk_below HGB.out hb13
        have lg3 := blk_lt hgb3
        have lx3 : w.heap.size < w3.heap.size := Nat.lt_of_lt_of_le lX1 hb13.size
        have u3 : w3.cell? ⟨g, 3, none⟩ = some (.slice va ol vc) := blk_cell hgb3 3
        have u4 : w3.cell? ⟨g, 4, none⟩ = some (.map (some (g - 1))) := blk_cell hgb3 4
        have y3 := blk_free hgb3 3
        have d3 := (hb13.cell (p := ⟨w.heap.size, 3, none⟩) lX1).trans x3
        have hkb : Kp w1 (w3.setCell ⟨g, 3, none⟩ (.slice a3 n3 c3v)) (fun i => i = g) := (Kp.of_below (X := fun i => i = g) hb13).set1 3 _
        have hMb : MapS TI (w3.setCell ⟨g, 3, none⟩ (.slice a3 n3 c3v)).drew (g - 1) b.rp := (hkb.ms HLf.out.2.1 (by have := HLf.out.1; omega)).drew
        obtain ⟨rb, hrbe⟩ : ∃ rb, rb = b.reps cs := ⟨_, rfl⟩
        have hlk : (Instr.lookup 158 (.map (some (g - 1))) (.string cs) false).run Tryz.prog (w3.setCell ⟨g, 3, none⟩ (.slice a3 n3 c3v)).drew = .ok (.int .i64 rb) (w3.setCell ⟨g, 3, none⟩ (.slice a3 n3 c3v)).drew := by
          rw [hrbe]; exact hMb.look TI.ok cs (by unfold maxLen; omega)
        obtain ⟨w4, hup, hM4, ht4⟩ := MapS.put hMb TI.ok cs (by unfold maxLen; omega) (rb + 1) (by unfold maxLen; have := HKL.out.2; omega)
        have hup2 : (Instr.mapUpdate 158 (.map (some (g - 1))) (.string cs) (.int .i64 (rb + 1))).run Tryz.prog (w3.setCell ⟨g, 3, none⟩ (.slice a3 n3 c3v)).drew = .ok () w4 := hup
        have hwrb : IntKind.i64.wrap (rb + 1) = rb + 1 := IntWalk.i64_in _ (by rw [hrbe]; omega)
        have hg4 := ht4.grown
        have hk4 : Kp (w3.setCell ⟨g, 3, none⟩ (.slice a3 n3 c3v)).drew w4 (fun i => i = g - 1) := Kp.of_gr (s := g - 1) ⟨hg4.os, hg4.tape, hg4.output, hg4.size, hg4.block⟩ rfl
        have hg1z := HLf.out.1
        have hgb4 : w4.heap[g]? = some (.cells #[.int .i64 b.st, .int .i64 b.si, .int .i64 b.he, .slice a3 n3 c3v, .map (some (g - 1))] 177 (0, 0)) := hk4.blk (show (w3.setCell ⟨g, 3, none⟩ (.slice a3 n3 c3v)).drew.heap[g]? = _ from blk_set hgb3 3 (.slice a3 n3 c3v)) (by omega)
        have hO4 : OwnR TS w4 0 (.slice a3 n3 c3v) ((b.op.del cs.data.toList).keys.map baOf) := ((hO3'.far lg 3 (.slice a3 n3 c3v)).base (Nat.zero_le _)).keepS (w := (w3.setCell ⟨g, 3, none⟩ (.slice a3 n3 c3v))) ((Kp.of_below (X := fun i => i = g - 1) (Below.drew (Below.refl _ _))).trans hk4) (fun i cur hi e => by subst e; exact MapS.noStr (hkb.ms HLf.out.2.1 (by omega)) cur hi)
        have hk14 : Kp w1 w4 (InL g) := (hkb.mono fun i _ h => .inl h).trans (((Kp.of_below (X := InL g) (Below.drew (Below.refl _ _))).trans (hk4.mono fun i _ h => .inr h)))
        have lg4 := blk_lt hgb4
        have q2 : w4.cell? ⟨g, 2, none⟩ = some (.int .i64 b.he) := blk_cell hgb4 2
        have q3 : w4.cell? ⟨g, 3, none⟩ = some (.slice a3 n3 c3v) := blk_cell hgb4 3
        have r2 := blk_free hgb4 2
        have HF : Hid (LifeM (w4.setCell ⟨g, 2, none⟩ (.int .i64 (b.he + 1))) g { b with op := b.op.del cs.data.toList, rp := b.rp.put cs.data.toList (b.reps cs + 1), he := b.he + 1 } ∧ Kp w1 (w4.setCell ⟨g, 2, none⟩ (.int .i64 (b.he + 1))) (InL g)) := Lib.hid (by
          have hks := (Kp.refl w4 (fun i => i = g)).set1 2 (.int .i64 (b.he + 1))
          refine ⟨⟨hg1z, ?_, ⟨HOPK.out.1.del _, fun p hp => HOPK.out.2 p (List.mem_filter.1 hp).1⟩, .slice a3 n3 c3v, blk_set hgb4 2 (.int .i64 (b.he + 1)), ?_⟩, hk14.trans (hks.mono fun i _ h => .inl h)⟩
          · rw [← hrbe]; exact hks.ms hM4 (by omega)
          · refine hO4.keepS hks (fun i cur hi e => ?_)
            subst e
            rw [hgb4] at hi
            injection hi with hi
            injection hi with _ hi _
            exact absurd hi (by decide))
        have HN3 := Lib.hid hn3
        clear hup hM4 ht4 hg4 hk4 hgb4 hO4 hk14 hMb hkb hgb3 hb13 hO3 hO3' hb3 hn3 hrb hrbe
        by_cases hz : n3 = 0
        · have hq1 : ((n3 : Int) == 0) = true := by simp [hz]
          have hq2 : (n3 : Int) = 0 := by omega
          have hM : Hid (midB b (at', bs, 4, cs) = ({ b with op := b.op.del cs.data.toList, rp := b.rp.put cs.data.toList (b.reps cs + 1), he := b.he + 1, lp := b.lp + 1 }, 2)) := Lib.hid (by
            unfold midB
            rw [if_neg (show ¬ (4 : Int) = 1 by decide), if_neg (show ¬ (4 : Int) = 2 by decide), if_neg (show ¬ (4 : Int) = 3 by decide), if_pos (show (4 : Int) = 4 from rfl), if_pos (by rw [← HN3.out]; exact hz)])
          have HQ := Lib.hid (And.intro hz hq2)
          clear hz hq2
          go_wp2_with fail
          go_region
          go_wp2
          go_meet
          case rel => exact Lib.hid ⟨by rw [hM.out], by rw [hM.out]; exact HF.out.1, HF.out.2⟩
        · have hq1 : ((n3 : Int) == 0) = false := by simp [hz]
          have hM : Hid (midB b (at', bs, 4, cs) = ({ b with op := b.op.del cs.data.toList, rp := b.rp.put cs.data.toList (b.reps cs + 1), he := b.he + 1 }, b.st)) := Lib.hid (by
            unfold midB
            rw [if_neg (show ¬ (4 : Int) = 1 by decide), if_neg (show ¬ (4 : Int) = 2 by decide), if_neg (show ¬ (4 : Int) = 3 by decide), if_pos (show (4 : Int) = 4 from rfl), if_neg (by rw [← HN3.out]; exact hz)])
          have hq2 : ¬ (n3 : Int) = 0 := by omega
          go_wp2_with fail
          go_region
          go_wp2
          go_meet
          case rel => exact Lib.hid ⟨by rw [hM.out], by rw [hM.out]; exact HF.out.1, HF.out.2⟩
      · go_wp2
        go_meet
        case rel => exact Lib.hid ⟨rfl, HLf.out, Kp.refl _ _⟩
      · go_wp2
        go_meet
        case rel => exact Lib.hid ⟨rfl, HLf.out, Kp.refl _ _⟩
    case rest =>
      obtain ⟨W, rfl⟩ : ∃ W : World, W = wc := ⟨_, rfl⟩
      obtain ⟨b2, hb2⟩ : ∃ b2, b2 = (midB b (at', bs, kd, cs)).1 := ⟨_, rfl⟩
      obtain ⟨n, hn⟩ : ∃ n, n = (midB b (at', bs, kd, cs)).2 := ⟨_, rfl⟩
      have hm2 := HMID.out
      rw [← hb2, ← hn] at hm2 hcut
      obtain ⟨rfl, hLw, hKw⟩ := hcut.out
      have hXm : w.heap.size ≠ g - 1 := by
        intro e
        obtain ⟨_, es, clock, hb9, _⟩ := HLf.out.2.1
        have h1 := HX1.out
        rw [e, hb9] at h1
        injection h1 with h1
        cases h1
      have hXw := hKw.blk HX1.out (fun h => by rcases h with h | h; exact hXg h; exact hXm h)
      have HLW := Lib.hid hLw
      obtain ⟨hg1w, _, hopw, v2, hgw, hovw⟩ := hLw
      have p0 : W.cell? ⟨g, 0, none⟩ = some (.int .i64 b2.st) := blk_cell hgw 0
      have p1 : W.cell? ⟨g, 1, none⟩ = some (.int .i64 b2.si) := blk_cell hgw 1
      have f0 := blk_free hgw 0
      have f1 := blk_free hgw 1
      have x0 : W.cell? ⟨w.heap.size, 0, none⟩ = some (.int .i64 at') := blk_cell hXw 0
      have lg2 := blk_lt hgw
      have lx2 := blk_lt hXw
      have HSH : Hid (∀ W' : World, Kp w1 W' (InL g) → LifeM W' g (doB b (at', bs, kd, cs)) → ∃ L', ShR W' S rh rr L' ∧ L'.mapv (·.2) = (doS rh rr (L.mapv (·.2)) (at', bs, kd, cs)).1 ∧ Kp w W' (DoR S L)) := Lib.hid fun W' hk hl => by
        refine ⟨(L.put k (g, b)).put k (g, doB b (at', bs, kd, cs)), HS1.out.1.turn (Sm.get_put_same L k (g, b)) hk hl, ?_, HS1.out.2.2.1.tr hk fun i hi hx => ?_⟩
        · rw [HDS.out _ rfl]
          (first | rw [if_pos rfl] | rw [if_pos trivial])
          rw [Sm.put_mapv, hHP.out]
          exact Sm.put_put HOK.out.1.mapv _ _ _
        · rcases HS1.out.2.1 with e | ⟨_, _, e⟩
          · exact .inr ⟨(k, (g, b)), Sm.get_mem e, hx⟩
          · have hz9 := HA.out.size
            rcases hx with hx | hx <;> omega
      have HDE : Hid ((doS rh rr (L.mapv (·.2)) (at', bs, kd, cs)).2 = 0) := Lib.hid (by
        rw [HDS.out _ rfl]
        (first | rw [if_pos rfl] | rw [if_pos trivial]))
      have HKW := Lib.hid hKw
      have HGW := Lib.hid (And.intro hgw (And.intro hovw hopw))
      have HM2 := Lib.hid hm2
      clear hb2 hn hm2 hcut hKw hXw hgw hovw hopw
      by_cases hne : n = b2.st
      · have HFI := Lib.hid (HSH.out W HKW.out (by
          rw [HM2.out.1, hne]
          have e9 : b2.become b2.st (Stp.at (at', bs, kd, cs)) = b2 := by unfold Bd0.become becA; simp
          rw [e9]
          exact HLW.out))
        have hq1 : (n == b2.st) = true := by simp [hne]
        have HNE := Lib.hid hne
        clear hne
        subst_vars
        go_wp2
        go_ret
        exact ⟨by rw [HDE.out] <;> rfl, HFI.out⟩
      · have hq1 : (n == b2.st) = false := by simp [hne]
        have hk := ((Kp.refl W (fun i => i = g)).set1 0 (.int .i64 n)).set1 1 (.int .i64 at')
        have hkd2 : Kp W ((W.setCell ⟨g, 0, none⟩ (.int .i64 n)).setCell ⟨g, 1, none⟩ (.int .i64 at')).drew (fun i => i = g) := hk.trans (Kp.of_below (Below.drew (Below.refl _ _)))
        have HFI := Lib.hid (HSH.out ((W.setCell ⟨g, 0, none⟩ (.int .i64 n)).setCell ⟨g, 1, none⟩ (.int .i64 at')).drew (HKW.out.trans (hkd2.mono fun i _ h => .inl h)) (by
          have h9 := HLW.out.wrote (st := n) (si := at') (he := b2.he) (op := b2.op) hkd2 HGW.out.2.2 (show ((W.setCell ⟨g, 0, none⟩ (.int .i64 n)).setCell ⟨g, 1, none⟩ (.int .i64 at')).drew.heap[g]? = _ from blk_set (blk_set HGW.out.1 0 (.int .i64 n)) 1 (.int .i64 at')) (HGW.out.2.1.keepS hkd2 HLW.out.noG)
          rw [HM2.out.1]
          have e9 : b2.become n (Stp.at (at', bs, kd, cs)) = { b2 with st := n, si := at', he := b2.he, op := b2.op } := by
            unfold Bd0.become becA
            rw [if_neg (fun e => hne e.symm)]
          rw [e9]
          exact h9))
        clear hk hkd2
        go_wp2_with fail
        go_region
        go_wp2
        go_ret
        exact ⟨by rw [HDE.out] <;> rfl, HFI.out⟩
end Go.Proofs.YtbkglhakhahfpaaGreatDoor
namespace Go.Proofs.YtbkglhakhahfpaaGreatDoor
open Go.RowKit Go.Sort Go.Maps

def TN : Rty Int := { e := 3, S := 22, k := 1, b := 8, z := .int .i64 0, f := fun n => [.int .i64 n] }
theorem TN.ok : TN.Ok := ⟨by kernel_rfl, Tryz.underlying22, rfl, by decide, fun _ => rfl, fun x u hu => by simp [TN] at hu; subst hu; rfl, by decide⟩
def TE : Rty Int := { e := 34, S := 140, k := 1, b := 8, z := .int .i64 0, f := fun n => [.int .i64 n] }
theorem TE.ok : TE.Ok := ⟨by kernel_rfl, Tryz.underlying140, rfl, by decide, fun _ => rfl, fun x u hu => by simp [TE] at hu; subst hu; rfl, by decide⟩
def runU (rh rr at' : Int) : Sm Bd0 → List Stp → Sm Bd0
  | m, [] => m
  | m, s :: l => runU rh rr at' (if at' < s.at then m else (doS rh rr m s).1) l
def refU (rh rr at' : Int) : Nat → Sm Bd0 → List Stp → List (Int × Int)
  | _, _, [] => []
  | i, m, s :: l => if at' < s.at then refU rh rr at' (i + 1) m l else if (doS rh rr m s).2 = 0 then refU rh rr at' (i + 1) (doS rh rr m s).1 l else ((i : Int), (doS rh rr m s).2) :: refU rh rr at' (i + 1) (doS rh rr m s).1 l
theorem runU_none {rh rr at' : Int} : ∀ (l : List Stp) (m : Sm Bd0), (∀ s ∈ l, at' < s.at) → runU rh rr at' m l = m
  | [], _, _ => rfl
  | s :: l, m, h => by
    rw [runU, if_pos (h s (List.mem_cons_self ..))]
    exact runU_none l m fun x hx => h x (List.mem_cons_of_mem _ hx)
theorem runU_S {rh rr at' : Int} : ∀ (l : List Stp) (m : Sm Bd0), l.Pairwise (fun a b => a.at ≤ b.at) → runU rh rr at' m l = runS rh rr at' m l
  | [], _, _ => rfl
  | s :: l, m, h => by
    rw [List.pairwise_cons] at h
    rw [runU, runS]
    by_cases h1 : at' < s.at
    · rw [if_pos h1, if_pos h1]
      exact runU_none l m fun x hx => Int.lt_of_lt_of_le h1 (h.1 x hx)
    · rw [if_neg h1, if_neg h1]
      exact runU_S l _ h.2
theorem refU_L {rh rr at' : Int} : ∀ (l : List Stp) (i : Nat) (m : Sm Bd0), (∀ s ∈ l, ¬ at' < s.at) → refU rh rr at' i m l = refL rh rr i m l
  | [], _, _, _ => rfl
  | s :: l, i, m, h => by
    have ih := fun m => refU_L (rh := rh) (rr := rr) l (i + 1) m fun x hx => h x (List.mem_cons_of_mem _ hx)
    rw [refU, refL, if_neg (h s (List.mem_cons_self ..)), ih]
/-- states are some. -/
def StI (m : Sm Bd0) : Prop := ∀ p ∈ m, 1 ≤ p.2.st ∧ p.2.st ≤ 6
theorem doB_stI {b : Bd0} (h : 1 ≤ b.st ∧ b.st ≤ 6) (s : Stp) : 1 ≤ (doB b s).st ∧ (doB b s).st ≤ 6 := by
  unfold doB Bd0.become
  repeat' split
  all_goals first
    | exact h
    | simp
theorem StI.doS {m : Sm Bd0} (h : StI m) (rh rr : Int) (s : Stp) : StI (doS rh rr m s).1 := by
  have hg : 1 ≤ ((m.get s.bd.data.toList).getD newB).st ∧ ((m.get s.bd.data.toList).getD newB).st ≤ 6 := by
    cases hm : m.get s.bd.data.toList with
    | none => decide
    | some b => exact h _ (Sm.get_mem hm)
  unfold Go.Proofs.YtbkglhakhahfpaaGreatDoor.doS
  split
  · intro p hp
    rcases Sm.put_mem.1 hp with rfl | ⟨hp, _⟩
    · exact doB_stI hg s
    · exact h p hp
  · intro p hp
    rcases Sm.put_mem.1 hp with rfl | ⟨hp, _⟩
    · exact hg
    · exact h p hp
/-! rows of other types beside the shop -/
section
variable {α : Type} {T : Rty α}
theorem OwnR.blkT {w : World} {B : Nat} {v : Value} {l : List α} (h : OwnR T w B v l) {g : Nat} (hg : v.ownBlock = some g) : ∃ cur, w.heap[g]? = some (.cells cur T.e (0, 0)) := by
  rcases h with ⟨_, ⟨rfl, _⟩ | ⟨g', cap, cur, rfl, _, hb, _⟩⟩
  · simp [Value.ownBlock] at hg
  · simp [Value.ownBlock] at hg
    subst hg
    exact ⟨cur, hb⟩
theorem OwnR.keepT {w w' : World} {B : Nat} {v : Value} {l : List α} {X : Nat → Prop} (h : OwnR T w B v l) (hk : Kp w w' X) (hn : ∀ i cur, w.heap[i]? = some (.cells cur T.e (0, 0)) → ¬ X i) : OwnR T w' B v l := by
  rcases h with ⟨h1, ⟨h2, h3⟩ | ⟨g, cap, cur, hv, hB, hb, h4, h5, h6, h7⟩⟩
  · exact ⟨h1, .inl ⟨h2, h3⟩⟩
  · exact ⟨h1, .inr ⟨g, cap, cur, hv, hB, hk.blk hb (hn g cur hb), h4, h5, h6, h7⟩⟩
theorem ShR.doT {w : World} {S : Nat} {rh rr : Int} {L : Sm BdM} (h : ShR w S rh rr L) (ht : T.e ≠ 177) : ∀ i cur, w.heap[i]? = some (.cells cur T.e (0, 0)) → ¬ DoR S L i := by
  have hmap : ∀ {α : Type} {U : Mty α} {b : Nat} {m : Sm α} (cur : Array Value), MapS U w b m → w.heap[b]? ≠ some (.cells cur T.e (0, 0)) := fun cur hm e => by
    obtain ⟨_, es, clock, hb, _⟩ := hm
    rw [hb] at e
    injection e with e
    cases e
  rintro i cur hi (rfl | ⟨p, hp, rfl | rfl⟩)
  · exact hmap cur h.map hi
  · obtain ⟨_, _, _, v, hb, _⟩ := (h.brd p hp).2
    rw [hb] at hi
    injection hi with hi
    injection hi with _ hi _
    exact ht hi.symm
  · exact hmap cur (h.brd p hp).2.2.1 hi
/-- a row of another type has grown. -/
theorem ShR.rowed {w w' : World} {S : Nat} {rh rr : Int} {L : Sm BdM} {B : Nat} {v : Value} {l : List α} (h : ShR w S rh rr L) (hO : OwnR T w B v l) (hg : w.grownBy w' v.ownBlock) (h1 : T.e ≠ 177) (h2 : T.e ≠ 9) (h3 : T.e ≠ 271) : ShR w' S rh rr L := by
  have hk : Kp w w' (fun i => v.ownBlock = some i) := ⟨hg.os, hg.tape, hg.output, hg.size, fun i hi hx => hg.block i hi fun e => hx e.symm⟩
  have hd := h.doT (T := T) h1
  refine ⟨h.two, hk.blk h.blk fun e => ?_, hk.ms h.map fun e => ?_, h.ok, fun p hp => ⟨(h.brd p hp).1, (h.brd p hp).2.keep hk (fun i cur hi e => ?_) (fun e => ?_) fun e => ?_⟩, h.sep⟩
  · obtain ⟨cur, hc⟩ := hO.blkT e
    rw [h.blk] at hc
    injection hc with hc
    injection hc with _ hc _
    exact h3 hc.symm
  · obtain ⟨cur, hc⟩ := hO.blkT e
    exact hd _ _ hc (.inl rfl)
  · obtain ⟨cur', hc⟩ := hO.blkT e
    rw [hi] at hc
    injection hc with hc
    injection hc with _ hc _
    exact h2 hc.symm
  · obtain ⟨cur, hc⟩ := hO.blkT e
    exact hd _ _ hc (.inr ⟨p, hp, .inr rfl⟩)
  · obtain ⟨cur, hc⟩ := hO.blkT e
    exact hd _ _ hc (.inr ⟨p, hp, .inl rfl⟩)
end
theorem RNewShop_any (rh rr : Int) (w : World) : Calls Tryz.prog 109 #[.agg #[.int .i64 rh, .int .i64 rr]] w fun e w' => e = .returned (.pointer (some ⟨w.heap.size + 1 + 1, 0, none⟩)) ∧ ShR w' (w.heap.size + 1 + 1) rh rr [] ∧ Below w.heap.size w w' := by
  have hmm := @run_makeMap Tryz.prog
  have h2 := blk_old (blk_new' (w.alloc (.cells #[.int .i64 rh, .int .i64 rr] 27)) (.map #[] 0) (g := w.heap.size + 1) (by simp)) (.cells #[.int .i64 rh, .int .i64 rr, .map (some (w.heap.size + 1))] 271)
  have h3 := blk_new' ((w.alloc (.cells #[.int .i64 rh, .int .i64 rr] 27)).alloc (.map #[] 0)) (.cells #[.int .i64 rh, .int .i64 rr, .map (some (w.heap.size + 1))] 271) (g := w.heap.size + 1 + 1) (by simp)
  have hb := Bl.alloc (Bl.alloc (Bl.alloc (Below.refl w.heap.size w) (.cells #[.int .i64 rh, .int .i64 rr] 27)) (.map #[] 0)) (.cells #[.int .i64 rh, .int .i64 rr, .map (some (w.heap.size + 1))] 271)
  have HF := Lib.hid (And.intro h2 (And.intro h3 hb))
  clear h2 h3 hb
  go_enter Tryz.func109, Tryz.ntmps109
  go_wp2
  go_ret
  exact ⟨rfl, ⟨by omega, HF.out.2.1, MapS.of_blk HF.out.1, Sm.Ok.nil, (fun p hp => by cases hp), fun p hp => by cases hp⟩, HF.out.2.2⟩
/-- what holds ahead of a round: the shop, and which steps are refused so far. -/
structure RfI (rh rr at' : Int) (l : List Stp) (w0 : World) (S k : Nat) (m : Sm Bd0) (acc : List (Int × Int)) (ov wv : Value) (wr : World) : Prop where
  rest : runU rh rr at' [] l = runU rh rr at' m (l.drop k)
  acc' : refU rh rr at' 0 [] l = acc ++ refU rh rr at' k m (l.drop k)
  few : acc.length ≤ k
  out : OwnR TN wr w0.heap.size ov (acc.map (·.1))
  why : OwnR TE wr w0.heap.size wv (acc.map (·.2))
  sm : AllSm m k
  st : StI m
  shop : ∃ L, ShR wr S rh rr L ∧ L.mapv (·.2) = m
  bel : Below w0.heap.size w0 wr
  S1 : w0.heap.size ≤ S - 1
theorem RfI.alloc {rh rr at' : Int} {l : List Stp} {w0 : World} {S k : Nat} {m : Sm Bd0} {acc : List (Int × Int)} {ov wv : Value} {wr : World} (h : RfI rh rr at' l w0 S k m acc ov wv wr) (o : Obj) : RfI rh rr at' l w0 S k m acc ov wv (wr.alloc o) := by
  obtain ⟨L, h1, h2⟩ := h.shop
  exact ⟨h.rest, h.acc', h.few, h.out.alloc o, h.why.alloc o, h.sm, h.st, ⟨L, h1.below (Bl.alloc (Below.refl _ _) o), h2⟩, Bl.alloc h.bel o, h.S1⟩
theorem drop_cons {l : List Stp} {k : Nat} {s : Stp} (hs : l[k]? = some s) : l.drop k = s :: l.drop (k + 1) := by
  obtain ⟨hk, he⟩ := List.getElem?_eq_some_iff.1 hs
  rw [List.drop_eq_getElem_cons hk, he]
theorem RfI.skip {rh rr at' : Int} {l : List Stp} {w0 : World} {S k : Nat} {m : Sm Bd0} {acc : List (Int × Int)} {ov wv : Value} {wr : World} (h : RfI rh rr at' l w0 S k m acc ov wv wr) {s : Stp} (hs : l[k]? = some s) (h1 : at' < s.at) : RfI rh rr at' l w0 S (k + 1) m acc ov wv wr := by
  have hd := drop_cons hs
  refine ⟨?_, ?_, by have := h.few; omega, h.out, h.why, ⟨by have := h.sm.1; omega, fun p hp => (h.sm.2 p hp).mono (by omega)⟩, h.st, h.shop, h.bel, h.S1⟩
  · rw [h.rest, hd, runU, if_pos h1]
  · rw [h.acc', hd, refU, if_pos h1]
theorem RfI.call {rh rr at' : Int} {l : List Stp} {w0 : World} {S k : Nat} {m : Sm Bd0} {acc : List (Int × Int)} {ov wv : Value} {wr : World} (h : RfI rh rr at' l w0 S k m acc ov wv wr) {s : Stp} (hs : l[k]? = some s) (h1 : ¬ at' < s.at) (hsr : StR s) (hkd : 1 ≤ s.kd ∧ s.kd ≤ 6) (hk : k ≤ 100000) :
    Calls Tryz.prog 111 #[.pointer (some ⟨S, 0, none⟩), stpV s] wr fun e w' => ∃ R : Int, e = .returned (.int .i64 R) ∧ (R = 0 → RfI rh rr at' l w0 S (k + 1) (doS rh rr m s).1 acc ov wv w') ∧ (R ≠ 0 → ∀ ov' wv' w'', OwnR TN w'' w0.heap.size ov' ((acc ++ [((k : Int), R)]).map (·.1)) → OwnR TE w'' w0.heap.size wv' ((acc ++ [((k : Int), R)]).map (·.2)) → Below w0.heap.size w' w'' → (∀ L, ShR w' S rh rr L → ShR w'' S rh rr L) → RfI rh rr at' l w0 S (k + 1) (doS rh rr m s).1 (acc ++ [((k : Int), R)]) ov' wv' w'') ∧ OwnR TN w' w0.heap.size ov (acc.map (·.1)) ∧ OwnR TE w' w0.heap.size wv (acc.map (·.2)) ∧ (∃ L, ShR w' S rh rr L) ∧ Below w0.heap.size w0 w' := by
  obtain ⟨L, hL1, hL2⟩ := h.shop
  have hb := hsr.bd
  have hc := hsr.co
  have hd := drop_cons hs
  have hA : AllSm (L.mapv (·.2)) 100000 := by rw [hL2]; exact ⟨Nat.le_trans h.sm.1 hk, fun p hp => (h.sm.2 p hp).mono hk⟩
  have hst : ∀ p ∈ L, 1 ≤ p.2.2.st ∧ p.2.2.st ≤ 6 := fun p hp => by
    have := h.st (p.1, p.2.2) (by rw [← hL2]; exact List.mem_map_of_mem hp)
    exact this
  refine (RDo_any S rh rr L s wr hL1 (by omega) (by omega) hkd hA hst).mono ?_
  rintro e w5 ⟨rfl, L', hL1', hL2', hK⟩
  rw [hL2] at hL2'
  have hB5 : Below w0.heap.size w0 w5 := Below.trans h.bel ((DoR.below hL1 hK).mono h.S1)
  have ho := h.out.keepT hK (hL1.doT (by decide))
  have hw := h.why.keepT hK (hL1.doT (by decide))
  refine ⟨_, rfl, fun h0 => ?_, fun h0 ov' wv' w'' h2 h3 h4 h5 => ?_, ho, hw, ⟨L', hL1'⟩, hB5⟩
  · rw [hL2] at h0
    refine ⟨?_, ?_, by have := h.few; omega, ho, hw, doS_small h.sm s, h.st.doS rh rr s, ⟨L', hL1', hL2'⟩, hB5, h.S1⟩
    · rw [h.rest, hd, runU, if_neg h1]
    · rw [h.acc', hd, refU, if_neg h1, if_pos h0]
  · refine ⟨?_, ?_, by rw [List.length_append]; have := h.few; simp; omega, h2, h3, doS_small h.sm s, h.st.doS rh rr s, ⟨L', h5 L' hL1', hL2'⟩, Below.trans hB5 h4, h.S1⟩
    · rw [h.rest, hd, runU, if_neg h1]
    · rw [hL2] at h0
      rw [h.acc', hd, refU, if_neg h1, if_neg h0, hL2]
      simp
theorem OwnR.beside {α β : Type} {T : Rty α} {U : Rty β} {w w' : World} {B C : Nat} {v u : Value} {l : List α} {m : List β} (h : OwnR T w B v l) (hu : OwnR U w C u m) (hne : T.e ≠ U.e) (hg : w.grownBy w' u.ownBlock) : OwnR T w' B v l :=
  h.keepT (X := fun i => u.ownBlock = some i) ⟨hg.os, hg.tape, hg.output, hg.size, fun i hi hx => hg.block i hi fun e => hx e.symm⟩ fun i cur hi e => by
    obtain ⟨cur', hc⟩ := hu.blkT e
    rw [hi] at hc
    injection hc with hc
    injection hc with _ hc _
    exact hne hc
set_option maxHeartbeats 4000000 in
set_option maxRecDepth 100000 in
theorem RShopAt_any (rh rr at' : Int) (l : List Stp) (v : Value) (w : World) (rl : RecR TSt w 0 v l) (hl : stepsF l = 0) :
    Calls Tryz.prog 189 #[.agg #[.int .i64 rh, .int .i64 rr], v, .int .i64 at'] w fun e w' => ∃ (S : Nat) (ov wv : Value), e = .returned (.tuple #[.pointer (some ⟨S, 0, none⟩), ov, wv]) ∧ (∃ L, ShR w' S rh rr L ∧ L.mapv (·.2) = runS rh rr at' [] l) ∧ OwnR TN w' w.heap.size ov ((refU rh rr at' 0 [] l).map (·.1)) ∧ OwnR TE w' w.heap.size wv ((refU rh rr at' 0 [] l).map (·.2)) ∧ w.heap.size ≤ S - 1 ∧ Below w.heap.size w w' := by
  have hA := Bl.alloc (Below.refl w.heap.size w) (.cells #[.int .i64 rh, .int .i64 rr] 27)
  obtain ⟨a, cap, rfl, _, _⟩ := rl.form
  have RL := Lib.hid rl
  have HR := Lib.hid (stepsF_right hl)
  have HW := Lib.hid (stepsF_W hl)
  clear rl hl
  go_enter Tryz.func189, Tryz.ntmps189
  go_wp2_with fail
  refine (RNewShop_any rh rr _).mono ?_
  rintro e w2 ⟨rfl, hS2, hb2⟩
  have hB2 := Bl.trans hA hb2
  have hzA := hA.size
  obtain ⟨S, hS⟩ : ∃ S, S = (w.alloc (.cells #[.int .i64 rh, .int .i64 rr] 27)).heap.size + 1 + 1 := ⟨_, rfl⟩
  rw [← hS] at hS2 ⊢
  have HI0 : Hid (RfI rh rr at' l w S 0 [] [] (.slice none 0 0) (.slice none 0 0) w2) := Lib.hid ⟨rfl, by rw [List.drop_zero]; rfl, Nat.le_refl _, OwnR.nil _ _, OwnR.nil _ _, ⟨Nat.le_refl _, (fun p hp => by cases hp)⟩, (fun p hp => by cases hp), ⟨[], hS2, rfl⟩, hB2, by omega⟩
  clear hS2 hb2 hB2 hA hzA hS
  go_wp2_with fail
  go_loopw [10, 11, 19] (fun ov wv i wr => ∃ (k : Nat) (m : Sm Bd0) (acc : List (Int × Int)), k ≤ l.length ∧ i = .int .i64 k ∧ Hid (RfI rh rr at' l w S k m acc ov wv wr)) (fun _ _ i _ => l.length - (intOf i).toNat)
  case atStart => exact ⟨0, [], [], Nat.zero_le _, rfl, HI0⟩
  case round =>
    obtain ⟨k, m, acc, hk, rfl, HI⟩ := hrel
    obtain ⟨oa, on, oc, rfl⟩ : ∃ a n c, u10 = .slice a n c := (by obtain ⟨a, c, h, _, _⟩ := HI.out.out.form; exact ⟨a, _, c, h⟩)
    obtain ⟨ya, yn, yc, rfl⟩ : ∃ a n c, u11 = .slice a n c := (by obtain ⟨a, c, h, _, _⟩ := HI.out.why.form; exact ⟨a, _, c, h⟩)
    by_cases hlt : k < l.length
    · obtain ⟨s, hs⟩ : ∃ x, l[k]? = some x := ⟨_, List.getElem?_eq_getElem hlt⟩
      obtain ⟨b1, o1, rfl, _, hbb1, hc1⟩ := (RL.out.below HI.out.bel).at TSt.ok.len hs TSt.ok.pos
      have HS := Lib.hid hs
      have HSR := Lib.hid (And.intro (HR.out.2.1 s (List.mem_of_getElem? hs)) (HW.out s (List.mem_of_getElem? hs)).kd)
      obtain ⟨at1, bs, kd, cs⟩ := s
      have c0 : wr.cell? ⟨b1, o1 + k * 4, none⟩ = some (.int .i64 at1) := hc1 0 _ rfl
      have c1 : wr.cell? ⟨b1, o1 + k * 4 + 1, none⟩ = some (.string bs) := hc1 1 _ rfl
      have c2 : wr.cell? ⟨b1, o1 + k * 4 + 2, none⟩ = some (.int .i64 kd) := hc1 2 _ rfl
      have c3 : wr.cell? ⟨b1, o1 + k * 4 + 3, none⟩ = some (.string cs) := hc1 3 _ rfl
      clear hs hc1
      have hlen : k < 5000 := Nat.lt_of_lt_of_le hlt HR.out.1
      have hw1 : IntKind.i64.wrap ((k : Int) + 1) = ((k + 1 : Nat) : Int) := by rw [IntWalk.i64_in _ (by omega)]; omega
      by_cases hat : at' < at1
      · have HE : Hid (RfI rh rr at' l w S (k + 1) m acc (.slice oa on oc) (.slice ya yn yc) (wr.alloc (.cells #[.int .i64 at1, .string bs, .int .i64 kd, .string cs] 133))) := Lib.hid ((HI.out.alloc _).skip HS.out hat)
        go_wp2
        go_roundw
        case rel => exact ⟨k + 1, m, acc, by omega, by go_num, HE⟩
        case measure => simp [intOf]; omega
      · have HD := Lib.hid ((HI.out.alloc (.cells #[.int .i64 at1, .string bs, .int .i64 kd, .string cs] 133)).call HS.out hat HSR.out.1 HSR.out.2 (by omega))
        have HFW := Lib.hid HI.out.few
        go_wp2_with fail
        refine HD.out.mono ?_
        rintro e w5 ⟨R, rfl, h0, h1, ho, hw, hsL, hb⟩
        by_cases hR : R = 0
        · subst hR
          have HE := Lib.hid (h0 rfl)
          clear h0 h1 ho hw hsL hb
          go_wp2
          go_roundw
          case rel => exact ⟨k + 1, (doS rh rr m (at1, bs, kd, cs)).1, acc, by omega, by go_num, HE⟩
          case measure => simp [intOf]; omega
        · have HE := Lib.hid (h1 hR)
          have HO := Lib.hid (And.intro ho hw)
          have hz5 : w.heap.size ≤ w5.heap.size := hb.size
          clear h0 h1 ho hw hb
          go_wp2_with (at_builtin; refine wp_app_rec TN.ok rfl _ _ rfl w.heap.size _ (acc.map (·.1)) rfl (HO.out.1.alloc _) w5.heap.size 1 (k : Int) rfl (blk_new w5 _) rfl (by rw [List.length_map]; have := HFW.out; omega) (by simp; omega) ?_)
          intro v6 w6 hO6 hg6 hb6
          obtain ⟨a6, n6, c6, rfl⟩ : ∃ a n c, v6 = .slice a n c := (by obtain ⟨a, c, h, _, _⟩ := hO6.form; exact ⟨a, _, c, h⟩)
          have hy6 : OwnR TE w6 w.heap.size (.slice ya yn yc) (acc.map (·.2)) := (HO.out.2.alloc _).beside (HO.out.1.alloc _) (by decide) hg6
          have hL6 : ∀ L, ShR w5 S rh rr L → ShR w6 S rh rr L := fun L hL => (hL.below (Bl.alloc (Below.refl _ _) _)).rowed (HO.out.1.alloc _) hg6 (by decide) (by decide) (by decide)
          have HB6 := Lib.hid (Below.trans ((Bl.alloc (Below.refl w5.heap.size w5) _).mono hz5) hb6)
          have HY := Lib.hid (And.intro hO6 (And.intro hy6 hL6))
          have hz6 : w.heap.size ≤ w6.heap.size := Nat.le_trans hz5 HB6.out.size
          clear hO6 hy6 hL6 hg6 hb6
          go_wp2_with (at_builtin; refine wp_app_rec TE.ok rfl _ _ rfl w.heap.size _ (acc.map (·.2)) rfl (HY.out.2.1.alloc _) w6.heap.size 1 R rfl (blk_new w6 _) rfl (by rw [List.length_map]; have := HFW.out; omega) (by simp; omega) ?_)
          intro v7 w7 hO7 hg7 hb7
          obtain ⟨a7, n7, c7, rfl⟩ : ∃ a n c, v7 = .slice a n c := (by obtain ⟨a, c, h, _, _⟩ := hO7.form; exact ⟨a, _, c, h⟩)
          have hx7 : OwnR TN w7 w.heap.size (.slice a6 n6 c6) (acc.map (·.1) ++ [(k : Int)]) := (HY.out.1.alloc _).beside (HY.out.2.1.alloc _) (by decide) hg7
          have hL7 : ∀ L, ShR w5 S rh rr L → ShR w7 S rh rr L := fun L hL => ((HY.out.2.2 L hL).below (Bl.alloc (Below.refl _ _) _)).rowed (HY.out.2.1.alloc _) hg7 (by decide) (by decide) (by decide)
          have HN := Lib.hid (HE.out _ _ w7 (by rw [List.map_append]; exact hx7) (by rw [List.map_append]; exact hO7) (HB6.out.trans (Below.trans ((Bl.alloc (Below.refl w6.heap.size w6) _).mono hz6) hb7)) hL7)
          clear hx7 hL7 hO7 hg7 hb7
          go_wp2
          go_roundw
          case rel => exact ⟨k + 1, _, acc ++ [((k : Int), R)], by omega, by go_num, HN⟩
          case measure => simp [intOf]; omega
    · obtain rfl : k = l.length := by omega
      have hm : runS rh rr at' [] l = m := by
        rw [← runU_S l [] HR.out.2.2, HI.out.rest, List.drop_length]; rfl
      have hac : refU rh rr at' 0 [] l = acc := by
        have := HI.out.acc'
        rw [List.drop_length] at this
        rw [this]; simp [refU]
      have HF : Hid ((∃ L, ShR wr S rh rr L ∧ L.mapv (·.2) = runS rh rr at' [] l) ∧ OwnR TN wr w.heap.size (.slice oa on oc) ((refU rh rr at' 0 [] l).map (·.1)) ∧ OwnR TE wr w.heap.size (.slice ya yn yc) ((refU rh rr at' 0 [] l).map (·.2)) ∧ w.heap.size ≤ S - 1 ∧ Below w.heap.size w wr) := Lib.hid ⟨by rw [hm]; exact HI.out.shop, by rw [hac]; exact HI.out.out, by rw [hac]; exact HI.out.why, HI.out.S1, HI.out.bel⟩
      clear hm hac
      go_wp2
      go_ret3
      exact ⟨S, _, _, rfl, HF.out.1, HF.out.2.1, HF.out.2.2.1, HF.out.2.2.2.1, HF.out.2.2.2.2⟩
end Go.Proofs.YtbkglhakhahfpaaGreatDoor
