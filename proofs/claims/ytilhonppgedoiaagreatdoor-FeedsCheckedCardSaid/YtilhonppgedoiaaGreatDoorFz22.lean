/- Texts of the proof of a law, put together, part 22 of 46. Conditions: none beyond those that each theorem names. -/
import Derived.Test.YtilhonppgedoiaaGreatDoorFz21
namespace Go.Proofs.YtilhonppgedoiaaGreatDoor
open Go.RowKit Go.Sort Go.Maps
theorem rdWF_parts {z : Bs} {r : List Bs} (h : [] ∉ z :: r) : (rdWF (z :: r)).isSome = ((numT 15 z).isSome && (frF r).isSome) ∧ ∀ p, rdWF (z :: r) = some p → ∃ q, frF r = some q ∧ p = ((numT 15 z).getD 0, q) := by
  unfold rdWF
  rw [if_neg h]
  show (match numT 15 z, frF r with | some a, some p => some (a, p) | _, _ => none : Option Fed).isSome = _ ∧ ∀ p, (match numT 15 z, frF r with | some a, some p => some (a, p) | _, _ => none : Option Fed) = some p → _
  cases hn : numT 15 z with
  | none => exact ⟨rfl, fun p hp => by cases hp⟩
  | some a =>
    cases hf : frF r with
    | none => exact ⟨rfl, fun p hp => by cases hp⟩
    | some q => exact ⟨rfl, fun p hp => by injection hp with hp; exact ⟨q, rfl, hp.symm⟩⟩
set_option maxHeartbeats 16000000 in
set_option maxRecDepth 100000 in
theorem FdLine_any (s : ByteArray) (w : World) (hT : TxW w) (hs : s.size ≤ 1000000) :
    Calls Tryz.prog 34 #[.string s] w fun e w' => ∃ f : Fed, e = .returned (.tuple #[fedV f, .bool (rdF (bsOf s)).isSome]) ∧ (∀ p, rdF (bsOf s) = some p → p = f) ∧ Below w.heap.size w w' := by
  have hX := blk_new w (.cells #[.int .i64 0, .int .i64 0, .string ⟨#[]⟩, .string ⟨#[]⟩, .int .i64 0, .string ⟨#[]⟩] 37)
  have hA := Bl.alloc (Below.refl w.heap.size w) (.cells #[.int .i64 0, .int .i64 0, .string ⟨#[]⟩, .string ⟨#[]⟩, .int .i64 0, .string ⟨#[]⟩] 37)
  obtain ⟨w1, hw1⟩ : ∃ w1, w1 = w.alloc (.cells #[.int .i64 0, .int .i64 0, .string ⟨#[]⟩, .string ⟨#[]⟩, .int .i64 0, .string ⟨#[]⟩] 37) := ⟨_, rfl⟩
  rw [← hw1] at hX hA
  have HKW := Lib.hid (KWords_any s w1 (hT.below hA) hs)
  obtain ⟨Ls, hLs⟩ : ∃ Ls, Ls = splitL 32 (bsOf s) := ⟨_, rfl⟩
  have HRD : Hid (rdF (bsOf s) = rdWF Ls) := Lib.hid (by rw [hLs]; rfl)
  have HLE : Hid (∀ z ∈ Ls, z.length ≤ 1000000) := Lib.hid fun z hz => by
    have h1 := splitS_le 32 (bsOf s) z (by rw [← hLs]; exact hz)
    have h2 := bsOf_len s
    omega
  have HNE : Hid (Ls ≠ []) := Lib.hid fun h => by
    have := splitL_len 32 (bsOf s)
    rw [← hLs, h] at this
    simp at this
  rw [← hLs] at HKW
  have HX := Lib.hid hX
  have HA := Lib.hid hA
  clear hLs hT hX hA
  go_enter Tryz.func34, Tryz.ntmps34
  go_wp2_with fail
  rw [← hw1]
  clear hw1
  refine HKW.out.mono ?_
  rintro e w2 ⟨v, rfl, hv, hb2⟩
  have hX2 := blk_below HX.out hb2
  have hB2 := Bl.trans HA.out hb2
  by_cases hm : [] ∈ Ls
  · have hd : decide ([] ∉ Ls) = false := by simp [hm]
    rw [hd]
    have HR : Hid (rdF (bsOf s) = none) := Lib.hid (by rw [HRD.out]; unfold rdWF; rw [if_pos hm])
    have k0 : w2.cell? ⟨w.heap.size, 0, none⟩ = some (.int .i64 0) := blk_cell hX2 0
    have k1 : w2.cell? ⟨w.heap.size, 1, none⟩ = some (.int .i64 0) := blk_cell hX2 1
    have k2 : w2.cell? ⟨w.heap.size, 2, none⟩ = some (.string ⟨#[]⟩) := blk_cell hX2 2
    have k3 : w2.cell? ⟨w.heap.size, 3, none⟩ = some (.string ⟨#[]⟩) := blk_cell hX2 3
    have k4 : w2.cell? ⟨w.heap.size, 4, none⟩ = some (.int .i64 0) := blk_cell hX2 4
    have k5 : w2.cell? ⟨w.heap.size, 5, none⟩ = some (.string ⟨#[]⟩) := blk_cell hX2 5
    have q0 := blk_free hX2 0
    have q1 := blk_free hX2 1
    have q2 := blk_free hX2 2
    have q3 := blk_free hX2 3
    have q4 := blk_free hX2 4
    have q5 := blk_free hX2 5
    have hZ := (blk_set (blk_set (blk_set (blk_set (blk_set (blk_set hX2 0 (.int .i64 0)) 1 (.int .i64 0)) 2 (.string ⟨#[]⟩)) 3 (.string ⟨#[]⟩)) 4 (.int .i64 0)) 5 (.string ⟨#[]⟩))
    have hbZ := (Bl.set (Bl.set (Bl.set (Bl.set (Bl.set (Bl.set hB2 w.heap.size 0 (Nat.le_refl _) (.int .i64 0)) w.heap.size 1 (Nat.le_refl _) (.int .i64 0)) w.heap.size 2 (Nat.le_refl _) (.string ⟨#[]⟩)) w.heap.size 3 (Nat.le_refl _) (.string ⟨#[]⟩)) w.heap.size 4 (Nat.le_refl _) (.int .i64 0)) w.heap.size 5 (Nat.le_refl _) (.string ⟨#[]⟩))
    clear hX2 hB2 hv hb2 hm hd HKW
    go_wp2
    generalize ((((((w2.setCell ⟨w.heap.size, 0, none⟩ (.int .i64 0)).setCell ⟨w.heap.size, 1, none⟩ (.int .i64 0)).setCell ⟨w.heap.size, 2, none⟩ (.string ⟨#[]⟩)).setCell ⟨w.heap.size, 3, none⟩ (.string ⟨#[]⟩)).setCell ⟨w.heap.size, 4, none⟩ (.int .i64 0)).setCell ⟨w.heap.size, 5, none⟩ (.string ⟨#[]⟩)) = w9 at *
    have r0 : w9.cell? ⟨w.heap.size, 0, none⟩ = some (.int .i64 0) := blk_cell hZ 0
    have r1 : w9.cell? ⟨w.heap.size, 1, none⟩ = some (.int .i64 0) := blk_cell hZ 1
    have r2 : w9.cell? ⟨w.heap.size, 2, none⟩ = some (.string ⟨#[]⟩) := blk_cell hZ 2
    have r3 : w9.cell? ⟨w.heap.size, 3, none⟩ = some (.string ⟨#[]⟩) := blk_cell hZ 3
    have r4 : w9.cell? ⟨w.heap.size, 4, none⟩ = some (.int .i64 0) := blk_cell hZ 4
    have r5 : w9.cell? ⟨w.heap.size, 5, none⟩ = some (.string ⟨#[]⟩) := blk_cell hZ 5
    refine bodyPost_ret (v := .tuple #[.agg #[.int .i64 0, .int .i64 0, .string ⟨#[]⟩, .string ⟨#[]⟩, .int .i64 0, .string ⟨#[]⟩], .bool false]) (by simp [results, Tryz.results34, go_sem, r0, r1, r2, r3, r4, r5]) rfl ?_
    exact ⟨(0, 0, ⟨#[]⟩, ⟨#[]⟩, 0, ⟨#[]⟩), by rw [HR.out] <;> rfl, fun p hp => (by rw [HR.out] at hp; cases hp), hbZ⟩
  · have hd : decide ([] ∉ Ls) = true := by simp [hm]
    rw [hd]
    obtain ⟨l, hO, hml, hl1⟩ := hv hm
    obtain ⟨z, r, rfl⟩ : ∃ z r, l = z :: r := by
      cases l with
      | nil => exact absurd hml.symm HNE.out
      | cons z r => exact ⟨z, r, rfl⟩
    subst hml
    have HP := Lib.hid (rdWF_parts hm)
    have hzs : z.size ≤ 1000000 := by
      have h1 := HLE.out (bsOf z) (by simp)
      rw [bsOf_len] at h1
      exact h1
    have HRS : Hid (∀ y ∈ r, y.size ≤ 1000000) := Lib.hid fun y hy => by
      have h1 := HLE.out (bsOf y) (List.mem_map.2 ⟨y, List.mem_cons_of_mem _ hy, rfl⟩)
      rw [bsOf_len] at h1
      exact h1
    obtain ⟨g, c, cur, rfl, _, hgb, hc1, hc2, _⟩ := hO.blk (by simp)
    obtain ⟨n, hn⟩ : ∃ n, n = (z :: r).length := ⟨_, rfl⟩
    rw [← hn] at hc1 hl1 hO
    have HNR : Hid (n = r.length + 1) := Lib.hid hn
    have hnp : (0 : Int) < (n : Int) := by rw [HNR.out]; omega
    have hnp1 : (1 : Int) ≤ (n : Int) := by rw [HNR.out]; omega
    have hcm : c ≤ 9223372036854775807 := by unfold maxLen at hc2; omega
    obtain ⟨_, _, e0, _, hgl, c0⟩ := str_at hO.rec (k := 0) (x := z) rfl
    injection e0 with e0
    injection e0 with e1 e2
    subst e1; subst e2
    have HOR := Lib.hid hO.rec0
    have HX2 := Lib.hid hX2
    have HB2 := Lib.hid hB2
    obtain ⟨nv, hnv⟩ : ∃ nv, nv = (numT 15 (bsOf z)).getD 0 := ⟨_, rfl⟩
    obtain ⟨ok, hok⟩ : ∃ ok, ok = (numT 15 (bsOf z)).isSome := ⟨_, rfl⟩
    have HNU0 : Calls Tryz.prog 77 #[.string z, .int .i64 (15 : Nat)] w2 fun e w' => e = .returned (.tuple #[.int .i64 nv, .bool ok]) ∧ Below w2.heap.size w2 w' := by rw [hnv, hok]; exact Number_any z 15 w2 (by omega) (by decide)
    have HNU := Lib.hid HNU0
    obtain ⟨fs, hfs⟩ : ∃ fs, fs = (frF (r.map bsOf)).isSome := ⟨_, rfl⟩
    have HFW : Hid (∀ (a : Option Addr) (c' : Nat), (r ≠ [] → a = some ⟨g, 0 + 1, none⟩) → r.length ≤ c' → c' ≤ 9223372036854775807 → ∀ U, Below w2.heap.size w2 U → Calls Tryz.prog 78 #[.slice a (n - 1) c', .int .i64 (15 : Nat)] U fun e w' => ∃ (fa fk : Int) (fd fr : ByteArray) (fm : Int) (fb : ByteArray), e = .returned (.tuple #[.agg #[.int .i64 fa, .int .i64 fk, .string fd, .string fr, .int .i64 fm, .string fb], .bool fs]) ∧ Hid (∀ p, frF (r.map bsOf) = some p → p = (fk, fd, fr, fm, fb)) ∧ Below U.heap.size U w') := Lib.hid fun a c' h1 h2 h3 U hU => by
      have h4 : n - 1 = r.length := by rw [HNR.out]; rfl
      rw [h4, hfs]
      refine (FdFrom_any 15 (.slice a r.length c') r U (by decide) (strs_tail (HOR.out.below hU) a h1 c' h2 h3) (by have := HNR.out; omega) HRS.out).mono ?_
      rintro e w' ⟨⟨fa, fk, fd, fr, fm, fb⟩, rfl, hf, hb⟩
      refine ⟨fa, fk, fd, fr, fm, fb, rfl, Lib.hid fun p hp => ?_, hb⟩
      have := hf p hp
      injection this with _ this
      exact this.symm
    have HFIN : Hid (∀ (b : Bool) (fk : Int) (fd fr : ByteArray) (fm : Int) (fb : ByteArray), (∀ p, frF (r.map bsOf) = some p → p = (fk, fd, fr, fm, fb)) → b = (ok && fs) → Ending.returned (.tuple #[.agg #[.int .i64 nv, .int .i64 fk, .string fd, .string fr, .int .i64 fm, .string fb], .bool b]) = .returned (.tuple #[fedV (nv, fk, fd, fr, fm, fb), .bool (rdF (bsOf s)).isSome]) ∧ ∀ p, rdF (bsOf s) = some p → p = (nv, fk, fd, fr, fm, fb)) := Lib.hid fun b fk fd fr fm fb hq hb => by
      have h1 := HP.out
      rw [← hnv, ← hok, ← hfs] at h1
      rw [HRD.out, hb]
      refine ⟨?_, fun p hp => ?_⟩
      · rw [List.map_cons, h1.1]; rfl
      · obtain ⟨q, h2, h3⟩ := h1.2 p hp
        rw [h3, hq q h2]
    clear hX2 hB2 hv hb2 hm hd hO hgb hc2 HKW HNU0 hnv hok hfs HP HRD
    rw [← hn]
    clear hn
    go_wp2_with fail
    refine HNU.out.mono ?_
    rintro e w3 ⟨rfl, hb3⟩
    have HB3 := Lib.hid hb3
    clear hb3
    go_wp2_with fail
    case' inl =>
      have HC4 := HFW.out (some ⟨g, 0, none⟩) 0 (by intro h; exfalso; have h1 := HNR.out; have h2 := List.length_pos_iff.2 h; omega) (by have h1 := HNR.out; omega) (by omega) w3 HB3.out
    case' inr =>
      have HC4 := HFW.out (some ⟨g, 1, none⟩) (c - 1) (fun _ => rfl) (by have h1 := HNR.out; omega) (by omega) w3 HB3.out
    all_goals (
      refine HC4.mono ?_
      rintro e w4 ⟨fa, fk, fd, fr, fm, fb, rfl, HQ4, hb4⟩
      have hB4 := Bl.trans HB3.out hb4
      have hX4 := blk_below HX2.out hB4
      have lR := blk_lt hX4
      have k0 : w4.cell? ⟨w.heap.size, 0, none⟩ = some (.int .i64 0) := blk_cell hX4 0
      have k1 : w4.cell? ⟨w.heap.size, 1, none⟩ = some (.int .i64 0) := blk_cell hX4 1
      have k2 : w4.cell? ⟨w.heap.size, 2, none⟩ = some (.string ⟨#[]⟩) := blk_cell hX4 2
      have k3 : w4.cell? ⟨w.heap.size, 3, none⟩ = some (.string ⟨#[]⟩) := blk_cell hX4 3
      have k4 : w4.cell? ⟨w.heap.size, 4, none⟩ = some (.int .i64 0) := blk_cell hX4 4
      have k5 : w4.cell? ⟨w.heap.size, 5, none⟩ = some (.string ⟨#[]⟩) := blk_cell hX4 5
      have q0 := blk_free hX4 0
      have q1 := blk_free hX4 1
      have q2 := blk_free hX4 2
      have q3 := blk_free hX4 3
      have q4 := blk_free hX4 4
      have q5 := blk_free hX4 5
      have hZ := blk_old (blk_set (blk_set (blk_set (blk_set (blk_set (blk_set hX4 0 (.int .i64 nv)) 1 (.int .i64 fk)) 2 (.string fd)) 3 (.string fr)) 4 (.int .i64 fm)) 5 (.string fb)) (.cells #[.int .i64 nv, .int .i64 fk, .string fd, .string fr, .int .i64 fm, .string fb] 37)
      have hbZ := Bl.alloc (Bl.set (Bl.set (Bl.set (Bl.set (Bl.set (Bl.set (Bl.trans HB2.out hB4) w.heap.size 0 (Nat.le_refl _) (.int .i64 nv)) w.heap.size 1 (Nat.le_refl _) (.int .i64 fk)) w.heap.size 2 (Nat.le_refl _) (.string fd)) w.heap.size 3 (Nat.le_refl _) (.string fr)) w.heap.size 4 (Nat.le_refl _) (.int .i64 fm)) w.heap.size 5 (Nat.le_refl _) (.string fb)) (.cells #[.int .i64 nv, .int .i64 fk, .string fd, .string fr, .int .i64 fm, .string fb] 37)
      clear hX4 hB4 hb4 HC4
      cases ok
      · go_wp2
        generalize ((((((w4.setCell ⟨w.heap.size, 0, none⟩ (.int .i64 nv)).setCell ⟨w.heap.size, 1, none⟩ (.int .i64 fk)).setCell ⟨w.heap.size, 2, none⟩ (.string fd)).setCell ⟨w.heap.size, 3, none⟩ (.string fr)).setCell ⟨w.heap.size, 4, none⟩ (.int .i64 fm)).setCell ⟨w.heap.size, 5, none⟩ (.string fb)).alloc (.cells #[.int .i64 nv, .int .i64 fk, .string fd, .string fr, .int .i64 fm, .string fb] 37) = w9 at *
        have r0 : w9.cell? ⟨w.heap.size, 0, none⟩ = some (.int .i64 nv) := blk_cell hZ 0
        have r1 : w9.cell? ⟨w.heap.size, 1, none⟩ = some (.int .i64 fk) := blk_cell hZ 1
        have r2 : w9.cell? ⟨w.heap.size, 2, none⟩ = some (.string fd) := blk_cell hZ 2
        have r3 : w9.cell? ⟨w.heap.size, 3, none⟩ = some (.string fr) := blk_cell hZ 3
        have r4 : w9.cell? ⟨w.heap.size, 4, none⟩ = some (.int .i64 fm) := blk_cell hZ 4
        have r5 : w9.cell? ⟨w.heap.size, 5, none⟩ = some (.string fb) := blk_cell hZ 5
        refine bodyPost_ret (v := .tuple #[.agg #[.int .i64 nv, .int .i64 fk, .string fd, .string fr, .int .i64 fm, .string fb], .bool false]) (by simp [results, Tryz.results34, go_sem, r0, r1, r2, r3, r4, r5]) rfl ?_
        have h9 := HFIN.out false fk fd fr fm fb HQ4.out rfl
        exact ⟨(nv, fk, fd, fr, fm, fb), h9.1, h9.2, hbZ⟩
      · go_wp2
        generalize ((((((w4.setCell ⟨w.heap.size, 0, none⟩ (.int .i64 nv)).setCell ⟨w.heap.size, 1, none⟩ (.int .i64 fk)).setCell ⟨w.heap.size, 2, none⟩ (.string fd)).setCell ⟨w.heap.size, 3, none⟩ (.string fr)).setCell ⟨w.heap.size, 4, none⟩ (.int .i64 fm)).setCell ⟨w.heap.size, 5, none⟩ (.string fb)).alloc (.cells #[.int .i64 nv, .int .i64 fk, .string fd, .string fr, .int .i64 fm, .string fb] 37) = w9 at *
        have r0 : w9.cell? ⟨w.heap.size, 0, none⟩ = some (.int .i64 nv) := blk_cell hZ 0
        have r1 : w9.cell? ⟨w.heap.size, 1, none⟩ = some (.int .i64 fk) := blk_cell hZ 1
        have r2 : w9.cell? ⟨w.heap.size, 2, none⟩ = some (.string fd) := blk_cell hZ 2
        have r3 : w9.cell? ⟨w.heap.size, 3, none⟩ = some (.string fr) := blk_cell hZ 3
        have r4 : w9.cell? ⟨w.heap.size, 4, none⟩ = some (.int .i64 fm) := blk_cell hZ 4
        have r5 : w9.cell? ⟨w.heap.size, 5, none⟩ = some (.string fb) := blk_cell hZ 5
        refine bodyPost_ret (v := .tuple #[.agg #[.int .i64 nv, .int .i64 fk, .string fd, .string fr, .int .i64 fm, .string fb], .bool fs]) (by simp [results, Tryz.results34, go_sem, r0, r1, r2, r3, r4, r5]) rfl ?_
        have h9 := HFIN.out fs fk fd fr fm fb HQ4.out rfl
        exact ⟨(nv, fk, fd, fr, fm, fb), h9.1, h9.2, hbZ⟩)
end Go.Proofs.YtilhonppgedoiaaGreatDoor
namespace Go.Proofs.YtilhonppgedoiaaGreatDoor
open Go.RowKit Go.Sort Go.Maps
set_option maxHeartbeats 4000000 in
set_option maxRecDepth 100000 in
theorem FdRead_any (s : ByteArray) (w : World) (hT : TxW w) (hs : s.size ≤ 1000000) :
    Calls Tryz.prog 7 #[.string s] w fun e w' => ∃ v, e = .returned (.tuple #[v, .int .i64 (feedsRead (bsOf s)).2.1, .int .i64 (feedsRead (bsOf s)).2.2]) ∧ OwnR TFe w' w.heap.size v (feedsRead (bsOf s)).1 ∧ Below w.heap.size w w' := by
  have hsz : (bsOf s).length = s.size := bsOf_len s
  by_cases hbig : 200000 < s.size
  · have HV : Hid (feedsRead (bsOf s) = ([], 0, 2)) := Lib.hid (by unfold feedsRead; rw [if_pos (by omega)])
    have hb1 : (200000 : Int) < (s.size : Int) := by omega
    clear hsz
    go_enter Tryz.func7, Tryz.ntmps7
    go_wp2
    go_ret3
    exact ⟨_, by rw [HV.out] <;> rfl, by rw [HV.out]; exact OwnR.nil _ _, Below.refl _ _⟩
  · have HV : Hid (feedsRead (bsOf s) = rdEndF (readK rdF (linesK (bsOf s)).2 0 (linesK (bsOf s)).1)) := Lib.hid (by unfold feedsRead; rw [if_neg (by omega), readK_eq])
    have hb1 : ¬ (200000 : Int) < (s.size : Int) := by omega
    have HLI := Lib.hid (Lines_any s w hT hs)
    have hle := linesS_le (bsOf s)
    have hln := linesS_len (bsOf s)
    have HLE := Lib.hid hle
    obtain ⟨bo, hbo⟩ : ∃ bo, bo = (linesK (bsOf s)).2 := ⟨_, rfl⟩
    obtain ⟨Ls, hLs⟩ : ∃ Ls, Ls = (linesK (bsOf s)).1 := ⟨_, rfl⟩
    change Hid (Calls _ _ _ _ fun e w' => ∃ v l, e = .returned (.tuple #[v, .bool (linesK (bsOf s)).2]) ∧ OwnR TS w' w.heap.size v l ∧ l.map bsOf = (linesK (bsOf s)).1 ∧ l.length ≤ 1000001 ∧ Below w.heap.size w w') at HLI
    rw [← hbo, ← hLs] at HV HLI
    rw [← hLs] at HLE hln
    have HT := Lib.hid hT
    clear hbo hLs hT hle
    go_enter Tryz.func7, Tryz.ntmps7
    go_wp2_with fail
    refine HLI.out.mono ?_
    rintro e w1 ⟨v, l, rfl, hO, hm, _, hb⟩
    obtain ⟨sa, scap, rfl, hc1, hc2⟩ := hO.form
    have hll : l.length = Ls.length := by rw [← hm, List.length_map]
    have hl1 : l.length ≤ 200001 := by omega
    have HO := Lib.hid hO
    have HM := Lib.hid hm
    have HLL := Lib.hid hll
    have hz1 := hb.size
    have hT1 := HT.out.below hb
    have HT1 := Lib.hid hT1
    have HB := Lib.hid hb
    clear hO hm hll hln hT1 hb
    go_wp2_with fail
    go_loopw [7, 22] (fun v i wr => ∃ (k : Nat) (ss : List Fed), k ≤ l.length ∧ i = .int .i64 k ∧ OwnR TFe wr w1.heap.size v ss ∧ Hid (ss.length = k ∧ ontoF [] (readK rdF bo 0 Ls) = ontoF ss (readK rdF bo k (Ls.drop k))) ∧ Below w1.heap.size w1 wr) (fun _ i _ => l.length - (intOf i).toNat)
    case atStart =>
      exact ⟨0, [], Nat.zero_le _, rfl, OwnR.nil _ _, Lib.hid ⟨rfl, rfl⟩, Below.refl _ _⟩
    case round =>
      obtain ⟨k, ss, hk, rfl, hOp, hP, hB⟩ := hrel
      by_cases hlt : k < l.length
      · obtain ⟨x, hx⟩ : ∃ x, l[k]? = some x := ⟨_, List.getElem?_eq_getElem hlt⟩
        have hLx : Ls[k]? = some (bsOf x) := by rw [← HM.out, List.getElem?_map, hx]; rfl
        obtain ⟨hkl, hLk⟩ := List.getElem?_eq_some_iff.1 hLx
        have hdr : Ls.drop k = bsOf x :: Ls.drop (k + 1) := by rw [List.drop_eq_getElem_cons hkl, hLk]
        have hxs : x.size ≤ 200000 := by
          have h1 := HLE.out _ (List.mem_of_getElem? hLx)
          have h2 := bsOf_len x
          omega
        obtain ⟨b, o, rfl, _, hb, c0⟩ := str_at (HO.out.rec.below hB) hx
        have hw1 : IntKind.i64.wrap ((k : Int) + 1) = ((k + 1 : Nat) : Int) := by rw [IntWalk.i64_in _ (by omega)]; omega
        have hw2 : IntKind.i64.wrap ((l.length : Int) - 1) = ((l.length - 1 : Nat) : Int) := by rw [IntWalk.i64_in _ (by omega)]; omega
        have HRL := Lib.hid fun (U : World) (hU : TxW U) => FdLine_any x U hU (by omega)
        have HDR := Lib.hid hdr
        clear hx hLx hkl hLk hdr
        have HTk := Lib.hid (HT1.out.below hB)
        have HBAD := Lib.hid (show (rdF (bsOf x) = none ∨ (bo = false ∧ Ls.drop (k + 1) = [])) → feedsRead (bsOf s) = ([], (k : Int), 9) from fun h => by
          have h1 := hP.out.2
          rw [HDR.out, readKF_bad h, ontoF_nil] at h1
          rw [HV.out, h1]; rfl)
        go_wp2_with fail
        refine (HRL.out _ HTk.out).mono ?_
        rintro e w2 ⟨⟨qa, qk, qd, qr, qm, qb⟩, rfl, hq, hb2⟩
        have hval : fedV (qa, qk, qd, qr, qm, qb) = .agg #[.int .i64 qa, .int .i64 qk, .string qd, .string qr, .int .i64 qm, .string qb] := rfl
        obtain ⟨ob, hob⟩ : ∃ ob, ob = (rdF (bsOf x)).isSome := ⟨_, rfl⟩
        rw [← hob, hval]
        clear hval
        have HOB := Lib.hid (And.intro hob hq)
        have hB2 := Bl.trans hB hb2
        have hOp2 := hOp.below hb2
        have hz2 := hB2.size
        obtain ⟨pa, pcap, rfl, _, _⟩ := hOp2.form
        have HOp := Lib.hid hOp2
        have HB2 := Lib.hid hB2
        have HB3 := Lib.hid (HB.out.trans ((Bl.alloc hB2 (.cells #[.int .i64 qa, .int .i64 qk, .string qd, .string qr, .int .i64 qm, .string qb] 37)).mono hz1))
        clear hOp hOp2 hB hb2 hob hq hB2 HRL c0
        cases ob
        · have HR : Hid (feedsRead (bsOf s) = ([], (k : Int), 9)) := Lib.hid (HBAD.out (.inl (by
            have h1 := HOB.out.1
            cases h : rdF (bsOf x) with
            | none => rfl
            | some q => rw [h] at h1; cases h1)))
          clear HBAD
          go_wp2
          go_ret3
          exact ⟨_, by rw [HR.out] <;> rfl, by rw [HR.out]; exact OwnR.nil _ _, HB3.out⟩
        · have HP2 : Hid (rdF (bsOf x) = some (qa, qk, qd, qr, qm, qb)) := Lib.hid (by
            have h1 := HOB.out
            cases h : rdF (bsOf x) with
            | none => rw [h] at h1; cases h1.1
            | some q => rw [h1.2 q h])
          by_cases hlast : bo = false ∧ k + 1 = l.length
          · obtain ⟨rfl, hl9⟩ := hlast
            have HR : Hid (feedsRead (bsOf s) = ([], (k : Int), 9)) := Lib.hid (HBAD.out (.inr ⟨rfl, by rw [List.drop_eq_nil_iff]; have := HLL.out; omega⟩))
            have hqb : ((k : Int) == ((l.length - 1 : Nat) : Int)) = true := by simp; omega
            have hqc : (k : Int) = ((l.length - 1 : Nat) : Int) := by omega
            have HQC := Lib.hid hqc
            clear hl9 hqc HBAD
            go_wp2
            go_ret3
            exact ⟨_, by rw [HR.out] <;> rfl, by rw [HR.out]; exact OwnR.nil _ _, HB3.out⟩
          · have hgood : ¬(bo = false ∧ Ls.drop (k + 1) = []) := fun h => hlast ⟨h.1, by have h2 := h.2; rw [List.drop_eq_nil_iff] at h2; have := HLL.out; omega⟩
            have HP3 : Hid ((ss ++ [(qa, qk, qd, qr, qm, qb)]).length = k + 1 ∧ ontoF [] (readK rdF bo 0 Ls) = ontoF (ss ++ [(qa, qk, qd, qr, qm, qb)]) (readK rdF bo (k + 1) (Ls.drop (k + 1)))) := Lib.hid ⟨by rw [List.length_append, hP.out.1]; rfl, by rw [hP.out.2, HDR.out, readKF_good HP2.out hgood]⟩
            have hpk : ss.length ≤ 200001 := by rw [hP.out.1]; omega
            have hqq : bo = true ∨ (bo = false ∧ ((k : Int) == ((l.length - 1 : Nat) : Int)) = false ∧ ¬ (k : Int) = ((l.length - 1 : Nat) : Int)) := by
              cases bo with
              | true => exact .inl rfl
              | false =>
                have h9 : ¬ (k : Int) = ((l.length - 1 : Nat) : Int) := fun e => hlast ⟨rfl, by omega⟩
                exact .inr ⟨rfl, by simpa using h9, h9⟩
            clear hlast hgood HBAD hP
            rcases hqq with rfl | ⟨rfl, hq1, hq2⟩
            all_goals
              go_wp2_with (at_builtin; refine wp_app_rec TFe.ok rfl _ _ rfl w1.heap.size _ ss rfl ((HOp.out.alloc _).alloc _) (w2.heap.size + 1) 1 (qa, qk, qd, qr, qm, qb) rfl (blk_new' _ _ (by simp)) rfl (by omega) (by simp; omega) ?_)
              intro v4 w4 hO4 hg4 hb4
              have HO4 := Lib.hid (And.intro hO4 (Below.trans (Bl.alloc (Bl.alloc HB2.out _) _) hb4))
              clear hO4 hg4 hb4
              go_wp2
              go_roundw
              case rel => exact ⟨k + 1, ss ++ [(qa, qk, qd, qr, qm, qb)], by omega, by go_num, HO4.out.1, HP3, HO4.out.2⟩
              case measure => simp [intOf]; omega
      · obtain rfl : k = l.length := by omega
        have HR : Hid (readK rdF bo 0 Ls = .ok ss) := Lib.hid (by
          have h1 := hP.out.2
          rw [HLL.out, List.drop_length, ontoF_nil] at h1
          rw [h1]; simp [readK, ontoF])
        have hpl : ss.length ≤ 200001 := by rw [hP.out.1]; omega
        have HPo := Lib.hid hOp
        obtain ⟨pa, pcap, rfl, _, _⟩ := hOp.form
        have HV1 : Hid (feedsRead (bsOf s) = if 5000 < ss.length then ([], 0, 2) else (ss, 0, 0)) := Lib.hid (by rw [HV.out, HR.out]; rfl)
        have hBw := HB.out.trans (hB.mono hz1)
        clear HV hOp hP hB
        by_cases h0 : 5000 < ss.length
        · have HV0 : Hid (feedsRead (bsOf s) = ([], 0, 2)) := Lib.hid (by rw [HV1.out, if_pos h0])
          have h1 : (5000 : Int) < (ss.length : Int) := by omega
          clear HV1 h0
          go_wp2
          go_ret3
          exact ⟨_, by rw [HV0.out] <;> rfl, by rw [HV0.out]; exact OwnR.nil _ _, hBw⟩
        · have HV0 : Hid (feedsRead (bsOf s) = (ss, 0, 0)) := Lib.hid (by rw [HV1.out, if_neg h0])
          have h1 : ¬ (5000 : Int) < (ss.length : Int) := by omega
          clear HV1 h0
          go_wp2
          go_ret3
          exact ⟨_, by rw [HV0.out] <;> rfl, by rw [HV0.out]; exact OwnR.base HPo.out hz1, hBw⟩
end Go.Proofs.YtilhonppgedoiaaGreatDoor
