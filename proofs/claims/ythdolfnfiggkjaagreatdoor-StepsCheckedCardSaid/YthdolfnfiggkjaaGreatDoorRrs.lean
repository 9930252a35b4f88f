/- The reference's Words. Conditions: what lies in the library (TxW); lines of at most 10^6 bytes. · The reference's stepOf. Conditions: at most 2^20 words. · The closure of the reference's StepsRead: one line, one step. Conditions: what lies in the library (TxW); lines of at most 10^6 bytes. · The reference's Lines over the closure of StepsRead. Conditions: what lies in the library (TxW), below the box of the closure; texts of at most 200000 bytes. · The reference's StepsRead. Conditions: what lies in the library (TxW); texts of at most 10^6 bytes. -/
import Derived.Test.YthdolfnfiggkjaaGreatDoorSrd
import Derived.Test.YthdolfnfiggkjaaGreatDoorSss
import Derived.Test.YthdolfnfiggkjaaGreatDoorRrd
namespace Go.Proofs.YthdolfnfiggkjaaGreatDoor
open Go.RowKit Go.Sort Go.Maps

theorem HasB_any (l : List ByteArray) (v : Value) (x : ByteArray) (w : World) (hlen : l.length ≤ 10000000) (rl : RecR TS w 0 v l) :
    Calls Tryz.prog 150 #[v, .string x] w fun e w' => e = .returned (.bool (Lib.containsS l x)) ∧ w = w' := by
  obtain ⟨a, cap, rfl, hc1, hc2⟩ := rl.form
  by_cases h0 : l = []
  · subst h0
    exact (Tryz.slices_Contains_string_empty a cap x w).mono fun e w' ⟨h1, h2⟩ => ⟨by rw [h1]; rfl, h2.symm⟩
  · obtain ⟨y, hy⟩ : ∃ y, l[0]? = some y := ⟨_, List.getElem?_eq_getElem (List.length_pos_iff.2 h0)⟩
    obtain ⟨b, o, rfl, _, _, _⟩ := str_at rl hy
    have := Tryz.slices_Contains_string b o l.length cap l x w (Nat.le_refl _) (by omega) (str_cells rl)
    rw [List.take_length] at this
    exact this.mono fun e w' ⟨h1, h2⟩ => ⟨h1, h2.symm⟩
theorem has_empty (l : List ByteArray) : (!Lib.containsS l ⟨#[]⟩) = decide ([] ∉ l.map bsOf) := by
  have h : Lib.containsS l ⟨#[]⟩ = true ↔ [] ∈ l.map bsOf := by
    rw [Lib.containsS_iff, List.mem_map]
    constructor
    · intro hm; exact ⟨_, hm, rfl⟩
    · rintro ⟨x, hx, e⟩
      have hx0 : x = ⟨#[]⟩ := bsOf_inj (e.trans rfl)
      rw [← hx0]; exact hx
  by_cases hm : [] ∈ l.map bsOf
  · rw [h.2 hm, decide_eq_false (fun hn => hn hm)]; rfl
  · have h2 : Lib.containsS l ⟨#[]⟩ = false := by
      cases hc : Lib.containsS l ⟨#[]⟩ with
      | false => rfl
      | true => exact absurd (h.1 hc) hm
    rw [h2, decide_eq_true hm]; rfl
set_option maxHeartbeats 4000000 in
theorem RWords_any (s : ByteArray) (w : World) (hT : TxW w) (hs : s.size ≤ 1000000) :
    Calls Tryz.prog 84 #[.string s] w fun e w' => ∃ v l, e = .returned (.tuple #[v, .bool (decide ([] ∉ splitL 32 (bsOf s)))]) ∧ OwnR TS w' w.heap.size v l ∧ l.map bsOf = splitL 32 (bsOf s) ∧ l.length ≤ 1000001 ∧ Below w.heap.size w w' := by
  have HSP := Lib.hid (Split_any s 32 w hT hs)
  clear hT hs
  go_enter Tryz.func84, Tryz.ntmps84
  go_wp2_with fail
  refine HSP.out.mono ?_
  rintro e w1 ⟨v, l, rfl, hO, hm, hl1, hb⟩
  have hm' : l.map bsOf = splitL 32 (bsOf s) := hm
  obtain ⟨q, hq⟩ : ∃ q, q = Lib.containsS l ⟨#[]⟩ := ⟨_, rfl⟩
  have HHB0 := HasB_any l v ⟨#[]⟩ w1 (by omega) hO.rec0
  rw [← hq] at HHB0
  have HHB := Lib.hid HHB0
  have HQ : Hid ((!q) = decide ([] ∉ splitL 32 (bsOf s))) := Lib.hid (by rw [hq, has_empty, hm'])
  obtain ⟨a1, n1, c1, hv⟩ : ∃ a n c, v = .slice a n c := (by obtain ⟨a, c, h, _, _⟩ := hO.form; exact ⟨a, _, c, h⟩)
  subst hv
  have HO := Lib.hid (And.intro hO (And.intro hm' (And.intro hl1 hb)))
  clear hO hm hm' hl1 hb hq HHB0 HSP
  go_wp2_with fail
  refine HHB.out.mono ?_
  rintro e w2 ⟨rfl, rfl⟩
  go_wp2
  go_ret2
  exact ⟨_, l, by rw [← HQ.out] <;> rfl, HO.out⟩
end Go.Proofs.YthdolfnfiggkjaaGreatDoor
namespace Go.Proofs.YthdolfnfiggkjaaGreatDoor
open Go.RowKit Go.Sort Go.Maps

theorem kdOf_idx2 (x : ByteArray) : kdOf (bsOf x) = (if Lib.idxOfS (kwB.drop 1) x + 1 = 0 then none else some (Lib.idxOfS (kwB.drop 1) x + 1)) ∧ -1 ≤ Lib.idxOfS (kwB.drop 1) x ∧ Lib.idxOfS (kwB.drop 1) x ≤ 5 := by
  have h : ∀ k : Bs, (baOf k = x) ↔ (bsOf x = k) := fun k => ⟨fun h => by rw [← h, bsOf_baOf], fun h => by rw [← h, baOf_bsOf]⟩
  have e : Lib.idxOfS (kwB.drop 1) x = if bsOf x = kwOf 1 then 0 else if bsOf x = kwOf 2 then 1 else if bsOf x = kwOf 3 then 2 else if bsOf x = kwOf 4 then 3 else if bsOf x = kwOf 5 then 4 else if bsOf x = kwOf 6 then 5 else -1 := by
    show Lib.idxFromS [baOf (kwOf 1), baOf (kwOf 2), baOf (kwOf 3), baOf (kwOf 4), baOf (kwOf 5), baOf (kwOf 6)] x 0 = _
    simp only [Lib.idxFromS, h]
    rfl
  rw [e]
  unfold kdOf
  by_cases h1 : bsOf x = kwOf 1
  · rw [h1]; decide
  by_cases h2 : bsOf x = kwOf 2
  · rw [h2]; decide
  by_cases h3 : bsOf x = kwOf 3
  · rw [h3]; decide
  by_cases h4 : bsOf x = kwOf 4
  · rw [h4]; decide
  by_cases h5 : bsOf x = kwOf 5
  · rw [h5]; decide
  by_cases h6 : bsOf x = kwOf 6
  · rw [h6]; decide
  simp only [if_neg h1, if_neg h2, if_neg h3, if_neg h4, if_neg h5, if_neg h6]
  decide
theorem frW_cons2 {x y : ByteArray} {r : List ByteArray} : frW (bsOf x :: bsOf y :: r.map bsOf) =
    if ¬ Lib.idxOfS (kwB.drop 1) y + 1 = 0 ∧ r.length = (if namB (Lib.idxOfS (kwB.drop 1) y + 1) = true then 1 else 0) then some (x, Lib.idxOfS (kwB.drop 1) y + 1, r.headD ⟨#[]⟩) else none := by
  have hk := (kdOf_idx2 y).1
  generalize Lib.idxOfS (kwB.drop 1) y + 1 = ki at *
  match r with
  | [] =>
    show (match kdOf (bsOf y) with | some i => if namB i = false then some (baOf (bsOf x), i, (⟨#[]⟩ : ByteArray)) else none | none => none) = _
    rw [hk]
    by_cases h : ki = 0
    · rw [if_pos h, if_neg (fun e => e.1 h)]
    · rw [if_neg h]
      cases hn : namB ki <;> simp [hn, h, baOf_bsOf]
  | [c] =>
    show (match kdOf (bsOf y) with | some i => if namB i = true then some (baOf (bsOf x), i, baOf (bsOf c)) else none | none => none) = _
    rw [hk]
    by_cases h : ki = 0
    · rw [if_pos h, if_neg (fun e => e.1 h)]
    · rw [if_neg h]
      cases hn : namB ki <;> simp [hn, h, baOf_bsOf]
  | c :: d :: t =>
    rw [if_neg]
    · rfl
    · rintro ⟨_, h⟩
      split at h <;> simp at h
theorem truth_any (b : Bool) (w : World) : Calls Tryz.prog 121 #[.bool b] w fun e w' => e = .returned (.int .i64 (if b = true then 1 else 0)) ∧ w = w' := by
  cases b
  all_goals (
    go_enter Tryz.func121, Tryz.ntmps121
    go_wp2
    go_ret
    exact ⟨rfl, rfl⟩)
theorem IndexR_any (kb : Nat) (y : ByteArray) (U : World) (h : RecR TS U 0 (.slice (some ⟨kb, 0, none⟩) 7 7) kwB) :
    Calls Tryz.prog 153 #[.slice (some ⟨kb, 1, none⟩) 6 6, .string y] U fun e w' => e = .returned (.int .i64 (Lib.idxOfS (kwB.drop 1) y)) ∧ U = w' := by
  have := Tryz.slices_Index_string kb 1 6 6 (kwB.drop 1) y U (by decide) (by decide) (fun j hj => by
    have h1 := str_cells h (j + 1) (by have : (kwB.drop 1).length = 6 := rfl; show j + 1 < 7; omega)
    rw [show 0 + (j + 1) = 1 + j by omega] at h1
    rw [h1]
    rfl)
  rw [show (kwB.drop 1).take 6 = kwB.drop 1 from rfl] at this
  exact this.mono fun e w' ⟨h1, h2⟩ => ⟨h1, h2.symm⟩
set_option maxHeartbeats 4000000 in
set_option maxRecDepth 100000 in
theorem stepOf_any (v : Value) (ws : List ByteArray) (w : World) (rl : RecR TS w 0 v ws) (hl : ws.length ≤ 1000001) :
    Calls Tryz.prog 86 #[v] w fun e w' => e = .returned (.tuple #[stpV (fwS (ws.map bsOf)), .bool (frW (ws.map bsOf)).isSome]) ∧ Below w.heap.size w w' := by
  obtain ⟨a, cap, rfl, hc1, hc2⟩ := rl.form
  have hX := blk_new w (.cells #[.int .i64 0, .string ⟨#[]⟩, .int .i64 0, .string ⟨#[]⟩] 50)
  have hA := Bl.alloc (Below.refl w.heap.size w) (.cells #[.int .i64 0, .string ⟨#[]⟩, .int .i64 0, .string ⟨#[]⟩] 50)
  obtain ⟨w1, hw1⟩ : ∃ w1, w1 = w.alloc (.cells #[.int .i64 0, .string ⟨#[]⟩, .int .i64 0, .string ⟨#[]⟩] 50) := ⟨_, rfl⟩
  rw [← hw1] at hX hA
  have RL := Lib.hid (rl.below hA)
  have lR := blk_lt hX
  clear rl
  by_cases h2 : ws.length < 2
  · have HR : Hid (fwS (ws.map bsOf) = (0, ⟨#[]⟩, 0, ⟨#[]⟩) ∧ (frW (ws.map bsOf)).isSome = false) := Lib.hid (by
      have h := frW_short (ws := ws.map bsOf) (by rw [List.length_map]; exact h2)
      unfold fwS
      rw [h]
      exact ⟨rfl, rfl⟩)
    have hlt : (ws.length : Int) < 2 := by omega
    have r0 : w1.cell? ⟨w.heap.size, 0, none⟩ = some (.int .i64 0) := blk_cell hX 0
    have r1 : w1.cell? ⟨w.heap.size, 1, none⟩ = some (.string ⟨#[]⟩) := blk_cell hX 1
    have r2 : w1.cell? ⟨w.heap.size, 2, none⟩ = some (.int .i64 0) := blk_cell hX 2
    have r3 : w1.cell? ⟨w.heap.size, 3, none⟩ = some (.string ⟨#[]⟩) := blk_cell hX 3
    go_enter Tryz.func86, Tryz.ntmps86
    go_wp2
    rw [← hw1]
    refine bodyPost_ret (v := .tuple #[.agg #[.int .i64 0, .string ⟨#[]⟩, .int .i64 0, .string ⟨#[]⟩], .bool false]) (by simp [results, Tryz.results86, go_sem, r0, r1, r2, r3]) rfl ?_
    exact ⟨by rw [HR.out.1, HR.out.2] <;> rfl, hA⟩
  · obtain ⟨x, y, r, rfl⟩ : ∃ x y r, ws = x :: y :: r := by
      clear hX hA RL lR hw1 hc1 hl
      match ws, h2 with
      | [], h => exact absurd (show 0 < 2 by omega) h
      | [_], h => exact absurd (show 1 < 2 by omega) h
      | x :: y :: r, _ => exact ⟨x, y, r, rfl⟩
    have hfc := frW_cons2 (x := x) (y := y) (r := r)
    have hir := (kdOf_idx2 y).2
    have HSW : Hid (∀ U : World, Calls Tryz.prog 143 #[] U fun e w' => ∃ kb : Nat, e = .returned (.slice (some ⟨kb, 0, none⟩) 7 7) ∧ Hid (RecR TS w' 0 (.slice (some ⟨kb, 0, none⟩) 7 7) kwB) ∧ Below U.heap.size U w') := Lib.hid fun U => by
      refine (stepWords_any U).mono ?_
      rintro e w' ⟨rfl, hO, hb⟩
      exact ⟨_, rfl, Lib.hid hO.rec0, hb⟩
    obtain ⟨ii, hii⟩ : ∃ ii, ii = Lib.idxOfS (kwB.drop 1) y := ⟨_, rfl⟩
    have HIX : Hid (∀ (kb : Nat) (U : World), RecR TS U 0 (.slice (some ⟨kb, 0, none⟩) 7 7) kwB → Calls Tryz.prog 153 #[.slice (some ⟨kb, 1, none⟩) 6 6, .string y] U fun e w' => e = .returned (.int .i64 ii) ∧ U = w') := Lib.hid fun kb U h => by rw [hii]; exact IndexR_any kb y U h
    rw [← hii] at hfc hir
    clear hii
    obtain ⟨ki, hki⟩ : ∃ ki, ki = ii + 1 := ⟨_, rfl⟩
    rw [← hki] at hfc
    have hwr : IntKind.i64.wrap (ii + 1) = ki := by rw [IntWalk.i64_in _ (by omega)]; exact hki.symm
    have hk6 : 0 ≤ ki ∧ ki ≤ 6 := by omega
    have HBAD : Hid (¬ (¬ ki = 0 ∧ r.length = (if namB ki = true then 1 else 0)) → fwS ((x :: y :: r).map bsOf) = (0, ⟨#[]⟩, 0, ⟨#[]⟩) ∧ (frW ((x :: y :: r).map bsOf)).isSome = false) := Lib.hid fun h => by
      rw [if_neg h] at hfc
      unfold fwS
      rw [show frW ((x :: y :: r).map bsOf) = none from hfc]
      exact ⟨rfl, rfl⟩
    have HGOOD : Hid ((¬ ki = 0 ∧ r.length = (if namB ki = true then 1 else 0)) → fwS ((x :: y :: r).map bsOf) = (0, x, ki, r.headD ⟨#[]⟩) ∧ (frW ((x :: y :: r).map bsOf)).isSome = true) := Lib.hid fun h => by
      rw [if_pos h] at hfc
      unfold fwS
      rw [show frW ((x :: y :: r).map bsOf) = some (x, ki, r.headD ⟨#[]⟩) from hfc]
      exact ⟨rfl, rfl⟩
    obtain ⟨b, o, hab, _, hbb, c0⟩ := str_at RL.out (k := 0) (x := x) rfl
    subst hab
    obtain ⟨b', o', hab, _, _, c1⟩ := str_at RL.out (k := 1) (x := y) rfl
    injection hab with hab
    injection hab with e1 e2
    subst e1; subst e2
    rw [Nat.add_zero] at c0
    obtain ⟨n, hnl⟩ : ∃ n, n = (x :: y :: r).length := ⟨_, rfl⟩
    have hnr : n = r.length + 2 := hnl
    rw [← hnl] at hc1 RL ⊢
    have hlt : ¬ (n : Int) < 2 := by omega
    have hi0 : 0 < n := by omega
    have hi1 : 1 < n := by omega
    have hidx0 : (0 : Int) < (n : Int) := by omega
    have hidx1 : (1 : Int) < (n : Int) := by omega
    have HNR := Lib.hid hnr
    clear hnl hnr hl hfc hki
    go_enter Tryz.func86, Tryz.ntmps86
    go_upto_region 3 with fail
    rw [← hw1]
    clear hw1
    have HXX := Lib.hid hX
    have HAA := Lib.hid hA
    clear hX hA
    go_cut [4] from 11 to 17 (fun v4 wx => v4 = .int .i64 ki ∧ Hid (Below w1.heap.size w1 wx))
    case first =>
      go_region_law (first
        | (refine step_goN rfl 143 #[] _ rfl (enters_of Tryz.func143 (by kernel_rfl) rfl) #[] (by simp [Act.eval, Act.put]) _ (by have hh := HSW.out; exact hh _) ?_; rintro e w2 ⟨kb, rfl, HK, hb2⟩; refine ⟨_, rfl, ?_⟩; have hbU : Below w1.heap.size w1 w2 := Bl.trans (Below.drew (Below.refl _ _)) hb2; have d1 := (hbU.cell (p := ⟨b, o + 1, none⟩) hbb).trans c1; have HBU := Lib.hid hbU; clear hb2 hbU)
        | (refine step_goN rfl 153 #[.tmp 12, .tmp 15] _ rfl (enters_of Tryz.func153 (by kernel_rfl) rfl) #[.slice (some ⟨kb, 1, none⟩) 6 6, .string y] (by simp [Act.eval, Act.put]) _ (by have hh := HIX.out kb _ HK.out; exact hh) ?_; rintro e w3 ⟨rfl, rfl⟩; refine ⟨_, rfl, ?_⟩))
      all_goals (
        go_wp2
        go_meet
        case rel => exact ⟨rfl, HBU⟩)
    case rest =>
      obtain ⟨rfl, HBW⟩ := hcut
      obtain ⟨W, rfl⟩ : ∃ W : World, W = wc := ⟨_, rfl⟩
      have hRX : W.heap[w.heap.size]? = some (.cells #[.int .i64 0, .string ⟨#[]⟩, .int .i64 0, .string ⟨#[]⟩] 50 (0, 0)) := blk_below HXX.out HBW.out
      have hBW := Bl.trans HAA.out HBW.out
      have lW := blk_lt hRX
      have k0 : W.cell? ⟨w.heap.size, 0, none⟩ = some (.int .i64 0) := blk_cell hRX 0
      have k1 : W.cell? ⟨w.heap.size, 1, none⟩ = some (.string ⟨#[]⟩) := blk_cell hRX 1
      have k2 : W.cell? ⟨w.heap.size, 2, none⟩ = some (.int .i64 0) := blk_cell hRX 2
      have k3 : W.cell? ⟨w.heap.size, 3, none⟩ = some (.string ⟨#[]⟩) := blk_cell hRX 3
      have q0 := blk_free hRX 0
      have q1 := blk_free hRX 1
      have q2 := blk_free hRX 2
      have q3 := blk_free hRX 3
      have d0 := (HBW.out.cell (p := ⟨b, o, none⟩) hbb).trans c0
      have lbW : b < W.heap.size := Nat.lt_of_lt_of_le hbb HBW.out.size
      clear c0 c1
      have hcase : ki = 0 ∨ ki = 2 ∨ ki = 4 ∨ (ki ≠ 0 ∧ ki ≠ 2 ∧ ki ≠ 4) := by omega
      rcases hcase with rfl | rfl | rfl | ⟨z0, z2, z4⟩
      · have HB : ¬ (¬ (0 : Int) = 0 ∧ r.length = (if namB 0 = true then 1 else 0)) := fun h => h.1 rfl
        have HR := Lib.hid (HBAD.out HB)
        have hZ := blk_set (blk_set (blk_set (blk_set hRX 0 (.int .i64 0)) 1 (.string ⟨#[]⟩)) 2 (.int .i64 0)) 3 (.string ⟨#[]⟩)
        have hbZ := Bl.set (Bl.set (Bl.set (Bl.set hBW w.heap.size 0 (Nat.le_refl _) (.int .i64 0)) w.heap.size 1 (Nat.le_refl _) (.string ⟨#[]⟩)) w.heap.size 2 (Nat.le_refl _) (.int .i64 0)) w.heap.size 3 (Nat.le_refl _) (.string ⟨#[]⟩)
        have HZ := Lib.hid (And.intro hZ hbZ)
        clear hZ hbZ HB hRX hBW
        go_wp2_with fail
        refine (truth_any _ _).mono ?_
        rintro e w6 ⟨rfl, rfl⟩
        go_wp2
        obtain ⟨hZ, hbZ⟩ := HZ.out
        generalize (((W.setCell ⟨w.heap.size, 0, none⟩ (.int .i64 0)).setCell ⟨w.heap.size, 1, none⟩ (.string ⟨#[]⟩)).setCell ⟨w.heap.size, 2, none⟩ (.int .i64 0)).setCell ⟨w.heap.size, 3, none⟩ (.string ⟨#[]⟩) = w9 at *
        have r0 : w9.cell? ⟨w.heap.size, 0, none⟩ = some (.int .i64 0) := blk_cell hZ 0
        have r1 : w9.cell? ⟨w.heap.size, 1, none⟩ = some (.string ⟨#[]⟩) := blk_cell hZ 1
        have r2 : w9.cell? ⟨w.heap.size, 2, none⟩ = some (.int .i64 0) := blk_cell hZ 2
        have r3 : w9.cell? ⟨w.heap.size, 3, none⟩ = some (.string ⟨#[]⟩) := blk_cell hZ 3
        refine bodyPost_ret (v := .tuple #[.agg #[.int .i64 0, .string ⟨#[]⟩, .int .i64 0, .string ⟨#[]⟩], .bool false]) (by simp [results, Tryz.results86, go_sem, r0, r1, r2, r3]) rfl ?_
        exact ⟨by rw [HR.out.1, HR.out.2] <;> rfl, hbZ⟩
      · by_cases hn3 : n = 3
        · subst hn3
          obtain ⟨z, rfl⟩ : ∃ z, r = [z] := by
            have h9 := HNR.out
            match r, h9 with
            | [z], _ => exact ⟨z, rfl⟩
          have HR := Lib.hid (HGOOD.out ⟨by decide, rfl⟩)
          obtain ⟨b', o', hab, _, hbz, cz⟩ := str_at RL.out (k := 2) (x := z) rfl
          injection hab with hab
          injection hab with e1 e2
          subst e1; subst e2
          have d2 := (HBW.out.cell (p := ⟨b, o + 2, none⟩) hbz).trans cz
          clear cz
          have hZ := blk_old (blk_set (blk_set (blk_set (blk_set hRX 0 (.int .i64 0)) 1 (.string x)) 2 (.int .i64 2)) 3 (.string z)) (.cells #[.int .i64 0, .string x, .int .i64 2, .string z] 50)
          have hbZ := Bl.alloc (Bl.set (Bl.set (Bl.set (Bl.set hBW w.heap.size 0 (Nat.le_refl _) (.int .i64 0)) w.heap.size 1 (Nat.le_refl _) (.string x)) w.heap.size 2 (Nat.le_refl _) (.int .i64 2)) w.heap.size 3 (Nat.le_refl _) (.string z)) (.cells #[.int .i64 0, .string x, .int .i64 2, .string z] 50)
          have HZ := Lib.hid (And.intro hZ hbZ)
          clear hZ hbZ hRX hBW
          go_wp2_with fail
          refine (truth_any _ _).mono ?_
          rintro e w6 ⟨rfl, rfl⟩
          go_wp2
          obtain ⟨hZ, hbZ⟩ := HZ.out
          generalize ((((W.setCell ⟨w.heap.size, 0, none⟩ (.int .i64 0)).setCell ⟨w.heap.size, 1, none⟩ (.string x)).setCell ⟨w.heap.size, 2, none⟩ (.int .i64 2)).setCell ⟨w.heap.size, 3, none⟩ (.string z)).alloc (.cells #[.int .i64 0, .string x, .int .i64 2, .string z] 50) = w9 at *
          have r0 : w9.cell? ⟨w.heap.size, 0, none⟩ = some (.int .i64 0) := blk_cell hZ 0
          have r1 : w9.cell? ⟨w.heap.size, 1, none⟩ = some (.string x) := blk_cell hZ 1
          have r2 : w9.cell? ⟨w.heap.size, 2, none⟩ = some (.int .i64 2) := blk_cell hZ 2
          have r3 : w9.cell? ⟨w.heap.size, 3, none⟩ = some (.string z) := blk_cell hZ 3
          refine bodyPost_ret (v := .tuple #[.agg #[.int .i64 0, .string x, .int .i64 2, .string z], .bool true]) (by simp [results, Tryz.results86, go_sem, r0, r1, r2, r3]) rfl ?_
          exact ⟨by rw [HR.out.1, HR.out.2] <;> rfl, hbZ⟩
        · have HB : ¬ (¬ (2 : Int) = 0 ∧ r.length = (if namB 2 = true then 1 else 0)) := fun h => hn3 (by have h1 := h.2; have h2 := HNR.out; rw [if_pos (by decide)] at h1; omega)
          have hne3 : ¬ (n : Int) = 3 := by omega
          clear hn3
          have HR := Lib.hid (HBAD.out HB)
          have hZ := blk_set (blk_set (blk_set (blk_set hRX 0 (.int .i64 0)) 1 (.string ⟨#[]⟩)) 2 (.int .i64 0)) 3 (.string ⟨#[]⟩)
          have hbZ := Bl.set (Bl.set (Bl.set (Bl.set hBW w.heap.size 0 (Nat.le_refl _) (.int .i64 0)) w.heap.size 1 (Nat.le_refl _) (.string ⟨#[]⟩)) w.heap.size 2 (Nat.le_refl _) (.int .i64 0)) w.heap.size 3 (Nat.le_refl _) (.string ⟨#[]⟩)
          have HZ := Lib.hid (And.intro hZ hbZ)
          clear hZ hbZ HB hRX hBW
          go_wp2_with fail
          refine (truth_any _ _).mono ?_
          rintro e w6 ⟨rfl, rfl⟩
          go_wp2
          obtain ⟨hZ, hbZ⟩ := HZ.out
          generalize (((W.setCell ⟨w.heap.size, 0, none⟩ (.int .i64 0)).setCell ⟨w.heap.size, 1, none⟩ (.string ⟨#[]⟩)).setCell ⟨w.heap.size, 2, none⟩ (.int .i64 0)).setCell ⟨w.heap.size, 3, none⟩ (.string ⟨#[]⟩) = w9 at *
          have r0 : w9.cell? ⟨w.heap.size, 0, none⟩ = some (.int .i64 0) := blk_cell hZ 0
          have r1 : w9.cell? ⟨w.heap.size, 1, none⟩ = some (.string ⟨#[]⟩) := blk_cell hZ 1
          have r2 : w9.cell? ⟨w.heap.size, 2, none⟩ = some (.int .i64 0) := blk_cell hZ 2
          have r3 : w9.cell? ⟨w.heap.size, 3, none⟩ = some (.string ⟨#[]⟩) := blk_cell hZ 3
          refine bodyPost_ret (v := .tuple #[.agg #[.int .i64 0, .string ⟨#[]⟩, .int .i64 0, .string ⟨#[]⟩], .bool false]) (by simp [results, Tryz.results86, go_sem, r0, r1, r2, r3]) rfl ?_
          exact ⟨by rw [HR.out.1, HR.out.2] <;> rfl, hbZ⟩
      · by_cases hn3 : n = 3
        · subst hn3
          obtain ⟨z, rfl⟩ : ∃ z, r = [z] := by
            have h9 := HNR.out
            match r, h9 with
            | [z], _ => exact ⟨z, rfl⟩
          have HR := Lib.hid (HGOOD.out ⟨by decide, rfl⟩)
          obtain ⟨b', o', hab, _, hbz, cz⟩ := str_at RL.out (k := 2) (x := z) rfl
          injection hab with hab
          injection hab with e1 e2
          subst e1; subst e2
          have d2 := (HBW.out.cell (p := ⟨b, o + 2, none⟩) hbz).trans cz
          clear cz
          have hZ := blk_old (blk_set (blk_set (blk_set (blk_set hRX 0 (.int .i64 0)) 1 (.string x)) 2 (.int .i64 4)) 3 (.string z)) (.cells #[.int .i64 0, .string x, .int .i64 4, .string z] 50)
          have hbZ := Bl.alloc (Bl.set (Bl.set (Bl.set (Bl.set hBW w.heap.size 0 (Nat.le_refl _) (.int .i64 0)) w.heap.size 1 (Nat.le_refl _) (.string x)) w.heap.size 2 (Nat.le_refl _) (.int .i64 4)) w.heap.size 3 (Nat.le_refl _) (.string z)) (.cells #[.int .i64 0, .string x, .int .i64 4, .string z] 50)
          have HZ := Lib.hid (And.intro hZ hbZ)
          clear hZ hbZ hRX hBW
          go_wp2_with fail
          refine (truth_any _ _).mono ?_
          rintro e w6 ⟨rfl, rfl⟩
          go_wp2
          obtain ⟨hZ, hbZ⟩ := HZ.out
          generalize ((((W.setCell ⟨w.heap.size, 0, none⟩ (.int .i64 0)).setCell ⟨w.heap.size, 1, none⟩ (.string x)).setCell ⟨w.heap.size, 2, none⟩ (.int .i64 4)).setCell ⟨w.heap.size, 3, none⟩ (.string z)).alloc (.cells #[.int .i64 0, .string x, .int .i64 4, .string z] 50) = w9 at *
          have r0 : w9.cell? ⟨w.heap.size, 0, none⟩ = some (.int .i64 0) := blk_cell hZ 0
          have r1 : w9.cell? ⟨w.heap.size, 1, none⟩ = some (.string x) := blk_cell hZ 1
          have r2 : w9.cell? ⟨w.heap.size, 2, none⟩ = some (.int .i64 4) := blk_cell hZ 2
          have r3 : w9.cell? ⟨w.heap.size, 3, none⟩ = some (.string z) := blk_cell hZ 3
          refine bodyPost_ret (v := .tuple #[.agg #[.int .i64 0, .string x, .int .i64 4, .string z], .bool true]) (by simp [results, Tryz.results86, go_sem, r0, r1, r2, r3]) rfl ?_
          exact ⟨by rw [HR.out.1, HR.out.2] <;> rfl, hbZ⟩
        · have HB : ¬ (¬ (4 : Int) = 0 ∧ r.length = (if namB 4 = true then 1 else 0)) := fun h => hn3 (by have h1 := h.2; have h2 := HNR.out; rw [if_pos (by decide)] at h1; omega)
          have hne3 : ¬ (n : Int) = 3 := by omega
          clear hn3
          have HR := Lib.hid (HBAD.out HB)
          have hZ := blk_set (blk_set (blk_set (blk_set hRX 0 (.int .i64 0)) 1 (.string ⟨#[]⟩)) 2 (.int .i64 0)) 3 (.string ⟨#[]⟩)
          have hbZ := Bl.set (Bl.set (Bl.set (Bl.set hBW w.heap.size 0 (Nat.le_refl _) (.int .i64 0)) w.heap.size 1 (Nat.le_refl _) (.string ⟨#[]⟩)) w.heap.size 2 (Nat.le_refl _) (.int .i64 0)) w.heap.size 3 (Nat.le_refl _) (.string ⟨#[]⟩)
          have HZ := Lib.hid (And.intro hZ hbZ)
          clear hZ hbZ HB hRX hBW
          go_wp2_with fail
          refine (truth_any _ _).mono ?_
          rintro e w6 ⟨rfl, rfl⟩
          go_wp2
          obtain ⟨hZ, hbZ⟩ := HZ.out
          generalize (((W.setCell ⟨w.heap.size, 0, none⟩ (.int .i64 0)).setCell ⟨w.heap.size, 1, none⟩ (.string ⟨#[]⟩)).setCell ⟨w.heap.size, 2, none⟩ (.int .i64 0)).setCell ⟨w.heap.size, 3, none⟩ (.string ⟨#[]⟩) = w9 at *
          have r0 : w9.cell? ⟨w.heap.size, 0, none⟩ = some (.int .i64 0) := blk_cell hZ 0
          have r1 : w9.cell? ⟨w.heap.size, 1, none⟩ = some (.string ⟨#[]⟩) := blk_cell hZ 1
          have r2 : w9.cell? ⟨w.heap.size, 2, none⟩ = some (.int .i64 0) := blk_cell hZ 2
          have r3 : w9.cell? ⟨w.heap.size, 3, none⟩ = some (.string ⟨#[]⟩) := blk_cell hZ 3
          refine bodyPost_ret (v := .tuple #[.agg #[.int .i64 0, .string ⟨#[]⟩, .int .i64 0, .string ⟨#[]⟩], .bool false]) (by simp [results, Tryz.results86, go_sem, r0, r1, r2, r3]) rfl ?_
          exact ⟨by rw [HR.out.1, HR.out.2] <;> rfl, hbZ⟩
      · have hnam : namB ki = false := by
          have hk9 : ki = 1 ∨ ki = 3 ∨ ki = 5 ∨ ki = 6 := by omega
          rcases hk9 with rfl | rfl | rfl | rfl <;> rfl
        have y0 : (ki == 0) = false := by simp [z0]
        have y2 : (ki == 2) = false := by simp [z2]
        have y4 : (ki == 4) = false := by simp [z4]
        by_cases hn2 : n = 2
        · subst hn2
          have hr0 : r = [] := List.eq_nil_of_length_eq_zero (by have := HNR.out; omega)
          subst hr0
          have HR := Lib.hid (HGOOD.out ⟨z0, by rw [hnam]; rfl⟩)
          clear hnam
          have hZ := blk_old (blk_set (blk_set (blk_set (blk_set hRX 0 (.int .i64 0)) 1 (.string x)) 2 (.int .i64 ki)) 3 (.string ⟨#[]⟩)) (.cells #[.int .i64 0, .string x, .int .i64 ki, .string ⟨#[]⟩] 50)
          have hbZ := Bl.alloc (Bl.set (Bl.set (Bl.set (Bl.set hBW w.heap.size 0 (Nat.le_refl _) (.int .i64 0)) w.heap.size 1 (Nat.le_refl _) (.string x)) w.heap.size 2 (Nat.le_refl _) (.int .i64 ki)) w.heap.size 3 (Nat.le_refl _) (.string ⟨#[]⟩)) (.cells #[.int .i64 0, .string x, .int .i64 ki, .string ⟨#[]⟩] 50)
          have HZ := Lib.hid (And.intro hZ hbZ)
          clear hZ hbZ hRX hBW
          go_wp2_with fail
          refine (truth_any _ _).mono ?_
          rintro e w6 ⟨rfl, rfl⟩
          go_wp2
          obtain ⟨hZ, hbZ⟩ := HZ.out
          generalize ((((W.setCell ⟨w.heap.size, 0, none⟩ (.int .i64 0)).setCell ⟨w.heap.size, 1, none⟩ (.string x)).setCell ⟨w.heap.size, 2, none⟩ (.int .i64 ki)).setCell ⟨w.heap.size, 3, none⟩ (.string ⟨#[]⟩)).alloc (.cells #[.int .i64 0, .string x, .int .i64 ki, .string ⟨#[]⟩] 50) = w9 at *
          have r0 : w9.cell? ⟨w.heap.size, 0, none⟩ = some (.int .i64 0) := blk_cell hZ 0
          have r1 : w9.cell? ⟨w.heap.size, 1, none⟩ = some (.string x) := blk_cell hZ 1
          have r2 : w9.cell? ⟨w.heap.size, 2, none⟩ = some (.int .i64 ki) := blk_cell hZ 2
          have r3 : w9.cell? ⟨w.heap.size, 3, none⟩ = some (.string ⟨#[]⟩) := blk_cell hZ 3
          refine bodyPost_ret (v := .tuple #[.agg #[.int .i64 0, .string x, .int .i64 ki, .string ⟨#[]⟩], .bool true]) (by simp [results, Tryz.results86, go_sem, r0, r1, r2, r3]) rfl ?_
          exact ⟨by rw [HR.out.1, HR.out.2] <;> rfl, hbZ⟩
        · have HB : ¬ (¬ ki = 0 ∧ r.length = (if namB ki = true then 1 else 0)) := fun h => hn2 (by have h1 := h.2; have h2 := HNR.out; rw [hnam, if_neg (by decide)] at h1; omega)
          have hne2 : ¬ (n : Int) = 2 := by omega
          clear hn2 hnam
          have HR := Lib.hid (HBAD.out HB)
          have hZ := blk_set (blk_set (blk_set (blk_set hRX 0 (.int .i64 0)) 1 (.string ⟨#[]⟩)) 2 (.int .i64 0)) 3 (.string ⟨#[]⟩)
          have hbZ := Bl.set (Bl.set (Bl.set (Bl.set hBW w.heap.size 0 (Nat.le_refl _) (.int .i64 0)) w.heap.size 1 (Nat.le_refl _) (.string ⟨#[]⟩)) w.heap.size 2 (Nat.le_refl _) (.int .i64 0)) w.heap.size 3 (Nat.le_refl _) (.string ⟨#[]⟩)
          have HZ := Lib.hid (And.intro hZ hbZ)
          clear hZ hbZ HB hRX hBW
          go_wp2_with fail
          refine (truth_any _ _).mono ?_
          rintro e w6 ⟨rfl, rfl⟩
          go_wp2
          obtain ⟨hZ, hbZ⟩ := HZ.out
          generalize (((W.setCell ⟨w.heap.size, 0, none⟩ (.int .i64 0)).setCell ⟨w.heap.size, 1, none⟩ (.string ⟨#[]⟩)).setCell ⟨w.heap.size, 2, none⟩ (.int .i64 0)).setCell ⟨w.heap.size, 3, none⟩ (.string ⟨#[]⟩) = w9 at *
          have r0 : w9.cell? ⟨w.heap.size, 0, none⟩ = some (.int .i64 0) := blk_cell hZ 0
          have r1 : w9.cell? ⟨w.heap.size, 1, none⟩ = some (.string ⟨#[]⟩) := blk_cell hZ 1
          have r2 : w9.cell? ⟨w.heap.size, 2, none⟩ = some (.int .i64 0) := blk_cell hZ 2
          have r3 : w9.cell? ⟨w.heap.size, 3, none⟩ = some (.string ⟨#[]⟩) := blk_cell hZ 3
          refine bodyPost_ret (v := .tuple #[.agg #[.int .i64 0, .string ⟨#[]⟩, .int .i64 0, .string ⟨#[]⟩], .bool false]) (by simp [results, Tryz.results86, go_sem, r0, r1, r2, r3]) rfl ?_
          exact ⟨by rw [HR.out.1, HR.out.2] <;> rfl, hbZ⟩
end Go.Proofs.YthdolfnfiggkjaaGreatDoor
namespace Go.Proofs.YthdolfnfiggkjaaGreatDoor
open Go.RowKit Go.Sort Go.Maps

/-- the box Bo holds a row of steps of the call's own. -/
def BoxS (B Bo : Nat) (ss : List Stp) (W : World) : Prop := ∃ v, W.heap[Bo]? = some (.cells #[v] 29 (0, 0)) ∧ OwnR TSt W B v ss
theorem BoxS.below {B Bo : Nat} {ss : List Stp} {W W' : World} (h : BoxS B Bo ss W) (hb : Below W.heap.size W W') : BoxS B Bo ss W' := by
  obtain ⟨v, h1, h2⟩ := h
  exact ⟨v, blk_below h1 hb, h2.below hb⟩
theorem rdW_num {z : Bs} {r : List Bs} (h : [] ∉ z :: r) {n : Int} (hn : ∀ q, numT 15 z = some q → q = n) : (rdW (z :: r)).isSome = ((frW r).isSome && (numT 15 z).isSome) ∧ ∀ p, rdW (z :: r) = some p → p = (n, (fwS r).2.1, (fwS r).2.2.1, (fwS r).2.2.2) := by
  obtain ⟨h1, h2⟩ := rdW_parts h
  refine ⟨by rw [h1, Bool.and_comm], fun p hp => ?_⟩
  rw [h2 p hp]
  have hs : (rdW (z :: r)).isSome = true := by rw [hp]; rfl
  rw [h1] at hs
  cases hz : numT 15 z with
  | none => rw [hz] at hs; cases hs
  | some q => rw [hn q hz]; rfl
set_option maxHeartbeats 4000000 in
set_option maxRecDepth 100000 in
theorem Rsl_any (B Bo : Nat) (x : ByteArray) (ss : List Stp) (W : World) (hT : TxW W) (hx : x.size ≤ 1000000) (hI : BoxS B Bo ss W) (hp : ss.length ≤ 900000) (hBo : Bo < B) (hBW : B ≤ W.heap.size) :
    Calls Tryz.prog 83 #[.string x, .pointer (some ⟨Bo, 0, none⟩)] W fun e W' => e = .returned (.bool (rdS (bsOf x)).isSome) ∧ ∃ ss', BoxS B Bo ss' W' ∧ (∀ p, rdS (bsOf x) = some p → ss' = ss ++ [p]) ∧ ss'.length ≤ ss.length + 1 ∧ Below Bo W W' := by
  have HKW := Lib.hid (RWords_any x W hT hx)
  obtain ⟨Ls, hLs⟩ : ∃ Ls, Ls = splitL 32 (bsOf x) := ⟨_, rfl⟩
  have HRD : Hid (rdS (bsOf x) = rdW Ls) := Lib.hid (by rw [hLs]; rfl)
  have HLE : Hid (∀ z ∈ Ls, z.length ≤ 1000000) := Lib.hid fun z hz => by
    have h1 := splitS_le 32 (bsOf x) z (by rw [← hLs]; exact hz)
    have h2 := bsOf_len x
    omega
  have HNE : Hid (Ls ≠ []) := Lib.hid fun h => by
    have := splitL_len 32 (bsOf x)
    rw [← hLs, h] at this
    simp at this
  rw [← hLs] at HKW
  have HT := Lib.hid hT
  have HI := Lib.hid hI
  have hsz : Bo < W.heap.size := by omega
  clear hLs hT hI
  go_enter Tryz.func83, Tryz.ntmps83
  go_wp2_with fail
  refine HKW.out.mono ?_
  rintro e w2 ⟨v, l, rfl, hO, hml, hl1, hb2⟩
  by_cases hm : [] ∈ Ls
  · have hd : decide ([] ∉ Ls) = false := by simp [hm]
    rw [hd]
    have HR : Hid (rdS (bsOf x) = none) := Lib.hid (by rw [HRD.out]; unfold rdW; rw [if_pos hm])
    have HF := Lib.hid (And.intro (HI.out.below hb2) (hb2.mono (Nat.le_of_lt hsz)))
    obtain ⟨a1, n1, c1, rfl⟩ : ∃ a n c, v = .slice a n c := (by obtain ⟨a, c, h, _, _⟩ := hO.form; exact ⟨a, _, c, h⟩)
    clear hO hml hl1 hb2 hm hd HKW
    go_wp2
    go_ret
    exact ⟨by rw [HR.out] <;> rfl, ss, HF.out.1, (fun p hp => by rw [HR.out] at hp; cases hp), by omega, HF.out.2⟩
  · have hd : decide ([] ∉ Ls) = true := by simp [hm]
    rw [hd]
    obtain ⟨z, r, rfl⟩ : ∃ z r, l = z :: r := by
      cases l with
      | nil => exact absurd hml.symm HNE.out
      | cons z r => exact ⟨z, r, rfl⟩
    subst hml
    have HM := Lib.hid hm
    have hzs : z.size ≤ 1000000 := by
      have h1 := HLE.out (bsOf z) (by simp)
      rw [bsOf_len] at h1
      exact h1
    obtain ⟨g, c, cur, rfl, _, hgb, hc1, hc2, _⟩ := hO.blk (by simp)
    obtain ⟨n, hn⟩ : ∃ n, n = (z :: r).length := ⟨_, rfl⟩
    rw [← hn] at hc1 hl1 hO
    have HNR : Hid (n = r.length + 1) := Lib.hid hn
    have hnp : (0 : Int) < (n : Int) := by rw [HNR.out]; omega
    have hnp1 : (1 : Int) ≤ (n : Int) := by rw [HNR.out]; omega
    have hcm : c ≤ 9223372036854775807 := by unfold maxLen at hc2; omega
    obtain ⟨_, _, e0, _, hgl, c0⟩ := str_at hO.rec (k := 0) (x := z) rfl
    injection e0 with e0
    injection e0 with e1 e2
    subst e1; subst e2
    have HOR := Lib.hid hO.rec0
    have HB2 := Lib.hid hb2
    have HNU := Lib.hid (RNumber_any z 15 w2 (HT.out.below hb2) hzs (by decide))
    obtain ⟨fs, hfs⟩ : ∃ fs, fs = (frW (r.map bsOf)).isSome := ⟨_, rfl⟩
    obtain ⟨fq, hfq⟩ : ∃ fq, fq = fwS (r.map bsOf) := ⟨_, rfl⟩
    obtain ⟨fa, fb, fk, fc⟩ := fq
    have HFW : Hid (∀ (a : Option Addr) (c' : Nat), (r ≠ [] → a = some ⟨g, 0 + 1, none⟩) → r.length ≤ c' → c' ≤ 9223372036854775807 → ∀ U, Below w2.heap.size w2 U → Calls Tryz.prog 86 #[.slice a (n - 1) c'] U fun e w' => e = .returned (.tuple #[.agg #[.int .i64 fa, .string fb, .int .i64 fk, .string fc], .bool fs]) ∧ Below U.heap.size U w') := Lib.hid fun a c' h1 h2 h3 U hU => by
      have h4 : n - 1 = r.length := by rw [HNR.out]; rfl
      rw [h4, hfs]
      have h5 := stepOf_any (.slice a r.length c') r U (strs_tail (HOR.out.below hU) a h1 c' h2 h3) (by have := HNR.out; omega)
      rw [← hfq] at h5
      exact h5
    have HFQ := Lib.hid (And.intro hfs hfq)
    clear hb2 hm hd hO hgb hc2 HKW hfs hfq
    rw [← hn]
    clear hn
    go_wp2_with fail
    refine HNU.out.mono ?_
    rintro e w3 ⟨nv, rfl, hnq, hb3⟩
    obtain ⟨ok, hok⟩ : ∃ ok, ok = (numT 15 z.data.toList).isSome := ⟨_, rfl⟩
    rw [← hok]
    have HP : Hid ((rdS (bsOf x)).isSome = (fs && ok) ∧ ∀ p, rdS (bsOf x) = some p → p = (nv, fb, fk, fc)) := Lib.hid (by
      have h1 := rdW_num HM.out (n := nv) hnq
      rw [← HFQ.out.2, ← HFQ.out.1] at h1
      rw [HRD.out, hok]
      exact h1)
    have HB3 := Lib.hid hb3
    clear hb3 hnq hok
    go_wp2_with fail
    case' inl =>
      have HC4 := HFW.out (some ⟨g, 0, none⟩) 0 (by intro h; exfalso; have h1 := HNR.out; have h2 := List.length_pos_iff.2 h; omega) (by have h1 := HNR.out; omega) (by omega) w3 HB3.out
    case' inr =>
      have HC4 := HFW.out (some ⟨g, 1, none⟩) (c - 1) (fun _ => rfl) (by have h1 := HNR.out; omega) (by omega) w3 HB3.out
    all_goals (
      refine HC4.mono ?_
      rintro e w4 ⟨rfl, hb4⟩
      have hB4 := Bl.trans HB2.out (Bl.trans HB3.out hb4)
      obtain ⟨bv, hbb, hbo⟩ := HI.out.below hB4
      obtain ⟨pa, pcap, rfl, _, _⟩ := hbo.form
      have hz4 := hB4.size
      have lbo : Bo < w4.heap.size := by omega
      have p0 : w4.cell? ⟨Bo, 0, none⟩ = some (.slice pa ss.length pcap) := blk_cell hbb 0
      have HBO := Lib.hid (And.intro hbo (And.intro hbb hB4))
      clear hbo hbb hB4 hb4 HC4
      go_wp2_with (at_builtin; refine wp_app_rec TSt.ok rfl _ _ rfl B _ ss rfl ((HBO.out.1.alloc _).alloc _) (w4.heap.size + 1) 1 (nv, fb, fk, fc) rfl (blk_new' _ _ (by simp)) rfl (by omega) (by simp; omega) ?_)
      intro v5 w5 hO5 hg5 hb5
      obtain ⟨a5, n5, c5, rfl⟩ : ∃ a n c, v5 = .slice a n c := (by obtain ⟨a, c, h, _, _⟩ := hO5.form; exact ⟨a, _, c, h⟩)
      have hbb5 : w5.heap[Bo]? = some (.cells #[.slice pa ss.length pcap] 29 (0, 0)) := (hb5.block Bo hBo).trans (blk_old (blk_old HBO.out.2.1 _) _)
      have u0 := blk_cell hbb5 0
      have u1 := blk_free hbb5 0
      simp at u0
      have HFI : Hid (BoxS B Bo (ss ++ [(nv, fb, fk, fc)]) (w5.setCell ⟨Bo, 0, none⟩ (.slice a5 n5 c5)) ∧ Below Bo W (w5.setCell ⟨Bo, 0, none⟩ (.slice a5 n5 c5))) := Lib.hid ⟨⟨_, blk_set hbb5 0 (.slice a5 n5 c5), hO5.far hBo 0 _⟩, Bl.set (((HBO.out.2.2.mono (Nat.le_of_lt hsz)).trans ((Bl.alloc (Bl.alloc (Below.refl w4.heap.size w4) _) _).mono (Nat.le_of_lt lbo))).trans (hb5.mono (Nat.le_of_lt hBo))) Bo 0 (Nat.le_refl _) (.slice a5 n5 c5)⟩
      have HPP : Hid (∀ p, rdS (bsOf x) = some p → ss ++ [(nv, fb, fk, fc)] = ss ++ [p]) := Lib.hid fun p hp => by rw [HP.out.2 p hp]
      clear hO5 hg5 hb5 hbb5
      cases fs
      all_goals (
        go_wp2
        go_ret
        exact ⟨by rw [HP.out.1] <;> rfl, _, HFI.out.1, HPP.out, by simp, HFI.out.2⟩))
end Go.Proofs.YthdolfnfiggkjaaGreatDoor
namespace Go.Proofs.YthdolfnfiggkjaaGreatDoor
open Go.RowKit Go.Sort Go.Maps

theorem Rsl2_any (B Bo : Nat) (x : ByteArray) (ss : List Stp) (W : World) (hT : TxW W) (hx : x.size ≤ 1000000) (hI : BoxS B Bo ss W) (hp : ss.length ≤ 900000) (hBo : Bo < B) (hBW : B ≤ W.heap.size) :
    Calls Tryz.prog 83 #[.string x, .pointer (some ⟨Bo, 0, none⟩)] W fun e W' => e = .returned (.bool (rdS x.data.toList).isSome) ∧ ∃ ss', BoxS B Bo ss' W' ∧ (∀ p, rdS x.data.toList = some p → ss' = ss ++ [p]) ∧ ss'.length ≤ ss.length + 1 ∧ Below Bo W W' := Rsl_any B Bo x ss W hT hx hI hp hBo hBW

theorem cut_one_s (t : List UInt8) : ((10 : UInt8) ∉ t ∧ Lib.cut t [10] = (t, [], false)) ∨ ∃ a b, t = a ++ 10 :: b ∧ (10 : UInt8) ∉ a ∧ Lib.cut t [10] = (a, b, true) := by
  rcases index_one 10 t with ⟨h1, h2⟩ | ⟨i, h1, h2, h3, h4⟩
  · refine .inl ⟨h2, ?_⟩
    unfold Lib.cut
    rw [h1]
    simp
  · refine .inr ⟨t.take i, t.drop (i + 1), ?_, h3, ?_⟩
    · rw [← h4, List.take_append_drop]
    · unfold Lib.cut
      rw [h1]
      simp
theorem readS_end_s (i : Nat) : readS rdS i (splitL 10 []) = .ok [] := by simp [splitL, readS]
theorem readS_open_s {t : List UInt8} (h : (10 : UInt8) ∉ t) (h0 : t ≠ []) (i : Nat) : readS rdS i (splitL 10 t) = .error i := by
  rw [splitL_no h]; unfold readS; rw [if_neg h0]
theorem readS_line_s {a : List UInt8} (h : (10 : UInt8) ∉ a) (b : List UInt8) (i : Nat) : readS rdS i (splitL 10 (a ++ 10 :: b)) = match rdS a with
    | none => .error i
    | some p => match readS rdS (i + 1) (splitL 10 b) with
      | .error e => .error e
      | .ok l => .ok (p :: l) := by
  rw [splitL_sep b h]
  cases hs : splitL 10 b with
  | nil => exact absurd hs (splitL_ne 10 b)
  | cons y r =>
    conv => lhs; rw [readS]
    cases rdS a with
    | none => rfl
    | some p => cases readS rdS (i + 1) (y :: r) <;> rfl
theorem ontoS_cons (pts : List Stp) (p : Stp) (r : Except Nat (List Stp)) : ontoS pts (match r with
    | .error e => .error e
    | .ok l => .ok (p :: l)) = ontoS (pts ++ [p]) r := by
  cases r with
  | error e => rfl
  | ok l => simp [ontoS]
/-- how Lines ends. -/
def LnEndS (B Bo : Nat) (r : Except Nat (List Stp)) (e : Ending) (W : World) : Prop := match r with
  | .error i => e = .returned (.tuple #[.int .i64 i, .bool false]) ∧ i ≤ 200000
  | .ok l => e = .returned (.tuple #[.int .i64 0, .bool true]) ∧ BoxS B Bo l W ∧ l.length ≤ 200000
set_option maxHeartbeats 4000000 in
set_option maxRecDepth 100000 in
theorem RLinesS_any (B Bo : Nat) (s : ByteArray) (W : World) (hT : TxW W) (hg1 : 1 < Bo) (hg2 : 0 < Bo) (hs : s.size ≤ 200000) (hI : BoxS B Bo [] W) (hBo : Bo < B) (hBW : B ≤ W.heap.size) :
    Calls Tryz.prog 82 #[.string s, .func (.func 83) #[] #[.pointer (some ⟨Bo, 0, none⟩)]] W fun e W' => LnEndS B Bo (readS rdS 0 (splitL 10 s.data.toList)) e W' ∧ Below Bo W W' := by
  obtain ⟨R, hR⟩ : ∃ R, R = readS rdS 0 (splitL 10 s.data.toList) := ⟨_, rfl⟩
  rw [← hR]
  have HT := Lib.hid hT
  have HR0 := Lib.hid hR
  clear hT hR
  go_enter Tryz.func82, Tryz.ntmps82
  go_wp2_with fail
  go_loopg [0, 6] s.size (fun gk sv iv wr => ∃ (t : ByteArray) (i : Nat) (pts : List Stp), gk = t.size ∧ sv = .string t ∧ iv = .int .i64 i ∧ Hid (R = ontoS pts (readS rdS i (splitL 10 t.data.toList))) ∧ i + t.size ≤ 200000 ∧ pts.length ≤ i ∧ BoxS B Bo pts wr ∧ Below Bo W wr ∧ B ≤ wr.heap.size)
  case atStart =>
    refine ⟨s, 0, [], rfl, rfl, rfl, Lib.hid ?_, by omega, by simp, hI, Below.refl _ _, hBW⟩
    rw [HR0.out]
    cases readS rdS 0 (splitL 10 s.data.toList) <;> simp [ontoS]
  case round =>
    obtain ⟨t, i, pts, rfl, rfl, rfl, hP, hit, hpl, hBx, hB, hBw⟩ := hrel
    have hts : t.data.toList.length = t.size := Array.length_toList
    by_cases h0 : t.size = 0
    · obtain rfl : t = ⟨#[]⟩ := by
        apply ByteArray.ext
        exact Array.eq_empty_of_size_eq_zero h0
      have HR : Hid (R = .ok pts) := Lib.hid (by rw [hP.out]; simp [splitL, readS, ontoS])
      clear hP h0 hts
      go_wp2
      go_ret2
      refine ⟨?_, hB⟩
      unfold LnEndS
      rw [HR.out]
      exact ⟨rfl, hBx, by omega⟩
    · have hne : t.data.toList ≠ [] := fun e => by rw [e] at hts; exact h0 hts.symm
      have e1 : t.toList.isEmpty = false := by
        rw [ByteArray.toList_eq]; cases h : t.data.toList with | nil => exact absurd h hne | cons => rfl
      have e2 : ¬ t.toList = [] := by rw [ByteArray.toList_eq]; exact hne
      have hTk : TxW wr := HT.out.belowB hB hg1 hg2
      have HCT : Hid (∀ (U : World), TxW U → Calls Tryz.prog 149 #[.string t, .string ⟨#[10]⟩] U fun e w' => e = .returned (.tuple #[.string ⟨(Lib.cut t.data.toList [10]).1.toArray⟩, .string ⟨(Lib.cut t.data.toList [10]).2.1.toArray⟩, .bool (Lib.cut t.data.toList [10]).2.2]) ∧ Below U.heap.size U w') := Lib.hid fun U hU => by
        obtain ⟨m, hm⟩ := hU.max
        refine (Tryz.strings_Cut t ⟨#[10]⟩ m U (by omega) hm).mono ?_
        rintro e w' ⟨rfl, n, rfl⟩
        exact ⟨rfl, drewN_below U n⟩
      rcases cut_one_s t.data.toList with ⟨h1, h2⟩ | ⟨a, b, h1, h2, h3⟩
      · have HR : Hid (R = .error i) := Lib.hid (by rw [hP.out, readS_open_s h1 hne]; rfl)
        rw [h2] at HCT
        clear hP h1 h2 hne hts
        go_wp2_with fail
        refine (HCT.out _ hTk).mono ?_
        rintro e w1 ⟨rfl, hb1⟩
        go_wp2
        go_ret2
        refine ⟨?_, hB.trans (hb1.mono (by omega))⟩
        unfold LnEndS
        rw [HR.out]
        exact ⟨rfl, by omega⟩
      · have hlen : a.length + b.length + 1 = t.size := by rw [← hts, h1]; simp; omega
        have hRS := hP.out
        rw [h1, readS_line_s h2] at hRS
        rw [h3] at HCT
        obtain ⟨ax, has⟩ : ∃ x : ByteArray, x = ⟨a.toArray⟩ := ⟨_, rfl⟩
        obtain ⟨bs, hbs⟩ : ∃ x : ByteArray, x = ⟨b.toArray⟩ := ⟨_, rfl⟩
        have ha : ax.data.toList = a := by rw [has]
        have hb : bs.data.toList = b := by rw [hbs]
        have haz : ax.size = a.length := by rw [← ha]; exact (Array.length_toList).symm
        have hbz : bs.size = b.length := by rw [← hb]; exact (Array.length_toList).symm
        simp only at HCT
        rw [← has, ← hbs] at HCT
        rw [← ha, ← hb] at hRS
        have HRS := Lib.hid hRS
        have HRP := Lib.hid fun (U : World) (hT : TxW U) (hI : BoxS B Bo pts U) (hBW : B ≤ U.heap.size) => Rsl2_any B Bo ax pts U hT (by omega) hI (by omega) hBo hBW
        have hsb : bs.size < t.size := by omega
        have hw1 : IntKind.i64.wrap ((i : Int) + 1) = ((i + 1 : Nat) : Int) := by rw [IntWalk.i64_in _ (by omega)]; omega
        have hib : i + 1 + bs.size ≤ 200000 := by omega
        clear hP h1 h2 h3 hne hts hRS has hbs ha hb haz hbz hlen
        go_wp2_with fail
        refine (HCT.out _ hTk).mono ?_
        rintro e w1 ⟨rfl, hb1⟩
        have hB1 := hB.trans (hb1.mono (show Bo ≤ wr.heap.size by omega))
        have hz1 := hb1.size
        have hTk1 := hTk.below hb1
        have hBx1 := hBx.below hb1
        have hBw1 : B ≤ w1.heap.size := by omega
        clear hTk hBx hb1 hB
        cases hr : rdS ax.data.toList with
        | none =>
          have HR : Hid (R = .error i) := Lib.hid (by rw [HRS.out, hr]; rfl)
          rw [hr] at HRP
          clear hr
          go_wp2_with fail
          refine (HRP.out _ hTk1 hBx1 hBw1).mono ?_
          rintro e w2 ⟨rfl, pts', hBx2, hp2, hl2, hb2⟩
          go_wp2
          go_ret2
          refine ⟨?_, hB1.trans hb2⟩
          unfold LnEndS
          rw [HR.out]
          exact ⟨rfl, by omega⟩
        | some p =>
          have HR : Hid (R = ontoS (pts ++ [p]) (readS rdS (i + 1) (splitL 10 bs.data.toList))) := Lib.hid (by rw [HRS.out, hr]; exact ontoS_cons _ _ _)
          rw [hr] at HRP
          clear hr
          go_wp2_with fail
          refine (HRP.out _ hTk1 hBx1 hBw1).mono ?_
          rintro e w2 ⟨rfl, pts', hBx2, hp2, hl2, hb2⟩
          obtain rfl := hp2 p rfl
          have hz2 := hb2.size
          have hpl2 : (pts ++ [p]).length ≤ i + 1 := by rw [List.length_append, List.length_singleton]; omega
          have HPL := Lib.hid hpl2
          clear hp2 hl2 hpl2
          go_wp2
          go_roundg bs.size
          case rel => exact ⟨bs, i + 1, pts ++ [p], rfl, rfl, by go_num, HR, hib, HPL.out, hBx2, hB1.trans hb2, by omega⟩
          all_goals (first | exact hsb | omega)
end Go.Proofs.YthdolfnfiggkjaaGreatDoor
namespace Go.Proofs.YthdolfnfiggkjaaGreatDoor
open Go.RowKit Go.Sort Go.Maps

theorem readS_z : ∀ (xs : List Bs) (i : Nat) (l : List Stp), readS rdS i xs = .ok l → (∀ x ∈ xs, x.length ≤ 1000000) → StpZ l
  | [], i, l, h, _ => by
    injection h with h; subst h; intro s hs; cases hs
  | [x], i, l, h, _ => by
    rw [readS] at h
    split at h
    · injection h with h; subst h; intro s hs; cases hs
    · cases h
  | x :: y :: r, i, l, h, hx => by
    rw [readS] at h
    cases hr : rdS x with
    | none => rw [hr] at h; cases h
    | some a =>
      rw [hr] at h
      cases hs : readS rdS (i + 1) (y :: r) with
      | error e => rw [hs] at h; cases h
      | ok l' =>
        rw [hs] at h
        injection h with h
        subst h
        intro s hm
        rcases List.mem_cons.1 hm with rfl | hm
        · have h1 := rdS_small hr
          have h2 := hx x (List.mem_cons_self ..)
          omega
        · exact readS_z (y :: r) (i + 1) l' hs (fun z hz => hx z (List.mem_cons_of_mem _ hz)) s hm
set_option maxHeartbeats 4000000 in
set_option maxRecDepth 100000 in
theorem RStRead_any (s : ByteArray) (w : World) (hT : TxW w) (hs : s.size ≤ 1000000) :
    Calls Tryz.prog 21 #[.string s] w fun e w' => ∃ v, e = .returned (.tuple #[v, .int .i64 (stepsRead (bsOf s)).2.1, .int .i64 (stepsRead (bsOf s)).2.2]) ∧ OwnR TSt w' w.heap.size v (stepsRead (bsOf s)).1 ∧ Below w.heap.size w w' := by
  have hsz : (bsOf s).length = s.size := bsOf_len s
  by_cases hbig : 200000 < s.size
  · have HV : Hid (stepsRead (bsOf s) = ([], 0, 2)) := Lib.hid (by unfold stepsRead; rw [if_pos (by omega)])
    have hb1 : (200000 : Int) < (s.size : Int) := by omega
    clear hsz
    go_enter Tryz.func21, Tryz.ntmps21
    go_wp2
    go_ret3
    exact ⟨_, by rw [HV.out] <;> rfl, by rw [HV.out]; exact OwnR.nil _ _, Below.refl _ _⟩
  · obtain ⟨R, hR⟩ : ∃ R, R = readS rdS 0 (splitL 10 s.data.toList) := ⟨_, rfl⟩
    have HZ : Hid (∀ l, R = .ok l → StpZ l) := Lib.hid fun l hl => readS_z _ 0 l (by rw [← hR]; exact hl) fun x hx => by
      have h1 := splitS_le 10 (bsOf s) x hx
      omega
    have HV : Hid (stepsRead (bsOf s) = rdEndS R) := Lib.hid (by unfold stepsRead; rw [if_neg (by omega), hR]; rfl)
    have hb1 : ¬ (200000 : Int) < (s.size : Int) := by omega
    obtain ⟨g1, g2⟩ := hT.size
    have hA := Bl.alloc (Below.refl w.heap.size w) (.cells #[.slice none 0 0] 29)
    have HL := Lib.hid (RLinesS_any (w.heap.size + 1) w.heap.size s (w.alloc (.cells #[.slice none 0 0] 29)) (hT.below hA) g1 g2 (by omega) ⟨_, blk_new w _, OwnR.nil _ _⟩ (Nat.lt_succ_self _) (by simp))
    rw [← hR] at HL
    have HA := Lib.hid hA
    clear hsz hR hT hA
    go_enter Tryz.func21, Tryz.ntmps21
    go_wp2_with fail
    refine HL.out.mono ?_
    rintro e w1 ⟨hE, hb⟩
    have hB := HA.out.trans hb
    have hz1 := hB.size
    clear hb HL HA
    cases R with
    | error i =>
      have HV : Hid (stepsRead (bsOf s) = ([], (i : Int), 9)) := Lib.hid HV.out
      obtain ⟨rfl, hi⟩ := hE
      go_wp2
      go_ret3
      exact ⟨_, by rw [HV.out] <;> rfl, by rw [HV.out]; exact OwnR.nil _ _, hB⟩
    | ok l =>
      obtain ⟨rfl, ⟨v, hbx, hO⟩, hl⟩ := hE
      have hP : OwnR TSt w1 (w.heap.size + 1) v l := hO
      have c0 : w1.cell? ⟨w.heap.size, 0, none⟩ = some v := blk_cell hbx 0
      have hlt := blk_lt hbx
      have HF := Lib.hid (StepsFault_any l v w1 (by omega) hP.rec0 (HZ.out l rfl))
      have HP := Lib.hid hP
      obtain ⟨a, cap, rfl, hc1, hc2⟩ := hP.form
      clear hbx hO hP
      obtain ⟨f, hf⟩ : ∃ f, f = stepsF l := ⟨_, rfl⟩
      rw [← hf] at HF
      have HV : Hid (stepsRead (bsOf s) = if stepsF l = 0 then (l, 0, 0) else ([], 0, stepsF l)) := Lib.hid HV.out
      rw [← hf] at HV
      have HFF := Lib.hid hf
      clear hf
      by_cases h0 : f = 0
      · have HV0 : Hid (stepsRead (bsOf s) = (l, 0, 0)) := Lib.hid (by rw [HV.out, if_pos h0])
        clear HV
        subst h0
        go_wp2_with fail
        refine HF.out.mono ?_
        rintro e w2 ⟨rfl, hb2⟩
        have c1 := (hb2.cell (p := ⟨w.heap.size, 0, none⟩) hlt).trans c0
        have hO2 := HP.out.below hb2
        have HO2 := Lib.hid hO2
        have hB2 := Bl.trans hB hb2
        clear hO2
        go_wp2
        go_ret3
        exact ⟨_, by rw [HV0.out] <;> rfl, by rw [HV0.out]; exact OwnR.base HO2.out (Nat.le_succ _), hB2⟩
      · go_wp2_with fail
        refine HF.out.mono ?_
        rintro e w2 ⟨rfl, hb2⟩
        have hB2 := Bl.trans hB hb2
        go_wp2
        go_ret3
        exact ⟨_, by rw [HV.out, if_neg h0] <;> rfl, by rw [HV.out, if_neg h0]; exact OwnR.nil _ _, hB2⟩
end Go.Proofs.YthdolfnfiggkjaaGreatDoor
