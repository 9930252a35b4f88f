/- Texts of the proof of a law, put together, part 18 of 46. Conditions: none beyond those that each theorem names. -/
import Derived.Test.YtilhonppgedoiaaGreatDoorFz16
import Derived.Test.YtilhonppgedoiaaGreatDoorFz17
namespace Go.Proofs.YtilhonppgedoiaaGreatDoor
open Go.RowKit Go.Sort Go.Maps
/-- the words of kinds as they lie in memory. -/
def kwFB : List ByteArray := [⟨#[]⟩, ⟨#[108, 111, 97, 100]⟩, ⟨#[115, 112, 108, 105, 99, 101]⟩, ⟨#[117, 110, 108, 111, 97, 100]⟩, ⟨#[117, 115, 101]⟩, ⟨#[99, 111, 117, 110, 116]⟩]
theorem kwFB_at {k : Nat} (h : 1 ≤ k ∧ k ≤ 5) : kwFB[k]? = some (baOf (kwFof (k : Int))) := by
  have : k = 1 ∨ k = 2 ∨ k = 3 ∨ k = 4 ∨ k = 5 := by omega
  rcases this with rfl | rfl | rfl | rfl | rfl <;> rfl
theorem wordsF_len (e : Fed) : (wordsF e).length ≤ 5 := by
  unfold wordsF
  cases uF e.kd <;> cases uR e.kd <;> cases uM e.kd <;> cases uB e.kd <;> simp
set_option maxRecDepth 100000 in
theorem kindWordsF_any (w : World) : Calls Tryz.prog 72 #[] w fun e w' => e = .returned (.slice (some ⟨w.heap.size, 0, none⟩) 6 6) ∧ OwnR TS w' w.heap.size (.slice (some ⟨w.heap.size, 0, none⟩) 6 6) kwFB ∧ Below w.heap.size w w' := by
  have HF := Lib.hid (And.intro (ownS_new w w.heap.size 6 kwFB (Nat.le_refl _) rfl (by decide)) (Bl.alloc (Below.refl w.heap.size w) (.cells (kwFB.map Value.string).toArray 9)))
  go_enter Tryz.func72, Tryz.ntmps72
  go_wp2
  go_ret
  exact ⟨rfl, HF.out.1, HF.out.2⟩
/-- what lies beside an own row stays. -/
theorem own_other {α : Type} {T : Rty α} {w w' : World} {B : Nat} {v : Value} {l : List α} (ho : OwnR T w B v l) (hg : w.grownBy w' v.ownBlock) {g : Nat} {cs : Array Value} {t : TypeId} (h : w.heap[g]? = some (.cells cs t (0, 0))) (ht : t ≠ T.e) : w'.heap[g]? = some (.cells cs t (0, 0)) := by
  refine (hg.block g (blk_lt h) fun e => ?_).trans h
  rcases ho.2 with ⟨hv, _⟩ | ⟨b, cap, cur, hv, _, hc, _⟩
  · rw [hv] at e; cases e
  · rw [hv] at e
    injection e with e
    have e' : g = b := e
    subst e'
    rw [h] at hc
    injection hc with hc
    injection hc with _ hc _
    exact ht hc
set_option maxHeartbeats 4000000 in
set_option maxRecDepth 100000 in
theorem FdWords_any (x : Fed) (w : World) (hT : TxW w) (hk : 1 ≤ x.kd ∧ x.kd ≤ 5) (hm : -9223372036854775808 ≤ x.mn ∧ x.mn ≤ 9223372036854775807) :
    Calls Tryz.prog 30 #[fedV x] w fun e w' => ∃ v l, e = .returned v ∧ OwnR TS w' w.heap.size v l ∧ l.map bsOf = wordsF x ∧ Below w.heap.size w w' := by
  obtain ⟨at', kd, fd, rk, mn, bd⟩ := x
  obtain ⟨kn, rfl⟩ : ∃ kn : Nat, kd = kn := ⟨kd.toNat, by have : 1 ≤ kd := hk.1; omega⟩
  have hkn : 1 ≤ kn ∧ kn ≤ 5 := by have h1 : 1 ≤ (kn : Int) := hk.1; have h2 : (kn : Int) ≤ 5 := hk.2; omega
  have hm' : -9223372036854775808 ≤ mn ∧ mn ≤ 9223372036854775807 := hm
  change Calls _ _ #[.agg #[.int .i64 at', .int .i64 (kn : Int), .string fd, .string rk, .int .i64 mn, .string bd]] _ _
  obtain ⟨wd, hwd⟩ : ∃ wd, wd = baOf (kwFof (kn : Int)) := ⟨_, rfl⟩
  have HKA : Hid (kwFB[kn]? = some wd) := Lib.hid (by rw [hwd]; exact kwFB_at hkn)
  obtain ⟨uf, huf⟩ : ∃ q, q = uF (kn : Int) := ⟨_, rfl⟩
  obtain ⟨ur, hur⟩ : ∃ q, q = uR (kn : Int) := ⟨_, rfl⟩
  obtain ⟨um, hum⟩ : ∃ q, q = uM (kn : Int) := ⟨_, rfl⟩
  obtain ⟨ub, hub⟩ : ∃ q, q = uB (kn : Int) := ⟨_, rfl⟩
  obtain ⟨ix, hix⟩ : ∃ ix : ByteArray, ix = ⟨(Lib.itoa mn).toArray⟩ := ⟨_, rfl⟩
  have HUS : Hid (∀ W, Calls Tryz.prog 73 #[.int .i64 (kn : Int)] W fun e w' => e = .returned (.agg #[.bool uf, .bool ur, .bool um, .bool ub]) ∧ Below W.heap.size W w') := Lib.hid (fun W => usesOf_at (by omega) (by omega) huf.symm hur.symm hum.symm hub.symm W)
  have HIX : Hid (∀ W, TxW W → Calls Tryz.prog 29 #[.int .i64 mn] W fun e w' => e = .returned (.string ix) ∧ Below W.heap.size W w') := Lib.hid fun W h => by rw [hix]; exact Itoa_any mn W h hm'.1 hm'.2
  have HWF : Hid (∀ l : List ByteArray, l = [wd] ++ (if uf = true then [fd] else []) ++ (if ur = true then [rk] else []) ++ (if um = true then [ix] else []) ++ (if ub = true then [bd] else []) → l.map bsOf = wordsF (at', (kn : Int), fd, rk, mn, bd)) := Lib.hid fun l hl => by
    have e1 : bsOf wd = kwFof (kn : Int) := by rw [hwd, bsOf_baOf]
    have e2 : bsOf ix = Lib.itoa mn := by rw [hix]; exact bsOf_baOf _
    rw [hl, huf, hur, hum, hub]
    unfold wordsF
    show _ = kwFof (kn : Int) :: ((if uF (kn : Int) = true then [bsOf fd] else []) ++ (if uR (kn : Int) = true then [bsOf rk] else []) ++ (if uM (kn : Int) = true then [Lib.itoa mn] else []) ++ (if uB (kn : Int) = true then [bsOf bd] else []))
    cases uF (kn : Int) <;> cases uR (kn : Int) <;> cases uM (kn : Int) <;> cases uB (kn : Int) <;> simp [e1, e2]
  obtain ⟨w0, hw0⟩ : ∃ w0, w0 = w.alloc (.cells #[.int .i64 at', .int .i64 (kn : Int), .string fd, .string rk, .int .i64 mn, .string bd] 37) := ⟨_, rfl⟩
  have HA0 : Hid (Below w.heap.size w w0) := Lib.hid (by rw [hw0]; exact Bl.alloc (Below.refl _ _) _)
  have HXC := Lib.hid (show ∀ W, Below w0.heap.size w0 W → W.cell? ⟨w.heap.size, 0, none⟩ = some (.int .i64 at') ∧ W.cell? ⟨w.heap.size, 1, none⟩ = some (.int .i64 (kn : Int)) ∧ W.cell? ⟨w.heap.size, 2, none⟩ = some (.string fd) ∧ W.cell? ⟨w.heap.size, 3, none⟩ = some (.string rk) ∧ W.cell? ⟨w.heap.size, 4, none⟩ = some (.int .i64 mn) ∧ W.cell? ⟨w.heap.size, 5, none⟩ = some (.string bd) from fun W hW => by
    have h : W.heap[w.heap.size]? = some (.cells #[.int .i64 at', .int .i64 (kn : Int), .string fd, .string rk, .int .i64 mn, .string bd] 37 (0, 0)) := blk_below (by rw [hw0]; exact blk_new w _) hW
    exact ⟨blk_cell h 0, blk_cell h 1, blk_cell h 2, blk_cell h 3, blk_cell h 4, blk_cell h 5⟩)
  have HKW : Hid (Calls Tryz.prog 72 #[] w0.drew fun e w' => e = .returned (.slice (some ⟨w0.heap.size, 0, none⟩) 6 6) ∧ w'.cell? ⟨w0.heap.size, kn, none⟩ = some (.string wd) ∧ Below w0.heap.size w0 w') := Lib.hid (by
    refine (kindWordsF_any w0.drew).mono ?_
    rintro e w' ⟨rfl, hO, hb⟩
    refine ⟨rfl, ?_, Below.trans (Below.drew (Below.refl _ _)) hb⟩
    obtain ⟨b, o, he, _, _, hc⟩ := str_at hO.rec (k := kn) (x := wd) HKA.out
    injection he with he
    injection he with h1 h2
    subst h1; subst h2
    rw [Nat.zero_add] at hc
    exact hc)
  have hk6 : (kn : Int) < 6 := by omega
  have lX0 : w.heap.size < w0.heap.size := by rw [hw0]; simp
  have HW := Lib.hid hw0
  have hw0X := Lib.hid hw0
  have HT := Lib.hid hT
  clear hT hk hm hm' hwd huf hur hum hub hix hw0
  go_enter Tryz.func30, Tryz.ntmps30
  go_upto_region 1 with fail
  rw [← HW.out]
  obtain ⟨x0, x1, x2, x3, x4, x5⟩ := HXC.out w0 (Below.refl _ _)
  go_cut [3] from 5 to 10 (fun v3 wx => Hid (OwnR TS wx w.heap.size v3 [wd] ∧ Below w0.heap.size w0 wx))
  case first =>
    go_region_law (refine step_goN rfl 72 #[] _ rfl (enters_of Tryz.func72 (by kernel_rfl) rfl) #[] (by simp [Act.put]) (fun e w' => e = .returned (.slice (some ⟨w0.heap.size, 0, none⟩) 6 6) ∧ w'.cell? ⟨w0.heap.size, kn, none⟩ = some (.string wd) ∧ Below w0.heap.size w0 w') (by (have hh := HKW.out; exact hh)) ?_; rintro e w1 ⟨rfl, d0, hb1⟩; refine ⟨_, rfl, ?_⟩; have d1 := (hb1.cell (p := ⟨w.heap.size, 1, none⟩) lX0).trans x1)
    all_goals (
      have HREL : Hid (OwnR TS (w1.alloc (.cells #[.string wd] 9)) w.heap.size (.slice (some ⟨w1.heap.size, 0, none⟩) 1 1) [wd] ∧ Below w0.heap.size w0 (w1.alloc (.cells #[.string wd] 9))) := Lib.hid ⟨ownS_new w1 w.heap.size 1 [wd] (by have := hb1.size; omega) rfl (by decide), Bl.alloc hb1 _⟩
      clear hb1
      go_wp2
      go_meet
      case rel => exact HREL)
  case rest =>
  generalize wc = w1 at *
  have HO1 := Lib.hid hcut.out.1
  have HB1 := Lib.hid hcut.out.2
  obtain ⟨y0, y1, y2, y3, y4, y5⟩ := HXC.out w1 HB1.out
  clear hcut x0 x1 x2 x3 x4 x5 HKW
  go_wp2_with fail
  refine (HUS.out w1).mono ?_
  rintro e w3 ⟨rfl, hb3⟩
  obtain ⟨w4, hw4⟩ : ∃ w4, w4 = w3.alloc (.cells #[.bool uf, .bool ur, .bool um, .bool ub] 123) := ⟨_, rfl⟩
  have hb4 : Below w1.heap.size w1 w4 := by rw [hw4]; exact Bl.alloc hb3 _
  have hX4 : w4.heap[w.heap.size]? = some (.cells #[.int .i64 at', .int .i64 (kn : Int), .string fd, .string rk, .int .i64 mn, .string bd] 37 (0, 0)) := blk_below (by rw [hw0X.out]; exact blk_new w _) (Bl.trans HB1.out hb4)
  have hU4 : w4.heap[w3.heap.size]? = some (.cells #[.bool uf, .bool ur, .bool um, .bool ub] 123 (0, 0)) := by rw [hw4]; exact blk_new w3 _
  obtain ⟨P, HP4, HPb, HPa, HPc⟩ : ∃ P : World → Prop, Hid (P w4) ∧ Hid (∀ W W', P W → Below W.heap.size W W' → P W') ∧ Hid (∀ W W' v (l : List ByteArray), P W → OwnR TS W w.heap.size v l → W.grownBy W' v.ownBlock → P W') ∧ Hid (∀ W, P W → (Below w.heap.size w W ∧ w.heap.size ≤ W.heap.size) ∧ (W.cell? ⟨w.heap.size, 2, none⟩ = some (.string fd) ∧ W.cell? ⟨w.heap.size, 3, none⟩ = some (.string rk) ∧ W.cell? ⟨w.heap.size, 4, none⟩ = some (.int .i64 mn) ∧ W.cell? ⟨w.heap.size, 5, none⟩ = some (.string bd)) ∧ (W.cell? ⟨w3.heap.size, 0, none⟩ = some (.bool uf) ∧ W.cell? ⟨w3.heap.size, 1, none⟩ = some (.bool ur) ∧ W.cell? ⟨w3.heap.size, 2, none⟩ = some (.bool um) ∧ W.cell? ⟨w3.heap.size, 3, none⟩ = some (.bool ub))) :=
    ⟨fun W => Below w.heap.size w W ∧ W.heap[w.heap.size]? = some (.cells #[.int .i64 at', .int .i64 (kn : Int), .string fd, .string rk, .int .i64 mn, .string bd] 37 (0, 0)) ∧ W.heap[w3.heap.size]? = some (.cells #[.bool uf, .bool ur, .bool um, .bool ub] 123 (0, 0)),
      Lib.hid ⟨Bl.trans HA0.out (Bl.trans HB1.out hb4), hX4, hU4⟩,
      Lib.hid fun W W' h hb => ⟨Bl.trans h.1 hb, blk_below h.2.1 hb, blk_below h.2.2 hb⟩,
      Lib.hid fun W W' v l h ho hg => ⟨Below.trans h.1 (app_belowR ho hg h.1.size), own_other ho hg h.2.1 (by show 37 ≠ 9; decide), own_other ho hg h.2.2 (by show 123 ≠ 9; decide)⟩,
      Lib.hid fun W h => ⟨⟨h.1, h.1.size⟩, ⟨blk_cell h.2.1 2, blk_cell h.2.1 3, blk_cell h.2.1 4, blk_cell h.2.1 5⟩, ⟨blk_cell h.2.2 0, blk_cell h.2.2 1, blk_cell h.2.2 2, blk_cell h.2.2 3⟩⟩⟩
  have HO4 := Lib.hid (HO1.out.below hb4)
  have HW4 := Lib.hid hw4
  obtain ⟨l0, hl0⟩ : ∃ l0, l0 = [wd] := ⟨_, rfl⟩
  rw [← hl0] at HO4
  have HL0 := Lib.hid hl0
  have hn0 : l0.length ≤ 1 := by rw [hl0]; simp
  obtain ⟨_, _, u0, u1, u2, u3⟩ := HPc.out w4 HP4.out
  clear hX4 hU4 hb3 hb4 hw4 hl0 HO1 HB1 y0 y1 y2 y3 y4 y5
  go_upto_if 15 with fail
  rw [← HW4.out]
  go_cut [3] from 15 to 20 (fun v3 wx => ∃ m : List ByteArray, Hid (OwnR TS wx w.heap.size v3 m ∧ m = l0 ++ (if uf = true then [fd] else []) ∧ P wx))
  case first =>
    obtain ⟨⟨zb, lz⟩, ⟨z2, z3, z4, z5⟩, _⟩ := HPc.out w4 HP4.out
    have HZB := Lib.hid zb
    clear zb
    cases uf
    · have HREL : Hid (OwnR TS w4 w.heap.size _ l0 ∧ l0 = l0 ++ (if false = true then [fd] else []) ∧ P w4) := Lib.hid ⟨HO4.out, by simp, HP4.out⟩
      clear z2 z3 z4 z5 lz
      go_wp2
      go_meet
      case rel => exact ⟨_, HREL⟩
    · go_wp2_with (at_builtin; refine wp_app_rec TS.ok rfl _ _ rfl w.heap.size _ l0 rfl (HO4.out.alloc _) (w4.heap.size) 1 fd rfl (blk_new _ _) rfl (by omega) (by simp; omega) ?_)
      intro v9 w9 hO9 hA9 hb9
      have HREL : Hid (OwnR TS w9 w.heap.size v9 (l0 ++ [fd]) ∧ l0 ++ [fd] = l0 ++ (if true = true then [fd] else []) ∧ P w9) := Lib.hid ⟨hO9, by simp, HPa.out _ _ _ _ (HPb.out _ _ HP4.out (Bl.alloc (Below.refl _ _) _)) (HO4.out.alloc _) hA9⟩
      clear hO9 hA9 hb9
      go_wp2
      go_meet
      case rel => exact ⟨_, HREL⟩
  case rest =>
  obtain ⟨l1, hcut⟩ := hcut
  generalize wc = w5 at *
  have HO5 := Lib.hid hcut.out.1
  have HL1 := Lib.hid hcut.out.2.1
  have HP5 := Lib.hid hcut.out.2.2
  have hn1 : l1.length ≤ 2 := by rw [HL1.out, List.length_append]; have : (if uf = true then [fd] else []).length ≤ 1 := (by split <;> simp); omega
  obtain ⟨_, _, q4, q5, q6, q7⟩ := HPc.out w5 HP5.out
  clear hcut HO4
  go_upto_if 22 with fail
  go_cut [3] from 22 to 27 (fun v3 wx => ∃ m : List ByteArray, Hid (OwnR TS wx w.heap.size v3 m ∧ m = l1 ++ (if ur = true then [rk] else []) ∧ P wx))
  case first =>
    obtain ⟨⟨zb, lz⟩, ⟨z2, z3, z4, z5⟩, _⟩ := HPc.out w5 HP5.out
    have HZB := Lib.hid zb
    clear zb
    cases ur
    · have HREL : Hid (OwnR TS w5 w.heap.size _ l1 ∧ l1 = l1 ++ (if false = true then [rk] else []) ∧ P w5) := Lib.hid ⟨HO5.out, by simp, HP5.out⟩
      clear z2 z3 z4 z5 lz
      go_wp2
      go_meet
      case rel => exact ⟨_, HREL⟩
    · go_wp2_with (at_builtin; refine wp_app_rec TS.ok rfl _ _ rfl w.heap.size _ l1 rfl (HO5.out.alloc _) (w5.heap.size) 1 rk rfl (blk_new _ _) rfl (by omega) (by simp; omega) ?_)
      intro v9 w9 hO9 hA9 hb9
      have HREL : Hid (OwnR TS w9 w.heap.size v9 (l1 ++ [rk]) ∧ l1 ++ [rk] = l1 ++ (if true = true then [rk] else []) ∧ P w9) := Lib.hid ⟨hO9, by simp, HPa.out _ _ _ _ (HPb.out _ _ HP5.out (Bl.alloc (Below.refl _ _) _)) (HO5.out.alloc _) hA9⟩
      clear hO9 hA9 hb9
      go_wp2
      go_meet
      case rel => exact ⟨_, HREL⟩
  case rest =>
  obtain ⟨l2, hcut⟩ := hcut
  generalize wc = w6 at *
  have HO6 := Lib.hid hcut.out.1
  have HL2 := Lib.hid hcut.out.2.1
  have HP6 := Lib.hid hcut.out.2.2
  have hn2 : l2.length ≤ 3 := by rw [HL2.out, List.length_append]; have : (if ur = true then [rk] else []).length ≤ 1 := (by split <;> simp); omega
  obtain ⟨_, _, q8, q9, q10, q11⟩ := HPc.out w6 HP6.out
  clear hcut HO5
  go_upto_if 29 with fail
  go_cut [3] from 29 to 35 (fun v3 wx => ∃ m : List ByteArray, Hid (OwnR TS wx w.heap.size v3 m ∧ m = l2 ++ (if um = true then [ix] else []) ∧ P wx))
  case first =>
    obtain ⟨⟨zb, lz⟩, ⟨z2, z3, z4, z5⟩, _⟩ := HPc.out w6 HP6.out
    have HZB := Lib.hid zb
    clear zb
    cases um
    · have HREL : Hid (OwnR TS w6 w.heap.size _ l2 ∧ l2 = l2 ++ (if false = true then [ix] else []) ∧ P w6) := Lib.hid ⟨HO6.out, by simp, HP6.out⟩
      clear z2 z3 z4 z5 lz
      go_wp2
      go_meet
      case rel => exact ⟨_, HREL⟩
    · have hTw : TxW w6 := HT.out.below HZB.out
      go_wp2_with fail
      refine (HIX.out w6 hTw).mono ?_
      rintro e w8 ⟨rfl, hb8⟩
      have HP8 := Lib.hid (HPb.out _ _ HP6.out hb8)
      have HO8 := Lib.hid (HO6.out.below hb8)
      have lz8 : w.heap.size ≤ w8.heap.size := (HPc.out _ HP8.out).1.2
      clear hb8 hTw
      go_wp2_with (at_builtin; refine wp_app_rec TS.ok rfl _ _ rfl w.heap.size _ l2 rfl (HO8.out.alloc _) (w8.heap.size) 1 ix rfl (blk_new _ _) rfl (by omega) (by simp; omega) ?_)
      intro v9 w9 hO9 hA9 hb9
      have HREL : Hid (OwnR TS w9 w.heap.size v9 (l2 ++ [ix]) ∧ l2 ++ [ix] = l2 ++ (if true = true then [ix] else []) ∧ P w9) := Lib.hid ⟨hO9, by simp, HPa.out _ _ _ _ (HPb.out _ _ HP8.out (Bl.alloc (Below.refl _ _) _)) (HO8.out.alloc _) hA9⟩
      clear hO9 hA9 hb9
      go_wp2
      go_meet
      case rel => exact ⟨_, HREL⟩
  case rest =>
  obtain ⟨l3, hcut⟩ := hcut
  generalize wc = w7 at *
  have HO7 := Lib.hid hcut.out.1
  have HL3 := Lib.hid hcut.out.2.1
  have HP7 := Lib.hid hcut.out.2.2
  have hn3 : l3.length ≤ 4 := by rw [HL3.out, List.length_append]; have : (if um = true then [ix] else []).length ≤ 1 := (by split <;> simp); omega
  obtain ⟨_, _, q12, q13, q14, q15⟩ := HPc.out w7 HP7.out
  clear hcut HO6
  go_upto_if 37 with fail
  go_cut [3] from 37 to 42 (fun v3 wx => ∃ m : List ByteArray, Hid (OwnR TS wx w.heap.size v3 m ∧ m = l3 ++ (if ub = true then [bd] else []) ∧ P wx))
  case first =>
    obtain ⟨⟨zb, lz⟩, ⟨z2, z3, z4, z5⟩, _⟩ := HPc.out w7 HP7.out
    have HZB := Lib.hid zb
    clear zb
    cases ub
    · have HREL : Hid (OwnR TS w7 w.heap.size _ l3 ∧ l3 = l3 ++ (if false = true then [bd] else []) ∧ P w7) := Lib.hid ⟨HO7.out, by simp, HP7.out⟩
      clear z2 z3 z4 z5 lz
      go_wp2
      go_meet
      case rel => exact ⟨_, HREL⟩
    · go_wp2_with (at_builtin; refine wp_app_rec TS.ok rfl _ _ rfl w.heap.size _ l3 rfl (HO7.out.alloc _) (w7.heap.size) 1 bd rfl (blk_new _ _) rfl (by omega) (by simp; omega) ?_)
      intro v9 w9 hO9 hA9 hb9
      have HREL : Hid (OwnR TS w9 w.heap.size v9 (l3 ++ [bd]) ∧ l3 ++ [bd] = l3 ++ (if true = true then [bd] else []) ∧ P w9) := Lib.hid ⟨hO9, by simp, HPa.out _ _ _ _ (HPb.out _ _ HP7.out (Bl.alloc (Below.refl _ _) _)) (HO7.out.alloc _) hA9⟩
      clear hO9 hA9 hb9
      go_wp2
      go_meet
      case rel => exact ⟨_, HREL⟩
  case rest =>
  obtain ⟨l4, hcut⟩ := hcut
  generalize wc = w8 at *
  have HO8 := Lib.hid hcut.out.1
  have HL4 := Lib.hid hcut.out.2.1
  have HP8 := Lib.hid hcut.out.2.2
  have hn4 : l4.length ≤ 5 := by rw [HL4.out, List.length_append]; have : (if ub = true then [bd] else []).length ≤ 1 := (by split <;> simp); omega
  obtain ⟨_, _, q16, q17, q18, q19⟩ := HPc.out w8 HP8.out
  clear hcut HO7
  have HR : Hid (OwnR TS w8 w.heap.size _ l4 ∧ l4.map bsOf = wordsF (at', (kn : Int), fd, rk, mn, bd) ∧ Below w.heap.size w w8) := Lib.hid ⟨HO8.out, HWF.out l4 (by rw [HL4.out, HL3.out, HL2.out, HL1.out, HL0.out]), (HPc.out _ HP8.out).1.1⟩
  clear HO8 HWF HL4 HL3 HL2 HL1 HL0
  go_wp2
  go_ret
  exact ⟨_, l4, rfl, HR.out⟩
end Go.Proofs.YtilhonppgedoiaaGreatDoor
