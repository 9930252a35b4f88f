/- Fractions in lowest terms: kit.Lowest and the reference's; a part of a whole. Conditions: numbers of at most 10^6. · A part of all boards: part; Final and the reference's FinalOf. Conditions: right sizes. · The part of the boards that pass at first: the closure of FirstPass, and the accepted steps. · The reference's accepted steps, and the part of the boards that pass at first. -/
import Derived.Test.YtbkglhakhahfpaaGreatDoorRec
import Derived.Deep.QuietTactic
import Derived.Test.YtbkglhakhahfpaaGreatDoorRbi
import Derived.Test.YtbkglhakhahfpaaGreatDoorRfu
import Derived.Test.YtbkglhakhahfpaaGreatDoorRt
namespace Go.Proofs.YtbkglhakhahfpaaGreatDoor
open Go.RowKit Go.Sort

def lowV (n d : Nat) : Value := .agg #[.int .i64 ((n / Nat.gcd n d : Nat) : Int), .int .i64 ((d / Nat.gcd n d : Nat) : Int)]
theorem tmodN (a b : Nat) : Int.tmod (a : Int) (b : Int) = ((a % b : Nat) : Int) := rfl
theorem tdivN (a b : Nat) : Int.tdiv (a : Int) (b : Int) = ((a / b : Nat) : Int) := rfl
set_option maxHeartbeats 1000000 in
theorem kLowest_any (n d : Nat) (w : World) (hd : 0 < d) (hn : n ≤ 1000000) (hd1 : d ≤ 1000000) :
    Calls Tryz.prog 178 #[.int .i64 n, .int .i64 d] w fun e w' => e = .returned (lowV n d) ∧ Below w.heap.size w w' := by
  have hX := blk_new w (.cells #[.int .i64 0, .int .i64 0] 39)
  have hbX := Bl.alloc (Below.refl w.heap.size w) (.cells #[.int .i64 0, .int .i64 0] 39)
  go_enter Tryz.func178, Tryz.ntmps178
  go_wp2_with fail
  go_loopw [5, 6] (fun av bv wr => ∃ a b : Nat, av = .int .i64 a ∧ bv = .int .i64 b ∧ a ≤ 1000000 ∧ b ≤ 1000000 ∧ Hid (Nat.gcd a b = Nat.gcd n d) ∧ Hid (wr.heap[w.heap.size]? = some (.cells #[.int .i64 0, .int .i64 0] 39 (0, 0)) ∧ Below w.heap.size w wr)) (fun _ bv _ => (intOf bv).toNat)
  case atStart => exact ⟨n, d, rfl, rfl, hn, hd1, Lib.hid rfl, Lib.hid ⟨hX, hbX⟩⟩
  case round =>
    obtain ⟨a, b, rfl, rfl, ha, hb, HG, HW⟩ := hrel
    obtain ⟨hX1, hb1⟩ := HW.out
    have lX := blk_lt hX1
    have k0 : wr.cell? ⟨w.heap.size, 0, none⟩ = some (.int .i64 0) := blk_cell hX1 0
    have k1 : wr.cell? ⟨w.heap.size, 1, none⟩ = some (.int .i64 0) := blk_cell hX1 1
    have g0 := blk_free hX1 0
    have g1 := blk_free hX1 1
    by_cases hb0 : b = 0
    · subst hb0
      have HGA : Hid (a = Nat.gcd n d) := Lib.hid (by rw [← HG.out, Nat.gcd_zero_right])
      have hap : 0 < a := by rw [HGA.out]; exact Nat.gcd_pos_of_pos_right _ hd
      have hq : ((a : Int) == 0) = false := by simp; omega
      have hq2 : ¬ (a : Int) = 0 := by omega
      have q1 := tdivN n a
      have q2 := tdivN d a
      have hnq : n / a ≤ 1000000 := Nat.le_trans (Nat.div_le_self _ _) hn
      have hdq : d / a ≤ 1000000 := Nat.le_trans (Nat.div_le_self _ _) hd1
      have HF : Hid (lowV n d = .agg #[.int .i64 ((n / a : Nat) : Int), .int .i64 ((d / a : Nat) : Int)]) := Lib.hid (by rw [HGA.out]; rfl)
      generalize n / a = n' at *
      generalize d / a = d' at *
      have w1 : IntKind.i64.wrap (n' : Int) = (n' : Int) := IntWalk.i64_in _ (by omega)
      have w2 : IntKind.i64.wrap (d' : Int) = (d' : Int) := IntWalk.i64_in _ (by omega)
      have hZ := blk_set (blk_set hX1 0 (.int .i64 (n' : Int))) 1 (.int .i64 (d' : Int))
      have hbZ := Bl.set (Bl.set hb1 w.heap.size 0 (Nat.le_refl _) (.int .i64 (n' : Int))) w.heap.size 1 (Nat.le_refl _) (.int .i64 (d' : Int))
      have HZ := Lib.hid (And.intro hZ hbZ)
      clear hZ hbZ hX1 hb1
      go_wp2
      go_region
      go_wp2
      obtain ⟨hZ, hbZ⟩ := HZ.out
      have hbZ' := Below.drew hbZ
      clear hbZ
      generalize (wr.setCell ⟨w.heap.size, 0, none⟩ (.int .i64 (n' : Int))).setCell ⟨w.heap.size, 1, none⟩ (.int .i64 (d' : Int)) = w3 at *
      have r0 : w3.cell? ⟨w.heap.size, 0, none⟩ = some (.int .i64 (n' : Int)) := blk_cell hZ 0
      have r1 : w3.cell? ⟨w.heap.size, 1, none⟩ = some (.int .i64 (d' : Int)) := blk_cell hZ 1
      refine bodyPost_ret (v := .agg #[.int .i64 (n' : Int), .int .i64 (d' : Int)]) (by simp [results, Tryz.results178, go_sem, r0, r1]) rfl ?_
      exact ⟨by rw [HF.out], hbZ'⟩
    · have hbp : 0 < b := Nat.pos_of_ne_zero hb0
      have hq : ((b : Int) == 0) = false := by simp; omega
      have hq2 : ¬ (b : Int) = 0 := by omega
      have q1 := tmodN a b
      have hlt : a % b < b := Nat.mod_lt _ hbp
      have HG2 : Hid (Nat.gcd b (a % b) = Nat.gcd n d) := Lib.hid (by rw [← HG.out, Nat.gcd_comm a b, Nat.gcd_rec b a, Nat.gcd_comm])
      generalize a % b = c at *
      have w1 : IntKind.i64.wrap (c : Int) = (c : Int) := IntWalk.i64_in _ (by omega)
      go_wp2
      go_region
      go_wp2
      go_roundw
      case rel => exact ⟨b, c, rfl, rfl, hb, by omega, HG2, Lib.hid ⟨hX1, Below.drew hb1⟩⟩
      case measure => simp [intOf]; omega
theorem gcd_is {n d k : Nat} (hd : 0 < d) (hk : 1 ≤ k) (h1 : k = 1 ∨ (n % k = 0 ∧ d % k = 0)) (hno : ∀ j, k < j → j ≤ d → ¬ (n % j = 0 ∧ d % j = 0)) : Nat.gcd n d = k := by
  have g1 := Nat.gcd_dvd_left n d
  have g2 := Nat.gcd_dvd_right n d
  have g3 := Nat.gcd_pos_of_pos_right n hd
  have g4 := Nat.le_of_dvd hd g2
  have h2 : Nat.gcd n d ≤ k := by
    apply Nat.le_of_not_lt
    intro h
    exact hno _ h g4 ⟨Nat.mod_eq_zero_of_dvd g1, Nat.mod_eq_zero_of_dvd g2⟩
  rcases h1 with rfl | ⟨h3, h4⟩
  · omega
  · have := Nat.le_of_dvd g3 (Nat.dvd_gcd (Nat.dvd_of_mod_eq_zero h3) (Nat.dvd_of_mod_eq_zero h4))
    omega
set_option maxHeartbeats 1000000 in
theorem rLowest_any (n d : Nat) (w : World) (hd : 0 < d) (hn : n ≤ 1000000) (hd1 : d ≤ 1000000) :
    Calls Tryz.prog 188 #[.int .i64 n, .int .i64 d] w fun e w' => e = .returned (lowV n d) ∧ Below w.heap.size w w' := by
  have hX := blk_new w (.cells #[.int .i64 0, .int .i64 0] 39)
  have hbX := Bl.alloc (Below.refl w.heap.size w) (.cells #[.int .i64 0, .int .i64 0] 39)
  go_enter Tryz.func188, Tryz.ntmps188
  go_wp2_with fail
  go_loopw [5] (fun kv wr => ∃ k : Nat, kv = .int .i64 k ∧ 1 ≤ k ∧ k ≤ d ∧ Hid (∀ j, k < j → j ≤ d → ¬ (n % j = 0 ∧ d % j = 0)) ∧ Hid (wr.heap[w.heap.size]? = some (.cells #[.int .i64 0, .int .i64 0] 39 (0, 0)) ∧ Below w.heap.size w wr)) (fun kv _ => (intOf kv).toNat)
  case atStart => exact ⟨d, rfl, hd, Nat.le_refl _, Lib.hid (fun j h1 h2 => by omega), Lib.hid ⟨hX, hbX⟩⟩
  case round =>
    obtain ⟨k, rfl, hk1, hk2, HN, HW⟩ := hrel
    obtain ⟨hX1, hb1⟩ := HW.out
    have lX := blk_lt hX1
    have k0 : wr.cell? ⟨w.heap.size, 0, none⟩ = some (.int .i64 0) := blk_cell hX1 0
    have k1 : wr.cell? ⟨w.heap.size, 1, none⟩ = some (.int .i64 0) := blk_cell hX1 1
    have g0 := blk_free hX1 0
    have g1 := blk_free hX1 1
    by_cases hb0 : k = 1
    case' pos =>
      subst hb0
      have HG : Hid (Nat.gcd n d = 1) := Lib.hid (gcd_is hd (Nat.le_refl _) (.inl rfl) HN.out)
      have HF : Hid (lowV n d = .agg #[.int .i64 (n : Int), .int .i64 (d : Int)]) := Lib.hid (by unfold lowV; rw [HG.out, Nat.div_one, Nat.div_one])
      have hZ := blk_set (blk_set hX1 0 (.int .i64 (n : Int))) 1 (.int .i64 (d : Int))
      have hbZ := Bl.set (Bl.set hb1 w.heap.size 0 (Nat.le_refl _) (.int .i64 (n : Int))) w.heap.size 1 (Nat.le_refl _) (.int .i64 (d : Int))
      have HZ := Lib.hid (And.intro hZ hbZ)
      clear hZ hbZ hX1 hb1
      go_wp2
      obtain ⟨hZ, hbZ⟩ := HZ.out
      generalize (wr.setCell ⟨w.heap.size, 0, none⟩ (.int .i64 (n : Int))).setCell ⟨w.heap.size, 1, none⟩ (.int .i64 (d : Int)) = w3 at *
      have r0 : w3.cell? ⟨w.heap.size, 0, none⟩ = some (.int .i64 (n : Int)) := blk_cell hZ 0
      have r1 : w3.cell? ⟨w.heap.size, 1, none⟩ = some (.int .i64 (d : Int)) := blk_cell hZ 1
      refine bodyPost_ret (v := .agg #[.int .i64 (n : Int), .int .i64 (d : Int)]) (by simp [results, Tryz.results188, go_sem, r0, r1]) rfl ?_
      exact ⟨by rw [HF.out], hbZ⟩
    case' neg =>
      have hkp : (1 : Int) < (k : Int) := by omega
      have hq : ((k : Int) == 0) = false := by simp; omega
      have hq2 : ¬ (k : Int) = 0 := by omega
      have q1 := tmodN n k
      have q2 := tmodN d k
      have hr1 : n % k < k := Nat.mod_lt _ (by omega)
      have hr2 : d % k < k := Nat.mod_lt _ (by omega)
      have HGG : Hid (n % k = 0 → d % k = 0 → Nat.gcd n d = k) := Lib.hid fun h1 h2 => gcd_is hd hk1 (.inr ⟨h1, h2⟩) HN.out
      have HNN : Hid (¬ (n % k = 0 ∧ d % k = 0) → ∀ j, k - 1 < j → j ≤ d → ¬ (n % j = 0 ∧ d % j = 0)) := Lib.hid fun h j h1 h2 => by
        by_cases e : j = k
        · rw [e]; exact h
        · exact HN.out j (by omega) h2
      have q3 := tdivN n k
      have q4 := tdivN d k
      have hnq : n / k ≤ 1000000 := Nat.le_trans (Nat.div_le_self _ _) hn
      have hdq : d / k ≤ 1000000 := Nat.le_trans (Nat.div_le_self _ _) hd1
      have HF : Hid (Nat.gcd n d = k → lowV n d = .agg #[.int .i64 ((n / k : Nat) : Int), .int .i64 ((d / k : Nat) : Int)]) := Lib.hid (fun h => by unfold lowV; rw [h])
      generalize n % k = r1 at *
      generalize d % k = r2 at *
      generalize n / k = n' at *
      generalize d / k = d' at *
      have w1 : IntKind.i64.wrap (n' : Int) = (n' : Int) := IntWalk.i64_in _ (by omega)
      have w2 : IntKind.i64.wrap (d' : Int) = (d' : Int) := IntWalk.i64_in _ (by omega)
      have w3 : IntKind.i64.wrap (r1 : Int) = (r1 : Int) := IntWalk.i64_in _ (by omega)
      have w4 : IntKind.i64.wrap (r2 : Int) = (r2 : Int) := IntWalk.i64_in _ (by omega)
      have w5 : IntKind.i64.wrap ((k : Int) - 1) = ((k - 1 : Nat) : Int) := by rw [IntWalk.i64_in _ (by omega)]; omega
      by_cases hz : r1 = 0 ∧ r2 = 0
      · obtain ⟨rfl, rfl⟩ := hz
        have HFF := Lib.hid (HF.out (HGG.out rfl rfl))
        have hZ := blk_set (blk_set hX1 0 (.int .i64 (n' : Int))) 1 (.int .i64 (d' : Int))
        have hbZ := Bl.set (Bl.set hb1 w.heap.size 0 (Nat.le_refl _) (.int .i64 (n' : Int))) w.heap.size 1 (Nat.le_refl _) (.int .i64 (d' : Int))
        have HZ := Lib.hid (And.intro hZ hbZ)
        clear hZ hbZ hX1 hb1
        go_wp2
        go_region
        go_wp2
        obtain ⟨hZ, hbZ⟩ := HZ.out
        have hbZ' := Below.drew hbZ
        clear hbZ
        generalize (wr.setCell ⟨w.heap.size, 0, none⟩ (.int .i64 (n' : Int))).setCell ⟨w.heap.size, 1, none⟩ (.int .i64 (d' : Int)) = w3 at *
        have r0 : w3.cell? ⟨w.heap.size, 0, none⟩ = some (.int .i64 (n' : Int)) := blk_cell hZ 0
        have r1 : w3.cell? ⟨w.heap.size, 1, none⟩ = some (.int .i64 (d' : Int)) := blk_cell hZ 1
        refine bodyPost_ret (v := .agg #[.int .i64 (n' : Int), .int .i64 (d' : Int)]) (by simp [results, Tryz.results188, go_sem, r0, r1]) rfl ?_
        exact ⟨by rw [HFF.out], hbZ'⟩
      · have HNX := Lib.hid (HNN.out hz)
        have hcase : r1 ≠ 0 ∨ (r1 = 0 ∧ r2 ≠ 0) := by omega
        rcases hcase with h1 | ⟨rfl, h2⟩
        · have hr : ((r1 : Int) == 0) = false := by simp; omega
          go_wp2
          go_roundw
          case rel => exact ⟨k - 1, rfl, by omega, by omega, HNX, HW⟩
          case measure => simp [intOf]; omega
        · have hr : ((r2 : Int) == 0) = false := by simp; omega
          go_wp2
          go_roundw
          case rel => exact ⟨k - 1, rfl, by omega, by omega, HNX, HW⟩
          case measure => simp [intOf]; omega
end Go.Proofs.YtbkglhakhahfpaaGreatDoor
namespace Go.Proofs.YtbkglhakhahfpaaGreatDoor
open Go.RowKit Go.Sort Go.Maps

def frcV (s a : Nat) : Value := if a = 0 then .agg #[.int .i64 0, .int .i64 0] else lowV s a
theorem frcV_form (s a : Nat) : ∃ x y : Int, frcV s a = .agg #[.int .i64 x, .int .i64 y] := by
  unfold frcV
  split
  · exact ⟨_, _, rfl⟩
  · exact ⟨_, _, rfl⟩
set_option maxHeartbeats 1000000 in
theorem kPart_any (s a : Nat) (w : World) (hs : s ≤ 1000000) (ha : a ≤ 1000000) :
    Calls Tryz.prog 93 #[.int .i64 s, .int .i64 a] w fun e w' => e = .returned (.tuple #[frcV s a, .bool (decide (a ≠ 0)), .int .i64 0]) ∧ Below w.heap.size w w' := by
  have hX := blk_new w (.cells #[.int .i64 0, .int .i64 0] 39)
  have hbX := Bl.alloc (Below.refl w.heap.size w) (.cells #[.int .i64 0, .int .i64 0] 39)
  obtain ⟨p, hp⟩ : ∃ p, p = frcV s a := ⟨_, rfl⟩
  rw [← hp]
  by_cases h0 : a = 0
  · subst h0
    obtain rfl : p = .agg #[.int .i64 0, .int .i64 0] := by rw [hp]; rfl
    clear hp
    go_enter Tryz.func93, Tryz.ntmps93
    go_wp2
    generalize w.alloc (.cells #[.int .i64 0, .int .i64 0] 39) = w3 at *
    have r0 : w3.cell? ⟨w.heap.size, 0, none⟩ = some (.int .i64 0) := blk_cell hX 0
    have r1 : w3.cell? ⟨w.heap.size, 1, none⟩ = some (.int .i64 0) := blk_cell hX 1
    refine bodyPost_ret (v := .tuple #[.agg #[.int .i64 0, .int .i64 0], .bool false, .int .i64 0]) (by simp [results, Tryz.results93, go_sem, r0, r1]) rfl ?_
    exact ⟨rfl, hbX⟩
  · have HL := Lib.hid (kLowest_any s a (w.alloc (.cells #[.int .i64 0, .int .i64 0] 39)) (by omega) hs ha)
    obtain rfl : p = lowV s a := by rw [hp]; unfold frcV; rw [if_neg h0]
    have hd : decide (a ≠ 0) = true := by simp [h0]
    rw [hd]
    have hne : ¬ (a : Int) = 0 := by omega
    have hq : ((a : Int) == 0) = false := by simp; omega
    clear hp hd
    unfold lowV at HL ⊢
    generalize s / Nat.gcd s a = n' at *
    generalize a / Nat.gcd s a = d' at *
    go_enter Tryz.func93, Tryz.ntmps93
    go_wp2_with fail
    refine HL.out.mono ?_
    rintro e w2 ⟨rfl, hb2⟩
    have hX2 := blk_below hX hb2
    have hB2 := Bl.trans hbX hb2
    have lX := blk_lt hX2
    have k0 : w2.cell? ⟨w.heap.size, 0, none⟩ = some (.int .i64 0) := blk_cell hX2 0
    have k1 : w2.cell? ⟨w.heap.size, 1, none⟩ = some (.int .i64 0) := blk_cell hX2 1
    have g0 := blk_free hX2 0
    have g1 := blk_free hX2 1
    have hZ := blk_set (blk_set hX2 0 (.int .i64 (n' : Int))) 1 (.int .i64 (d' : Int))
    have hbZ := Bl.set (Bl.set hB2 w.heap.size 0 (Nat.le_refl _) (.int .i64 (n' : Int))) w.heap.size 1 (Nat.le_refl _) (.int .i64 (d' : Int))
    have HZ := Lib.hid (And.intro hZ hbZ)
    clear hZ hbZ hX hX2 hB2 hb2 hbX
    go_wp2
    obtain ⟨hZ, hbZ⟩ := HZ.out
    generalize (w2.setCell ⟨w.heap.size, 0, none⟩ (.int .i64 (n' : Int))).setCell ⟨w.heap.size, 1, none⟩ (.int .i64 (d' : Int)) = w3 at *
    have r0 : w3.cell? ⟨w.heap.size, 0, none⟩ = some (.int .i64 (n' : Int)) := blk_cell hZ 0
    have r1 : w3.cell? ⟨w.heap.size, 1, none⟩ = some (.int .i64 (d' : Int)) := blk_cell hZ 1
    refine bodyPost_ret (v := .tuple #[.agg #[.int .i64 (n' : Int), .int .i64 (d' : Int)], .bool true, .int .i64 0]) (by simp [results, Tryz.results93, go_sem, r0, r1]) rfl ?_
    exact ⟨rfl, hbZ⟩
set_option maxHeartbeats 1000000 in
theorem rPart_any (s a : Nat) (w : World) (hs : s ≤ 1000000) (ha : a ≤ 1000000) :
    Calls Tryz.prog 107 #[.int .i64 s, .int .i64 a] w fun e w' => e = .returned (.tuple #[frcV s a, .bool (decide (a ≠ 0))]) ∧ Below w.heap.size w w' := by
  have hX := blk_new w (.cells #[.int .i64 0, .int .i64 0] 39)
  have hbX := Bl.alloc (Below.refl w.heap.size w) (.cells #[.int .i64 0, .int .i64 0] 39)
  obtain ⟨p, hp⟩ : ∃ p, p = frcV s a := ⟨_, rfl⟩
  rw [← hp]
  by_cases h0 : a = 0
  · subst h0
    obtain rfl : p = .agg #[.int .i64 0, .int .i64 0] := by rw [hp]; rfl
    clear hp
    go_enter Tryz.func107, Tryz.ntmps107
    go_wp2
    generalize w.alloc (.cells #[.int .i64 0, .int .i64 0] 39) = w3 at *
    have r0 : w3.cell? ⟨w.heap.size, 0, none⟩ = some (.int .i64 0) := blk_cell hX 0
    have r1 : w3.cell? ⟨w.heap.size, 1, none⟩ = some (.int .i64 0) := blk_cell hX 1
    refine bodyPost_ret (v := .tuple #[.agg #[.int .i64 0, .int .i64 0], .bool false]) (by simp [results, Tryz.results107, go_sem, r0, r1]) rfl ?_
    exact ⟨rfl, hbX⟩
  · have HL := Lib.hid (rLowest_any s a (w.alloc (.cells #[.int .i64 0, .int .i64 0] 39)) (by omega) hs ha)
    obtain rfl : p = lowV s a := by rw [hp]; unfold frcV; rw [if_neg h0]
    have hd : decide (a ≠ 0) = true := by simp [h0]
    rw [hd]
    have hne : ¬ (a : Int) = 0 := by omega
    have hq : ((a : Int) == 0) = false := by simp; omega
    clear hp hd
    unfold lowV at HL ⊢
    generalize s / Nat.gcd s a = n' at *
    generalize a / Nat.gcd s a = d' at *
    go_enter Tryz.func107, Tryz.ntmps107
    go_wp2_with fail
    refine HL.out.mono ?_
    rintro e w2 ⟨rfl, hb2⟩
    have hX2 := blk_below hX hb2
    have hB2 := Bl.trans hbX hb2
    have lX := blk_lt hX2
    have k0 : w2.cell? ⟨w.heap.size, 0, none⟩ = some (.int .i64 0) := blk_cell hX2 0
    have k1 : w2.cell? ⟨w.heap.size, 1, none⟩ = some (.int .i64 0) := blk_cell hX2 1
    have g0 := blk_free hX2 0
    have g1 := blk_free hX2 1
    have hZ := blk_set (blk_set hX2 0 (.int .i64 (n' : Int))) 1 (.int .i64 (d' : Int))
    have hbZ := Bl.set (Bl.set hB2 w.heap.size 0 (Nat.le_refl _) (.int .i64 (n' : Int))) w.heap.size 1 (Nat.le_refl _) (.int .i64 (d' : Int))
    have HZ := Lib.hid (And.intro hZ hbZ)
    clear hZ hbZ hX hX2 hB2 hb2 hbX
    go_wp2
    obtain ⟨hZ, hbZ⟩ := HZ.out
    generalize (w2.setCell ⟨w.heap.size, 0, none⟩ (.int .i64 (n' : Int))).setCell ⟨w.heap.size, 1, none⟩ (.int .i64 (d' : Int)) = w3 at *
    have r0 : w3.cell? ⟨w.heap.size, 0, none⟩ = some (.int .i64 (n' : Int)) := blk_cell hZ 0
    have r1 : w3.cell? ⟨w.heap.size, 1, none⟩ = some (.int .i64 (d' : Int)) := blk_cell hZ 1
    refine bodyPost_ret (v := .tuple #[.agg #[.int .i64 (n' : Int), .int .i64 (d' : Int)], .bool true]) (by simp [results, Tryz.results107, go_sem, r0, r1]) rfl ?_
    exact ⟨rfl, hbZ⟩
theorem inS_few {m : Sm Bd0} {n : Nat} (h : m.length ≤ n) (st : Int) : (inS m st).length ≤ n := by
  unfold inS
  rw [List.length_map]
  exact Nat.le_trans (List.length_filter_le _ _) h
def finA (rh rr : Int) (l : List Stp) : Nat × Nat := if fltF rh rr l = 0 then (inN (runS rh rr 345686400000 [] l) 6, inN (runS rh rr 345686400000 [] l) 6 + inN (runS rh rr 345686400000 [] l) 5) else (0, 0)
set_option maxHeartbeats 4000000 in
set_option maxRecDepth 100000 in
theorem Final_any (rh rr : Int) (l : List Stp) (v : Value) (w : World) (hl : l.length ≤ 1000000) (rl : RecR TSt w 0 v l) (hz : StpZ l) :
    Calls Tryz.prog 15 #[.agg #[.int .i64 rh, .int .i64 rr], v] w fun e w' => e = .returned (.tuple #[frcV (finA rh rr l).1 (finA rh rr l).2, .bool (decide ((finA rh rr l).2 ≠ 0)), .int .i64 (fltF rh rr l)]) ∧ Below w.heap.size w w' := by
  have hR0 := blk_old (blk_new w (.cells #[.int .i64 rh, .int .i64 rr] 27)) (.cells #[.int .i64 0, .int .i64 0] 39)
  have hX0 := blk_new' (w.alloc (.cells #[.int .i64 rh, .int .i64 rr] 27)) (.cells #[.int .i64 0, .int .i64 0] 39) (g := w.heap.size + 1) (by simp)
  have hb0 := Bl.alloc (Bl.alloc (Below.refl w.heap.size w) (.cells #[.int .i64 rh, .int .i64 rr] 27)) (.cells #[.int .i64 0, .int .i64 0] 39)
  have HF := Lib.hid (fault_any rh rr l v _ hl (rl.below hb0) hz)
  obtain ⟨F, hF⟩ : ∃ F, F = fltF rh rr l := ⟨_, rfl⟩
  rw [← hF] at HF
  obtain ⟨s6, hs6⟩ : ∃ q, q = (finA rh rr l).1 := ⟨_, rfl⟩
  obtain ⟨a6, ha6⟩ : ∃ q, q = (finA rh rr l).2 := ⟨_, rfl⟩
  rw [← hF, ← hs6, ← ha6]
  have HFA := Lib.hid (show (s6, a6) = if F = 0 then (inN (runS rh rr 345686400000 [] l) 6, inN (runS rh rr 345686400000 [] l) 6 + inN (runS rh rr 345686400000 [] l) 5) else (0, 0) by rw [hs6, ha6, hF]; rfl)
  have HFE := Lib.hid hF
  have RL := Lib.hid fun U (hU : Below w.heap.size w U) => rl.below hU
  have HR0 := Lib.hid (And.intro hR0 (And.intro hX0 hb0))
  clear hF hs6 ha6 rl hz hR0 hX0 hb0
  by_cases h0 : F = 0
  · have HZ := Lib.hid (fltF_zero (HFE.out ▸ h0))
    subst h0
    have hfa : s6 = inN (runS rh rr 345686400000 [] l) 6 ∧ a6 = s6 + inN (runS rh rr 345686400000 [] l) 5 := by
      have h := HFA.out
      rw [if_pos rfl] at h
      injection h with h1 h2
      exact ⟨h1, by rw [h2, h1]⟩
    obtain ⟨h6, rfl⟩ := hfa
    obtain ⟨n5, hn5⟩ : ∃ n, n = inN (runS rh rr 345686400000 [] l) 5 := ⟨_, rfl⟩
    rw [← hn5]
    have H65 := Lib.hid (And.intro h6 hn5)
    have hsm := (run_small (rh := rh) (rr := rr) (at' := 345686400000) HZ.out.2).1
    have hb6 : s6 ≤ 100000 := by rw [h6]; exact inS_few hsm 6
    have hb5 : n5 ≤ 100000 := by rw [hn5]; exact inS_few hsm 5
    obtain ⟨fx, fy, hfv⟩ := frcV_form s6 (s6 + n5)
    have HP := Lib.hid fun U => kPart_any s6 (s6 + n5) U (by omega) (by omega)
    rw [hfv] at HP ⊢
    obtain ⟨qb, hqb⟩ : ∃ q, q = decide (s6 + n5 ≠ 0) := ⟨_, rfl⟩
    rw [← hqb] at HP ⊢
    clear HFA h6 hn5 hsm hfv hqb
    go_enter Tryz.func15, Tryz.ntmps15
    go_wp2_with fail
    refine HF.out.mono ?_
    rintro e w1 ⟨rfl, hb1⟩
    have hB1 := Bl.trans HR0.out.2.2 hb1
    have hR1 := blk_below HR0.out.1 hb1
    have hX1 := blk_below HR0.out.2.1 hb1
    have q0 : w1.cell? ⟨w.heap.size, 0, none⟩ = some (.int .i64 rh) := blk_cell hR1 0
    have q1 : w1.cell? ⟨w.heap.size, 1, none⟩ = some (.int .i64 rr) := blk_cell hR1 1
    have HSA := Lib.hid (shopAt_any rh rr 345686400000 l v w1 (RL.out w1 hB1) HZ.out.2)
    clear hb1 hR1
    go_wp2_with fail
    refine HSA.out.mono ?_
    rintro e w2 ⟨⟨S, rfl, hs⟩, hb2⟩
    have HI6 := Lib.hid (In_any S rh rr 6 _ _ w2 hs (run_names HZ.out.2) (run_small HZ.out.2).1)
    have HI5 := Lib.hid fun U (hU : Below w2.heap.size w2 U) => In_any S rh rr 5 _ _ U (hs.below hU) (run_names HZ.out.2) (run_small HZ.out.2).1
    have hB2 := Bl.trans hB1 hb2
    have hX2 := blk_below hX1 hb2
    clear hs hb2 HSA q0 q1 hX1 hB1
    go_wp2_with fail
    refine HI6.out.mono ?_
    rintro e w3 ⟨⟨v3, rfl, h3⟩, hb3⟩
    obtain ⟨va, vc, rfl, _, _⟩ := h3.form
    rw [show ((inS (runS rh rr 345686400000 [] l) 6).map baOf).length = s6 by rw [List.length_map, H65.out.1]; rfl]
    have HC5 := Lib.hid (HI5.out w3 hb3)
    have hB3 := Bl.trans hB2 hb3
    have hX3 := blk_below hX2 hb3
    clear h3 hb3 HI6 HI5 hX2 hB2
    go_wp2_with fail
    refine HC5.out.mono ?_
    rintro e w4 ⟨⟨v4, rfl, h4⟩, hb4⟩
    obtain ⟨va4, vc4, rfl, _, _⟩ := h4.form
    rw [show ((inS (runS rh rr 345686400000 [] l) 5).map baOf).length = n5 by rw [List.length_map, H65.out.2]; rfl]
    have hB4 := Bl.trans hB3 hb4
    have hX4 := blk_below hX3 hb4
    have hwr : IntKind.i64.wrap ((s6 : Int) + (n5 : Int)) = ((s6 + n5 : Nat) : Int) := by rw [IntWalk.i64_in _ (by omega)]; omega
    clear h4 hb4 HC5 hX3 hB3
    go_wp2_with fail
    refine (HP.out w4).mono ?_
    rintro e w5 ⟨rfl, hb5⟩
    have hX5 := blk_below hX4 hb5
    have hB5 := Bl.trans hB4 hb5
    have lX := blk_lt hX5
    have k0 : w5.cell? ⟨w.heap.size + 1, 0, none⟩ = some (.int .i64 0) := blk_cell hX5 0
    have k1 : w5.cell? ⟨w.heap.size + 1, 1, none⟩ = some (.int .i64 0) := blk_cell hX5 1
    have g0 := blk_free hX5 0
    have g1 := blk_free hX5 1
    have hZ := blk_set (blk_set hX5 0 (.int .i64 fx)) 1 (.int .i64 fy)
    have hbZ := Bl.set (Bl.set hB5 (w.heap.size + 1) 0 (Nat.le_succ _) (.int .i64 fx)) (w.heap.size + 1) 1 (Nat.le_succ _) (.int .i64 fy)
    have HZZ := Lib.hid (And.intro hZ hbZ)
    clear hZ hbZ hX4 hX5 hB5 hb5 hB4
    go_wp2
    obtain ⟨hZ, hbZ⟩ := HZZ.out
    generalize (w5.setCell ⟨w.heap.size + 1, 0, none⟩ (.int .i64 fx)).setCell ⟨w.heap.size + 1, 1, none⟩ (.int .i64 fy) = w6 at *
    have r0 : w6.cell? ⟨w.heap.size + 1, 0, none⟩ = some (.int .i64 fx) := blk_cell hZ 0
    have r1 : w6.cell? ⟨w.heap.size + 1, 1, none⟩ = some (.int .i64 fy) := blk_cell hZ 1
    refine bodyPost_ret (v := .tuple #[.agg #[.int .i64 fx, .int .i64 fy], .bool qb, .int .i64 0]) (by simp [results, Tryz.results15, go_sem, r0, r1]) rfl ?_
    exact ⟨rfl, hbZ⟩
  · have hfa : s6 = 0 ∧ a6 = 0 := by
      have h := HFA.out
      rw [if_neg h0] at h
      injection h with h1 h2
      exact ⟨h1, h2⟩
    obtain ⟨rfl, rfl⟩ := hfa
    have HFV : Hid (frcV 0 0 = .agg #[.int .i64 0, .int .i64 0] ∧ decide ((0 : Nat) ≠ 0) = false) := Lib.hid ⟨rfl, rfl⟩
    clear HFA
    go_enter Tryz.func15, Tryz.ntmps15
    go_wp2_with fail
    refine HF.out.mono ?_
    rintro e w1 ⟨rfl, hb1⟩
    have hB1 := Bl.trans HR0.out.2.2 hb1
    have hX1 := blk_below HR0.out.2.1 hb1
    have lX := blk_lt hX1
    have k0 : w1.cell? ⟨w.heap.size + 1, 0, none⟩ = some (.int .i64 0) := blk_cell hX1 0
    have k1 : w1.cell? ⟨w.heap.size + 1, 1, none⟩ = some (.int .i64 0) := blk_cell hX1 1
    have g0 := blk_free hX1 0
    have g1 := blk_free hX1 1
    have hZ := blk_set (blk_set hX1 0 (.int .i64 0)) 1 (.int .i64 0)
    have hbZ := Bl.set (Bl.set hB1 (w.heap.size + 1) 0 (Nat.le_succ _) (.int .i64 0)) (w.heap.size + 1) 1 (Nat.le_succ _) (.int .i64 0)
    have HZZ := Lib.hid (And.intro hZ hbZ)
    clear hZ hbZ hX1 hB1 hb1
    go_wp2
    obtain ⟨hZ, hbZ⟩ := HZZ.out
    generalize (w1.setCell ⟨w.heap.size + 1, 0, none⟩ (.int .i64 0)).setCell ⟨w.heap.size + 1, 1, none⟩ (.int .i64 0) = w6 at *
    have r0 : w6.cell? ⟨w.heap.size + 1, 0, none⟩ = some (.int .i64 0) := blk_cell hZ 0
    have r1 : w6.cell? ⟨w.heap.size + 1, 1, none⟩ = some (.int .i64 0) := blk_cell hZ 1
    refine bodyPost_ret (v := .tuple #[.agg #[.int .i64 0, .int .i64 0], .bool false, .int .i64 F]) (by simp [results, Tryz.results15, go_sem, r0, r1]) rfl ?_
    exact ⟨by rw [HFV.out.1, HFV.out.2], hbZ⟩
set_option maxHeartbeats 4000000 in
set_option maxRecDepth 100000 in
theorem RFinalOf_any (rh rr : Int) (l : List Stp) (v : Value) (w : World) (rl : RecR TSt w 0 v l) (hl : stepsF l = 0) :
    Calls Tryz.prog 19 #[.agg #[.int .i64 rh, .int .i64 rr], v] w fun e w' => e = .returned (.tuple #[frcV (inN (runS rh rr 345686400000 [] l) 6) (inN (runS rh rr 345686400000 [] l) 6 + inN (runS rh rr 345686400000 [] l) 5), .bool (decide (inN (runS rh rr 345686400000 [] l) 6 + inN (runS rh rr 345686400000 [] l) 5 ≠ 0))]) ∧ Below w.heap.size w w' := by
  have hR0 := blk_old (blk_new w (.cells #[.int .i64 rh, .int .i64 rr] 27)) (.cells #[.int .i64 0, .int .i64 0] 39)
  have hX0 := blk_new' (w.alloc (.cells #[.int .i64 rh, .int .i64 rr] 27)) (.cells #[.int .i64 0, .int .i64 0] 39) (g := w.heap.size + 1) (by simp)
  have hb0 := Bl.alloc (Bl.alloc (Below.refl w.heap.size w) (.cells #[.int .i64 rh, .int .i64 rr] 27)) (.cells #[.int .i64 0, .int .i64 0] 39)
  obtain ⟨w0, hw0⟩ : ∃ w0, w0 = (w.alloc (.cells #[.int .i64 rh, .int .i64 rr] 27)).alloc (.cells #[.int .i64 0, .int .i64 0] 39) := ⟨_, rfl⟩
  rw [← hw0] at hR0 hX0 hb0
  have HB := Lib.hid fun U (hU : Below w0.heap.size w0 U) (st : Int) => RBoardsIn_any rh rr l 345686400000 st v U (rl.below (Bl.trans hb0 hU)) hl
  have hsm := (run_small (rh := rh) (rr := rr) (at' := 345686400000) hl).1
  obtain ⟨s6, h6⟩ : ∃ q, q = inN (runS rh rr 345686400000 [] l) 6 := ⟨_, rfl⟩
  obtain ⟨n5, hn5⟩ : ∃ n, n = inN (runS rh rr 345686400000 [] l) 5 := ⟨_, rfl⟩
  rw [← h6, ← hn5]
  have H65 := Lib.hid (And.intro h6 hn5)
  have hb6 : s6 ≤ 100000 := by rw [h6]; exact inS_few hsm 6
  have hb5 : n5 ≤ 100000 := by rw [hn5]; exact inS_few hsm 5
  obtain ⟨fx, fy, hfv⟩ := frcV_form s6 (s6 + n5)
  have HP := Lib.hid fun U => rPart_any s6 (s6 + n5) U (by omega) (by omega)
  rw [hfv] at HP ⊢
  obtain ⟨qb, hqb⟩ : ∃ q, q = decide (s6 + n5 ≠ 0) := ⟨_, rfl⟩
  rw [← hqb] at HP ⊢
  have HR0 := Lib.hid (And.intro hR0 (And.intro hX0 hb0))
  have q0 : w0.cell? ⟨w.heap.size, 0, none⟩ = some (.int .i64 rh) := blk_cell hR0 0
  have q1 : w0.cell? ⟨w.heap.size, 1, none⟩ = some (.int .i64 rr) := blk_cell hR0 1
  have lR := blk_lt hR0
  clear h6 hn5 hsm hfv hqb rl hl hR0 hX0 hb0
  go_enter Tryz.func19, Tryz.ntmps19
  go_wp2_with fail
  rw [← hw0]
  clear hw0
  have hBd := Below.drew (Below.refl w0.heap.size w0)
  have HL : Hid (((inS (runS rh rr 345686400000 [] l) 6).map baOf).length = s6 ∧ ((inS (runS rh rr 345686400000 [] l) 5).map baOf).length = n5) := Lib.hid ⟨by rw [List.length_map, H65.out.1]; rfl, by rw [List.length_map, H65.out.2]; rfl⟩
  go_region_with (go_at_call 108; first
          | (refine (HB.out _ hBo _).mono ?_; rintro e wQ ⟨⟨u2, rfl, hu2⟩, hbb2⟩; obtain ⟨ua2, uc2, rfl, _, _⟩ := hu2.form; (first | rw [HL.out.1] | rw [HL.out.2]); have hBe := Bl.trans hBo hbb2; clear hu2 hbb2)
          | (refine (HB.out _ hBd _).mono ?_; rintro e wP ⟨⟨u1, rfl, hu1⟩, hbb1⟩; obtain ⟨ua1, uc1, rfl, _, _⟩ := hu1.form; (first | rw [HL.out.1] | rw [HL.out.2]); have hBo := Bl.trans hBd hbb1; have hRk := blk_below HR0.out.1 hBo; have k0 : wP.cell? ⟨w.heap.size, 0, none⟩ = some (.int .i64 rh) := blk_cell hRk 0; have k1 : wP.cell? ⟨w.heap.size, 1, none⟩ = some (.int .i64 rr) := blk_cell hRk 1; have lRk := blk_lt hRk; clear hu1 hbb1 hRk))
  all_goals (
    have HBE := Lib.hid hBe
    have hwr : IntKind.i64.wrap ((s6 : Int) + (n5 : Int)) = ((s6 + n5 : Nat) : Int) := by rw [IntWalk.i64_in _ (by omega)]; omega
    clear hBe hBo
    go_wp2_with fail
    refine (HP.out _).mono ?_
    rintro e w5 ⟨rfl, hb5⟩
    have hX5 := blk_below (blk_below HR0.out.2.1 HBE.out) hb5
    have hB5 := Bl.trans (Bl.trans HR0.out.2.2 HBE.out) hb5
    have lX := blk_lt hX5
    have m0 : w5.cell? ⟨w.heap.size + 1, 0, none⟩ = some (.int .i64 0) := blk_cell hX5 0
    have m1 : w5.cell? ⟨w.heap.size + 1, 1, none⟩ = some (.int .i64 0) := blk_cell hX5 1
    have g0 := blk_free hX5 0
    have g1 := blk_free hX5 1
    have hZ := blk_set (blk_set hX5 0 (.int .i64 fx)) 1 (.int .i64 fy)
    have hbZ := Bl.set (Bl.set hB5 (w.heap.size + 1) 0 (Nat.le_succ _) (.int .i64 fx)) (w.heap.size + 1) 1 (Nat.le_succ _) (.int .i64 fy)
    have HZZ := Lib.hid (And.intro hZ hbZ)
    clear hZ hbZ hX5 hB5 hb5
    go_wp2
    obtain ⟨hZ, hbZ⟩ := HZZ.out
    generalize (w5.setCell ⟨w.heap.size + 1, 0, none⟩ (.int .i64 fx)).setCell ⟨w.heap.size + 1, 1, none⟩ (.int .i64 fy) = w6 at *
    have r0 : w6.cell? ⟨w.heap.size + 1, 0, none⟩ = some (.int .i64 fx) := blk_cell hZ 0
    have r1 : w6.cell? ⟨w.heap.size + 1, 1, none⟩ = some (.int .i64 fy) := blk_cell hZ 1
    refine bodyPost_ret (v := .tuple #[.agg #[.int .i64 fx, .int .i64 fy], .bool qb]) (by simp [results, Tryz.results19, go_sem, r0, r1]) rfl ?_
    exact ⟨rfl, hbZ⟩)
end Go.Proofs.YtbkglhakhahfpaaGreatDoor
namespace Go.Proofs.YtbkglhakhahfpaaGreatDoor
open Go.RowKit Go.Sort Go.Maps

/-- the steps that are accepted behind a state of the shop. -/
def accL (rh rr : Int) : Sm Bd0 → List Stp → List Stp
  | _, [] => []
  | m, s :: l => if (doS rh rr m s).2 = 0 then s :: accL rh rr (doS rh rr m s).1 l else accL rh rr (doS rh rr m s).1 l
theorem accL_go {rh rr : Int} {l : List Stp} {k : Nat} {s : Stp} {m : Sm Bd0} (hs : l[k]? = some s) (h : (doS rh rr m s).2 = 0) : accL rh rr m (l.drop k) = s :: accL rh rr (doS rh rr m s).1 (l.drop (k + 1)) := by
  obtain ⟨hk, he⟩ := List.getElem?_eq_some_iff.1 hs
  rw [List.drop_eq_getElem_cons hk, he, accL, if_pos h]
theorem accL_no {rh rr : Int} {l : List Stp} {k : Nat} {s : Stp} {m : Sm Bd0} (hs : l[k]? = some s) (h : (doS rh rr m s).2 ≠ 0) : accL rh rr m (l.drop k) = accL rh rr (doS rh rr m s).1 (l.drop (k + 1)) := by
  obtain ⟨hk, he⟩ := List.getElem?_eq_some_iff.1 hs
  rw [List.drop_eq_getElem_cons hk, he, accL, if_neg h]
theorem accL_len {rh rr : Int} : ∀ (l : List Stp) (m : Sm Bd0), (accL rh rr m l).length ≤ l.length
  | [], _ => Nat.le_refl _
  | s :: l, m => by
    rw [accL]
    split
    · exact Nat.succ_le_succ (accL_len l _)
    · exact Nat.le_trans (accL_len l _) (Nat.le_succ _)
theorem accL_mem {rh rr : Int} : ∀ (l : List Stp) (m : Sm Bd0), ∀ s ∈ accL rh rr m l, s ∈ l
  | [], _, _, h => h
  | x :: l, m, s, h => by
    rw [accL] at h
    split at h
    · rcases List.mem_cons.1 h with rfl | h
      · exact List.mem_cons_self
      · exact List.mem_cons_of_mem _ (accL_mem l _ s h)
    · exact List.mem_cons_of_mem _ (accL_mem l _ s h)

/-- how boards went at first, and how many passed. -/
abbrev FpQ := Sm Int × Nat
def fpS (q : FpQ) (s : Stp) : FpQ := if (s.kd = 3 ∨ s.kd = 2) ∧ q.1.get s.bd.data.toList = none then (q.1.put s.bd.data.toList s.kd, if s.kd = 3 then q.2 + 1 else q.2) else q
def fpL (q : FpQ) (l : List Stp) : FpQ := l.foldl fpS q
theorem fpS_one (q : FpQ) (s : Stp) : (fpS q s).1.length ≤ q.1.length + 1 ∧ (fpS q s).2 ≤ q.2 + 1 := by
  unfold fpS
  split
  · refine ⟨Sm.put_le _ _ _, ?_⟩
    show (if s.kd = 3 then q.2 + 1 else q.2) ≤ _
    split <;> omega
  · exact ⟨Nat.le_succ _, Nat.le_succ _⟩
theorem fpL_len : ∀ (l : List Stp) (q : FpQ), (fpL q l).1.length ≤ q.1.length + l.length ∧ (fpL q l).2 ≤ q.2 + l.length
  | [], _ => ⟨Nat.le_refl _, Nat.le_refl _⟩
  | s :: l, q => by
    have h1 := fpS_one q s
    have h2 := fpL_len l (fpS q s)
    unfold fpL at h2 ⊢
    rw [List.foldl_cons, List.length_cons]
    omega
abbrev seenOf (q : FpQ) : Sm Bool := q.1.mapv fun _ => true
theorem seen_get (q : FpQ) (k : Bs) : ((seenOf q).get k).getD false = (q.1.get k).isSome := by
  rw [Sm.get_mapv]
  cases q.1.get k <;> rfl

set_option maxHeartbeats 4000000 in
set_option maxRecDepth 100000 in
theorem FirstPass1_yes (i : Nat) (s : Stp) (q : FpQ) (l : List Stp) (v : Value) (X Y Z M : Nat) (W : World) (hs : l[i]? = some s) (rl : RecR TSt W 0 v l) (hX : W.heap[X]? = some (.cells #[v] 29 (0, 0)))
    (hY : W.heap[Y]? = some (.cells #[.map (some M)] 144 (0, 0))) (hZ : W.heap[Z]? = some (.cells #[.int .i64 q.2] 3 (0, 0))) (hM : MapS TB W M (seenOf q)) (hb : s.bd.size ≤ 1000) (hq : q.1.length ≤ 100000 ∧ q.2 ≤ 100000)
    (hMZ : M ≠ Z) (hk : s.kd = 3 ∨ s.kd = 2) (hn : q.1.get s.bd.data.toList = none) :
    Calls Tryz.prog 92 #[.int .i64 i, .int .i64 0, .pointer (some ⟨X, 0, none⟩), .pointer (some ⟨Y, 0, none⟩), .pointer (some ⟨Z, 0, none⟩)] W fun e w' => e = .returned (.tuple #[]) ∧ w'.heap[Z]? = some (.cells #[.int .i64 ((fpS q s).2 : Nat)] 3 (0, 0)) ∧ MapS TB w' M (seenOf (fpS q s)) ∧ Kp W w' (fun i => i = M ∨ i = Z) := by
  obtain ⟨at1, bs, kd, cs⟩ := s
  obtain ⟨va, vc, rfl, _, _⟩ := rl.form
  obtain ⟨b1, o1, rfl, _, hbb1, hc1⟩ := rl.at TSt.ok.len hs TSt.ok.pos
  have hil := (List.getElem?_eq_some_iff.1 hs).1
  have c0 : W.cell? ⟨b1, o1 + i * 4, none⟩ = some (.int .i64 at1) := hc1 0 _ rfl
  have c1 : W.cell? ⟨b1, o1 + i * 4 + 1, none⟩ = some (.string bs) := hc1 1 _ rfl
  have c2 : W.cell? ⟨b1, o1 + i * 4 + 2, none⟩ = some (.int .i64 kd) := hc1 2 _ rfl
  have c3 : W.cell? ⟨b1, o1 + i * 4 + 3, none⟩ = some (.string cs) := hc1 3 _ rfl
  have k0 : W.cell? ⟨X, 0, none⟩ = some (.slice (some ⟨b1, o1, none⟩) l.length vc) := blk_cell hX 0
  have k1 : W.cell? ⟨Y, 0, none⟩ = some (.map (some M)) := blk_cell hY 0
  have lX := blk_lt hX
  have lY := blk_lt hY
  have lZ := blk_lt hZ
  have lM := hM.lt
  have hbs : bs.size ≤ maxLen := by unfold maxLen; have : bs.size ≤ 1000 := hb; omega
  have hA := Bl.alloc (Below.refl W.heap.size W) (.cells #[.int .i64 at1, .string bs, .int .i64 kd, .string cs] 133)
  have hMA := hM.below hA
  have hXA := blk_new W (.cells #[.int .i64 at1, .string bs, .int .i64 kd, .string cs] 133)
  have hYA := blk_old hY (.cells #[.int .i64 at1, .string bs, .int .i64 kd, .string cs] 133)
  have hZA := blk_old hZ (.cells #[.int .i64 at1, .string bs, .int .i64 kd, .string cs] 133)
  have hlk := hMA.look TB.ok bs hbs
  have hlk := hlk.trans (congrArg (fun b => Result.ok (Value.bool b) _) ((seen_get q bs.data.toList).trans (by rw [show q.1.get bs.data.toList = none from hn])))
  obtain ⟨w3, hrun3, hM3, ht3⟩ := hMA.put TB.ok bs hbs true (by rw [Sm.len_mapv]; unfold maxLen; omega)
  have hg3 := ht3.grown
  have hX3 := Gr.blk hg3 hXA (by omega)
  have hZ3 := Gr.blk hg3 hZA hMZ.symm
  have x1 : w3.cell? ⟨W.heap.size, 1, none⟩ = some (.string bs) := blk_cell hX3 1
  have x2 : w3.cell? ⟨W.heap.size, 2, none⟩ = some (.int .i64 kd) := blk_cell hX3 2
  have z0 : w3.cell? ⟨Z, 0, none⟩ = some (.int .i64 q.2) := blk_cell hZ3 0
  have f0 := blk_free hZ3 0
  have hK3 : Kp W w3 (fun i => i = M ∨ i = Z) := (Kp.of_below hA).trans (Kp.of_gr hg3 (.inl rfl))
  have hq1 : (fpS q (at1, bs, kd, cs)).1 = q.1.put bs.data.toList kd := by unfold fpS; rw [if_pos ⟨hk, hn⟩]
  have hq2 : (fpS q (at1, bs, kd, cs)).2 = if kd = 3 then q.2 + 1 else q.2 := by unfold fpS; rw [if_pos ⟨hk, hn⟩]
  have hMq : MapS TB w3 M (seenOf (fpS q (at1, bs, kd, cs))) := by
    unfold seenOf; rw [hq1, Sm.put_mapv]; exact hM3
  have hwq : IntKind.i64.wrap ((q.2 : Int) + 1) = ((q.2 + 1 : Nat) : Int) := by rw [IntWalk.i64_in _ (by omega)]; omega
  have hzl : W.heap.size ≤ w3.heap.size := hK3.size
  rw [hq2]
  simp only [TB] at hrun3 hlk
  have HM := Lib.hid hMq
  have HK := Lib.hid hK3
  have HZ3 := Lib.hid hZ3
  have HQ := Lib.hid hq2
  generalize (fpS q (at1, bs, kd, cs)) = q' at *
  rcases hk with hk | hk
  · have hk : kd = 3 := hk
    subst hk
    clear hMq hK3 hZ3 hX3 hZA hYA hXA hMA hA hM3 ht3 hg3 hq1 hq2 hn hb hc1 rl hs hM hX hY hZ
    go_enter Tryz.func92, Tryz.ntmps92
    go_wp2
    go_end0
    refine ⟨rfl, blk_set HZ3.out 0 _, ?_, HK.out.trans (Kp.of_gr (Gr.set (Gr.refl _ _) Z 0 (.inl rfl) _) (.inr rfl))⟩
    exact HM.out.keep (Below.heap_setCell _ _ _ M hMZ)
  · have hk : kd = 2 := hk
    subst hk
    clear hMq hK3 hZ3 hX3 hZA hYA hXA hMA hA hM3 ht3 hg3 hq1 hq2 hn hb hc1 rl hs hM hX hY hZ
    go_enter Tryz.func92, Tryz.ntmps92
    go_wp2
    go_end0
    exact ⟨rfl, HZ3.out, HM.out, HK.out⟩
set_option maxHeartbeats 4000000 in
set_option maxRecDepth 100000 in
theorem FirstPass1_no (i : Nat) (R : Int) (s : Stp) (q : FpQ) (l : List Stp) (v : Value) (X Y M : Nat) (z : Value) (W : World) (hs : l[i]? = some s) (rl : RecR TSt W 0 v l) (hX : W.heap[X]? = some (.cells #[v] 29 (0, 0)))
    (hY : W.heap[Y]? = some (.cells #[.map (some M)] 144 (0, 0))) (hM : MapS TB W M (seenOf q)) (hb : s.bd.size ≤ 1000)
    (hno : ¬ (R = 0 ∧ (s.kd = 3 ∨ s.kd = 2) ∧ q.1.get s.bd.data.toList = none)) :
    Calls Tryz.prog 92 #[.int .i64 i, .int .i64 R, .pointer (some ⟨X, 0, none⟩), .pointer (some ⟨Y, 0, none⟩), z] W fun e w' => e = .returned (.tuple #[]) ∧ Below W.heap.size W w' := by
  obtain ⟨at1, bs, kd, cs⟩ := s
  obtain ⟨va, vc, rfl, _, _⟩ := rl.form
  obtain ⟨b1, o1, rfl, _, hbb1, hc1⟩ := rl.at TSt.ok.len hs TSt.ok.pos
  have hil := (List.getElem?_eq_some_iff.1 hs).1
  have c0 : W.cell? ⟨b1, o1 + i * 4, none⟩ = some (.int .i64 at1) := hc1 0 _ rfl
  have c1 : W.cell? ⟨b1, o1 + i * 4 + 1, none⟩ = some (.string bs) := hc1 1 _ rfl
  have c2 : W.cell? ⟨b1, o1 + i * 4 + 2, none⟩ = some (.int .i64 kd) := hc1 2 _ rfl
  have c3 : W.cell? ⟨b1, o1 + i * 4 + 3, none⟩ = some (.string cs) := hc1 3 _ rfl
  have k0 : W.cell? ⟨X, 0, none⟩ = some (.slice (some ⟨b1, o1, none⟩) l.length vc) := blk_cell hX 0
  have k1 : W.cell? ⟨Y, 0, none⟩ = some (.map (some M)) := blk_cell hY 0
  have lX := blk_lt hX
  have lY := blk_lt hY
  have hbs : bs.size ≤ maxLen := by unfold maxLen; have : bs.size ≤ 1000 := hb; omega
  have hA := Bl.alloc (Below.refl W.heap.size W) (.cells #[.int .i64 at1, .string bs, .int .i64 kd, .string cs] 133)
  have hMA := hM.below hA
  have hlk := hMA.look TB.ok bs hbs
  have HA := Lib.hid hA
  have hno : ¬ (R = 0 ∧ (kd = 3 ∨ kd = 2) ∧ q.1.get bs.data.toList = none) := hno
  by_cases h0 : R = 0
  · have hr : (R == 0) = true := by simp [h0]
    by_cases h3 : kd = 3 ∨ kd = 2
    · have hg : ((seenOf q).get bs.data.toList).getD false = true := by
        rw [seen_get]
        cases hq : q.1.get bs.data.toList with
        | some _ => rfl
        | none => exact absurd ⟨h0, h3, hq⟩ hno
      have hlk := hlk.trans (congrArg (fun b => Result.ok (Value.bool b) _) hg)
      simp only [TB] at hlk
      clear hM hMA hA hno hg hX hY hb hc1 rl hs
      rcases h3 with rfl | rfl
      all_goals (
        go_enter Tryz.func92, Tryz.ntmps92
        go_wp2
        refine bodyPost_ret (results_none rfl _ _ _) rfl ?_
        exact ⟨rfl, HA.out⟩)
    · have e3 : (kd == 3) = false := by simp; omega
      have e2 : (kd == 2) = false := by simp; omega
      have n3 : ¬ kd = 3 := by omega
      have n2 : ¬ kd = 2 := by omega
      clear hM hMA hA hno hlk hX hY hb hc1 rl hs h3
      go_enter Tryz.func92, Tryz.ntmps92
      go_wp2
      refine bodyPost_ret (results_none rfl _ _ _) rfl ?_
      exact ⟨rfl, HA.out⟩
  · have hr : (R == 0) = false := by simp [h0]
    clear hM hMA hA hno hlk hX hY hb hc1 rl hs
    go_enter Tryz.func92, Tryz.ntmps92
    go_wp2
    refine bodyPost_ret (results_none rfl _ _ _) rfl ?_
    exact ⟨rfl, HA.out⟩
/-- what the closure of FirstPass keeps. -/
structure FpJ (rh rr : Int) (l : List Stp) (w0 : World) (Bb Y Z M : Nat) (k : Nat) (m : Sm Bd0) (W : World) : Prop where
  bel : Below Bb w0 W
  ex : ∃ q : FpQ, fpL ([], 0) (accL rh rr [] l) = fpL q (accL rh rr m (l.drop k)) ∧ q.1.length ≤ k ∧ q.2 ≤ k ∧ W.heap[Y]? = some (.cells #[.map (some M)] 144 (0, 0)) ∧ W.heap[Z]? = some (.cells #[.int .i64 q.2] 3 (0, 0)) ∧ MapS TB W M (seenOf q)
theorem fp_fc (rh rr : Int) (l : List Stp) (v : Value) (w0 : World) (X Y Z M Bb : Nat) (rl : ∀ W, Below Bb w0 W → RecR TSt W 0 v l) (hX : w0.heap[X]? = some (.cells #[v] 29 (0, 0))) (hXb : X < Bb)
    (hY : Y < w0.heap.size) (hZ : Z < w0.heap.size) (hM : M < w0.heap.size) (hbM : Bb ≤ M) (hbZ : Bb ≤ Z) (hMY : M ≠ Y) (hMZ : M ≠ Z) (hYZ : Y ≠ Z) (hl : l.length ≤ 100000) (hsm : ∀ s ∈ l, s.bd.size ≤ 1000) :
    FcC 92 (fun a b => #[a, b, .pointer (some ⟨X, 0, none⟩), .pointer (some ⟨Y, 0, none⟩), .pointer (some ⟨Z, 0, none⟩)]) rh rr l Bb w0 (FpJ rh rr l w0 Bb Y Z M) where
  st := fun k m W W' hW h hb' => by
    obtain ⟨q, h1, h2, h3, h4, h5, h6⟩ := h.ex
    exact ⟨h.bel.trans (hb'.mono (by omega)), q, h1, h2, h3, blk_below h4 hb', blk_below h5 hb', h6.below hb'⟩
  dd := fun k m W W' S L hS h hL hK => by
    obtain ⟨q, h1, h2, h3, h4, h5, h6⟩ := h.ex
    have hno : ∀ i, i < w0.heap.size → ¬ DoX S L i := fun i hi hx => by
      rcases hx with rfl | ⟨p, hp, hx⟩
      · omega
      · have a := (hL.brd p hp).1; have b := hx.1; have c := hL.two; omega
    exact ⟨h.bel.trans ((DoX.below hL hK).mono (by omega)), q, h1, h2, h3, hK.blk h4 (hno Y hY), hK.blk h5 (hno Z hZ), hK.ms h6 (hno M hM)⟩
  call := fun k m s W S L hs hS hW h hL hLm => by
    obtain ⟨q, h1, h2, h3, h4, h5, h6⟩ := h.ex
    have hkl := (List.getElem?_eq_some_iff.1 hs).1
    have hX' : W.heap[X]? = some (.cells #[v] 29 (0, 0)) := (h.bel.block X hXb).trans hX
    have hbd := hsm s (List.mem_of_getElem? hs)
    by_cases hy : (doS rh rr m s).2 = 0 ∧ (s.kd = 3 ∨ s.kd = 2) ∧ q.1.get s.bd.data.toList = none
    · rw [hy.1]
      refine (FirstPass1_yes k s q l v X Y Z M W hs (rl W h.bel) hX' h4 h5 h6 hbd ⟨by omega, by omega⟩ hMZ hy.2.1 hy.2.2).mono ?_
      rintro e w' ⟨rfl, a1, a2, a3⟩
      have hq := fpS_one q s
      have hB' : Below Bb W w' := a3.below (fun i _ hi => by omega) (by omega)
      exact ⟨rfl, ⟨h.bel.trans hB', fpS q s, by rw [h1, accL_go hs hy.1]; rfl, by omega, by omega, a3.blk h4 (by omega), a1, a2⟩, hL.keep a3 fun i hi => by omega, hB'⟩
    · refine (FirstPass1_no k _ s q l v X Y M _ W hs (rl W h.bel) hX' h4 h6 hbd hy).mono ?_
      rintro e w' ⟨rfl, hb'⟩
      have hB' : Below Bb W w' := hb'.mono (by omega)
      refine ⟨rfl, ⟨h.bel.trans hB', q, ?_, by omega, by omega, blk_below h4 hb', blk_below h5 hb', h6.below hb'⟩, hL.below hb', hB'⟩
      rw [h1]
      by_cases h0 : (doS rh rr m s).2 = 0
      · rw [accL_go hs h0]
        show fpL (fpS q s) _ = _
        rw [show fpS q s = q by unfold fpS; rw [if_neg fun e => hy ⟨h0, e⟩]]
      · rw [accL_no hs h0]
/-- what FirstPass tells. -/
def fpA (rh rr : Int) (l : List Stp) : FpQ := if fltF rh rr l = 0 then fpL ([], 0) (accL rh rr [] l) else ([], 0)
set_option maxHeartbeats 4000000 in
set_option maxRecDepth 100000 in
theorem FirstPass_any (rh rr : Int) (l : List Stp) (v : Value) (w : World) (hl : l.length ≤ 1000000) (rl : RecR TSt w 0 v l) (hz : StpZ l) :
    Calls Tryz.prog 14 #[.agg #[.int .i64 rh, .int .i64 rr], v] w fun e w' => e = .returned (.tuple #[frcV (fpA rh rr l).2 (fpA rh rr l).1.length, .bool (decide ((fpA rh rr l).1.length ≠ 0)), .int .i64 (fltF rh rr l)]) ∧ Below w.heap.size w w' := by
  have hR0 := blk_old (blk_old (blk_new w (.cells #[.int .i64 rh, .int .i64 rr] 27)) (.cells #[v] 29)) (.cells #[.int .i64 0, .int .i64 0] 39)
  have hL0 := blk_old (blk_new' (w.alloc (.cells #[.int .i64 rh, .int .i64 rr] 27)) (.cells #[v] 29) (g := w.heap.size + 1) (by simp)) (.cells #[.int .i64 0, .int .i64 0] 39)
  have hX0 := blk_new' ((w.alloc (.cells #[.int .i64 rh, .int .i64 rr] 27)).alloc (.cells #[v] 29)) (.cells #[.int .i64 0, .int .i64 0] 39) (g := w.heap.size + 2) (by simp)
  have hb0 := Bl.alloc (Bl.alloc (Bl.alloc (Below.refl w.heap.size w) (.cells #[.int .i64 rh, .int .i64 rr] 27)) (.cells #[v] 29)) (.cells #[.int .i64 0, .int .i64 0] 39)
  have HF := Lib.hid (fault_any rh rr l v _ hl (rl.below hb0) hz)
  obtain ⟨F, hF⟩ : ∃ F, F = fltF rh rr l := ⟨_, rfl⟩
  rw [← hF] at HF
  obtain ⟨s6, hs6⟩ : ∃ q, q = (fpA rh rr l).2 := ⟨_, rfl⟩
  obtain ⟨a6, ha6⟩ : ∃ q, q = (fpA rh rr l).1.length := ⟨_, rfl⟩
  rw [← hF, ← hs6, ← ha6]
  have HFA := Lib.hid (And.intro hs6 (And.intro ha6 (show fpA rh rr l = if F = 0 then fpL ([], 0) (accL rh rr [] l) else ([], 0) by rw [hF]; rfl)))
  have HFE := Lib.hid hF
  have RL := Lib.hid fun U (hU : Below w.heap.size w U) => rl.below hU
  have HR0 := Lib.hid (And.intro hR0 (And.intro hX0 (And.intro hb0 hL0)))
  obtain ⟨va, vc, rfl, _, _⟩ := rl.form
  clear hF hs6 ha6 rl hz hR0 hX0 hb0 hL0
  by_cases h0 : F = 0
  · have HZ := Lib.hid (fltF_zero (HFE.out ▸ h0))
    subst h0
    have hfa : s6 = (fpL ([], 0) (accL rh rr [] l)).2 ∧ a6 = (fpL ([], 0) (accL rh rr [] l)).1.length := by
      have h := HFA.out
      rw [if_pos rfl] at h
      rw [h.2.2] at h
      exact ⟨h.1, h.2.1⟩
    have H65 := Lib.hid hfa
    have hll := (stepsF_right HZ.out.2).1
    have hbb : s6 ≤ 100000 ∧ a6 ≤ 100000 := by
      have h1 := fpL_len (accL rh rr [] l) ([], 0)
      have h2 := accL_len (rh := rh) (rr := rr) l []
      rw [hfa.1, hfa.2]
      simp only [List.length_nil] at h1
      omega
    obtain ⟨fx, fy, hfv⟩ := frcV_form s6 a6
    have HP := Lib.hid fun U => kPart_any s6 a6 U (by omega) (by omega)
    rw [hfv] at HP ⊢
    obtain ⟨qb, hqb⟩ : ∃ q, q = decide (a6 ≠ 0) := ⟨_, rfl⟩
    rw [← hqb] at HP ⊢
    clear HFA hfv hqb hfa
    go_enter Tryz.func14, Tryz.ntmps14
    go_wp2_with fail
    refine HF.out.mono ?_
    rintro e w1 ⟨rfl, hb1⟩
    have hB1 := Bl.trans HR0.out.2.2.1 hb1
    have hR1 := blk_below HR0.out.1 hb1
    have hX1 := blk_below HR0.out.2.1 hb1
    have hL1 := blk_below HR0.out.2.2.2 hb1
    have q0 : w1.cell? ⟨w.heap.size, 0, none⟩ = some (.int .i64 rh) := blk_cell hR1 0
    have q1 : w1.cell? ⟨w.heap.size, 1, none⟩ = some (.int .i64 rr) := blk_cell hR1 1
    have q2 : w1.cell? ⟨w.heap.size + 1, 0, none⟩ = some (.slice va l.length vc) := blk_cell hL1 0
    have lR1 := blk_lt hR1
    have lX1 := blk_lt hX1
    have lL1 := blk_lt hL1
    obtain ⟨w2, hw2⟩ : ∃ w2, w2 = ((w1.alloc (.map #[] 0)).alloc (.cells #[.map (some w1.heap.size)] 144)).alloc (.cells #[.int .i64 0] 3) := ⟨_, rfl⟩
    have hb2 : Below w1.heap.size w1 w2 := by rw [hw2]; exact Bl.alloc (Bl.alloc (Bl.alloc (Below.refl _ _) _) _) _
    have hM2 : MapS TB w2 w1.heap.size [] := MapS.of_blk (by rw [hw2]; exact blk_old (blk_old (blk_new w1 _) _) _)
    have hY2 : w2.heap[w1.heap.size + 1]? = some (.cells #[.map (some w1.heap.size)] 144 (0, 0)) := by rw [hw2]; exact blk_old (blk_new' _ _ (by simp)) _
    have hZ2 : w2.heap[w1.heap.size + 2]? = some (.cells #[.int .i64 0] 3 (0, 0)) := by rw [hw2]; exact blk_new' _ _ (by simp)
    have hz1 := hB1.size
    have p0 : (((w1.alloc (.map #[] 0)).alloc (.cells #[.map (some w1.heap.size)] 144)).alloc (.cells #[.int .i64 0] 3)).cell? ⟨w.heap.size, 0, none⟩ = some (.int .i64 rh) := by rw [← hw2]; exact blk_cell (blk_below hR1 hb2) 0
    have p1 : (((w1.alloc (.map #[] 0)).alloc (.cells #[.map (some w1.heap.size)] 144)).alloc (.cells #[.int .i64 0] 3)).cell? ⟨w.heap.size, 1, none⟩ = some (.int .i64 rr) := by rw [← hw2]; exact blk_cell (blk_below hR1 hb2) 1
    have p2 : (((w1.alloc (.map #[] 0)).alloc (.cells #[.map (some w1.heap.size)] 144)).alloc (.cells #[.int .i64 0] 3)).cell? ⟨w.heap.size + 1, 0, none⟩ = some (.slice va l.length vc) := by rw [← hw2]; exact blk_cell (blk_below hL1 hb2) 0
    have HFO := Lib.hid (followC_any 92 #[.pointer (some ⟨w.heap.size + 1, 0, none⟩), .pointer (some ⟨w1.heap.size + 1, 0, none⟩), .pointer (some ⟨w1.heap.size + 2, 0, none⟩)] (fun a b => #[a, b, .pointer (some ⟨w.heap.size + 1, 0, none⟩), .pointer (some ⟨w1.heap.size + 1, 0, none⟩), .pointer (some ⟨w1.heap.size + 2, 0, none⟩)]) (.pointer (some ⟨w.heap.size + 1, 0, none⟩)) (.pointer (some ⟨w1.heap.size + 1, 0, none⟩)) (.pointer (some ⟨w1.heap.size + 2, 0, none⟩))
      (by first | exact .inl ⟨rfl, rfl, rfl⟩ | exact .inr (.inl ⟨rfl, rfl, rfl⟩) | exact .inr (.inr (.inl ⟨rfl, rfl, rfl⟩))) rh rr 345686400000 l (.slice va l.length vc) w2 w1.heap.size (FpJ rh rr l w2 w1.heap.size (w1.heap.size + 1) (w1.heap.size + 2) w1.heap.size) hb2.size
      (fp_fc rh rr l _ w2 _ _ _ _ w1.heap.size (fun W hW => RL.out W (hB1.trans ((hb2.trans hW).mono hz1))) (blk_below hL1 hb2) (by omega) (blk_lt hY2) (blk_lt hZ2) hM2.lt (Nat.le_refl _) (by omega) (by omega) (by omega) (by omega) (by omega) (fun s hs => by have := ((stepsF_right HZ.out.2).2.1 s hs).bd; omega))
      (fun W hW => RL.out W (Below.trans hB1 ((hb2.trans hW).mono hz1))) HZ.out.2 (fun s hs => by have := ((stepsF_right HZ.out.2).2.1 s hs).a1; omega)
      (fun W hW => ⟨hW.mono hb2.size, ([], 0), by rw [List.drop_zero], Nat.le_refl _, Nat.le_refl _, blk_below hY2 hW, blk_below hZ2 hW, hM2.below hW⟩))
    have HB2 := Lib.hid (Below.trans hB1 (hb2.mono hz1))
    have HX2 := Lib.hid (blk_below hX1 hb2)
    clear hb1 hb2 hM2 hY2 hZ2 hR1 hX1 hL1 hB1
    have hmm := @run_makeMap Tryz.prog
    go_wp2_with fail
    clear hmm
    rw [← hw2]
    clear hw2
    refine HFO.out.mono ?_
    rintro e w3 ⟨⟨S, rfl, hs⟩, hJ, hb3⟩
    obtain ⟨q, h1, h2, h3, h4, h5, h6⟩ := hJ.ex
    have hq : fpL ([], 0) (accL rh rr [] l) = q := by rw [h1, List.drop_length]; rfl
    have e6 : q.2 = s6 := by rw [H65.out.1, hq]
    have ea : (seenOf q).length = a6 := by rw [H65.out.2, hq]; exact Sm.len_mapv _ _
    have c0 : w3.cell? ⟨w1.heap.size + 1, 0, none⟩ = some (.map (some w1.heap.size)) := blk_cell h4 0
    have c1 : w3.cell? ⟨w1.heap.size + 2, 0, none⟩ = some (.int .i64 s6) := by rw [← e6]; exact blk_cell h5 0
    have hlen := fun ty => h6.len TB.ok ty
    rw [ea] at hlen
    simp only [TB] at hlen
    have lY := blk_lt h4
    have lZ := blk_lt h5
    have hX3 : w3.heap[w.heap.size + 2]? = some (.cells #[.int .i64 0, .int .i64 0] 39 (0, 0)) := (hb3.block _ lX1).trans HX2.out
    have hB3 := HB2.out.trans (hb3.mono hz1)
    clear h1 h2 h3 h4 h5 h6 hJ hs hb3 HFO hq e6 ea
    go_wp2_with fail
    refine (HP.out w3).mono ?_
    rintro e w5 ⟨rfl, hb5⟩
    have hX5 := blk_below hX3 hb5
    have hB5 := Bl.trans hB3 hb5
    have lX := blk_lt hX5
    have k0 : w5.cell? ⟨w.heap.size + 2, 0, none⟩ = some (.int .i64 0) := blk_cell hX5 0
    have k1 : w5.cell? ⟨w.heap.size + 2, 1, none⟩ = some (.int .i64 0) := blk_cell hX5 1
    have g0 := blk_free hX5 0
    have g1 := blk_free hX5 1
    have hZ := blk_set (blk_set hX5 0 (.int .i64 fx)) 1 (.int .i64 fy)
    have hbZ := Bl.set (Bl.set hB5 (w.heap.size + 2) 0 (by omega) (.int .i64 fx)) (w.heap.size + 2) 1 (by omega) (.int .i64 fy)
    have HZZ := Lib.hid (And.intro hZ hbZ)
    clear hZ hbZ hX3 hX5 hB5 hb5 hB3 HP
    go_wp2
    obtain ⟨hZ, hbZ⟩ := HZZ.out
    generalize (w5.setCell ⟨w.heap.size + 2, 0, none⟩ (.int .i64 fx)).setCell ⟨w.heap.size + 2, 1, none⟩ (.int .i64 fy) = w6 at *
    have r0 : w6.cell? ⟨w.heap.size + 2, 0, none⟩ = some (.int .i64 fx) := blk_cell hZ 0
    have r1 : w6.cell? ⟨w.heap.size + 2, 1, none⟩ = some (.int .i64 fy) := blk_cell hZ 1
    refine bodyPost_ret (v := .tuple #[.agg #[.int .i64 fx, .int .i64 fy], .bool qb, .int .i64 0]) (by simp [results, Tryz.results14, go_sem, r0, r1]) rfl ?_
    exact ⟨rfl, hbZ⟩
  · have hfa : s6 = 0 ∧ a6 = 0 := by
      have h := HFA.out
      rw [if_neg h0] at h
      rw [h.2.2] at h
      exact ⟨h.1, h.2.1⟩
    obtain ⟨rfl, rfl⟩ := hfa
    have HFV : Hid (frcV 0 0 = .agg #[.int .i64 0, .int .i64 0] ∧ decide ((0 : Nat) ≠ 0) = false) := Lib.hid ⟨rfl, rfl⟩
    clear HFA
    go_enter Tryz.func14, Tryz.ntmps14
    go_wp2_with fail
    refine HF.out.mono ?_
    rintro e w1 ⟨rfl, hb1⟩
    have hB1 := Bl.trans HR0.out.2.2.1 hb1
    have hX1 := blk_below HR0.out.2.1 hb1
    have lX := blk_lt hX1
    have k0 : w1.cell? ⟨w.heap.size + 2, 0, none⟩ = some (.int .i64 0) := blk_cell hX1 0
    have k1 : w1.cell? ⟨w.heap.size + 2, 1, none⟩ = some (.int .i64 0) := blk_cell hX1 1
    have g0 := blk_free hX1 0
    have g1 := blk_free hX1 1
    have hZ := blk_set (blk_set hX1 0 (.int .i64 0)) 1 (.int .i64 0)
    have hbZ := Bl.set (Bl.set hB1 (w.heap.size + 2) 0 (by omega) (.int .i64 0)) (w.heap.size + 2) 1 (by omega) (.int .i64 0)
    have HZZ := Lib.hid (And.intro hZ hbZ)
    clear hZ hbZ hX1 hB1 hb1
    go_wp2
    obtain ⟨hZ, hbZ⟩ := HZZ.out
    generalize (w1.setCell ⟨w.heap.size + 2, 0, none⟩ (.int .i64 0)).setCell ⟨w.heap.size + 2, 1, none⟩ (.int .i64 0) = w6 at *
    have r0 : w6.cell? ⟨w.heap.size + 2, 0, none⟩ = some (.int .i64 0) := blk_cell hZ 0
    have r1 : w6.cell? ⟨w.heap.size + 2, 1, none⟩ = some (.int .i64 0) := blk_cell hZ 1
    refine bodyPost_ret (v := .tuple #[.agg #[.int .i64 0, .int .i64 0], .bool false, .int .i64 F]) (by simp [results, Tryz.results14, go_sem, r0, r1]) rfl ?_
    exact ⟨by rw [HFV.out.1, HFV.out.2], hbZ⟩
end Go.Proofs.YtbkglhakhahfpaaGreatDoor
namespace Go.Proofs.YtbkglhakhahfpaaGreatDoor
open Go.RowKit Go.Sort Go.Maps

theorem HasN_any (zs : List Int) (v : Value) (lo : Nat) (x : Int) (W : World) (h : RecR TN W lo v zs) (hz : zs.length ≤ 1000000) :
    Calls Tryz.prog 138 #[v, .int .i64 x] W fun e w' => e = .returned (.bool (zs.contains x)) ∧ W = w' := by
  obtain ⟨a, c, rfl, _, _⟩ := h.form
  by_cases h0 : zs = []
  · subst h0
    exact (Tryz.slices_Contains_int_empty a c x W).mono fun e w' ⟨h1, h2⟩ => ⟨h1, h2.symm⟩
  · obtain ⟨z, hz0⟩ : ∃ z, zs[0]? = some z := ⟨_, List.getElem?_eq_getElem (List.length_pos_iff.2 h0)⟩
    obtain ⟨b, o, rfl, _, _, _⟩ := h.at TN.ok.len hz0 TN.ok.pos
    have := Tryz.slices_Contains_int b o zs.length c zs x W (Nat.le_refl _) (by omega) (fun j hj => by
      obtain ⟨b', o', e, _, _, hc⟩ := h.at TN.ok.len (List.getElem?_eq_getElem hj) TN.ok.pos
      injection e with e
      injection e with e1 e2
      subst e1; subst e2
      have := hc 0 _ rfl
      rw [List.getD_eq_getElem?_getD, List.getElem?_eq_getElem hj]
      simpa [TN] using this)
    rw [List.take_length] at this
    exact this.mono fun e w' ⟨h1, h2⟩ => ⟨h1, h2.symm⟩
theorem refL_ge {rh rr : Int} : ∀ (l : List Stp) (i : Nat) (m : Sm Bd0), ∀ p ∈ refL rh rr i m l, (i : Int) ≤ p.1
  | [], _, _, _, h => by simp [refL] at h
  | s :: l, i, m, p, h => by
    rw [refL] at h
    split at h
    · have := refL_ge l (i + 1) _ p h; omega
    · rcases List.mem_cons.1 h with rfl | h
      · exact Int.le_refl _
      · have := refL_ge l (i + 1) _ p h; omega
structure AcI (rh rr : Int) (l : List Stp) (w1 : World) (k : Nat) (m : Sm Bd0) (acc : List Stp) (v : Value) (wr : World) : Prop where
  pre : ∃ pre, refL rh rr 0 [] l = pre ++ refL rh rr k m (l.drop k) ∧ ∀ p ∈ pre, p.1 < (k : Int)
  acc' : accL rh rr [] l = acc ++ accL rh rr m (l.drop k)
  len : acc.length ≤ k
  own : OwnR TSt wr w1.heap.size v acc
  bel : Below w1.heap.size w1 wr
theorem AcI.has {rh rr : Int} {l : List Stp} {w1 : World} {k : Nat} {m : Sm Bd0} {acc : List Stp} {v : Value} {wr : World} (h : AcI rh rr l w1 k m acc v wr) {s : Stp} (hs : l[k]? = some s) :
    ((refL rh rr 0 [] l).map (·.1)).contains (k : Int) = !decide ((doS rh rr m s).2 = 0) := by
  obtain ⟨pre, h1, h2⟩ := h.pre
  by_cases h0 : (doS rh rr m s).2 = 0
  · have : ¬ (k : Int) ∈ (refL rh rr 0 [] l).map (·.1) := by
      intro hm
      obtain ⟨p, hp, hpk⟩ := List.mem_map.1 hm
      rw [h1, refL_go hs h0] at hp
      rcases List.mem_append.1 hp with hp | hp
      · have := h2 p hp; omega
      · have := refL_ge _ _ _ p hp; omega
    simp only [h0, decide_true, Bool.not_true]
    simpa using this
  · have : (k : Int) ∈ (refL rh rr 0 [] l).map (·.1) := by
      rw [h1, refL_no hs h0]
      simp
    simp only [h0, decide_false, Bool.not_false]
    simpa using this
theorem AcI.skip {rh rr : Int} {l : List Stp} {w1 : World} {k : Nat} {m : Sm Bd0} {acc : List Stp} {v : Value} {wr : World} (h : AcI rh rr l w1 k m acc v wr) {s : Stp} (hs : l[k]? = some s) (h0 : (doS rh rr m s).2 ≠ 0) {w' : World} (hb : Below wr.heap.size wr w') :
    AcI rh rr l w1 (k + 1) (doS rh rr m s).1 acc v w' := by
  obtain ⟨pre, h1, h2⟩ := h.pre
  refine ⟨⟨pre ++ [((k : Int), (doS rh rr m s).2)], by rw [h1, refL_no hs h0]; simp, fun p hp => ?_⟩, by rw [h.acc', accL_no hs h0], Nat.le_succ_of_le h.len, h.own.below hb, Bl.trans h.bel hb⟩
  rcases List.mem_append.1 hp with hp | hp
  · have := h2 p hp; omega
  · simp at hp; subst hp; simp
    omega
theorem AcI.take {rh rr : Int} {l : List Stp} {w1 : World} {k : Nat} {m : Sm Bd0} {acc : List Stp} {v : Value} {wr : World} (h : AcI rh rr l w1 k m acc v wr) {s : Stp} (hs : l[k]? = some s) (h0 : (doS rh rr m s).2 = 0) {v' : Value} {w' : World} (ho : OwnR TSt w' w1.heap.size v' (acc ++ [s])) (hb : Below w1.heap.size wr w') :
    AcI rh rr l w1 (k + 1) (doS rh rr m s).1 (acc ++ [s]) v' w' := by
  obtain ⟨pre, h1, h2⟩ := h.pre
  exact ⟨⟨pre, by rw [h1, refL_go hs h0], fun p hp => by have := h2 p hp; omega⟩, by rw [h.acc', accL_go hs h0]; simp, by have := h.len; simp; omega, ho, h.bel.trans hb⟩
set_option maxHeartbeats 4000000 in
set_option maxRecDepth 100000 in
theorem accepted_any (rh rr : Int) (l : List Stp) (v : Value) (w : World) (rl : RecR TSt w 0 v l) (hl : stepsF l = 0) :
    Calls Tryz.prog 105 #[.agg #[.int .i64 rh, .int .i64 rr], v] w fun e w' => ∃ ov, e = .returned ov ∧ OwnR TSt w' w.heap.size ov (accL rh rr [] l) ∧ Below w.heap.size w w' := by
  have hA := Bl.alloc (Below.refl w.heap.size w) (.cells #[.int .i64 rh, .int .i64 rr] 27)
  have HRS := Lib.hid (RefusedSteps_any rh rr l v _ (rl.below hA) hl)
  obtain ⟨a, cap, rfl, _, _⟩ := rl.form
  have RL := Lib.hid rl
  have HR := Lib.hid (stepsF_right hl)
  clear rl hl
  go_enter Tryz.func105, Tryz.ntmps105
  go_wp2_with fail
  refine HRS.out.mono ?_
  rintro e w1 ⟨ov, wv, rfl, ho, _, hb1⟩
  have hB1 := Bl.trans hA hb1
  have hz1 := hB1.size
  have HI0 : Hid (AcI rh rr l w1 0 [] [] (.slice none 0 0) w1) := Lib.hid ⟨⟨[], by rw [List.drop_zero]; rfl, fun p hp => by cases hp⟩, by rw [List.drop_zero]; rfl, Nat.le_refl _, OwnR.nil _ _, Below.refl _ _⟩
  have HO := Lib.hid ho.rec0
  have HB1 := Lib.hid hB1
  obtain ⟨ya, yn, yc, rfl⟩ : ∃ a n c, ov = .slice a n c := (by obtain ⟨a, c, h, _, _⟩ := ho.form; exact ⟨a, _, c, h⟩)
  obtain ⟨ua, un, uc, rfl⟩ : ∃ a n c, wv = .slice a n c := (by rename_i h; obtain ⟨a, c, h, _, _⟩ := h.form; exact ⟨a, _, c, h⟩)
  clear ho hb1 hB1 hA HRS
  go_wp2_with fail
  go_loopw [7, 18] (fun q i wr => ∃ (k : Nat) (m : Sm Bd0) (acc : List Stp), k ≤ l.length ∧ i = .int .i64 k ∧ Hid (AcI rh rr l w1 k m acc q wr)) (fun _ i _ => l.length - (intOf i).toNat)
  case atStart => exact ⟨0, [], [], Nat.zero_le _, rfl, HI0⟩
  case round =>
    obtain ⟨k, m, acc, hk, rfl, HI⟩ := hrel
    obtain ⟨oa, on, oc, rfl⟩ : ∃ a n c, u7 = .slice a n c := (by obtain ⟨a, c, h, _, _⟩ := HI.out.own.form; exact ⟨a, _, c, h⟩)
    by_cases hlt : k < l.length
    · obtain ⟨s, hs⟩ : ∃ x, l[k]? = some x := ⟨_, List.getElem?_eq_getElem hlt⟩
      obtain ⟨b1, o1, rfl, _, hbb1, hc1⟩ := (RL.out.below (HB1.out.trans (HI.out.bel.mono hz1))).at TSt.ok.len hs TSt.ok.pos
      have HS := Lib.hid hs
      obtain ⟨at1, bs, kd, cs⟩ := s
      have c0 : wr.cell? ⟨b1, o1 + k * 4, none⟩ = some (.int .i64 at1) := hc1 0 _ rfl
      have c1 : wr.cell? ⟨b1, o1 + k * 4 + 1, none⟩ = some (.string bs) := hc1 1 _ rfl
      have c2 : wr.cell? ⟨b1, o1 + k * 4 + 2, none⟩ = some (.int .i64 kd) := hc1 2 _ rfl
      have c3 : wr.cell? ⟨b1, o1 + k * 4 + 3, none⟩ = some (.string cs) := hc1 3 _ rfl
      clear hs hc1
      have hlen : k < 5000 := Nat.lt_of_lt_of_le hlt HR.out.1
      have hw1 : IntKind.i64.wrap ((k : Int) + 1) = ((k + 1 : Nat) : Int) := by rw [IntWalk.i64_in _ (by omega)]; omega
      have hbA := Bl.alloc (Below.refl wr.heap.size wr) (.cells #[.int .i64 at1, .string bs, .int .i64 kd, .string cs] 133)
      have hXA := blk_new wr (.cells #[.int .i64 at1, .string bs, .int .i64 kd, .string cs] 133)
      have HC := Lib.hid (HasN_any ((refL rh rr 0 [] l).map (·.1)) (.slice ya yn yc) 0 (k : Int) (wr.alloc (.cells #[.int .i64 at1, .string bs, .int .i64 kd, .string cs] 133)) (HO.out.below (Below.trans HI.out.bel (hbA.mono HI.out.bel.size))) (by rw [List.length_map]; have := refL_len (rh := rh) (rr := rr) l 0 []; have := HR.out.1; omega))
      have hz2 : w1.heap.size ≤ wr.heap.size := HI.out.bel.size
      by_cases h0 : (doS rh rr m (at1, bs, kd, cs)).2 = 0
      · rw [HI.out.has HS.out] at HC
        simp only [h0, decide_true, Bool.not_true] at HC
        have HN := Lib.hid fun v' w' (ho : OwnR TSt w' w1.heap.size v' (acc ++ [(at1, bs, kd, cs)])) hb => HI.out.take HS.out h0 ho hb
        have hal : acc.length ≤ 1000000 := by have := HI.out.len; omega
        clear h0
        go_wp2_with fail
        refine HC.out.mono ?_
        rintro e w5 ⟨rfl, rfl⟩
        go_wp2_with (at_builtin; refine wp_app_rec TSt.ok rfl _ _ rfl w1.heap.size _ acc rfl ((HI.out.own.alloc _).alloc _) (wr.heap.size + 1) 1 (at1, bs, kd, cs) rfl (blk_new' _ _ (by simp)) rfl hal (by simp; omega) ?_)
        intro v7 w7 hO7 hg7 hb7
        obtain ⟨a7, n7, c7, rfl⟩ : ∃ a n c, v7 = .slice a n c := (by obtain ⟨a, c, h, _, _⟩ := hO7.form; exact ⟨a, _, c, h⟩)
        have HM := Lib.hid (HN.out _ w7 hO7 (Below.trans ((Bl.alloc (Bl.alloc (Below.refl wr.heap.size wr) _) _).mono hz2) hb7))
        clear hO7 hg7 hb7
        go_wp2
        go_roundw
        case rel => exact ⟨k + 1, _, _, by omega, by go_num, HM⟩
        case measure => simp [intOf]; omega
      · rw [HI.out.has HS.out] at HC
        simp only [h0, decide_false, Bool.not_false] at HC
        have HN := Lib.hid (HI.out.skip HS.out h0 hbA)
        clear h0
        go_wp2_with fail
        refine HC.out.mono ?_
        rintro e w5 ⟨rfl, rfl⟩
        go_wp2
        go_roundw
        case rel => exact ⟨k + 1, _, acc, by omega, by go_num, HN⟩
        case measure => simp [intOf]; omega
    · obtain rfl : k = l.length := by omega
      have HF : Hid (OwnR TSt wr w.heap.size (.slice oa on oc) (accL rh rr [] l) ∧ Below w.heap.size w wr) := Lib.hid ⟨by
        have := HI.out.acc'
        rw [List.drop_length] at this
        rw [this]; simp only [accL, List.append_nil]
        exact HI.out.own.base hz1, HB1.out.trans (HI.out.bel.mono hz1)⟩
      go_wp2
      go_ret
      exact ⟨_, rfl, HF.out.1, HF.out.2⟩
theorem truthB_any (b : Bool) (w : World) : Calls Tryz.prog 106 #[.bool b] w fun e w' => e = .returned (.int .i64 (if b = true then 1 else 0)) ∧ w = w' := by
  cases b
  all_goals (
    go_enter Tryz.func106, Tryz.ntmps106
    go_wp2
    go_ret
    exact ⟨rfl, rfl⟩)
/-- what the reference's loop keeps. -/
structure FqI (A : List Stp) (w1 : World) (M : Nat) (k : Nat) (q : FpQ) (wr : World) : Prop where
  rest : fpL ([], 0) A = fpL q (A.drop k)
  l1 : q.1.length ≤ k
  l2 : q.2 ≤ k
  map : MapS TI wr M q.1
  nz : ∀ p ∈ q.1, p.2 ≠ 0
  kp : Kp w1 wr (fun i => i = M)
theorem FqI.go {A : List Stp} {w1 : World} {M k : Nat} {q : FpQ} {wr : World} (h : FqI A w1 M k q wr) {s : Stp} (hs : A[k]? = some s) {w' : World} (hm : MapS TI w' M (fpS q s).1) (hk : Kp wr w' (fun i => i = M)) : FqI A w1 M (k + 1) (fpS q s) w' := by
  obtain ⟨hkk, he⟩ := List.getElem?_eq_some_iff.1 hs
  have h1 := fpS_one q s
  have a1 := h.l1
  have a2 := h.l2
  refine ⟨by rw [h.rest, List.drop_eq_getElem_cons hkk, he]; rfl, by omega, by omega, hm, fun p hp => ?_, h.kp.trans hk⟩
  unfold fpS at hp
  split at hp
  · rename_i hc
    rcases Sm.put_mem.1 hp with rfl | ⟨hp, _⟩
    · show s.kd ≠ 0
      omega
    · exact h.nz p hp
  · exact h.nz p hp
theorem FqI.zero {A : List Stp} {w1 : World} {M k : Nat} {q : FpQ} {wr : World} (h : FqI A w1 M k q wr) (kb : Bs) : ((q.1.get kb).getD 0 == 0) = decide (q.1.get kb = none) := by
  cases hg : q.1.get kb with
  | none => rfl
  | some x =>
    have := h.nz _ (Sm.get_mem hg)
    simpa using this
set_option maxHeartbeats 4000000 in
set_option maxRecDepth 100000 in
theorem FirstPassOf_any (rh rr : Int) (l : List Stp) (v : Value) (w : World) (rl : RecR TSt w 0 v l) (hl : stepsF l = 0) :
    Calls Tryz.prog 18 #[.agg #[.int .i64 rh, .int .i64 rr], v] w fun e w' => e = .returned (.tuple #[frcV (fpL ([], 0) (accL rh rr [] l)).2 (fpL ([], 0) (accL rh rr [] l)).1.length, .bool (decide ((fpL ([], 0) (accL rh rr [] l)).1.length ≠ 0))]) ∧ Below w.heap.size w w' := by
  have hR0 := blk_old (blk_old (blk_new w (.cells #[.int .i64 rh, .int .i64 rr] 27)) (.cells #[.int .i64 0, .int .i64 0] 39)) (.map #[] 0)
  have hX0 := blk_old (blk_new' (w.alloc (.cells #[.int .i64 rh, .int .i64 rr] 27)) (.cells #[.int .i64 0, .int .i64 0] 39) (g := w.heap.size + 1) (by simp)) (.map #[] 0)
  have hM0 : MapS TI _ (w.heap.size + 2) [] := MapS.of_blk (blk_new' ((w.alloc (.cells #[.int .i64 rh, .int .i64 rr] 27)).alloc (.cells #[.int .i64 0, .int .i64 0] 39)) (.map #[] 0) (g := w.heap.size + 2) (by simp))
  have hb0 := Bl.alloc (Bl.alloc (Bl.alloc (Below.refl w.heap.size w) (.cells #[.int .i64 rh, .int .i64 rr] 27)) (.cells #[.int .i64 0, .int .i64 0] 39)) (.map #[] 0)
  have HAC := Lib.hid (accepted_any rh rr l v _ (rl.below hb0) hl)
  have HA5 : Hid ((accL rh rr [] l).length ≤ 5000 ∧ ∀ s ∈ accL rh rr [] l, StR s) := Lib.hid ⟨Nat.le_trans (accL_len l []) (stepsF_right hl).1, fun s hs => (stepsF_right hl).2.1 s (accL_mem l [] s hs)⟩
  obtain ⟨a, cap, rfl, _, _⟩ := rl.form
  clear rl hl
  generalize accL rh rr [] l = A at *
  obtain ⟨s6, hs6⟩ : ∃ q, q = (fpL ([], 0) A).2 := ⟨_, rfl⟩
  obtain ⟨a6, ha6⟩ : ∃ q, q = (fpL ([], 0) A).1.length := ⟨_, rfl⟩
  rw [← hs6, ← ha6]
  have hbb : s6 ≤ 100000 ∧ a6 ≤ 100000 := by
    have h1 := fpL_len A ([], 0)
    have := HA5.out.1
    simp only [List.length_nil] at h1
    omega
  have HSA := Lib.hid (And.intro hs6 ha6)
  obtain ⟨fx, fy, hfv⟩ := frcV_form s6 a6
  have HP := Lib.hid fun U => rPart_any s6 a6 U (by omega) (by omega)
  rw [hfv] at HP ⊢
  obtain ⟨qb, hqb⟩ : ∃ b, b = decide (a6 ≠ 0) := ⟨_, rfl⟩
  rw [← hqb] at HP ⊢
  clear hqb hfv hs6 ha6
  obtain ⟨w0, hw0⟩ : ∃ w0, w0 = ((w.alloc (.cells #[.int .i64 rh, .int .i64 rr] 27)).alloc (.cells #[.int .i64 0, .int .i64 0] 39)).alloc (.map #[] 0) := ⟨_, rfl⟩
  have p0 : (((w.alloc (.cells #[.int .i64 rh, .int .i64 rr] 27)).alloc (.cells #[.int .i64 0, .int .i64 0] 39)).alloc (.map #[] 0)).cell? ⟨w.heap.size, 0, none⟩ = some (.int .i64 rh) := blk_cell hR0 0
  have p1 : (((w.alloc (.cells #[.int .i64 rh, .int .i64 rr] 27)).alloc (.cells #[.int .i64 0, .int .i64 0] 39)).alloc (.map #[] 0)).cell? ⟨w.heap.size, 1, none⟩ = some (.int .i64 rr) := blk_cell hR0 1
  rw [← hw0] at HAC hX0 hM0 hb0
  have HX0 := Lib.hid (And.intro hX0 (And.intro hM0 hb0))
  have hz0 : w.heap.size + 3 ≤ w0.heap.size := by rw [hw0]; simp
  have hmm := @run_makeMap Tryz.prog
  clear hR0 hX0 hM0 hb0
  go_enter Tryz.func18, Tryz.ntmps18
  go_wp2_with fail
  rw [← hw0]
  clear hw0 hmm p0 p1
  refine HAC.out.mono ?_
  rintro e w1 ⟨ov, rfl, ho, hb1⟩
  have hX1 := blk_below HX0.out.1 hb1
  have HI0 : Hid (FqI A w1 (w.heap.size + 2) 0 ([], 0) w1) := Lib.hid ⟨by rw [List.drop_zero], Nat.le_refl _, Nat.le_refl _, HX0.out.2.1.below hb1, fun p hp => by simp at hp, Kp.refl _ _⟩
  have hz1 : w0.heap.size ≤ w1.heap.size := hb1.size
  have HO := Lib.hid ho
  have HX1 := Lib.hid (And.intro hX1 (Bl.trans HX0.out.2.2 hb1))
  obtain ⟨ya, yn, yc, rfl⟩ : ∃ a n c, ov = .slice a n c := (by obtain ⟨a, c, h, _, _⟩ := ho.form; exact ⟨a, _, c, h⟩)
  obtain rfl : yn = A.length := by obtain ⟨a', c', h, _, _⟩ := ho.form; injection h
  clear ho hb1 hX1 HAC HX0
  go_wp2_with fail
  go_loopw [7, 15] (fun g i wr => ∃ (k : Nat) (q : FpQ), k ≤ A.length ∧ i = .int .i64 k ∧ g = .int .i64 q.2 ∧ Hid (FqI A w1 (w.heap.size + 2) k q wr)) (fun _ i _ => A.length - (intOf i).toNat)
  case atStart => exact ⟨0, ([], 0), Nat.zero_le _, rfl, rfl, HI0⟩
  case round =>
    obtain ⟨k, q, hk, rfl, hg, HI⟩ := hrel
    by_cases hlt : k < A.length
    · subst hg
      obtain ⟨s, hs⟩ : ∃ x, A[k]? = some x := ⟨_, List.getElem?_eq_getElem hlt⟩
      have hor : OwnR TSt wr w0.heap.size (.slice ya A.length yc) A := HO.out.keepT HI.out.kp (fun i cur hi e => by
        subst e
        obtain ⟨_, es, clock, hm, _⟩ := HI0.out.map
        rw [hm] at hi
        injection hi with hi
        cases hi)
      obtain ⟨b1, o1, rfl, _, hbb1, hc1⟩ := hor.rec0.at TSt.ok.len hs TSt.ok.pos
      have HS := Lib.hid hs
      have hbd : s.bd.size ≤ 1000 := by have := (HA5.out.2 s (List.mem_of_getElem? hs)).bd; omega
      obtain ⟨at1, bs, kd, cs⟩ := s
      have c0 : wr.cell? ⟨b1, o1 + k * 4, none⟩ = some (.int .i64 at1) := hc1 0 _ rfl
      have c1 : wr.cell? ⟨b1, o1 + k * 4 + 1, none⟩ = some (.string bs) := hc1 1 _ rfl
      have c2 : wr.cell? ⟨b1, o1 + k * 4 + 2, none⟩ = some (.int .i64 kd) := hc1 2 _ rfl
      have c3 : wr.cell? ⟨b1, o1 + k * 4 + 3, none⟩ = some (.string cs) := hc1 3 _ rfl
      clear hs hc1 hor
      have hlen : k < 5000 := Nat.lt_of_lt_of_le hlt HA5.out.1
      have hw1 : IntKind.i64.wrap ((k : Int) + 1) = ((k + 1 : Nat) : Int) := by rw [IntWalk.i64_in _ (by omega)]; omega
      have hbA := Bl.alloc (Below.refl wr.heap.size wr) (.cells #[.int .i64 at1, .string bs, .int .i64 kd, .string cs] 133)
      have hXA := blk_new wr (.cells #[.int .i64 at1, .string bs, .int .i64 kd, .string cs] 133)
      have hbs : bs.size ≤ maxLen := by unfold maxLen; have : bs.size ≤ 1000 := hbd; omega
      have hMA := HI.out.map.below hbA
      have hlk := hMA.look TI.ok bs hbs
      have hz2 := HI.out.kp.size
      have hzr := HI.out.zero bs.data.toList
      have hl1 := HI.out.l1
      have hl2 := HI.out.l2
      have hKA : Kp wr (wr.alloc (.cells #[.int .i64 at1, .string bs, .int .i64 kd, .string cs] 133)) (fun i => i = w.heap.size + 2) := Kp.of_below hbA
      by_cases hc : (kd = 3 ∨ kd = 2) ∧ q.1.get bs.data.toList = none
      · have hlk := hlk.trans (congrArg (fun b => Result.ok (Value.int .i64 b) _) (show (q.1.get bs.data.toList).getD TI.z = 0 by rw [hc.2]; rfl))
        obtain ⟨w3, hrun3, hM3, ht3⟩ := hMA.put TI.ok bs hbs kd (by unfold maxLen; omega)
        have hg3 := ht3.grown
        have hX3 := Gr.blk hg3 hXA (by omega)
        have x1 : w3.cell? ⟨wr.heap.size, 1, none⟩ = some (.string bs) := blk_cell hX3 1
        have x2 : w3.cell? ⟨wr.heap.size, 2, none⟩ = some (.int .i64 kd) := blk_cell hX3 2
        have hK3 : Kp wr w3 (fun i => i = w.heap.size + 2) := hKA.trans (Kp.of_gr hg3 rfl)
        have lz3 : wr.heap.size < w3.heap.size := blk_lt hX3
        have hq1 : (fpS q (at1, bs, kd, cs)).1 = q.1.put bs.data.toList kd := by unfold fpS; rw [if_pos hc]
        have hq2 : (fpS q (at1, bs, kd, cs)).2 = if kd = 3 then q.2 + 1 else q.2 := by unfold fpS; rw [if_pos hc]
        have HN := Lib.hid (HI.out.go HS.out (by rw [hq1]; exact hM3) hK3)
        have HQ := Lib.hid hq2
        have hwq : IntKind.i64.wrap ((q.2 : Int) + 1) = ((q.2 + 1 : Nat) : Int) := by rw [IntWalk.i64_in _ (by omega)]; omega
        have hwq0 : IntKind.i64.wrap (q.2 : Int) = (q.2 : Int) := by rw [IntWalk.i64_in _ (by omega)]
        simp only [TI] at hrun3 hlk
        clear hzr hq1 hq2 hK3 hg3 hX3 hM3 ht3 hKA hMA hbA hXA hbd
        rcases hc.1 with rfl | rfl
        · clear hc
          go_wp2_with fail
          refine (truthB_any _ _).mono ?_
          rintro e w5 ⟨rfl, rfl⟩
          go_wp2
          go_roundw
          case rel => exact ⟨k + 1, _, by omega, by go_num, by rw [HQ.out]; rfl, HN⟩
          case measure => simp [intOf]; omega
        · clear hc
          go_wp2_with fail
          refine (truthB_any _ _).mono ?_
          rintro e w5 ⟨rfl, rfl⟩
          go_wp2
          go_roundw
          case rel => exact ⟨k + 1, _, by omega, by go_num, by rw [HQ.out]; rfl, HN⟩
          case measure => simp [intOf]; omega
      · have hqs : fpS q (at1, bs, kd, cs) = q := by unfold fpS; rw [if_neg hc]
        have HN := Lib.hid (HI.out.go HS.out (by rw [hqs]; exact hMA) hKA)
        rw [hqs] at HN
        by_cases h3 : kd = 3 ∨ kd = 2
        · obtain ⟨x, hx⟩ : ∃ x, q.1.get bs.data.toList = some x := by
            cases hq : q.1.get bs.data.toList with
            | some x => exact ⟨x, rfl⟩
            | none => exact absurd ⟨h3, hq⟩ hc
          have hx0 : (x == 0) = false := by have := HI.out.nz _ (Sm.get_mem hx); simpa using this
          have hx1 : ¬ x = 0 := by simpa using hx0
          have hlk := hlk.trans (congrArg (fun b => Result.ok (Value.int .i64 b) _) (show (q.1.get bs.data.toList).getD TI.z = x by rw [hx]; rfl))
          simp only [TI] at hlk
          clear hzr hc hqs hKA hMA hbA hXA hbd hx
          rcases h3 with rfl | rfl
          all_goals (
            go_wp2
            go_roundw
            case rel => exact ⟨k + 1, q, by omega, by go_num, rfl, HN⟩
            case measure => simp [intOf]; omega)
        · have e3 : (kd == 3) = false := by simp; omega
          have e2 : (kd == 2) = false := by simp; omega
          have n3 : ¬ kd = 3 := by omega
          have n2 : ¬ kd = 2 := by omega
          clear hzr hc hqs hKA hMA hbA hXA hbd h3 hlk
          go_wp2
          go_roundw
          case rel => exact ⟨k + 1, q, by omega, by go_num, rfl, HN⟩
          case measure => simp [intOf]; omega
    · obtain rfl : k = A.length := by omega
      have hq : fpL ([], 0) A = q := by rw [HI.out.rest, List.drop_length]; rfl
      have hl1 := HI.out.l1
      have hl2 := HI.out.l2
      have hl5 := HA5.out.1
      have hlen := fun ty => HI.out.map.len TI.ok ty
      rw [show q.1.length = a6 by rw [HSA.out.2, hq]] at hlen
      obtain rfl : u7 = .int .i64 s6 := by rw [hg, HSA.out.1, hq]
      simp only [TI] at hlen
      have hXr : wr.heap[w.heap.size + 1]? = some (.cells #[.int .i64 0, .int .i64 0] 39 (0, 0)) := HI.out.kp.blk HX1.out.1 (by omega)
      have hBr : Below w.heap.size w wr := HX1.out.2.trans (HI.out.kp.below (fun i _ hi => by omega) (by omega))
      clear hq hg
      go_wp2_with fail
      refine (HP.out wr).mono ?_
      rintro e w5 ⟨rfl, hb5⟩
      have hX5 := blk_below hXr hb5
      have hB5 := Bl.trans hBr hb5
      have lX := blk_lt hX5
      have k0 : w5.cell? ⟨w.heap.size + 1, 0, none⟩ = some (.int .i64 0) := blk_cell hX5 0
      have k1 : w5.cell? ⟨w.heap.size + 1, 1, none⟩ = some (.int .i64 0) := blk_cell hX5 1
      have g0 := blk_free hX5 0
      have g1 := blk_free hX5 1
      have hZ := blk_set (blk_set hX5 0 (.int .i64 fx)) 1 (.int .i64 fy)
      have hbZ := Bl.set (Bl.set hB5 (w.heap.size + 1) 0 (by omega) (.int .i64 fx)) (w.heap.size + 1) 1 (by omega) (.int .i64 fy)
      have HZZ := Lib.hid (And.intro hZ hbZ)
      clear hZ hbZ hXr hX5 hB5 hb5 hBr HP
      go_wp2
      obtain ⟨hZ, hbZ⟩ := HZZ.out
      generalize (w5.setCell ⟨w.heap.size + 1, 0, none⟩ (.int .i64 fx)).setCell ⟨w.heap.size + 1, 1, none⟩ (.int .i64 fy) = w6 at *
      have r0 : w6.cell? ⟨w.heap.size + 1, 0, none⟩ = some (.int .i64 fx) := blk_cell hZ 0
      have r1 : w6.cell? ⟨w.heap.size + 1, 1, none⟩ = some (.int .i64 fy) := blk_cell hZ 1
      refine bodyPost_ret (v := .tuple #[.agg #[.int .i64 fx, .int .i64 fy], .bool qb]) (by simp [results, Tryz.results18, go_sem, r0, r1]) rfl ?_
      exact ⟨rfl, hbZ⟩
end Go.Proofs.YtbkglhakhahfpaaGreatDoor
