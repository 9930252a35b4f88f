/- Texts of the proof of a law, put together, part 22 of 41. Conditions: none beyond those that each theorem names. -/
import Derived.Test.YtihgnpobkpnipaaGreatDoorQz21
import Derived.Deep.QuietTactic
namespace Go.Proofs.YtihgnpobkpnipaaGreatDoor
open Go.RowKit Go.Sort Go.Maps
theorem hasP_take {ps : List Prt} {k : Nat} {x : Prt} {key : ByteArray} (hx : ps[k]? = some x) : hasP (ps.take (k + 1)) key = (hasP (ps.take k) key || x.1.toList == key.toList) := by
  unfold hasP
  rw [List.take_add_one, hx, List.any_append]
  simp
set_option maxHeartbeats 2000000 in
set_option maxRecDepth 100000 in
theorem partOf_any (ps : List Prt) (l : List Alt) (vp va : Value) (key : ByteArray) (w : World) (_hl : ps.length ≤ 1000000) (hc : CatR w vp va ps l) :
    Calls Tryz.prog 83 #[.agg #[vp, va], .string key] w fun e w' => (∃ (k pk : ByteArray) (lv bk : Int), e = .returned (.tuple #[.agg #[.string k, .string pk, .int .i64 lv, .int .i64 bk], .bool (hasP ps key)]) ∧ (hasP ps key = true → k.toList = key.toList ∧ (k, pk, lv, bk) ∈ ps)) ∧ Below w.heap.size w w' := by
  have HR := Lib.hid fun W (hW : Below w.heap.size w W) => hc.p.below hW
  obtain ⟨pa, pc, rfl, _, _⟩ := hc.p.form
  obtain ⟨aa, ac, rfl, _, _⟩ := hc.a.form
  obtain ⟨w1, hw1⟩ : ∃ w1, w1 = (w.alloc (.cells #[.slice pa ps.length pc, .slice aa l.length ac] 29)).alloc (.cells #[.string ⟨#[]⟩, .string ⟨#[]⟩, .int .i64 0, .int .i64 0] 66) := ⟨_, rfl⟩
  have hA1 : Below w.heap.size w w1 := by rw [hw1]; exact Bl.alloc (Bl.alloc (Below.refl _ _) _) _
  have hR1 : w1.heap[w.heap.size + 1]? = some (.cells #[.string ⟨#[]⟩, .string ⟨#[]⟩, .int .i64 0, .int .i64 0] 66 (0, 0)) := by rw [hw1]; exact blk_new' _ _ (by simp)
  have hz1 : w1.heap.size = w.heap.size + 2 := by rw [hw1]; simp
  have HW1 := Lib.hid hw1
  have HA1 := Lib.hid hA1
  have HR1 := Lib.hid hR1
  have HZ1 := Lib.hid hz1
  clear hw1 hA1 hR1 hz1 hc
  go_enter Tryz.func83, Tryz.ntmps83
  go_wp2_with fail
  rw [← HW1.out]
  go_loopw [11] (fun i wr => ∃ k : Nat, k ≤ ps.length ∧ i = .int .i64 k ∧ Hid (hasP (ps.take k) key = false) ∧ Hid (Below w1.heap.size w1 wr)) (fun i _ => ps.length - (intOf i).toNat)
  case atStart => exact ⟨0, Nat.zero_le _, rfl, Lib.hid rfl, Lib.hid (Below.refl _ _)⟩
  case round =>
    obtain ⟨k, hk, rfl, hf, HB⟩ := hrel
    have hRr := blk_below HR1.out HB.out
    have hzz := HZ1.out
    have hzb := HB.out.size
    by_cases hlt : k < ps.length
    · obtain ⟨x, hx⟩ : ∃ x, ps[k]? = some x := ⟨_, List.getElem?_eq_getElem hlt⟩
      obtain ⟨b1, o1, rfl, _, hb1, hc1⟩ := (HR.out wr (Bl.trans HA1.out HB.out)).at TPt.ok.len hx TPt.ok.pos
      have HS := Lib.hid (hasP_take (key := key) hx)
      have HM := Lib.hid (List.mem_of_getElem? hx)
      obtain ⟨ky, pk, lv, bk⟩ := x
      have m0 : wr.cell? ⟨b1, o1 + k * 4, none⟩ = some (.string ky) := hc1 0 _ rfl
      have m1 : wr.cell? ⟨b1, o1 + k * 4 + 1, none⟩ = some (.string pk) := hc1 1 _ rfl
      have m2 : wr.cell? ⟨b1, o1 + k * 4 + 2, none⟩ = some (.int .i64 lv) := hc1 2 _ rfl
      have m3 : wr.cell? ⟨b1, o1 + k * 4 + 3, none⟩ = some (.int .i64 bk) := hc1 3 _ rfl
      have hwk : IntKind.i64.wrap ((k : Int) + 1) = ((k + 1 : Nat) : Int) := by rw [IntWalk.i64_in _ (by omega)]; omega
      have HBX := Lib.hid (Bl.alloc HB.out (.cells #[.string ky, .string pk, .int .i64 lv, .int .i64 bk] 66))
      clear hx hc1 hzb hzz
      by_cases he : ky.toList = key.toList
      · have e1 : (ky.toList == key.toList) = true := by simpa using he
        have HV : Hid (hasP ps key = true) := Lib.hid (List.any_eq_true.2 ⟨_, HM.out, e1⟩)
        have r0 : wr.cell? ⟨w.heap.size + 1, 0, none⟩ = some (.string ⟨#[]⟩) := blk_cell hRr 0
        have r1 : wr.cell? ⟨w.heap.size + 1, 1, none⟩ = some (.string ⟨#[]⟩) := blk_cell hRr 1
        have r2 : wr.cell? ⟨w.heap.size + 1, 2, none⟩ = some (.int .i64 0) := blk_cell hRr 2
        have r3 : wr.cell? ⟨w.heap.size + 1, 3, none⟩ = some (.int .i64 0) := blk_cell hRr 3
        have f0 := blk_free hRr 0
        have f1 := blk_free hRr 1
        have f2 := blk_free hRr 2
        have f3 := blk_free hRr 3
        have lR := blk_lt hRr
        have hR5 := blk_old (blk_set (blk_set (blk_set (blk_set hRr 0 (.string ky)) 1 (.string pk)) 2 (.int .i64 lv)) 3 (.int .i64 bk)) (.cells #[.string ky, .string pk, .int .i64 lv, .int .i64 bk] 66)
        have hb5 := Bl.alloc (Bl.set (Bl.set (Bl.set (Bl.set (Bl.trans HA1.out HB.out) (w.heap.size + 1) 0 (by omega) (.string ky)) (w.heap.size + 1) 1 (by omega) (.string pk)) (w.heap.size + 1) 2 (by omega) (.int .i64 lv)) (w.heap.size + 1) 3 (by omega) (.int .i64 bk)) (.cells #[.string ky, .string pk, .int .i64 lv, .int .i64 bk] 66)
        have HE := Lib.hid he
        go_wp2
        generalize ((((wr.setCell ⟨w.heap.size + 1, 0, none⟩ (.string ky)).setCell ⟨w.heap.size + 1, 1, none⟩ (.string pk)).setCell ⟨w.heap.size + 1, 2, none⟩ (.int .i64 lv)).setCell ⟨w.heap.size + 1, 3, none⟩ (.int .i64 bk)).alloc (.cells #[.string ky, .string pk, .int .i64 lv, .int .i64 bk] 66) = w5 at *
        have q0 : w5.cell? ⟨w.heap.size + 1, 0, none⟩ = some (.string ky) := blk_cell hR5 0
        have q1 : w5.cell? ⟨w.heap.size + 1, 1, none⟩ = some (.string pk) := blk_cell hR5 1
        have q2 : w5.cell? ⟨w.heap.size + 1, 2, none⟩ = some (.int .i64 lv) := blk_cell hR5 2
        have q3 : w5.cell? ⟨w.heap.size + 1, 3, none⟩ = some (.int .i64 bk) := blk_cell hR5 3
        refine bodyPost_ret (v := .tuple #[.agg #[.string ky, .string pk, .int .i64 lv, .int .i64 bk], .bool true]) (by simp [results, Tryz.results83, go_sem, q0, q1, q2, q3]) rfl ?_
        exact ⟨⟨ky, pk, lv, bk, by rw [HV.out], fun _ => ⟨HE.out, HM.out⟩⟩, hb5⟩
      · have e1 : (ky.toList == key.toList) = false := by simpa using he
        have HN : Hid (hasP (ps.take (k + 1)) key = false) := Lib.hid (by rw [HS.out, hf.out, e1]; rfl)
        clear hRr
        go_wp2
        go_roundw
        case rel => exact ⟨k + 1, by omega, by go_num, HN, HBX⟩
        case measure => simp [intOf]; omega
    · obtain rfl : k = ps.length := by omega
      have HV : Hid (hasP ps key = false) := Lib.hid (by have := hf.out; rwa [List.take_length] at this)
      have r0 : wr.cell? ⟨w.heap.size + 1, 0, none⟩ = some (.string ⟨#[]⟩) := blk_cell hRr 0
      have r1 : wr.cell? ⟨w.heap.size + 1, 1, none⟩ = some (.string ⟨#[]⟩) := blk_cell hRr 1
      have r2 : wr.cell? ⟨w.heap.size + 1, 2, none⟩ = some (.int .i64 0) := blk_cell hRr 2
      have r3 : wr.cell? ⟨w.heap.size + 1, 3, none⟩ = some (.int .i64 0) := blk_cell hRr 3
      have f0 := blk_free hRr 0
      have f1 := blk_free hRr 1
      have f2 := blk_free hRr 2
      have f3 := blk_free hRr 3
      have hR5 := blk_set (blk_set (blk_set (blk_set hRr 0 (.string ⟨#[]⟩)) 1 (.string ⟨#[]⟩)) 2 (.int .i64 0)) 3 (.int .i64 0)
      have hb5 := Bl.set (Bl.set (Bl.set (Bl.set (Bl.trans HA1.out HB.out) (w.heap.size + 1) 0 (by omega) (.string ⟨#[]⟩)) (w.heap.size + 1) 1 (by omega) (.string ⟨#[]⟩)) (w.heap.size + 1) 2 (by omega) (.int .i64 0)) (w.heap.size + 1) 3 (by omega) (.int .i64 0)
      go_wp2
      generalize (((wr.setCell ⟨w.heap.size + 1, 0, none⟩ (.string ⟨#[]⟩)).setCell ⟨w.heap.size + 1, 1, none⟩ (.string ⟨#[]⟩)).setCell ⟨w.heap.size + 1, 2, none⟩ (.int .i64 0)).setCell ⟨w.heap.size + 1, 3, none⟩ (.int .i64 0) = w5 at *
      have q0 : w5.cell? ⟨w.heap.size + 1, 0, none⟩ = some (.string ⟨#[]⟩) := blk_cell hR5 0
      have q1 : w5.cell? ⟨w.heap.size + 1, 1, none⟩ = some (.string ⟨#[]⟩) := blk_cell hR5 1
      have q2 : w5.cell? ⟨w.heap.size + 1, 2, none⟩ = some (.int .i64 0) := blk_cell hR5 2
      have q3 : w5.cell? ⟨w.heap.size + 1, 3, none⟩ = some (.int .i64 0) := blk_cell hR5 3
      refine bodyPost_ret (v := .tuple #[.agg #[.string ⟨#[]⟩, .string ⟨#[]⟩, .int .i64 0, .int .i64 0], .bool false]) (by simp [results, Tryz.results83, go_sem, q0, q1, q2, q3]) rfl ?_
      exact ⟨⟨_, _, _, _, by rw [HV.out], fun h => by rw [HV.out] at h; cases h⟩, hb5⟩
set_option maxHeartbeats 1000000 in
theorem HasPart_any (ps : List Prt) (l : List Alt) (vp va : Value) (key : ByteArray) (w : World) (hl : ps.length ≤ 1000000) (hc : CatR w vp va ps l) :
    Calls Tryz.prog 42 #[.agg #[vp, va], .string key] w fun e w' => e = .returned (.bool (hasP ps key)) ∧ Below w.heap.size w w' := by
  have HP := Lib.hid fun W (hW : Below w.heap.size w W) => partOf_any ps l vp va key W hl (hc.low hW)
  obtain ⟨pa, pc, rfl, _, _⟩ := hc.p.form
  obtain ⟨aa, ac, rfl, _, _⟩ := hc.a.form
  have HB := Lib.hid (Bl.alloc (Below.refl w.heap.size w) (.cells #[.slice pa ps.length pc, .slice aa l.length ac] 29))
  clear hc
  go_enter Tryz.func42, Tryz.ntmps42
  go_wp2_with fail
  refine (HP.out _ HB.out).mono ?_
  rintro e w2 ⟨⟨k, pk, lv, bk, rfl, _⟩, hb2⟩
  have HB2 := Lib.hid (Bl.alloc (Bl.trans HB.out hb2) (.cells #[.string k, .string pk, .int .i64 lv, .int .i64 bk] 66))
  clear hb2
  go_wp2
  go_ret
  exact ⟨rfl, HB2.out⟩
def TDr : Rty Wy := { e := 82, S := 80, k := 2, b := 32, z := .agg #[.string ByteArray.empty, .string ByteArray.empty], f := fun x => [.string x.1, .string x.2] }
theorem TDr.ok : TDr.Ok := ⟨by kernel_rfl, Tryz.underlying80, rfl, by decide, fun _ => rfl, fun x u hu => by simp [TDr] at hu; rcases hu with rfl | rfl <;> rfl, by decide⟩
/-- what replaces is told ahead. -/
def waysT (x : Alt) : List Wy := (x.2.1, x.1) :: if x.2.2 = true then [(x.1, x.2.1)] else []
theorem waysT_eq (x : Alt) : waysR x = (waysT x).map bsW := by
  unfold waysR waysT
  cases x.2.2 <;> rfl
set_option maxHeartbeats 2000000 in
theorem directions_any (x : Alt) (w : World) :
    Calls Tryz.prog 44 #[.agg #[.string x.1, .string x.2.1, .bool x.2.2]] w fun e w' => (∃ v, e = .returned v ∧ OwnR TDr w' w.heap.size v (waysT x)) ∧ Below w.heap.size w w' := by
  obtain ⟨f, y, bo⟩ := x
  have HB := Lib.hid (Bl.alloc (Bl.alloc (Below.refl w.heap.size w) (.cells #[.string f, .string y, .bool bo] 72)) (.cells #[.string y, .string f] 82))
  have HO := Lib.hid (own_one TDr.ok (x := (y, f)) (B := w.heap.size) (g := w.heap.size + 1) (by omega) (blk_new' (w.alloc (.cells #[.string f, .string y, .bool bo] 72)) (.cells #[.string y, .string f] 82) (by simp)) rfl)
  cases bo
  · go_enter Tryz.func44, Tryz.ntmps44
    go_wp2
    go_ret
    exact ⟨⟨_, rfl, HO.out⟩, HB.out⟩
  · go_enter Tryz.func44, Tryz.ntmps44
    go_wp2_with (at_builtin; refine wp_app_rec TDr.ok rfl _ _ rfl w.heap.size _ [(y, f)] rfl (HO.out.alloc _) (w.heap.size + 1 + 1) 1 (f, y) rfl (blk_new' _ _ (by simp)) rfl (by simp) (by simp; omega) ?_)
    intro v' w' h1 h2 h3
    have HF := Lib.hid (And.intro h1 (Below.trans (Bl.alloc HB.out (.cells #[.string f, .string y] 82)) h3))
    clear h1 h2 h3
    go_wp2
    go_ret
    exact ⟨⟨_, rfl, HF.out.1⟩, HF.out.2⟩
set_option maxHeartbeats 4000000 in
set_option maxRecDepth 100000 in
theorem byAlternate_any (y x : Alt) (w : World) :
    Calls Tryz.prog 43 #[.agg #[.string y.1, .string y.2.1, .bool y.2.2], .agg #[.string x.1, .string x.2.1, .bool x.2.2]] w fun e w' => e = .returned (.int .i64 (altC y x)) ∧ Below w.heap.size w w' := by
  obtain ⟨C, hC⟩ : ∃ C, C = altC y x := ⟨_, rfl⟩
  rw [← hC]
  rw [altC_or] at hC
  obtain ⟨yf, yb, ybo⟩ := y
  obtain ⟨f, b, bo⟩ := x
  simp only at hC
  obtain ⟨w2, hw2⟩ : ∃ w2, w2 = (w.alloc (.cells #[.string yf, .string yb, .bool ybo] 72)).alloc (.cells #[.string f, .string b, .bool bo] 72) := ⟨_, rfl⟩
  have hA2 : Below w.heap.size w w2 := by rw [hw2]; exact Bl.alloc (Bl.alloc (Below.refl _ _) _) _
  have h3 : w2.heap[w.heap.size]? = some (.cells #[.string yf, .string yb, .bool ybo] 72 (0, 0)) := by rw [hw2]; exact blk_old (blk_new w _) _
  have h4 : w2.heap[w.heap.size + 1]? = some (.cells #[.string f, .string b, .bool bo] 72 (0, 0)) := by rw [hw2]; exact blk_new' _ _ (by simp)
  have HOR0 := OrInt_any [Lib.compareBytes yf.data.toList f.data.toList, Lib.compareBytes yb.data.toList b.data.toList] (.slice (some ⟨w2.heap.size, 0, none⟩) 2 2) (w2.alloc (.cells #[.int .i64 (Lib.compareBytes yf.data.toList f.data.toList), .int .i64 (Lib.compareBytes yb.data.toList b.data.toList)] 3)).drew (by simp)
        (Ints.of_blk (show (w2.alloc (.cells #[.int .i64 (Lib.compareBytes yf.data.toList f.data.toList), .int .i64 (Lib.compareBytes yb.data.toList b.data.toList)] 3)).drew.heap[w2.heap.size]? = _ from blk_new w2 _) rfl rfl (Nat.le_refl _) (by simp) (Nat.zero_le _))
  rw [← hC] at HOR0
  have HOR := Lib.hid HOR0
  have n0 : w2.cell? ⟨w.heap.size, 0, none⟩ = some (.string yf) := blk_cell h3 0
  have n1 : w2.cell? ⟨w.heap.size, 1, none⟩ = some (.string yb) := blk_cell h3 1
  have g3 : w2.cell? ⟨w.heap.size + 1, 0, none⟩ = some (.string f) := blk_cell h4 0
  have g4 : w2.cell? ⟨w.heap.size + 1, 1, none⟩ = some (.string b) := blk_cell h4 1
  have l4 := blk_lt h4
  have HW2 := Lib.hid hw2
  have HB2 := Lib.hid hA2
  clear hw2 hA2 h3 h4 HOR0 hC
  go_enter Tryz.func43, Tryz.ntmps43
  go_wp2
  rw [← HW2.out]
  go_region_held2 (fun W : World => W.cell? ⟨w.heap.size, 0, none⟩ = some (.string yf) ∧ W.cell? ⟨w.heap.size, 1, none⟩ = some (.string yb) ∧ W.cell? ⟨w.heap.size + 1, 0, none⟩ = some (.string f) ∧ W.cell? ⟨w.heap.size + 1, 1, none⟩ = some (.string b))
    (go_keep)
    (first
      | (go_at_call 85; refine (Tryz.strings_Compare _ _ _).mono ?_; rintro e w' ⟨rfl, rfl⟩)
      | (go_at_call 84; refine HOR.out.mono ?_; rintro e w' ⟨rfl, rfl⟩))
  all_goals (
    go_wp2
    go_ret
    exact ⟨rfl, Below.drew (Bl.alloc HB2.out _)⟩)
end Go.Proofs.YtihgnpobkpnipaaGreatDoor
