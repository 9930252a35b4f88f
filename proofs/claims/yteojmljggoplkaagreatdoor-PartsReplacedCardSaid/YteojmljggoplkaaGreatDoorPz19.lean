/- Texts of the proof of a law, put together, part 19 of 46. Conditions: none beyond those that each theorem names. -/
import Derived.Test.YteojmljggoplkaaGreatDoorPz11
import Derived.Test.YteojmljggoplkaaGreatDoorPz18
namespace Go.Proofs.YteojmljggoplkaaGreatDoor
open Go.RowKit Go.Sort
theorem dirB_iff {kp kq : ByteArray} {x : Alt} : dirB kp kq x = true ↔ (bsOf kq, bsOf kp) ∈ waysA x := by
  unfold dirB
  rw [decide_eq_true_eq, ← waysT_eq, waysR_eq, List.mem_map]
  constructor
  · rintro ⟨y, hy, e⟩
    unfold turnW at e
    injection e with e1 e2
    rw [← e1, ← e2]
    exact hy
  · intro h
    exact ⟨_, h, rfl⟩
theorem baD_bsOf (b : ByteArray) : baOf (bsOf b) = b := by unfold baOf bsOf; simp
def dirP (ps : List Prt) (l : List Alt) (kq : ByteArray) : List ByteArray := (ps.filter fun x => l.any (dirB x.1 kq)).map (·.1)
theorem dirP_eq (ps : List Prt) (l : List Alt) (kq : ByteArray) : dirP ps l kq = (directR ps l (bsOf kq)).map baOf := by
  unfold dirP directR keysP
  rw [List.filter_map, List.map_map]
  have h1 : (baOf ∘ fun x : Prt => bsOf x.1) = fun x : Prt => x.1 := by funext x; exact baD_bsOf x.1
  rw [h1]
  congr 1
  apply List.filter_congr
  intro x _
  rw [Bool.eq_iff_iff, List.any_eq_true]
  simp only [Function.comp, decide_eq_true_eq, waysL, List.mem_flatMap, dirB_iff]
theorem dirP_take {ps : List Prt} {l : List Alt} {kq : ByteArray} {k : Nat} {x : Prt} (h : ps[k]? = some x) : dirP (ps.take (k + 1)) l kq = dirP (ps.take k) l kq ++ (if l.any (dirB x.1 kq) = true then [x.1] else []) := by
  unfold dirP
  rw [List.take_add_one, h, List.filter_append, List.map_append]
  congr 1
  by_cases e : l.any (dirB x.1 kq) = true
  · simp [e]
  · rw [if_neg e]
    simp [Bool.not_eq_true _ ▸ e]
theorem dirP_len (ps : List Prt) (l : List Alt) (kq : ByteArray) : (dirP ps l kq).length ≤ ps.length := by
  unfold dirP
  rw [List.length_map]
  exact List.length_filter_le _ _
set_option maxHeartbeats 4000000 in
set_option maxRecDepth 100000 in
theorem DirectOf_any (ps : List Prt) (l : List Alt) (vp va : Value) (kq : ByteArray) (w : World) (hl : ps.length ≤ 100000) (h0 : catsF ps l = 0) (hc : CatR w vp va ps l) :
    Calls Tryz.prog 20 #[.agg #[vp, va], .string kq] w fun e w' => (∃ v, e = .returned v ∧ OwnR TS w' w.heap.size v ((nextL l (bsOf kq)).map baOf)) ∧ Below w.heap.size w w' := by
  rw [← directR_eq h0, ← dirP_eq]
  have HRP := Lib.hid fun W (hW : Below w.heap.size w W) => hc.p.below hW
  have HRA := Lib.hid fun W (hW : Below w.heap.size w W) => hc.a.below hW
  obtain ⟨pa, pc, rfl, _, _⟩ := hc.p.form
  obtain ⟨aa, ac, rfl, _, _⟩ := hc.a.form
  obtain ⟨w1, hw1⟩ : ∃ w1, w1 = (w.alloc (.cells #[.slice pa ps.length pc, .slice aa l.length ac] 29)).alloc (.cells #[.string kq] 9) := ⟨_, rfl⟩
  have hA1 : Below w.heap.size w w1 := by rw [hw1]; exact Bl.alloc (Bl.alloc (Below.refl _ _) _) _
  have hx0 : w1.heap[w.heap.size]? = some (.cells #[.slice pa ps.length pc, .slice aa l.length ac] 29 (0, 0)) := by rw [hw1]; exact blk_old (blk_new w _) _
  have hx1 : w1.heap[w.heap.size + 1]? = some (.cells #[.string kq] 9 (0, 0)) := by
    rw [hw1]
    have h1 := blk_new (w.alloc (.cells #[.slice pa ps.length pc, .slice aa l.length ac] 29)) (.cells #[.string kq] 9)
    rwa [show (w.alloc (.cells #[.slice pa ps.length pc, .slice aa l.length ac] 29)).heap.size = w.heap.size + 1 by simp] at h1
  have HXC := Lib.hid (show ∀ W, Below w1.heap.size w1 W → W.cell? ⟨w.heap.size, 0, none⟩ = some (.slice pa ps.length pc) ∧ W.cell? ⟨w.heap.size, 1, none⟩ = some (.slice aa l.length ac) ∧ W.cell? ⟨w.heap.size + 1, 0, none⟩ = some (.string kq) ∧ w.heap.size + 1 < W.heap.size from fun W hW => ⟨blk_cell (blk_below hx0 hW) 0, blk_cell (blk_below hx0 hW) 1, blk_cell (blk_below hx1 hW) 0, blk_lt (blk_below hx1 hW)⟩)
  have HW1 := Lib.hid hw1
  have HB1 := Lib.hid hA1
  clear hw1 hA1 hc h0 hx0 hx1
  go_enter Tryz.func20, Tryz.ntmps20
  go_wp2
  rw [← HW1.out]
  go_loopw [5, 11] (fun v i wr => ∃ (k : Nat) (out : List ByteArray), k ≤ ps.length ∧ i = .int .i64 k ∧ Hid (OwnR TS wr w1.heap.size v out) ∧ Hid (out = dirP (ps.take k) l kq) ∧ Hid (Below w1.heap.size w1 wr)) (fun _ i _ => ps.length - (intOf i).toNat)
  case atStart => exact ⟨0, [], Nat.zero_le _, rfl, Lib.hid (OwnR.nil _ _), Lib.hid rfl, Lib.hid (Below.refl _ _)⟩
  case round =>
    obtain ⟨k, out, hk, rfl, HO, HE, HB⟩ := hrel
    by_cases hlt : k < ps.length
    · obtain ⟨x, hx⟩ : ∃ x, ps[k]? = some x := ⟨_, List.getElem?_eq_getElem hlt⟩
      have HT := Lib.hid (dirP_take (l := l) (kq := kq) hx)
      obtain ⟨b1, o1, rfl, _, _, z⟩ := (HRP.out wr (Bl.trans HB1.out HB.out)).at TPt.ok.len hx TPt.ok.pos
      obtain ⟨a, xp, xl, xv⟩ := x
      have c0 : wr.cell? ⟨b1, o1 + k * 4, none⟩ = some (.string a) := z 0 _ rfl
      have c1 : wr.cell? ⟨b1, o1 + k * 4 + 1, none⟩ = some (.string xp) := z 1 _ rfl
      have c2 : wr.cell? ⟨b1, o1 + k * 4 + 2, none⟩ = some (.int .i64 xl) := z 2 _ rfl
      have c3 : wr.cell? ⟨b1, o1 + k * 4 + 3, none⟩ = some (.int .i64 xv) := z 3 _ rfl
      obtain ⟨q0, q1, q2, lC⟩ := HXC.out wr HB.out
      have lC0 : w.heap.size < wr.heap.size := by omega
      have hadd : IntKind.i64.wrap ((k : Int) + 1) = ((k + 1 : Nat) : Int) := by rw [IntWalk.i64_in _ (by omega)]; omega
      obtain ⟨P, hP⟩ : ∃ P, P = wr.heap.size := ⟨_, rfl⟩
      obtain ⟨wx, hwx⟩ : ∃ wx, wx = wr.alloc (.cells #[.string a, .string xp, .int .i64 xl, .int .i64 xv] 73) := ⟨_, rfl⟩
      have hbx : Below wr.heap.size wr wx := by rw [hwx]; exact Bl.alloc (Below.refl _ _) _
      have hBX : wx.heap[P]? = some (.cells #[.string a, .string xp, .int .i64 xl, .int .i64 xv] 73 (0, 0)) := by rw [hwx, hP]; exact blk_new wr _
      have HXP : Hid (∀ W, Below wx.heap.size wx W → W.cell? ⟨P, 0, none⟩ = some (.string a) ∧ P < W.heap.size) := Lib.hid fun W hW => ⟨blk_cell (blk_below hBX hW) 0, blk_lt (blk_below hBX hW)⟩
      have HBX := Lib.hid (Bl.trans HB.out hbx)
      have HOX := Lib.hid (HO.out.below hbx)
      have HRX := Lib.hid (And.intro hP hwx)
      obtain ⟨c, hcc⟩ : ∃ c, c = l.any (dirB a kq) := ⟨_, rfl⟩
      have HC0 := ContDir_any l a kq P (w.heap.size + 1) _ wx (fun W hW => ⟨(HXP.out W hW).1, (HXC.out W (Bl.trans HBX.out hW)).2.2.1⟩) (HRA.out wx (Bl.trans HB1.out HBX.out))
      rw [← hcc] at HC0
      have HC := Lib.hid HC0
      have HTT : Hid (dirP (ps.take (k + 1)) l kq = dirP (ps.take k) l kq ++ (if c = true then [a] else [])) := Lib.hid (by rw [HT.out, hcc])
      clear hx z hbx hBX hP hwx HC0 hcc
      go_wp2_with fail
      rw [← HRX.out.2, ← HRX.out.1]
      refine HC.out.mono ?_
      rintro e w3 ⟨rfl, hb3⟩
      have HB3 := Lib.hid (Bl.trans HBX.out hb3)
      have HO3 := Lib.hid (HOX.out.below hb3)
      obtain ⟨p0, lP⟩ := HXP.out w3 hb3
      clear c0 c1 c2 c3 q0 q1 q2 lC hb3 HC
      cases c
      · have HEN : Hid (out = dirP (ps.take (k + 1)) l kq) := Lib.hid (by rw [HTT.out, if_neg (by simp), List.append_nil]; exact HE.out)
        go_wp2
        go_roundw
        case rel => exact ⟨k + 1, out, by omega, by go_num, HO3, HEN, HB3⟩
        case measure => simp [intOf]; omega
      · have HEN : Hid (out ++ [a] = dirP (ps.take (k + 1)) l kq) := Lib.hid (by rw [HTT.out, if_pos rfl, HE.out])
        have hz3 : w1.heap.size ≤ w3.heap.size := HB3.out.size
        have HLO : Hid (out.length ≤ 100000) := Lib.hid (by
          rw [HE.out]
          have := dirP_len (ps.take k) l kq
          rw [List.length_take] at this
          omega)
        go_wp2_with (at_builtin; refine wp_app_r TS.ok rfl _ _ rfl w1.heap.size _ out rfl (HO3.out.alloc _) w3.heap.size 1 a rfl (blk_new w3 _) rfl (by have := HLO.out; omega) (by simp; omega) ?_)
        intro v5 w5 hO5 hg5 _
        have HO5 := Lib.hid hO5
        have HB5 : Hid (Below w1.heap.size w1 w5) := Lib.hid (Below.trans (Bl.alloc HB3.out _) (app_belowR (HO3.out.alloc _) hg5 (by simp; omega)))
        clear hO5 hg5 p0
        go_wp2
        go_roundw
        case rel => exact ⟨k + 1, _, by omega, by go_num, HO5, HEN, HB5⟩
        case measure => simp [intOf]; omega
    · obtain rfl : k = ps.length := by omega
      have HON := Lib.hid (show OwnR TS wr w.heap.size _ (dirP ps l kq) from by have := HO.out.base HB1.out.size; rw [HE.out, List.take_length] at this; exact this)
      have HBN := Lib.hid (Bl.trans HB1.out HB.out)
      go_wp2
      go_ret
      exact ⟨⟨_, rfl, HON.out⟩, HBN.out⟩
end Go.Proofs.YteojmljggoplkaaGreatDoor
