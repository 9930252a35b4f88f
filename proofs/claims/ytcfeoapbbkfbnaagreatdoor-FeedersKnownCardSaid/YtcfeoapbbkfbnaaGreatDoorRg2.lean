/- slices.Equal of Loadeds. Conditions: at most 10^6 of them. · The stream's clock, slices.Equal of strings. Conditions: the stream's count below 9*10^5; at most 10^5 strings. · reeled: the law's guard. No conditions. -/
import Derived.Test.YtcfeoapbbkfbnaaGreatDoorReI
import Derived.Test.YtcfeoapbbkfbnaaGreatDoorRec
import Derived.Test.YtcfeoapbbkfbnaaGreatDoorStrs
import Derived.Test.YtcfeoapbbkfbnaaGreatDoorRf2
namespace Go.Proofs.YtcfeoapbbkfbnaaGreatDoor
open Go.RowKit Go.Sort

theorem neqLo_no (x1 x2 : _) (W : World) : (binOp .neq 65 (.agg #[.string x1, .int .i64 x2]) (.agg #[.string x1, .int .i64 x2])).run Tryz.prog W = .ok (.bool false) W := by
  go_simp
theorem neqLo_yes {x1 x2 y1 y2 : _} (hxy : ((x1, x2) : ByteArray × Int) ≠ (y1, y2)) (W : World) : (binOp .neq 65 (.agg #[.string x1, .int .i64 x2]) (.agg #[.string y1, .int .i64 y2])).run Tryz.prog W = .ok (.bool true) W := by
  go_simp
  intro e1 e2
  first
    | (exact hxy (by subst e1; subst e2; rfl))
    | (have e1 := ba_inj e1; exact hxy (by subst e1; subst e2; rfl))
set_option maxHeartbeats 4000000 in
set_option maxRecDepth 100000 in
theorem EqualLo_any (l m : List (ByteArray × Int)) (v u : Value) (w : World) (hl : l.length ≤ 1000000) (hm : m.length ≤ 1000000) (rl : RecR TLo w 0 v l) (rm : RecR TLo w 0 u m) :
    Calls Tryz.prog 34 #[v, u] w fun e w' => e = .returned (.bool (decide (l = m))) ∧ Below w.heap.size w w' := by
  obtain ⟨a, ca, rfl, _, _⟩ := rl.form
  obtain ⟨b, cb, rfl, _, _⟩ := rm.form
  have RL := Lib.hid rl
  have RM := Lib.hid rm
  clear rl rm
  by_cases hlm : l.length = m.length
  · have HLM := Lib.hid hlm
    have hmk : ∀ k, k < l.length → k < m.length := fun k h => by omega
    rw [← hlm]
    clear hlm
    go_enter Tryz.func34, Tryz.ntmps34
    go_wp2_with fail
    go_loopw [13] (fun i wr => ∃ k : Nat, k ≤ l.length ∧ i = .int .i64 k ∧ Hid (l.take k = m.take k) ∧ Below w.heap.size w wr) (fun i _ => l.length - (intOf i).toNat)
    case atStart => exact ⟨0, Nat.zero_le _, rfl, Lib.hid (by simp), Below.refl _ _⟩
    case round =>
      obtain ⟨k, hk, rfl, hT, hB⟩ := hrel
      by_cases hlt : k < l.length
      · obtain ⟨x, hx⟩ : ∃ x, l[k]? = some x := ⟨_, List.getElem?_eq_getElem hlt⟩
        obtain ⟨y, hy⟩ : ∃ y, m[k]? = some y := ⟨_, List.getElem?_eq_getElem (hmk k hlt)⟩
        obtain ⟨b1, o1, rfl, _, _, hc1⟩ := (RL.out.below hB).at TLo.ok.len hx TLo.ok.pos
        obtain ⟨b2, o2, rfl, _, _, hc2⟩ := (RM.out.below hB).at TLo.ok.len hy TLo.ok.pos
        have HX := Lib.hid hx
        have HY := Lib.hid hy
        obtain ⟨x1, x2⟩ := x
        obtain ⟨y1, y2⟩ := y
        have cx0 : wr.cell? ⟨b1, o1 + k * 2, none⟩ = some (.string x1) := hc1 0 _ rfl
        have cx1 : wr.cell? ⟨b1, o1 + k * 2 + 1, none⟩ = some (.int .i64 x2) := hc1 1 _ rfl
        have cy0 : wr.cell? ⟨b2, o2 + k * 2, none⟩ = some (.string y1) := hc2 0 _ rfl
        have cy1 : wr.cell? ⟨b2, o2 + k * 2 + 1, none⟩ = some (.int .i64 y2) := hc2 1 _ rfl
        have hw1 : IntKind.i64.wrap ((k : Int) + 1) = ((k + 1 : Nat) : Int) := by rw [IntWalk.i64_in _ (by omega)]; omega
        clear hc1 hc2 hx hy
        by_cases hxy : ((x1, x2) : ByteArray × Int) = (y1, y2)
        · have HT2 : Hid (l.take (k + 1) = m.take (k + 1)) := Lib.hid (by rw [List.take_add_one, List.take_add_one, hT.out, HX.out, HY.out, hxy])
          obtain ⟨e1, hxy⟩ := Prod.mk.inj hxy
          have e2 := hxy
          clear hxy
          subst e1; subst e2
          have hne := neqLo_no x1 x2
          go_wp2_with fail
          go_region
          all_goals (
            go_wp2
            go_roundw
            case rel => exact ⟨k + 1, by omega, by go_num, HT2, Below.drew hB⟩
            case measure => simp [intOf]; omega)
        · have HR : Hid (decide (l = m) = false) := Lib.hid (by
            rw [decide_eq_false_iff_not]
            rintro rfl
            have := HX.out.symm.trans HY.out
            injection this with this
            exact hxy this)
          have hne := neqLo_yes hxy
          clear hxy
          go_wp2_with fail
          go_region
          all_goals (
            go_wp2
            go_ret
            exact ⟨ret_bool HR.out.symm, Below.drew hB⟩)
      · obtain rfl : k = l.length := by omega
        have HR : Hid (decide (l = m) = true) := Lib.hid (by
          rw [decide_eq_true_eq]
          have := hT.out
          rw [List.take_length, HLM.out, List.take_length] at this
          exact this)
        go_wp2
        go_ret
        exact ⟨ret_bool HR.out.symm, hB⟩
  · have hi : ¬ ((l.length : Nat) : Int) = ((m.length : Nat) : Int) := by omega
    have HR : Hid (decide (l = m) = false) := Lib.hid (by
      rw [decide_eq_false_iff_not]
      intro h
      exact hlm (congrArg List.length h))
    go_enter Tryz.func34, Tryz.ntmps34
    go_wp2
    go_ret
    exact ⟨ret_bool HR.out.symm, Below.refl _ _⟩
end Go.Proofs.YtcfeoapbbkfbnaaGreatDoor
namespace Go.Proofs.YtcfeoapbbkfbnaaGreatDoor
open Go.RowKit Go.Sort

set_option maxHeartbeats 1000000 in
theorem AClockF_any (s : Nat) (c : Int) (w : World) (h : Str w s c) (hc : c ≤ 900000) :
    Calls Tryz.prog 11 #[.pointer (some ⟨s, 0, none⟩)] w fun e w' => ∃ r : Int, e = .returned (.int .i64 r) ∧ (-1 ≤ r ∧ r ≤ 345686400000) ∧ Str w' s (c + 2) ∧ w.grownBy w' (some s) := by
  have ls := h.lt
  go_enter Tryz.func11, Tryz.ntmps11
  go_wp2_with fail
  refine (Pick_any s c [-1, 345686400000, 345686399999] _ _ (h.alloc _) (by omega) (Ints.of_blk (blk_new _ _) rfl rfl (by simp) (by omega) ls) (by simp) (by simp)).mono ?_
  rintro e w1 ⟨a, rfl, ha, hS1, hG1⟩
  have ha1 : -1 ≤ a ∧ a ≤ 345686400000 := by simp only [List.mem_cons, List.not_mem_nil, or_false] at ha; omega
  have hG1' := Gr.trans (Gr.alloc (Gr.refl w (some s)) _) hG1
  clear hG1 ha
  go_wp2_with fail
  refine (Pick_any s (c + 1) [0, 1, 3, 8, 15, 30, 60, a] _ _ (hS1.alloc _) (by omega) (Ints.of_blk (blk_new _ _) rfl rfl (by simp) (by omega) hS1.lt) (by simp) (by simp)).mono ?_
  rintro e w2 ⟨b, rfl, hb, hS2, hG2⟩
  have hb1 : -1 ≤ b ∧ b ≤ 345686400000 := by simp only [List.mem_cons, List.not_mem_nil, or_false] at hb; omega
  have HF := Lib.hid (And.intro (hS2.mono (d := c + 2) (by omega)) (Gr.trans (Gr.alloc hG1' _) hG2))
  clear hG2 hG1' hb hS2 hS1
  go_wp2
  go_ret
  exact ⟨b, rfl, hb1, HF.out.1, HF.out.2⟩

theorem SEqualF_any (l : List ByteArray) (v u : Value) (w : World) (hl : l.length ≤ 100000) (rl : RecR TS w 0 v l) (rm : RecR TS w 0 u l) :
    Calls Tryz.prog 35 #[v, u] w fun e w' => e = .returned (.bool true) ∧ Below w.heap.size w w' := by
  obtain ⟨a1, c1, rfl, _, _⟩ := rl.form
  obtain ⟨a2, c2, rfl, _, _⟩ := rm.form
  by_cases h0 : l = []
  · subst h0
    refine (Tryz.slices_Equal_string_empty a1 a2 c1 0 c2 w (by omega)).mono ?_
    rintro e w' ⟨rfl, rfl⟩
    exact ⟨rfl, Below.refl _ _⟩
  · obtain ⟨y, hy⟩ : ∃ y, l[0]? = some y := ⟨_, List.getElem?_eq_getElem (List.length_pos_iff.2 h0)⟩
    obtain ⟨b1, o1, rfl, _, _, _⟩ := str_at rl hy
    obtain ⟨b2, o2, rfl, _, _, _⟩ := str_at rm hy
    refine (Tryz.slices_Equal_string b1 o1 l.length c1 b2 o2 l.length c2 l l w (Nat.le_refl _) (Nat.le_refl _) (by omega) (by omega) (str_cells rl) (str_cells rm)).mono ?_
    rintro e w' ⟨rfl, q, rfl⟩
    exact ⟨by simp, Bl.drewN (Below.refl _ _) q⟩
end Go.Proofs.YtcfeoapbbkfbnaaGreatDoor
namespace Go.Proofs.YtcfeoapbbkfbnaaGreatDoor
open Go.RowKit Go.Sort Go.Maps

def oneR : List Rel := [(⟨#[114]⟩, ⟨#[97]⟩, 5)]
def oneF : List Fed := [(0, 1, ⟨#[102]⟩, ⟨#[114]⟩, 0, ByteArray.empty)]
theorem one_ask : askF (feedsF oneR oneF) (keyB ⟨#[102]⟩) (inB 0 0 345686399999) 5 = 0 := by kernel_rfl
theorem one_has : feederM oneR oneF 0 ⟨#[102]⟩ = [(⟨#[114]⟩, 5)] := by kernel_rfl
set_option maxHeartbeats 4000000 in
set_option maxRecDepth 100000 in
theorem reeled_any (w : World) : Calls Tryz.prog 36 #[] w fun e w' => e = .returned (.bool true) ∧ Below w.heap.size w w' := by
  obtain ⟨w1, hw1⟩ : ∃ w1, w1 = (w.alloc (.cells #[.string ⟨#[114]⟩, .string ⟨#[97]⟩, .int .i64 5] 73)).alloc (.cells #[.int .i64 0, .int .i64 1, .string ⟨#[102]⟩, .string ⟨#[114]⟩, .int .i64 0, .string ⟨#[]⟩] 76) := ⟨_, rfl⟩
  have hb1 : Below w.heap.size w w1 := by rw [hw1]; exact Bl.alloc (Bl.alloc (Below.refl _ _) _) _
  have hR : w1.heap[w.heap.size]? = some (.cells #[.string ⟨#[114]⟩, .string ⟨#[97]⟩, .int .i64 5] 73 (0, 0)) := by rw [hw1]; exact blk_old (blk_new w _) _
  have hF : w1.heap[w.heap.size + 1]? = some (.cells #[.int .i64 0, .int .i64 1, .string ⟨#[102]⟩, .string ⟨#[114]⟩, .int .i64 0, .string ⟨#[]⟩] 76 (0, 0)) := by rw [hw1]; exact blk_new' _ _ (by simp)
  have HFE := Lib.hid (Feeder_any oneR oneF ⟨#[102]⟩ 0 (.slice (some ⟨w.heap.size, 0, none⟩) 1 1) (.slice (some ⟨w.heap.size + 1, 0, none⟩) 1 1) w1 (by decide) (by decide)
    (RecR.of_blk (T := TRe) hR rfl rfl (by simp) (by omega) (Nat.zero_le _)) (RecR.of_blk (T := TFe) hF rfl rfl (by simp) (by omega) (Nat.zero_le _))
    (by intro x hx; simp only [oneR, List.mem_singleton] at hx; subst hx; exact ⟨by show 1 ≤ 140737488355328; omega, by show 1 ≤ 140737488355328; omega⟩)
    (by intro x hx; simp only [oneF, List.mem_singleton] at hx; subst hx; exact ⟨by show 1 ≤ 140737488355328; omega, by show 1 ≤ 140737488355328; omega, by show 0 ≤ 140737488355328; omega⟩) (by show 1 ≤ 140737488355328; omega))
  rw [one_ask, if_pos rfl, one_has] at HFE
  have HB1 := Lib.hid hb1
  clear hb1 hR hF
  go_enter Tryz.func36, Tryz.ntmps36
  go_wp2_with fail
  rw [← hw1]
  clear hw1
  refine HFE.out.mono ?_
  rintro e w2 ⟨⟨v, rfl, hO⟩, hb2⟩
  have HB2 := Lib.hid (Bl.trans HB1.out hb2)
  have HEQ := Lib.hid (EqualLo_any [(⟨#[114]⟩, 5)] [(⟨#[114]⟩, 5)] v (.slice (some ⟨w2.heap.size, 0, none⟩) 1 1) (w2.alloc (.cells #[.string ⟨#[114]⟩, .int .i64 5] 65)) (by simp) (by simp) (hO.alloc _).rec0 (RecR.of_blk (T := TLo) (blk_new w2 _) rfl rfl (by simp) (by omega) (Nat.zero_le _)))
  rw [decide_eq_true rfl] at HEQ
  clear hb2 hO HFE
  go_wp2_with fail
  refine HEQ.out.mono ?_
  rintro e w3 ⟨rfl, hb3⟩
  have HB3 := Lib.hid (Bl.trans (Bl.alloc HB2.out _) hb3)
  clear hb3 HEQ
  go_wp2
  go_ret
  exact ⟨rfl, HB3.out⟩
end Go.Proofs.YtcfeoapbbkfbnaaGreatDoor
