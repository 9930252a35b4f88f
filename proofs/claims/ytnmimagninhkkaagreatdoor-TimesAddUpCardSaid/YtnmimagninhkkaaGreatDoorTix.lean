/- slices.IndexFunc over steps with TimesAddUp's test. Conditions: at most 1000 steps. -/
import Derived.Test.YtnmimagninhkkaaGreatDoorTmp
namespace Go.Proofs.YtnmimagninhkkaaGreatDoor
open Go.RowKit Go.Sort

theorem fstS_any (s : Stp) (at' : Int) (X : Nat) (W : World) (hc : W.cell? ⟨X, 0, none⟩ = some (.int .i64 at')) :
    Calls Tryz.prog 17 #[stpV s, .pointer (some ⟨X, 0, none⟩)] W fun e W' => e = .returned (.bool (fstS ⟨#[117, 49]⟩ at' s)) ∧ Below W.heap.size W W' := by
  obtain ⟨at1, bs, kd, cs⟩ := s
  have hX := World.block_lt_of_cell? _ _ hc
  simp only at hX
  have c2 : (W.alloc (.cells #[.int .i64 at1, .string bs, .int .i64 kd, .string cs] 34)).cell? ⟨X, 0, none⟩ = some (.int .i64 at') := (World.cell?_alloc_past _ _ _ hX).trans hc
  have hb := Bl.alloc (Below.refl W.heap.size W) (.cells #[.int .i64 at1, .string bs, .int .i64 kd, .string cs] 34)
  change Calls _ _ #[.agg #[.int .i64 at1, .string bs, .int .i64 kd, .string cs], _] _ _
  by_cases hbd : bs = ⟨#[117, 49]⟩
  · subst hbd
    by_cases hat : at1 ≤ at'
    · have HR : Hid (fstS ⟨#[117, 49]⟩ at' (at1, ⟨#[117, 49]⟩, kd, cs) = true) := Lib.hid (by unfold fstS; simp [Stp.bd, Stp.at, hat])
      go_enter Tryz.func17, Tryz.ntmps17
      go_wp2
      go_ret
      exact ⟨ret_bool (by rw [HR.out] <;> rfl), hb⟩
    · have HR : Hid (fstS ⟨#[117, 49]⟩ at' (at1, ⟨#[117, 49]⟩, kd, cs) = false) := Lib.hid (by unfold fstS; simp [Stp.bd, Stp.at, hat])
      go_enter Tryz.func17, Tryz.ntmps17
      go_wp2
      go_ret
      exact ⟨ret_bool (by rw [HR.out] <;> rfl), hb⟩
  · have HR : Hid (fstS ⟨#[117, 49]⟩ at' (at1, bs, kd, cs) = false) := Lib.hid (by unfold fstS; simp [Stp.bd, hbd])
    have hne2 : (bs.toList == [117, 49]) = false := by
      rw [beq_eq_false_iff_ne, ByteArray.toList_eq]
      exact fun e => hbd (ByteArray.ext (Array.toList_inj.1 e))
    have hne3 : ¬ bs.toList = [117, 49] := by
      rw [ByteArray.toList_eq]
      exact fun e => hbd (ByteArray.ext (Array.toList_inj.1 e))
    clear hbd
    go_enter Tryz.func17, Tryz.ntmps17
    go_wp2
    go_ret
    exact ⟨ret_bool (by rw [HR.out] <;> rfl), hb⟩
/-- what IndexFunc answers. -/
def IdxS (l : List Stp) (at' r : Int) : Prop := match l.find? (fstS ⟨#[117, 49]⟩ at') with | none => r = -1 | some s => 0 ≤ r ∧ l[r.toNat]? = some s
set_option maxHeartbeats 2000000 in
theorem IndexS_any (l : List Stp) (at' : Int) (v : Value) (X : Nat) (w : World) (hl : l.length ≤ 1000) (rl : RecR TSt w 0 v l) (hc : w.cell? ⟨X, 0, none⟩ = some (.int .i64 at')) :
    Calls Tryz.prog 16 #[v, .func (.func 17) #[] #[.pointer (some ⟨X, 0, none⟩)]] w fun e w' => (∃ r : Int, e = .returned (.int .i64 r) ∧ IdxS l at' r) ∧ Below w.heap.size w w' := by
  obtain ⟨a, cap, rfl, hc1, hc2⟩ := rl.form
  have hX := World.block_lt_of_cell? _ _ hc
  simp only at hX
  have RL := Lib.hid rl
  clear rl
  go_enter Tryz.func16, Tryz.ntmps16
  go_wp2
  go_loopw [8] (fun i wr => ∃ k : Nat, k ≤ l.length ∧ i = .int .i64 k ∧ Hid (l.find? (fstS ⟨#[117, 49]⟩ at') = (l.drop k).find? (fstS ⟨#[117, 49]⟩ at')) ∧ Below w.heap.size w wr) (fun i _ => l.length - (intOf i).toNat)
  case atStart => exact ⟨0, Nat.zero_le _, rfl, Lib.hid rfl, Below.refl _ _⟩
  case round =>
    obtain ⟨k, hk, rfl, hf, hb⟩ := hrel
    by_cases hlt : k < l.length
    · obtain ⟨s, hs⟩ : ∃ x, l[k]? = some x := ⟨_, List.getElem?_eq_getElem hlt⟩
      have HC := Lib.hid (fstS_any s at' X wr (((bcell hb).1 X 0 hX).trans hc))
      have HS := Lib.hid hs
      have HD : Hid (l.drop k = s :: l.drop (k + 1)) := Lib.hid (by rw [List.drop_eq_getElem_cons hlt, (List.getElem?_eq_some_iff.1 hs).2])
      obtain ⟨b1, o1, rfl, _, hb1, hc1'⟩ := (RL.out.below hb).at TSt.ok.len hs TSt.ok.pos
      obtain ⟨at1, bs, kd, cs⟩ := s
      have c0 : wr.cell? ⟨b1, o1 + k * 4, none⟩ = some (.int .i64 at1) := hc1' 0 _ rfl
      have c1 : wr.cell? ⟨b1, o1 + k * 4 + 1, none⟩ = some (.string bs) := hc1' 1 _ rfl
      have c2 : wr.cell? ⟨b1, o1 + k * 4 + 2, none⟩ = some (.int .i64 kd) := hc1' 2 _ rfl
      have c3 : wr.cell? ⟨b1, o1 + k * 4 + 3, none⟩ = some (.string cs) := hc1' 3 _ rfl
      clear hs hc1'
      have hw1 : IntKind.i64.wrap ((k : Int) + 1) = ((k + 1 : Nat) : Int) := by rw [IntWalk.i64_in _ (by omega)]; omega
      obtain ⟨pb, hpb⟩ : ∃ pb, pb = fstS ⟨#[117, 49]⟩ at' (at1, bs, kd, cs) := ⟨_, rfl⟩
      rw [← hpb] at HC
      have HP := Lib.hid hpb
      clear hpb
      cases pb
      · have HN : Hid (l.find? (fstS ⟨#[117, 49]⟩ at') = (l.drop (k + 1)).find? (fstS ⟨#[117, 49]⟩ at')) := Lib.hid (by rw [hf.out, HD.out, List.find?_cons_of_neg (by rw [← HP.out]; decide)])
        go_wp2_with fail
        refine HC.out.mono ?_
        rintro e w2 ⟨rfl, hb2⟩
        have HB2 := Lib.hid (Bl.trans hb hb2)
        clear hb2
        go_wp2
        go_roundw
        case rel => exact ⟨k + 1, by omega, by go_num, HN, HB2.out⟩
        case measure => simp [intOf]; omega
      · have HN : Hid (IdxS l at' k) := Lib.hid (by
          unfold IdxS
          rw [hf.out, HD.out, List.find?_cons_of_pos HP.out.symm]
          exact ⟨by omega, by rw [show ((k : Int)).toNat = k from by omega]; exact HS.out⟩)
        go_wp2_with fail
        refine HC.out.mono ?_
        rintro e w2 ⟨rfl, hb2⟩
        have HB2 := Lib.hid (Bl.trans hb hb2)
        clear hb2
        go_wp2
        go_ret
        exact ⟨⟨_, rfl, HN.out⟩, HB2.out⟩
    · obtain rfl : k = l.length := by omega
      have HN : Hid (IdxS l at' (-1)) := Lib.hid (by unfold IdxS; rw [hf.out, List.drop_length]; rfl)
      go_wp2
      go_ret
      exact ⟨⟨_, rfl, HN.out⟩, hb⟩
end Go.Proofs.YtnmimagninhkkaaGreatDoor
