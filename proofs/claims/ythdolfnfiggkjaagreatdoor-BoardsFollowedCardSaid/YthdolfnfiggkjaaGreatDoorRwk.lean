/- slices.Equal of errors and of ints. Conditions: at most 10^6 of them. · reworked: package rework solders. No conditions. -/
import Derived.Test.YthdolfnfiggkjaaGreatDoorRs
import Derived.Deep.RegionWith
namespace Go.Proofs.YthdolfnfiggkjaaGreatDoor
open Go.RowKit Go.Sort Go.Maps

theorem num_at {T : Rty Int} (hf : T.f = fun n => [.int .i64 n]) (hk : T.k = 1) {w : World} {lo : Nat} {a : Option Addr} {n cap : Nat} {l : List Int} (hT : T.Ok) (h : RecR T w lo (.slice a n cap) l) {k : Nat} {x : Int} (hx : l[k]? = some x) :
    ∃ b o, a = some ⟨b, o, none⟩ ∧ b < w.heap.size ∧ w.cell? ⟨b, o + k, none⟩ = some (.int .i64 x) := by
  obtain ⟨b, o, rfl, _, h2, h3⟩ := h.at hT.len hx hT.pos
  refine ⟨b, o, rfl, h2, ?_⟩
  have := h3 0 (.int .i64 x) (by rw [hf]; rfl)
  rw [hk, Nat.mul_one, Nat.add_zero] at this
  exact this
theorem EqN_any (l m : List Int) (v u : Value) (w : World) (hl : l.length ≤ 1000000) (hm : m.length ≤ 1000000) (rl : RecR TN w 0 v l) (rm : RecR TN w 0 u m) :
    Calls Tryz.prog 15 #[v, u] w fun e w' => e = .returned (.bool (decide (l = m))) ∧ Below w.heap.size w w' := by
  obtain ⟨a1, c1, rfl, _, _⟩ := rl.form
  obtain ⟨a2, c2, rfl, _, _⟩ := rm.form
  by_cases hlen : l.length = m.length
  · by_cases h0 : l = []
    · subst h0
      have hm0 : m = [] := List.eq_nil_of_length_eq_zero (by rw [← hlen]; rfl)
      subst hm0
      refine (Tryz.slices_Equal_int_empty a1 a2 c1 0 c2 w (by omega)).mono ?_
      rintro e w' ⟨rfl, rfl⟩
      exact ⟨rfl, Below.refl _ _⟩
    · have hp := List.length_pos_iff.2 h0
      obtain ⟨b1, o1, rfl, _, _⟩ := num_at (T := TN) rfl rfl TN.ok rl (k := 0) (x := l[0]) (List.getElem?_eq_getElem hp)
      obtain ⟨b2, o2, rfl, _, _⟩ := num_at (T := TN) rfl rfl TN.ok rm (k := 0) (x := m[0]) (List.getElem?_eq_getElem (by omega))
      refine (Tryz.slices_Equal_int b1 o1 l.length c1 b2 o2 m.length c2 l m w (Nat.le_refl _) (Nat.le_refl _) (by omega) (by omega) (fun j hj => ?_) (fun j hj => ?_)).mono ?_
      · obtain ⟨b, o, e, _, hc⟩ := num_at (T := TN) rfl rfl TN.ok rl (k := j) (x := l[j]) (List.getElem?_eq_getElem hj)
        injection e with e; injection e with e1 e2 _; subst e1 e2
        rw [hc]; simp [List.getD_eq_getElem?_getD, List.getElem?_eq_getElem hj]
      · obtain ⟨b, o, e, _, hc⟩ := num_at (T := TN) rfl rfl TN.ok rm (k := j) (x := m[j]) (List.getElem?_eq_getElem hj)
        injection e with e; injection e with e1 e2 _; subst e1 e2
        rw [hc]; simp [List.getD_eq_getElem?_getD, List.getElem?_eq_getElem hj]
      · rintro e w' ⟨rfl, q, rfl⟩
        refine ⟨?_, ⟨rfl, rfl, rfl, Nat.le_refl _, fun _ _ => rfl⟩⟩
        rw [List.take_length, List.take_length]
        congr 2
        by_cases h : l = m
        · rw [decide_eq_true h, beq_iff_eq]; exact h
        · rw [decide_eq_false h, beq_eq_false_iff_ne]; exact h
  · refine (Tryz.slices_Equal_int_lens a1 a2 l.length c1 m.length c2 w hlen).mono ?_
    rintro e w' ⟨rfl, rfl⟩
    exact ⟨by rw [decide_eq_false (fun h => hlen (by rw [h]))], Below.refl _ _⟩
set_option maxHeartbeats 1000000 in
theorem EqE_any (l m : List Int) (v u : Value) (w : World) (hl : l.length ≤ 1000000) (hm : m.length ≤ 1000000) (rl : RecR TE w 0 v l) (rm : RecR TE w 0 u m) :
    Calls Tryz.prog 16 #[v, u] w fun e w' => e = .returned (.bool (decide (l = m))) ∧ Below w.heap.size w w' := by
  obtain ⟨a1, c1, rfl, _, _⟩ := rl.form
  obtain ⟨a2, c2, rfl, _, _⟩ := rm.form
  have RL := Lib.hid rl
  have RM := Lib.hid rm
  clear rl rm
  by_cases hlen : l.length = m.length
  · obtain ⟨n, hn⟩ : ∃ n, n = l.length := ⟨_, rfl⟩
    have hn2 : n = m.length := by omega
    rw [← hn] at RL
    rw [← hn2] at RM
    rw [← hn, ← hn2]
    have HN := Lib.hid (And.intro hn hn2)
    have hn6 : n ≤ 1000000 := by omega
    clear hn hn2 hlen hl hm
    go_enter Tryz.func16, Tryz.ntmps16
    go_wp2_with fail
    go_loopw [13] (fun i wr => ∃ k : Nat, k ≤ n ∧ i = .int .i64 k ∧ Hid (l.take k = m.take k) ∧ Below w.heap.size w wr) (fun i _ => n - (intOf i).toNat)
    case atStart => exact ⟨0, Nat.zero_le _, rfl, Lib.hid (by simp), Below.refl _ _⟩
    case round =>
      obtain ⟨k, hk, rfl, HT, hb⟩ := hrel
      by_cases hlt : k < n
      · have hkl : k < l.length := by have := HN.out.1; omega
        have hkm : k < m.length := by have := HN.out.2; omega
        obtain ⟨x, hx⟩ : ∃ x, l[k]? = some x := ⟨_, List.getElem?_eq_getElem hkl⟩
        obtain ⟨y, hy⟩ : ∃ y, m[k]? = some y := ⟨_, List.getElem?_eq_getElem hkm⟩
        obtain ⟨b1, o1, rfl, hb1, d1⟩ := num_at (T := TE) rfl rfl TE.ok (RL.out.below hb) hx
        obtain ⟨b2, o2, rfl, hb2, d2⟩ := num_at (T := TE) rfl rfl TE.ok (RM.out.below hb) hy
        have hw1 : IntKind.i64.wrap ((k : Int) + 1) = ((k + 1 : Nat) : Int) := by rw [IntWalk.i64_in _ (by omega)]; omega
        have HS : Hid (l.take (k + 1) = l.take k ++ [x] ∧ m.take (k + 1) = m.take k ++ [y]) := Lib.hid ⟨by rw [List.take_add_one, hx]; rfl, by rw [List.take_add_one, hy]; rfl⟩
        have HXY : Hid (x ≠ y → decide (l = m) = false) := Lib.hid fun h => decide_eq_false fun e => by
          rw [e, hy] at hx
          injection hx with hx
          exact h hx.symm
        clear hx hy hkl hkm
        by_cases hxy : x = y
        · subst hxy
          have HT2 : Hid (l.take (k + 1) = m.take (k + 1)) := Lib.hid (by rw [HS.out.1, HS.out.2, HT.out])
          go_wp2_with fail
          go_region
          go_wp2
          go_roundw
          case rel => exact ⟨k + 1, by omega, by go_num, HT2, Below.drew hb⟩
          case measure => simp [intOf]; omega
        · have HV := Lib.hid (HXY.out hxy)
          have hq : (x == y) = false := by simp [hxy]
          go_wp2_with fail
          go_region
          go_wp2
          go_ret
          exact ⟨by rw [HV.out] <;> rfl, Below.drew hb⟩
      · obtain rfl : k = n := by omega
        have HV : Hid (decide (l = m) = true) := Lib.hid (decide_eq_true (by
          have := HT.out
          rw [HN.out.1, List.take_length, ← HN.out.1, HN.out.2, List.take_length] at this
          exact this))
        go_wp2
        go_ret
        exact ⟨by rw [HV.out] <;> rfl, hb⟩
  · have hne : ¬ (l.length : Int) = (m.length : Int) := by omega
    have HV : Hid (decide (l = m) = false) := Lib.hid (decide_eq_false (fun h => hlen (by rw [h])))
    clear hlen
    go_enter Tryz.func16, Tryz.ntmps16
    go_wp2
    go_ret
    exact ⟨by rw [HV.out] <;> rfl, Below.refl _ _⟩
end Go.Proofs.YthdolfnfiggkjaaGreatDoor
namespace Go.Proofs.YthdolfnfiggkjaaGreatDoor
open Go.RowKit Go.Sort Go.Maps

def oneS : List Stp := [(3, ⟨#[117]⟩, 1, ⟨#[]⟩)]
theorem cAt_one : cAt 1 0 oneS ⟨#[117]⟩ 3 = ⟨2, 3, 1, [], [], 0⟩ ∧ bfltF 1 0 oneS ⟨#[117]⟩ 3 = 0 := by
  constructor <;> rfl
set_option maxHeartbeats 4000000 in
set_option maxRecDepth 100000 in
theorem reworked_any (w : World) : Calls Tryz.prog 23 #[] w fun e w' => e = .returned (.bool true) ∧ Below w.heap.size w w' := by
  obtain ⟨w0, hw0⟩ : ∃ w0, w0 = w.alloc (.cells #[.int .i64 3, .string ⟨#[117]⟩, .int .i64 1, .string ⟨#[]⟩] 50) := ⟨_, rfl⟩
  have hA : Below w.heap.size w w0 := by rw [hw0]; exact Bl.alloc (Below.refl _ _) _
  have hR : RecR TSt w0 0 (.slice (some ⟨w.heap.size, 0, none⟩) 1 1) oneS := by
    rw [hw0]
    exact RecR.of_blk (T := TSt) (blk_new w _) rfl rfl (by decide) (by decide) (Nat.zero_le _)
  have HAT0 := At_any 1 0 oneS ⟨#[117]⟩ 3 (.slice (some ⟨w.heap.size, 0, none⟩) 1 1) w0 (by decide) hR (by intro s hs; rw [List.mem_singleton.1 hs]; decide) (by decide)
  rw [cAt_one.1, cAt_one.2] at HAT0
  have HAT := Lib.hid HAT0
  have HA := Lib.hid hA
  clear HAT0 hR hA
  go_enter Tryz.func23, Tryz.ntmps23
  go_wp2_with fail
  rw [← hw0]
  clear hw0
  refine HAT.out.mono ?_
  rintro e w1 ⟨⟨v, rfl, hC, _⟩, hb⟩
  obtain ⟨a1, n1, c1, rfl⟩ : ∃ a n c, v = .slice a n c := (by obtain ⟨a, c, h, _, _⟩ := hC.form; exact ⟨a, _, c, h⟩)
  have HB := Lib.hid (Bl.trans HA.out hb)
  clear hC hb
  unfold condV
  go_wp2
  go_ret
  exact ⟨rfl, Bl.alloc HB.out _⟩
end Go.Proofs.YthdolfnfiggkjaaGreatDoor
