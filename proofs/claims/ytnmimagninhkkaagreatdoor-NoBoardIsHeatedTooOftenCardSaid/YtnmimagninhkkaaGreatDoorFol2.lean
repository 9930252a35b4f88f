/- A shop after all steps up to a moment: the walks of follow and shopAt over general maps. Conditions: right steps. -/
import Derived.Test.YtnmimagninhkkaaGreatDoorRun
import Derived.Test.YtnmimagninhkkaaGreatDoorTim
import Derived.Test.YtnmimagninhkkaaGreatDoorFollow
namespace Go.Proofs.YtnmimagninhkkaaGreatDoor
open Go.RowKit Go.Sort Go.Maps

structure FoI (rh rr at' : Int) (l : List Stp) (w0 : World) (S k : Nat) (m : Sm Bd0) (wr : World) : Prop where
  rest : runS rh rr at' [] l = runS rh rr at' m (l.drop k)
  sm : AllSm m k
  shop : ∃ L, ShM wr S rh rr L ∧ L.mapv (·.2) = m
  bel : Below w0.heap.size w0 wr
  S1 : w0.heap.size ≤ S - 1
theorem FoI.alloc {rh rr at' : Int} {l : List Stp} {w0 : World} {S k : Nat} {m : Sm Bd0} {wr : World} (h : FoI rh rr at' l w0 S k m wr) (o : Obj) : FoI rh rr at' l w0 S k m (wr.alloc o) := by
  obtain ⟨L, h1, h2⟩ := h.shop
  exact ⟨h.rest, h.sm, ⟨L, h1.below (Bl.alloc (Below.refl _ _) o), h2⟩, Bl.alloc h.bel o, h.S1⟩
theorem FoI.call {rh rr at' : Int} {l : List Stp} {w0 : World} {S k : Nat} {m : Sm Bd0} {wr : World} (h : FoI rh rr at' l w0 S k m wr) {s : Stp} (hs : l[k]? = some s) (h1 : ¬ at' < s.at) (hsr : StR s) (hk : k ≤ 100000) :
    Calls Tryz.prog 87 #[.pointer (some ⟨S, 0, none⟩), stpV s] wr fun e w' => ∃ e0, e = .returned (.int .i64 e0) ∧ FoI rh rr at' l w0 S (k + 1) (doS rh rr m s).1 w' := by
  obtain ⟨L, hL1, hL2⟩ := h.shop
  have hb := hsr.bd
  have hc := hsr.co
  have hA : AllSm (L.mapv (·.2)) 100000 := by rw [hL2]; exact ⟨Nat.le_trans h.sm.1 hk, fun p hp => (h.sm.2 p hp).mono hk⟩
  refine (Do_any S rh rr L s wr hL1 (by omega) (by omega) hA).mono ?_
  rintro e w5 ⟨rfl, L', hL1', hL2', hK, _⟩
  exact ⟨_, rfl, h.rest.trans (runS_go hs h1), doS_small h.sm s, ⟨L', hL1', by rw [hL2', hL2]⟩, Below.trans h.bel ((DoX.below hL1 hK).mono h.S1), h.S1⟩
/-- a shop after these steps. -/
def ShopA (w0 w' : World) (S : Nat) (rh rr : Int) (m : Sm Bd0) : Prop := (∃ L, ShM w' S rh rr L ∧ L.mapv (·.2) = m) ∧ w0.heap.size ≤ S - 1
theorem ShopA.below {w0 w1 w' : World} {S : Nat} {rh rr : Int} {m : Sm Bd0} (h : ShopA w0 w1 S rh rr m) (hb : Below w1.heap.size w1 w') : ShopA w0 w' S rh rr m := by
  obtain ⟨⟨L, h1, h2⟩, h3⟩ := h
  exact ⟨⟨L, h1.below hb, h2⟩, h3⟩
set_option maxHeartbeats 4000000 in
set_option maxRecDepth 100000 in
theorem follow_any (rh rr at' : Int) (l : List Stp) (v : Value) (w : World) (rl : RecR TSt w 0 v l) (hl : stepsF l = 0) :
    Calls Tryz.prog 136 #[.agg #[.int .i64 rh, .int .i64 rr], v, .int .i64 at', .func (.func 180) #[] #[]] w fun e w' => (∃ S : Nat, e = .returned (.pointer (some ⟨S, 0, none⟩)) ∧ ShopA w w' S rh rr (runS rh rr at' [] l)) ∧ Below w.heap.size w w' := by
  have hA := Bl.alloc (Below.refl w.heap.size w) (.cells #[.int .i64 rh, .int .i64 rr] 27)
  obtain ⟨a, cap, rfl, _, _⟩ := rl.form
  have RL := Lib.hid rl
  have HR := Lib.hid (stepsF_right hl)
  clear rl hl
  go_enter Tryz.func136, Tryz.ntmps136
  go_wp2_with fail
  refine (NewShop_any rh rr _).mono ?_
  rintro e w2 ⟨rfl, hS2, hm2, hb2, hz2⟩
  have hB2 := Bl.trans hA hb2
  have hzA := hA.size
  obtain ⟨S, hS⟩ : ∃ S, S = (w.alloc (.cells #[.int .i64 rh, .int .i64 rr] 27)).heap.size + 1 + 1 := ⟨_, rfl⟩
  have hS1 : (w.alloc (.cells #[.int .i64 rh, .int .i64 rr] 27)).heap.size + 1 = S - 1 := by omega
  have HI0 : Hid (FoI rh rr at' l w S 0 [] w2) := Lib.hid (by
    refine ⟨rfl, ⟨Nat.le_refl _, fun p hp => by simp at hp⟩, ⟨[], ⟨by omega, ?_, ?_, Sm.Ok.nil, fun p hp => by simp at hp, fun p hp => by simp at hp⟩, rfl⟩, hB2, by omega⟩
    · rw [← hS1, hS]; exact hS2
    · rw [← hS1]; exact MapS.of_blk hm2)
  clear hS2 hm2 hb2 hB2 hA hS1 hz2 hzA
  rw [← hS] at *
  clear hS
  go_wp2_with fail
  go_loopw [16] (fun i wr => ∃ (k : Nat) (m : Sm Bd0), k ≤ l.length ∧ i = .int .i64 k ∧ Hid (FoI rh rr at' l w S k m wr)) (fun i _ => l.length - (intOf i).toNat)
  case atStart => exact ⟨0, [], Nat.zero_le _, rfl, HI0⟩
  case round =>
    obtain ⟨k, m, hk, rfl, HI⟩ := hrel
    by_cases hlt : k < l.length
    case' pos =>
      obtain ⟨s, hs⟩ : ∃ x, l[k]? = some x := ⟨_, List.getElem?_eq_getElem hlt⟩
      obtain ⟨b1, o1, rfl, _, hbb1, hc1⟩ := (RL.out.below HI.out.bel).at TSt.ok.len hs TSt.ok.pos
      have HS := Lib.hid hs
      have HSR := Lib.hid (HR.out.2.1 s (List.mem_of_getElem? hs))
      obtain ⟨at1, bs, kd, cs⟩ := s
      have c0 : wr.cell? ⟨b1, o1 + k * 4, none⟩ = some (.int .i64 at1) := hc1 0 _ rfl
      have c1 : wr.cell? ⟨b1, o1 + k * 4 + 1, none⟩ = some (.string bs) := hc1 1 _ rfl
      have c2 : wr.cell? ⟨b1, o1 + k * 4 + 2, none⟩ = some (.int .i64 kd) := hc1 2 _ rfl
      have c3 : wr.cell? ⟨b1, o1 + k * 4 + 3, none⟩ = some (.string cs) := hc1 3 _ rfl
      clear hs hc1
      have hlen : k < 5000 := Nat.lt_of_lt_of_le hlt HR.out.1
      have hw1 : IntKind.i64.wrap ((k : Int) + 1) = ((k + 1 : Nat) : Int) := by rw [IntWalk.i64_in _ (by omega)]; omega
      by_cases hat : at' < at1
      case' pos =>
        have HE : Hid (FoI rh rr at' l w S k m (wr.alloc (.cells #[.int .i64 at1, .string bs, .int .i64 kd, .string cs] 34))) := Lib.hid (HI.out.alloc _)
        have HGT : Hid (runS rh rr at' [] l = m) := Lib.hid (HI.out.rest.trans (runS_stop HS.out hat))
      case neg =>
        have HD := Lib.hid ((HI.out.alloc (.cells #[.int .i64 at1, .string bs, .int .i64 kd, .string cs] 34)).call HS.out hat HSR.out (by omega))
        go_wp2_with fail
        refine HD.out.mono ?_
        rintro e w5 ⟨e0, rfl, hF⟩
        have HF := Lib.hid hF
        clear hF
        go_wp2_with fail
        refine (shopAt1_any _ _ _).mono ?_
        rintro e w' ⟨rfl, rfl⟩
        go_wp2
        go_roundw
        case rel => exact ⟨k + 1, (doS rh rr m (at1, bs, kd, cs)).1, by omega, by go_num, HF⟩
        case measure => simp [intOf]; omega
    case' neg =>
      obtain rfl : k = l.length := by omega
      have HE := HI
      have HGT : Hid (runS rh rr at' [] l = m) := Lib.hid (HI.out.rest.trans runS_end)
    all_goals (
      have HSH : Hid (ShopA w _ S rh rr (runS rh rr at' [] l)) := Lib.hid ⟨by rw [HGT.out]; exact HE.out.shop, HE.out.S1⟩
      have HBE := Lib.hid HE.out.bel
      go_wp2
      go_ret
      exact ⟨⟨S, rfl, HSH.out⟩, HBE.out⟩)
set_option maxHeartbeats 1000000 in
theorem shopAt_any (rh rr at' : Int) (l : List Stp) (v : Value) (w : World) (rl : RecR TSt w 0 v l) (hl : stepsF l = 0) :
    Calls Tryz.prog 93 #[.agg #[.int .i64 rh, .int .i64 rr], v, .int .i64 at'] w fun e w' => (∃ S : Nat, e = .returned (.pointer (some ⟨S, 0, none⟩)) ∧ ShopA w w' S rh rr (runS rh rr at' [] l)) ∧ Below w.heap.size w w' := by
  have hb0 := Bl.alloc (Below.refl w.heap.size w) (.cells #[.int .i64 rh, .int .i64 rr] 27)
  have HF := Lib.hid (follow_any rh rr at' l v _ (rl.below hb0) hl)
  clear rl
  go_enter Tryz.func93, Tryz.ntmps93
  go_wp2_with fail
  refine HF.out.mono ?_
  rintro e w1 ⟨⟨S, rfl, hs⟩, hb1⟩
  have HS := Lib.hid hs
  have hz := hb0.size
  clear hs
  go_wp2
  go_ret
  exact ⟨⟨S, rfl, HS.out.1, Nat.le_trans hz HS.out.2⟩, Bl.trans hb0 hb1⟩
end Go.Proofs.YtnmimagninhkkaaGreatDoor
