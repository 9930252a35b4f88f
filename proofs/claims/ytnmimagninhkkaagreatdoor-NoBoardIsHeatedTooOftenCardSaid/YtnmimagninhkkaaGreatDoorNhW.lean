/- The walk of NoBoardIsHeatedTooOften: whatever the input: true. No conditions. -/
import Derived.Test.YtnmimagninhkkaaGreatDoorIn
import Derived.Test.YtnmimagninhkkaaGreatDoorReady2
import Derived.Test.YtnmimagninhkkaaGreatDoorStart
import Derived.Deep.RegionWith
namespace Go.Proofs.YtnmimagninhkkaaGreatDoor
open Go.RowKit Go.Sort Go.Maps

/-- what is so of each board that has a state. -/
theorem noBoard_law {rh rr at' : Int} {l : List Stp} (hr : 0 ≤ rh) (hl : stepsF l = 0) {st : Int} {k : Bs} (hk : k ∈ inS (runS rh rr at' [] l) st) :
    ∃ b, (runS rh rr at' [] l).get k = some b ∧ b.st = st ∧ b.he ≤ rh ∧ (b.st = 3 → 0 < b.op.length) ∧ (b.st ≠ 3 → b.st ≠ 5 → b.op.length = 0) ∧ baOf k ∈ knownS at' [] l := by
  have hok : Sm.Ok (runS rh rr at' [] l) := runS_ok l Sm.Ok.nil
  obtain ⟨b, hg, hst⟩ := inS_mem hok hk
  have hI : BdI rh b := runS_all (P := BdI rh) (BdI.new hr) (fun b s h hr => h.step s hr) l (m := []) (fun p hp => by simp at hp) _ (Sm.get_mem hg)
  have hkn := known_run (rh := rh) (rr := rr) (at' := at') l [] [] (stepsF_right hl).2.2 KnI.nil
  exact ⟨b, hg, hst, hI.he, hI.fail, hI.none, (hkn.mem _).2 (by rw [bsOf_baOf]; exact inS_key hk)⟩
theorem noBoard_sum {rh rr at' : Int} {l : List Stp} (hl : stepsF l = 0) : inN (runS rh rr at' [] l) 1 + inN (runS rh rr at' [] l) 2 + inN (runS rh rr at' [] l) 3 + inN (runS rh rr at' [] l) 4 + inN (runS rh rr at' [] l) 5 + inN (runS rh rr at' [] l) 6 = (knownS at' [] l).length := by
  have hok : Sm.Ok (runS rh rr at' [] l) := runS_ok l Sm.Ok.nil
  rw [in_all _ (runS_st l fun p hp => by simp at hp)]
  exact ((known_run (rh := rh) (rr := rr) (at' := at') l [] [] (stepsF_right hl).2.2 KnI.nil).len hok).symm
/-- how many boards have one of the first states. -/
def inUp (m : Sm Bd0) : Nat → Nat
  | 0 => 0
  | k + 1 => inUp m k + inN m ((k + 1 : Nat) : Int)
theorem inUp_six (m : Sm Bd0) : inUp m 6 = inN m 1 + inN m 2 + inN m 3 + inN m 4 + inN m 5 + inN m 6 := by
  simp only [inUp]
  simp
theorem knownS_len (at' : Int) : ∀ (l : List Stp) (acc : List ByteArray), (knownS at' acc l).length ≤ acc.length + l.length
  | [], acc => Nat.le_refl _
  | s :: l, acc => by
    rw [knownS]
    simp only [List.length_cons]
    split
    · have := knownS_len at' l (acc ++ [s.bd])
      rw [List.length_append] at this; simp at this; omega
    · have := knownS_len at' l acc
      omega
theorem momB_of {at' : Int} (h : 0 ≤ at' ∧ at' ≤ 200) : momB at' = true := inB_true (by omega) (by omega)
theorem fltF_of {rh rr : Int} {l : List Stp} (h1 : 1 ≤ rh ∧ rh ≤ 10) (h2 : 1 ≤ rr ∧ rr ≤ 3) (hl : stepsF l = 0) : fltF rh rr l = 0 := by
  have hr : rulesF rh rr = 0 := by
    unfold rulesF
    rw [if_pos ⟨inB_true (by omega) (by omega), inB_true (by omega) (by omega)⟩]
  unfold fltF; rw [if_pos hr, hl]
theorem bsF_of {rh rr at' st : Int} {l : List Stp} (h1 : 1 ≤ rh ∧ rh ≤ 10) (h2 : 1 ≤ rr ∧ rr ≤ 3) (hl : stepsF l = 0) (ha : 0 ≤ at' ∧ at' ≤ 200) (hs : 1 ≤ st ∧ st ≤ 6) : bsF rh rr l at' st = 0 ∧ bsL rh rr l at' st = inS (runS rh rr at' [] l) st := by
  have h : bsF rh rr l at' st = 0 := by
    unfold bsF mfltF
    rw [fltF_of h1 h2 hl, if_pos rfl, momB_of ha, if_pos rfl, if_pos rfl, if_pos (inB_true hs.1 hs.2)]
  exact ⟨h, by unfold bsL; rw [if_pos h]⟩
theorem bfltF_of {rh rr at' : Int} {l : List Stp} {b : ByteArray} (h1 : 1 ≤ rh ∧ rh ≤ 10) (h2 : 1 ≤ rr ∧ rr ≤ 3) (hl : stepsF l = 0) (ha : 0 ≤ at' ∧ at' ≤ 200) (hb : keyB b = true) : bfltF rh rr l b at' = 0 := by
  unfold bfltF
  rw [fltF_of h1 h2 hl, if_pos rfl, hb, if_pos rfl, momB_of ha, if_pos rfl]
set_option maxHeartbeats 8000000 in
set_option maxRecDepth 100000 in
theorem NoBoard_any (l : List Int) (v : Value) (w : World) (rl : Ints w 0 v l) (hl : ∀ x ∈ l, -9223372036854775808 ≤ x ∧ x ≤ 9223372036854775807) :
    Calls Tryz.prog 4 #[v] w fun e w' => e = .returned (.bool true) ∧ Below w.heap.size w w' := by
  obtain ⟨va, cap, rfl, hc1, hc2⟩ := Ints.form rl
  have hs0 := Str.begin rl hl
  have hb0 := Bl.alloc (Below.refl w.heap.size w) (.cells #[.slice va l.length cap, .int .i64 0] 25)
  clear rl hl
  go_enter Tryz.func4, Tryz.ntmps4
  go_wp2_with fail
  refine (RightRules_any _ 0 _ hs0 (by omega)).mono ?_
  rintro e w1 ⟨rh, rr, rfl, hr1, hr2, hr3, hr4, hs1, hg1⟩
  have hb1 := Below.trans hb0 (Gr.below hg1 (Nat.le_refl _) hb0.size)
  clear hs0 hb0 hg1
  go_wp2_with fail
  refine (RightSteps_any _ _ _ hs1 (by omega)).mono ?_
  rintro e w2 ⟨vx, x, rfl, hO2, hx24, hxok, hx0, hs2, hg2⟩
  have hb2 := Below.trans hb1 (Gr.below hg2 (Nat.le_refl _) hb1.size)
  have HX := Lib.hid (And.intro hxok hx0)
  have hz1 := hb1.size
  have hl1 := hs1.lt
  clear hs1 hb1 hg2 hxok hx0
  go_wp2_with fail
  refine (Range_any _ _ 0 80 _ hs2 (by omega) (by omega) (by omega) (by omega) (by omega)).mono ?_
  rintro e w3 ⟨at', rfl, ⟨ha0, ha1, _⟩, hs3, hg3⟩
  have ha2 := ha1 (by omega)
  have hb3 := Below.trans hb2 (Gr.below hg3 (Nat.le_refl _) hb2.size)
  have hO3 := hO2.grown hg3 (by omega)
  clear hs2 hs3 hb2 hO2 ha1
  obtain ⟨w4, hw4⟩ : ∃ w4, w4 = w3.alloc (.cells #[.int .i64 rh, .int .i64 rr] 27) := ⟨_, rfl⟩
  have hbA : Below w3.heap.size w3 w4 := by rw [hw4]; exact Bl.alloc (Below.refl _ _) _
  have HX4 := Lib.hid (show w4.heap[w3.heap.size]? = some (.cells #[.int .i64 rh, .int .i64 rr] 27 (0, 0)) by rw [hw4]; exact blk_new w3 _)
  have HB4 := Lib.hid (Bl.trans hb3 hbA)
  have HO4 := Lib.hid (hO3.below hbA)
  have hz4 : w3.heap.size < w4.heap.size := blk_lt HX4.out
  clear hO3 hb3 hbA hg3
  obtain ⟨xa, xcap, rfl, _, _⟩ := HO4.out.form
  have HBO := Lib.hid fun (st : Int) (W : World) (h : Below w4.heap.size w4 W) => Boards_any rh rr x at' st (.slice xa x.length xcap) W (by omega) ((HO4.out.below h).rec0) (StpOk.z HX.out.1)
  have HAT := Lib.hid fun (k : ByteArray) (W : World) (h : Below w4.heap.size w4 W) (hk : keyB k = true) => At_any rh rr x k at' (.slice xa x.length xcap) W (by omega) ((HO4.out.below h).rec0) (StpOk.z HX.out.1) (by have := keyB_size hk; omega)
  go_wp2_with fail
  rw [← hw4]
  clear hw4
  go_loopw [7, 29] (fun ov i wr => ∃ (k : Nat) (acc : List ByteArray), k ≤ x.length ∧ i = .int .i64 k ∧ Hid (knownS at' [] x = knownS at' acc (x.drop k)) ∧ acc.length ≤ k ∧ OwnR TS wr w4.heap.size ov acc ∧ Below w4.heap.size w4 wr) (fun _ i _ => x.length - (intOf i).toNat)
  case atStart => exact ⟨0, [], Nat.zero_le _, rfl, Lib.hid rfl, Nat.le_refl _, OwnR.nil _ _, Below.refl _ _⟩
  case round =>
    obtain ⟨k, acc, hk, rfl, HK, hacc, hOv, hb⟩ := hrel
    by_cases hlt : k < x.length
    · obtain ⟨s, hs⟩ : ∃ y, x[k]? = some y := ⟨_, List.getElem?_eq_getElem hlt⟩
      obtain ⟨b1, o1, rfl, _, hbb1, hc1⟩ := ((HO4.out.below hb).rec0).at TSt.ok.len hs TSt.ok.pos
      have HS := Lib.hid hs
      obtain ⟨at1, bs, kd, cs⟩ := s
      have c0 : wr.cell? ⟨b1, o1 + k * 4, none⟩ = some (.int .i64 at1) := hc1 0 _ rfl
      have c1 : wr.cell? ⟨b1, o1 + k * 4 + 1, none⟩ = some (.string bs) := hc1 1 _ rfl
      have c2 : wr.cell? ⟨b1, o1 + k * 4 + 2, none⟩ = some (.int .i64 kd) := hc1 2 _ rfl
      have c3 : wr.cell? ⟨b1, o1 + k * 4 + 3, none⟩ = some (.string cs) := hc1 3 _ rfl
      have hw1 : IntKind.i64.wrap ((k : Int) + 1) = ((k + 1 : Nat) : Int) := by rw [IntWalk.i64_in _ (by omega)]; omega
      have HKN := HK.out.trans (knownS_go HS.out)
      have HKN := Lib.hid HKN
      clear hs hc1
      by_cases hat : at1 ≤ at'
      · have HC := fun W (hO : OwnR TS W w4.heap.size u7 acc) => HasS_any acc u7 bs W (by omega) hO.rec0
        have hOA := Lib.hid (hOv.alloc (.cells #[.int .i64 at1, .string bs, .int .i64 kd, .string cs] 34))
        have hbA := Bl.alloc hb (.cells #[.int .i64 at1, .string bs, .int .i64 kd, .string cs] 34)
        have hXA := blk_new wr (.cells #[.int .i64 at1, .string bs, .int .i64 kd, .string cs] 34)
        cases hcs : Lib.containsS acc bs
        · rw [hcs] at HC
          have HC := Lib.hid HC
          have HK2 : Hid (knownS at' [] x = knownS at' (acc ++ [bs]) (x.drop (k + 1))) := Lib.hid (by rw [HKN.out, if_pos ⟨hat, hcs⟩])
          clear hcs
          have hal : acc.length ≤ 1000000 := by omega
          have hzb := hb.size
          go_wp2_with (first | (go_at_call 20; refine (HC.out _ hOA.out).mono ?_; rintro e w' ⟨rfl, rfl⟩) | (at_builtin; refine wp_app_rec TS.ok rfl _ _ rfl w4.heap.size _ acc rfl (hOA.out.alloc _) (wr.heap.size + 1) 1 bs rfl (blk_new' _ _ (by simp)) rfl hal (by simp; omega) ?_))
          intro v' w5 hO5 hA5 hb5
          have hbx5 : Below w4.heap.size w4 w5 := Below.trans (Bl.alloc hbA _) hb5
          clear hA5 hb5
          go_wp2
          go_roundw
          case rel => exact ⟨k + 1, acc ++ [bs], by omega, by go_num, HK2, by simp; omega, hO5, hbx5⟩
          case measure => simp [intOf]; omega
        · rw [hcs] at HC
          have HC := Lib.hid HC
          have HK2 : Hid (knownS at' [] x = knownS at' acc (x.drop (k + 1))) := Lib.hid (by rw [HKN.out, if_neg (fun h => by rw [show Lib.containsS acc (Stp.bd (at1, bs, kd, cs)) = true from hcs] at h; exact absurd h.2 (by decide))])
          clear hcs
          go_wp2_with (go_at_call 20; refine (HC.out _ (by first | exact hOA.out | exact hOA.out.below (Below.drew (Below.refl _ _)))).mono ?_; rintro e w' ⟨rfl, rfl⟩)
          all_goals (
            go_roundw
            case rel => exact ⟨k + 1, acc, by omega, by go_num, HK2, by omega, hOA.out, hbA⟩
            case measure => simp [intOf]; omega)
      · have HK2 : Hid (knownS at' [] x = knownS at' acc (x.drop (k + 1))) := Lib.hid (by rw [HKN.out, if_neg (fun h => hat h.1)])
        have hOv := Lib.hid (hOv.alloc (.cells #[.int .i64 at1, .string bs, .int .i64 kd, .string cs] 34))
        have hb2 := Bl.alloc hb (.cells #[.int .i64 at1, .string bs, .int .i64 kd, .string cs] 34)
        go_wp2
        go_roundw
        case rel => exact ⟨k + 1, acc, by omega, by go_num, HK2, by omega, hOv.out, hb2⟩
        case measure => simp [intOf]; omega
    · obtain rfl : k = x.length := by omega
      have HKN : Hid (knownS at' [] x = acc) := Lib.hid (by rw [HK.out, List.drop_length]; rfl)
      obtain ⟨wo, rfl⟩ : ∃ wo : World, wo = wr := ⟨_, rfl⟩
      obtain ⟨m, hm⟩ : ∃ m, m = runS rh rr at' [] x := ⟨_, rfl⟩
      have HM := Lib.hid hm
      have HOV := Lib.hid hOv
      clear hm hOv HK
      obtain ⟨na, nc, hue, _, _⟩ := HOV.out.form
      subst hue
      have HSUM := Lib.hid (show inUp m 6 = acc.length by rw [inUp_six, ← HKN.out, HM.out]; exact noBoard_sum HX.out.2)
      go_wp2_with fail
      go_loopw [10, 11] (fun mv sv wr => ∃ n : Nat, n ≤ 6 ∧ mv = .int .i64 (inUp m n : Nat) ∧ sv = .int .i64 ((n : Int) + 1) ∧ Below wo.heap.size wo wr) (fun _ sv _ => 7 - (intOf sv).toNat)
      case atStart => exact ⟨0, by omega, rfl, rfl, Below.refl _ _⟩
      case round =>
        obtain ⟨n, hn, rfl, rfl, hbx⟩ := hrel
        have hbw := Bl.trans hb hbx
        by_cases hn6 : n < 6
        · obtain ⟨st, hst⟩ : ∃ st, st = (n : Int) + 1 := ⟨_, rfl⟩
          have hs1 : 1 ≤ st ∧ st ≤ 6 := by omega
          rw [← hst]
          have HST := Lib.hid hst
          clear hst
          have hle6 : st ≤ 6 := hs1.2
          have HBR := HBO.out st wr hbw
          rw [(bsF_of ⟨hr1, hr2⟩ ⟨hr3, hr4⟩ HX.out.2 ⟨ha0, by omega⟩ hs1).1, (bsF_of ⟨hr1, hr2⟩ ⟨hr3, hr4⟩ HX.out.2 ⟨ha0, by omega⟩ hs1).2, ← HM.out] at HBR
          have HBR := Lib.hid HBR
          have c0 : wr.cell? ⟨w3.heap.size, 0, none⟩ = some (.int .i64 rh) := blk_cell (blk_below HX4.out hbw) 0
          have c1 : wr.cell? ⟨w3.heap.size, 1, none⟩ = some (.int .i64 rr) := blk_cell (blk_below HX4.out hbw) 1
          go_wp2_with fail
          refine HBR.out.mono ?_
          rintro e w5 ⟨⟨v5, rfl, hO5⟩, hb5⟩
          have hst := HST.out
          have HO5 := Lib.hid hO5
          obtain ⟨va5, vc5, hue, _, _⟩ := hO5.form
          subst hue
          have hb05 := Bl.trans hbw hb5
          have hln : ((inS m st).map baOf).length = inN m st := List.length_map _
          have hNs := noBoard_sum (rh := rh) (rr := rr) (at' := at') HX.out.2
          have hks := knownS_len at' x []
          have hmle : inN m st ≤ 24 ∧ inUp m n ≤ 24 := by
            rw [← HM.out] at hNs
            have h6 := inUp_six m
            have hst2 : st = 1 ∨ st = 2 ∨ st = 3 ∨ st = 4 ∨ st = 5 ∨ st = 6 := by omega
            have hn2 : n = 0 ∨ n = 1 ∨ n = 2 ∨ n = 3 ∨ n = 4 ∨ n = 5 := by omega
            simp only [List.length_nil] at hks
            constructor
            · rcases hst2 with e | e | e | e | e | e <;> rw [e] <;> omega
            · rcases hn2 with e | e | e | e | e | e <;> rw [e] <;> simp only [inUp] <;> simp <;> omega
          have hnx : ((inUp m (n + 1) : Nat) : Int) = ((inUp m n : Nat) : Int) + ((inN m st : Nat) : Int) := by rw [inUp, show ((n + 1 : Nat) : Int) = st by omega]; omega
          have HNX := Lib.hid hnx
          rw [hln]
          have HLN := Lib.hid hln
          have hwm : IntKind.i64.wrap (((inUp m n : Nat) : Int) + ((inN m st : Nat) : Int)) = ((inUp m n : Nat) : Int) + ((inN m st : Nat) : Int) := IntWalk.i64_in _ (by omega)
          have hwn : IntKind.i64.wrap (st + 1) = st + 1 := IntWalk.i64_in _ (by omega)
          clear hnx hst hln hNs hks hO5 hs1
          generalize hbn : inN m st = bn at *
          have HBN := Lib.hid hbn.symm
          clear hbn
          generalize hun : inUp m n = un at *
          have HUN := Lib.hid hun.symm
          clear hun
          have hz5 := hb05.size
          go_wp2_with fail
          go_loopw [70] (fun iv wr => ∃ j : Nat, j ≤ bn ∧ iv = .int .i64 j ∧ Below w5.heap.size w5 wr) (fun iv _ => bn - (intOf iv).toNat)
          case atStart => exact ⟨0, Nat.zero_le _, rfl, Below.refl _ _⟩
          case round =>
            obtain ⟨j, hj, rfl, hby⟩ := hrel
            by_cases hjl : j < bn
            · obtain ⟨key, hkey⟩ : ∃ y, (inS m st)[j]? = some y := ⟨_, List.getElem?_eq_getElem (by show j < inN m st; rw [← HBN.out]; exact hjl)⟩
              obtain ⟨b1, o1, rfl, _, _, hx1⟩ := str_at ((HO5.out.below hby).rec0) (k := j) (x := baOf key) (by simp [hkey])
              obtain ⟨b, hg, hbs, hhe, hop3, hop0, hmem⟩ := noBoard_law (rh := rh) (rr := rr) (at' := at') (l := x) (by omega) HX.out.2 (by rw [← HM.out]; exact List.mem_of_getElem? hkey)
              have hkb := (runS_J (rh := rh) (rr := rr) (at' := at') HX.out.2 _ (Sm.get_mem hg)).2
              simp only at hkb
              have HA := HAT.out (baOf key) wr (Bl.trans hb05 hby) hkb
              have hbf := bfltF_of (rh := rh) (rr := rr) ⟨hr1, hr2⟩ ⟨hr3, hr4⟩ HX.out.2 (at' := at') ⟨ha0, by omega⟩ hkb
              rw [cAt_right hbf, bsOf_baOf, hg, hbf] at HA
              simp only [Option.getD_some] at HA
              have HA := Lib.hid HA
              have HCO := HasS_any acc (.slice na acc.length nc) (baOf key)
              rw [(Lib.containsS_iff _ _).2 (by rw [← HKN.out]; exact hmem)] at HCO
              have HCO := Lib.hid fun W (hW : Below w5.heap.size w5 W) => HCO W (by omega) (((HOV.out.below hbx).below hb5).below hW).rec0
              have c0 : wr.cell? ⟨w3.heap.size, 0, none⟩ = some (.int .i64 rh) := blk_cell (blk_below HX4.out (Bl.trans hb05 hby)) 0
              have c1 : wr.cell? ⟨w3.heap.size, 1, none⟩ = some (.int .i64 rr) := blk_cell (blk_below HX4.out (Bl.trans hb05 hby)) 1
              clear hg hkey hmem hkb hbf
              obtain ⟨q, hq⟩ : ∃ q, q = b.op.length := ⟨_, rfl⟩
              rw [← hq] at hop3 hop0
              go_wp2_with fail
              refine HA.out.mono ?_
              rintro e w6 ⟨⟨v6, rfl, hC6, _⟩, hb6⟩
              obtain ⟨a6, c6, hv6, _, _⟩ := hC6.form
              rw [List.length_map, keys_len, ← hq] at hv6
              subst hv6
              have hby6 := Below.trans hby (hb6.mono hby.size)
              have hB7 := Lib.hid (Bl.alloc hby6 (.cells #[.int .i64 b.st, .int .i64 b.si, .int .i64 b.he, .slice a6 q c6] 46))
              have r0 : w6.cell? ⟨w3.heap.size, 0, none⟩ = some (.int .i64 rh) := blk_cell (blk_below HX4.out (Bl.trans hb05 hby6)) 0
              have lr := World.block_lt_of_cell? _ _ r0
              simp only at lr
              have hwj : IntKind.i64.wrap ((j : Int) + 1) = ((j + 1 : Nat) : Int) := by rw [IntWalk.i64_in _ (by omega)]; omega
              obtain ⟨bst, bsi, bhe, bop, brp, blp⟩ := b
              simp only at hbs hhe hop3 hop0 hB7
              subst hbs
              have hnh : ¬ rh < bhe := by omega
              unfold condV
              clear hC6 hb6 hq
              have hcase : (bst = 3 ∧ 0 < q) ∨ (bst = 5 ∧ 0 < q) ∨ (bst ≠ 3 ∧ q = 0) := by
                rcases Nat.eq_zero_or_pos q with h0 | h0
                · exact .inr (.inr ⟨fun h => by have := hop3 h; omega, h0⟩)
                · by_cases h3 : bst = 3
                  · exact .inl ⟨h3, h0⟩
                  · by_cases h5 : bst = 5
                    · exact .inr (.inl ⟨h5, h0⟩)
                    · have := hop0 h3 h5; omega
              clear hop3 hop0
              rcases hcase with ⟨rfl, hq⟩ | ⟨rfl, hq⟩ | ⟨h3, rfl⟩
              · have hq1 : (0 : Int) < (q : Int) := by omega
                go_wp2_with (go_at_call 20; refine (HCO.out _ hB7.out).mono ?_; rintro e w' ⟨rfl, rfl⟩)
                go_roundw
                case rel => exact ⟨j + 1, by omega, by go_num, hB7.out⟩
                case measure => simp [intOf]; omega
              · have hq1 : (0 : Int) < (q : Int) := by omega
                go_wp2_with (go_at_call 20; refine (HCO.out _ hB7.out).mono ?_; rintro e w' ⟨rfl, rfl⟩)
                go_roundw
                case rel => exact ⟨j + 1, by omega, by go_num, hB7.out⟩
                case measure => simp [intOf]; omega
              · have h31 : (bst == 3) = false := by simpa using h3
                go_wp2_with (go_at_call 20; refine (HCO.out _ hB7.out).mono ?_; rintro e w' ⟨rfl, rfl⟩)
                go_roundw
                case rel => exact ⟨j + 1, by omega, by go_num, hB7.out⟩
                case measure => simp [intOf]; omega
            · obtain rfl : j = bn := by omega
              have hbz := Below.trans (Below.trans hbx (hb5.mono hbx.size)) (hby.mono (Nat.le_trans hbx.size hb5.size))
              go_wp2
              go_roundw
              case rel => exact ⟨n + 1, by omega, by rw [HNX.out], by have := HST.out; go_num, hbz⟩
              case measure => have := HST.out; simp [intOf]; omega
        · obtain rfl : n = 6 := by omega
          have hsum := HSUM.out
          have hbw6 := Lib.hid (Bl.trans HB4.out hbw)
          rw [hsum]
          go_wp2_with (go_at_call 19; refine (ready_any _).mono ?_; rintro e w9 ⟨rfl, hb9⟩)
          go_ret
          exact ⟨rfl, Bl.trans hbw6.out hb9⟩
end Go.Proofs.YtnmimagninhkkaaGreatDoor
