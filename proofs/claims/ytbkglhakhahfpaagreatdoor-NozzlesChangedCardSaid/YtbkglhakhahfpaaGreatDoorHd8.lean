/- The contract of tour.steps at the two closures that are handed to it; of tour.Changes and tour.Held. Conditions: one to eight holders, at most 2000 kinds. · The contract of tour.steps at the closure of tour.Held; of tour.Held. Conditions: as in the text on tour.Changes. -/
import Derived.Test.YtbkglhakhahfpaaGreatDoorHd3
namespace Go.Proofs.YtbkglhakhahfpaaGreatDoor
open Go.RowKit Go.Sort

set_option maxHeartbeats 400000 in
theorem changes1_any (v : Value) (w : World) : Calls Tryz.prog 123 #[v] w fun e w' => e = .returned (.tuple #[]) ∧ w = w' := by
  go_enter Tryz.func123, Tryz.ntmps123
  go_wp2
  go_end0
  exact ⟨rfl, rfl⟩
/-- what is held, sorted, after each component. -/
def heldL (h : Nat) (ks : List Nm) (n : Nat) : List (List Nm) := (List.range n).map fun i => sortN (atH nlt h ks (i + 1))
theorem heldL_succ (h : Nat) (ks : List Nm) (n : Nat) : heldL h ks (n + 1) = heldL h ks n ++ [sortN (atH nlt h ks (n + 1))] := by unfold heldL; rw [List.range_succ, List.map_append]; rfl
theorem heldL_len (h : Nat) (ks : List Nm) (n : Nat) : (heldL h ks n).length = n := by unfold heldL; simp
theorem setB {w : World} {g j : Nat} {u : Value} {r : Option Nat} (hr : r = some g) : w.grownBy (w.setCell ⟨g, j, none⟩ u) r := by subst hr; exact Gr.set (Gr.refl _ _) _ _ (.inl rfl) _
set_option maxHeartbeats 8000000 in
set_option maxRecDepth 100000 in
theorem stepsC_any (ks : List Nm) (h : Nat) (vk : Value) (w : World) (h1 : 1 ≤ h) (h8 : h ≤ 8) (hlen : ks.length ≤ 2000) (rk : RecR TS w 0 vk ks) :
    Calls Tryz.prog 122 #[vk, .int .i64 h, .func (.func 123) #[] #[]] w fun e w' => e = .returned (.int .i64 (chgH nlt h [] ks)) ∧ Below w.heap.size w w' := by
  obtain ⟨ka, kcap, rfl, hk1, hk2⟩ := rk.form
  have HK := Lib.hid (show ∀ wr, Below w.heap.size w wr → RecR TS wr 0 (.slice ka ks.length kcap) ks from fun wr hb => rk.below hb)
  clear rk
  go_enter Tryz.func122, Tryz.ntmps122
  go_wp2
  go_loopw [7, 8, 13] (fun v c i wr => ∃ k : Nat, k ≤ ks.length ∧ i = .int .i64 k ∧ c = .int .i64 (chgTo nlt h ks k) ∧ OwnR TS wr w.heap.size v (atH nlt h ks k) ∧ Below w.heap.size w wr ∧ w.heap.size ≤ wr.heap.size) (fun _ _ i _ => ks.length - (intOf i).toNat)
  case atStart => exact ⟨0, Nat.zero_le _, rfl, rfl, OwnR.nil _ _, Below.refl _ _, Nat.le_refl _⟩
  case round =>
    obtain ⟨k, hk, rfl, rfl, hO, hb, hz⟩ := hrel
    by_cases hlt : k < ks.length
    · obtain ⟨x, hx⟩ : ∃ x, ks[k]? = some x := ⟨_, List.getElem?_eq_getElem hlt⟩
      have HA := Lib.hid (atH_succ nlt (h := h) hx)
      have HC := Lib.hid (chgTo_succ nlt (h := h) hx)
      have hH := (atH_ok nlt nlt_names h1 ks k).le
      have hcl := chgTo_le nlt h ks k
      have rkr := HK.out wr hb
      obtain ⟨b2, o2, hae, _, hl2, hx2⟩ := strs_at rkr hx
      subst hae
      have HD := Lib.hid (strs_drop rkr (show k + 1 ≤ ks.length by omega))
      generalize atH nlt h ks k = cur at *
      generalize chgTo nlt h ks k = cc at *
      obtain ⟨ca, ccap, rfl, hcc1, hcc2⟩ := hO.form
      have HCO := Lib.hid (ContainsS_any cur _ x wr (by omega) hO.rec0)
      have hw1 : IntKind.i64.wrap ((k : Int) + 1) = ((k + 1 : Nat) : Int) := by rw [IntWalk.i64_in _ (by omega)]; omega
      have hw2 : IntKind.i64.wrap ((cc : Int) + 1) = ((cc + 1 : Nat) : Int) := by rw [IntWalk.i64_in _ (by omega)]; omega
      clear hx rkr
      by_cases c1 : x ∈ cur
      · have HN : Hid (atH nlt h ks (k + 1) = cur) := Lib.hid (by rw [HA.out]; unfold stepH; rw [if_pos c1])
        have HCN : Hid (chgTo nlt h ks (k + 1) = cc) := Lib.hid (by rw [HC.out]; unfold missH; rw [if_pos c1]; rfl)
        rw [(Lib.containsS_iff _ _).2 c1] at HCO
        clear c1 HA HC HD
        go_wp2_with fail
        refine HCO.out.mono ?_
        rintro e w' ⟨rfl, rfl⟩
        go_wp2_with fail
        refine (changes1_any _ wr).mono ?_
        rintro e w2 ⟨rfl, rfl⟩
        go_wp2
        go_roundw
        case rel => exact ⟨k + 1, by omega, by go_num, by rw [HCN.out], by rw [HN.out]; exact hO, hb, hz⟩
        case measure => simp [intOf]; omega
      · rw [show Lib.containsS cur x = false by rw [← Bool.not_eq_true, Lib.containsS_iff]; exact c1] at HCO
        have HCN : Hid (chgTo nlt h ks (k + 1) = cc + 1) := Lib.hid (by rw [HC.out]; unfold missH; rw [if_neg c1])
        by_cases c2 : cur.length < h
        · have HN : Hid (atH nlt h ks (k + 1) = cur ++ [x]) := Lib.hid (by rw [HA.out]; unfold stepH; rw [if_neg c1, if_pos c2])
          have c2' : ((cur.length : Nat) : Int) < (h : Int) := by omega
          clear c1 HA HC HD
          go_wp2_with fail
          refine HCO.out.mono ?_
          rintro e w' ⟨rfl, rfl⟩
          go_wp2_with (at_builtin; refine wp_app_rec_at TS.ok rfl _ _ rfl w.heap.size _ cur rfl (hO.alloc _) wr.heap.size 1 x rfl (blk_new wr _) rfl (by omega) (by simp; omega) ?_)
          intro v3 w3 hO3 hg3 hb3 hat
          have hgr := Gr.trans (Gr.alloc (Gr.refl wr (Value.slice ca cur.length ccap).ownBlock) (.cells #[.string x] 9)) hg3
          have hbz : Below w.heap.size wr w3 := Below.trans (Below.alloc (Below.refl _ wr) hz _) hb3
          have hz3 : w.heap.size ≤ w3.heap.size := Nat.le_trans hz hbz.size
          obtain ⟨da, dcap, hv3, hd1, hd2⟩ := hO3.form
          rw [List.length_append, List.length_singleton] at hv3
          subst hv3
          clear hat hg3 hgr
          go_wp2_with fail
          refine (changes1_any _ w3).mono ?_
          rintro e w4 ⟨rfl, rfl⟩
          go_wp2
          go_roundw
          case rel => exact ⟨k + 1, by omega, by go_num, by rw [HCN.out]; go_num, by rw [HN.out]; exact hO3, hb.trans hbz, hz3⟩
          case measure => simp [intOf]; omega
        · have hc0 : cur ≠ [] := by intro e; rw [e] at c2; simp at c2; omega
          obtain ⟨y, hy, _⟩ := vic_ok nlt nlt_names (ks.drop (k + 1)) hc0
          have hj := (List.getElem?_eq_some_iff.1 hy).1
          have HN : Hid (atH nlt h ks (k + 1) = cur.set (vic nlt (ks.drop (k + 1)) cur) x) := Lib.hid (by rw [HA.out]; unfold stepH; rw [if_neg c1, if_neg c2])
          have HV := Lib.hid (fun v (hv : RecR TS wr 0 v (ks.drop (k + 1))) => victim_any cur (ks.drop (k + 1)) _ v wr hc0 (by simp; omega) (by omega) hO.rec0 hv)
          have HDn := Lib.hid (show ∀ a m, m = 0 → ks.length ≤ k + 1 → RecR TS wr 0 (.slice a m 0) (ks.drop (k + 1)) from fun a m hm hl => ⟨a, 0, by rw [List.length_drop, hm]; congr 1; omega, by rw [List.length_drop]; omega, by omega, fun j x hj => by rw [List.drop_of_length_le hl] at hj; simp at hj⟩)
          obtain ⟨g, cap', cur', hvv, hg1, hgb, hcap, _, _, _⟩ := OwnR.blk hO hc0
          injection hvv with hva _ hvc
          subst hva hvc
          obtain ⟨b3, o3, hae, _, _, k1⟩ := strs_at hO.rec hy
          injection hae with hae; injection hae with e3 e4 _; subst e3 e4
          have f1 := OwnS.free hO rfl (vic nlt (ks.drop (k + 1)) cur)
          generalize vic nlt (ks.drop (k + 1)) cur = j at *
          rw [Nat.zero_add] at k1
          have c2' : ¬ ((cur.length : Nat) : Int) < (h : Int) := by omega
          have hjI : ((j : Nat) : Int) < ((cur.length : Nat) : Int) := by omega
          have hkI : ((k + 1 : Nat) : Int) ≤ ((ks.length : Nat) : Int) := by omega
          have hO3 := OwnS.set hO rfl j x
          have hgr : wr.grownBy (wr.setCell ⟨g, j, none⟩ (.string x)) (Value.slice (some ⟨g, 0, none⟩) cur.length ccap).ownBlock := setB rfl
          have hbz : Below w.heap.size wr (wr.setCell ⟨g, j, none⟩ (.string x)) := Bl.set (Below.refl _ _) g j hg1 _
          have hz3 : w.heap.size ≤ (wr.setCell ⟨g, j, none⟩ (.string x)).heap.size := Nat.le_trans hz hbz.size
          have hl3 : (cur.set j x).length = cur.length := List.length_set
          clear c1 HA HC hy hgr hgb
          go_wp2_with fail
          refine HCO.out.mono ?_
          rintro e w' ⟨rfl, rfl⟩
          go_wp2_with fail
          case' inl =>
            rw [← h]
            have HKC := Lib.hid h
            clear h
          all_goals (
            refine (HV.out _ (by first | exact HD.out | exact HDn.out _ _ (by omega) (by have := HKC.out; omega))).mono ?_
            rintro e w' ⟨rfl, rfl⟩
            go_wp2_with fail
            generalize wr.setCell ⟨g, j, none⟩ (.string x) = w3 at *
            refine (changes1_any _ w3).mono ?_
            rintro e w4 ⟨rfl, rfl⟩
            go_wp2
            go_roundw
            case rel => exact ⟨k + 1, by omega, by go_num, by rw [HCN.out]; go_num, by rw [HN.out]; exact hO3, hb.trans hbz, hz3⟩
            case measure => simp [intOf]; omega)
    · obtain rfl : k = ks.length := by omega
      have HE := Lib.hid (chgTo_all nlt h ks)
      go_wp2
      go_ret
      exact ⟨ret_int (by rw [HE.out]), hb⟩
set_option maxHeartbeats 2000000 in
theorem Changes_any (ks : List Nm) (h : Nat) (vk : Value) (w : World) (hF : kindF ks h = 0) (hs : ∀ s ∈ ks, s.size ≤ 1000) (rk : RecR TS w 0 vk ks) :
    Calls Tryz.prog 31 #[vk, .int .i64 h] w fun e w' => e = .returned (.tuple #[.int .i64 (chgH nlt h [] ks), .int .i64 0]) ∧ Below w.heap.size w w' := by
  obtain ⟨⟨q1, q2⟩, q3⟩ := kindF_zero hF
  obtain ⟨ka, kcap, rfl, hk1, hk2⟩ := rk.form
  have HF := Lib.hid (kindsFault_any ks h _ w (by omega) hs rk)
  rw [hF] at HF
  have HS := Lib.hid (show ∀ W, Below w.heap.size w W → _ from fun W hW => stepsC_any ks h _ W (by omega) (by omega) q3 (rk.below hW))
  clear rk hs hF
  go_enter Tryz.func31, Tryz.ntmps31
  go_wp2_with fail
  refine HF.out.mono ?_
  rintro e w1 ⟨rfl, hb1⟩
  go_wp2_with fail
  refine (HS.out w1 hb1).mono ?_
  rintro e w2 ⟨rfl, hb2⟩
  go_wp2
  go_ret2
  exact ⟨rfl, Bl.trans hb1 hb2⟩
end Go.Proofs.YtbkglhakhahfpaaGreatDoor
namespace Go.Proofs.YtbkglhakhahfpaaGreatDoor
open Go.RowKit Go.Sort

set_option maxHeartbeats 8000000 in
set_option maxRecDepth 100000 in
theorem stepsH_any (ks : List Nm) (h : Nat) (vk : Value) (Bo : Nat) (w : World) (h1 : 1 ≤ h) (h8 : h ≤ 8) (hlen : ks.length ≤ 2000) (rk : RecR TS w 0 vk ks) (hkb : ks ≠ [] → ∀ a n c, vk = .slice (some a) n c → a.block < Bo) (hBo : w.heap[Bo]? = some (.cells #[.slice none 0 0] 65 (0, 0))) :
    Calls Tryz.prog 122 #[vk, .int .i64 h, .func (.func 124) #[] #[.pointer (some ⟨Bo, 0, none⟩)]] w fun e w' => e = .returned (.int .i64 (chgH nlt h [] ks)) ∧ (∃ r, HeldAt w.heap.size Bo r (heldL h ks ks.length) w') ∧ Below Bo w w' := by
  obtain ⟨ka, kcap, rfl, hk1, hk2⟩ := rk.form
  have HK := Lib.hid (show ∀ wr, Below Bo w wr → RecR TS wr 0 (.slice ka ks.length kcap) ks from fun wr hb => rk.held (fun h0 b hb' => hkb h0 b _ _ (by rw [hb'])) hb)
  have hBo0 := blk_lt hBo
  have HS := Lib.hid fun r => HeldAt.start (B := w.heap.size) hBo r
  clear hkb hBo
  clear rk
  go_enter Tryz.func122, Tryz.ntmps122
  go_wp2
  go_loopw [7, 8, 13] (fun v c i wr => ∃ k : Nat, k ≤ ks.length ∧ i = .int .i64 k ∧ c = .int .i64 (chgTo nlt h ks k) ∧ OwnR TS wr w.heap.size v (atH nlt h ks k) ∧ HeldAt w.heap.size Bo v.ownBlock (heldL h ks k) wr ∧ Below Bo w wr ∧ w.heap.size ≤ wr.heap.size) (fun _ _ i _ => ks.length - (intOf i).toNat)
  case atStart => exact ⟨0, Nat.zero_le _, rfl, rfl, OwnR.nil _ _, HS.out _, Below.refl _ _, Nat.le_refl _⟩
  case round =>
    obtain ⟨k, hk, rfl, rfl, hO, hI, hb, hz⟩ := hrel
    by_cases hlt : k < ks.length
    · obtain ⟨x, hx⟩ : ∃ x, ks[k]? = some x := ⟨_, List.getElem?_eq_getElem hlt⟩
      have HA := Lib.hid (atH_succ nlt (h := h) hx)
      have HC := Lib.hid (chgTo_succ nlt (h := h) hx)
      have hH := (atH_ok nlt nlt_names h1 ks k).le
      have hcl := chgTo_le nlt h ks k
      have rkr := HK.out wr hb
      obtain ⟨b2, o2, hae, _, hl2, hx2⟩ := strs_at rkr hx
      subst hae
      have HD := Lib.hid (strs_drop rkr (show k + 1 ≤ ks.length by omega))
      have HH := Lib.hid (heldL_succ h ks k)
      have hhl := heldL_len h ks k
      generalize heldL h ks k = hs at *
      generalize atH nlt h ks k = cur at *
      generalize chgTo nlt h ks k = cc at *
      obtain ⟨ca, ccap, rfl, hcc1, hcc2⟩ := hO.form
      have HCO := Lib.hid (ContainsS_any cur _ x wr (by omega) hO.rec0)
      have hw1 : IntKind.i64.wrap ((k : Int) + 1) = ((k + 1 : Nat) : Int) := by rw [IntWalk.i64_in _ (by omega)]; omega
      have hw2 : IntKind.i64.wrap ((cc : Int) + 1) = ((cc + 1 : Nat) : Int) := by rw [IntWalk.i64_in _ (by omega)]; omega
      clear hx rkr
      by_cases c1 : x ∈ cur
      · have HN : Hid (atH nlt h ks (k + 1) = cur) := Lib.hid (by rw [HA.out]; unfold stepH; rw [if_pos c1])
        have HCN : Hid (chgTo nlt h ks (k + 1) = cc) := Lib.hid (by rw [HC.out]; unfold missH; rw [if_pos c1]; rfl)
        rw [(Lib.containsS_iff _ _).2 c1] at HCO
        clear c1 HA HC HD
        go_wp2_with fail
        refine HCO.out.mono ?_
        rintro e w' ⟨rfl, rfl⟩
        go_wp2_with fail
        refine (held1_any w.heap.size Bo hs cur _ wr hI hO (by omega) (by omega) hBo0 hz).mono ?_
        rintro e w2 ⟨rfl, hI2, hO2, hb2⟩
        go_wp2
        go_roundw
        case rel => exact ⟨k + 1, by omega, by go_num, by rw [HCN.out], by rw [HN.out]; exact hO2, by rw [HH.out, HN.out]; exact hI2, hb.trans hb2, Nat.le_trans hz hb2.size⟩
        case measure => simp [intOf]; omega
      · rw [show Lib.containsS cur x = false by rw [← Bool.not_eq_true, Lib.containsS_iff]; exact c1] at HCO
        have HCN : Hid (chgTo nlt h ks (k + 1) = cc + 1) := Lib.hid (by rw [HC.out]; unfold missH; rw [if_neg c1])
        by_cases c2 : cur.length < h
        · have HN : Hid (atH nlt h ks (k + 1) = cur ++ [x]) := Lib.hid (by rw [HA.out]; unfold stepH; rw [if_neg c1, if_pos c2])
          have c2' : ((cur.length : Nat) : Int) < (h : Int) := by omega
          clear c1 HA HC HD
          go_wp2_with fail
          refine HCO.out.mono ?_
          rintro e w' ⟨rfl, rfl⟩
          go_wp2_with (at_builtin; refine wp_app_rec_at TS.ok rfl _ _ rfl w.heap.size _ cur rfl (hO.alloc _) wr.heap.size 1 x rfl (blk_new wr _) rfl (by omega) (by simp; omega) ?_)
          intro v3 w3 hO3 hg3 hb3 hat
          have hgr := Gr.trans (Gr.alloc (Gr.refl wr (Value.slice ca cur.length ccap).ownBlock) (.cells #[.string x] 9)) hg3
          have hbz : Below w.heap.size wr w3 := Below.trans (Below.alloc (Below.refl _ wr) hz _) hb3
          have hz3 : w.heap.size ≤ w3.heap.size := Nat.le_trans hz hbz.size
          have hI3 := hI.move (r' := v3.ownBlock) hO hBo0 hgr (hat.imp id fun h => ⟨_, h, by simp⟩)
          obtain ⟨da, dcap, hv3, hd1, hd2⟩ := hO3.form
          rw [List.length_append, List.length_singleton] at hv3
          subst hv3
          clear hat hg3 hgr
          go_wp2_with fail
          refine (held1_any w.heap.size Bo hs (cur ++ [x]) _ w3 hI3 hO3 (by simp; omega) (by omega) hBo0 hz3).mono ?_
          rintro e w4 ⟨rfl, hI4, hO4, hb4⟩
          go_wp2
          go_roundw
          case rel => exact ⟨k + 1, by omega, by go_num, by rw [HCN.out]; go_num, by rw [HN.out]; exact hO4, by rw [HH.out, HN.out]; exact hI4, hb.trans ((hbz.mono (by omega)).trans hb4), Nat.le_trans hz3 hb4.size⟩
          case measure => simp [intOf]; omega
        · have hc0 : cur ≠ [] := by intro e; rw [e] at c2; simp at c2; omega
          obtain ⟨y, hy, _⟩ := vic_ok nlt nlt_names (ks.drop (k + 1)) hc0
          have hj := (List.getElem?_eq_some_iff.1 hy).1
          have HN : Hid (atH nlt h ks (k + 1) = cur.set (vic nlt (ks.drop (k + 1)) cur) x) := Lib.hid (by rw [HA.out]; unfold stepH; rw [if_neg c1, if_neg c2])
          have HV := Lib.hid (fun v (hv : RecR TS wr 0 v (ks.drop (k + 1))) => victim_any cur (ks.drop (k + 1)) _ v wr hc0 (by simp; omega) (by omega) hO.rec0 hv)
          have HDn := Lib.hid (show ∀ a m, m = 0 → ks.length ≤ k + 1 → RecR TS wr 0 (.slice a m 0) (ks.drop (k + 1)) from fun a m hm hl => ⟨a, 0, by rw [List.length_drop, hm]; congr 1; omega, by rw [List.length_drop]; omega, by omega, fun j x hj => by rw [List.drop_of_length_le hl] at hj; simp at hj⟩)
          obtain ⟨g, cap', cur', hvv, hg1, hgb, hcap, _, _, _⟩ := OwnR.blk hO hc0
          injection hvv with hva _ hvc
          subst hva hvc
          obtain ⟨b3, o3, hae, _, _, k1⟩ := strs_at hO.rec hy
          injection hae with hae; injection hae with e3 e4 _; subst e3 e4
          have f1 := OwnS.free hO rfl (vic nlt (ks.drop (k + 1)) cur)
          generalize vic nlt (ks.drop (k + 1)) cur = j at *
          rw [Nat.zero_add] at k1
          have c2' : ¬ ((cur.length : Nat) : Int) < (h : Int) := by omega
          have hjI : ((j : Nat) : Int) < ((cur.length : Nat) : Int) := by omega
          have hkI : ((k + 1 : Nat) : Int) ≤ ((ks.length : Nat) : Int) := by omega
          have hO3 := OwnS.set hO rfl j x
          have hgr : wr.grownBy (wr.setCell ⟨g, j, none⟩ (.string x)) (Value.slice (some ⟨g, 0, none⟩) cur.length ccap).ownBlock := setB rfl
          have hbz : Below w.heap.size wr (wr.setCell ⟨g, j, none⟩ (.string x)) := Bl.set (Below.refl _ _) g j hg1 _
          have hz3 : w.heap.size ≤ (wr.setCell ⟨g, j, none⟩ (.string x)).heap.size := Nat.le_trans hz hbz.size
          have hI3 := hI.move (r' := (Value.slice (some ⟨g, 0, none⟩) cur.length ccap).ownBlock) hO hBo0 hgr (.inl rfl)
          have hl3 : (cur.set j x).length = cur.length := List.length_set
          clear c1 HA HC hy hgr hgb
          go_wp2_with fail
          refine HCO.out.mono ?_
          rintro e w' ⟨rfl, rfl⟩
          go_wp2_with fail
          case' inl =>
            rw [← h]
            have HKC := Lib.hid h
            clear h
          all_goals (
            refine (HV.out _ (by first | exact HD.out | exact HDn.out _ _ (by omega) (by have := HKC.out; omega))).mono ?_
            rintro e w' ⟨rfl, rfl⟩
            go_wp2_with fail
            generalize wr.setCell ⟨g, j, none⟩ (.string x) = w3 at *
            refine (held1_any w.heap.size Bo hs (cur.set j x) _ w3 hI3 hO3 (by omega) (by omega) hBo0 hz3).mono ?_
            rintro e w4 ⟨rfl, hI4, hO4, hb4⟩
            go_wp2
            go_roundw
            case rel => exact ⟨k + 1, by omega, by go_num, by rw [HCN.out]; go_num, by rw [HN.out]; exact hO4, by rw [HH.out, HN.out]; exact hI4, hb.trans ((hbz.mono (by omega)).trans hb4), Nat.le_trans hz3 hb4.size⟩
            case measure => simp [intOf]; omega)
    · obtain rfl : k = ks.length := by omega
      have HE := Lib.hid (chgTo_all nlt h ks)
      go_wp2
      go_ret
      exact ⟨ret_int (by rw [HE.out]), ⟨_, hI⟩, hb⟩
/-- a row of slices of names: each in a block of its own. -/
structure RowsN (B : Nat) (v : Value) (hs : List (List Nm)) (W : World) : Prop where
  ex : ∃ sls, OwnR TL W B v sls ∧ sls.length = hs.length ∧ (∀ (j : Nat) (s : Sl3) (h : List Nm), sls[j]? = some s → hs[j]? = some h → OwnR TS W B (slV s) h) ∧
    (∀ (i j : Nat) (s t : Sl3), i < j → sls[i]? = some s → sls[j]? = some t → (slV s).ownBlock = none ∨ (slV s).ownBlock ≠ (slV t).ownBlock)
set_option maxHeartbeats 2000000 in
theorem Held_any (ks : List Nm) (h : Nat) (vk : Value) (w : World) (hF : kindF ks h = 0) (hs : ∀ s ∈ ks, s.size ≤ 1000) (rk : RecR TS w 0 vk ks) :
    Calls Tryz.prog 32 #[vk, .int .i64 h] w fun e w' => (∃ v, e = .returned (.tuple #[v, .int .i64 0]) ∧ RowsN w.heap.size v (heldL h ks ks.length) w') ∧ Below w.heap.size w w' := by
  obtain ⟨⟨q1, q2⟩, q3⟩ := kindF_zero hF
  obtain ⟨ka, kcap, rfl, hk1, hk2⟩ := rk.form
  have HF := Lib.hid (kindsFault_any ks h _ w (by omega) hs rk)
  rw [hF] at HF
  have HS := Lib.hid (show ∀ W, Below w.heap.size w W → ∀ V, V = W.alloc (.cells #[.slice none 0 0] 65) → _ from fun W hW V hV => stepsH_any ks h _ W.heap.size V (by omega) (by omega) q3 (by rw [hV]; exact (rk.below hW).alloc _) (fun h0 a n c e => by
    obtain ⟨x, hx⟩ : ∃ x, ks[0]? = some x := ⟨_, List.getElem?_eq_getElem (List.length_pos_iff.2 h0)⟩
    obtain ⟨b, o, hae, _, hlt, _⟩ := strs_at (rk.below hW) hx
    injection e with e1 _ _
    rw [hae] at e1
    injection e1 with e1
    rw [← e1]
    exact hlt) (by rw [hV]; exact blk_new W _))
  clear rk hs hF
  have hmf : ∀ (fn : Fn) (first cap : Array Value) (w : World), (Instr.makeFunc fn first cap).run Tryz.prog w = .ok (.func fn first cap) w := fun _ _ _ _ => rfl
  go_enter Tryz.func32, Tryz.ntmps32
  go_wp2_with fail
  refine HF.out.mono ?_
  rintro e w1 ⟨rfl, hb1⟩
  have hb1a := Bl.alloc hb1 (.cells #[.slice none 0 0] 65)
  go_wp2_with fail
  refine (HS.out w1 hb1 _ rfl).mono ?_
  rintro e w2 ⟨rfl, ⟨r, hI⟩, hb2⟩
  obtain ⟨v, sls, hb, hv, hl, h1, h2⟩ := hI.ex
  have hc := blk_cell hb 0
  obtain ⟨va, vcap, rfl, _, _⟩ := hv.form
  have HL := Lib.hid hl
  clear hl
  go_wp2
  go_ret2
  exact ⟨⟨_, rfl, ⟨sls, hv.base hb1a.size, HL.out, fun j s x hs' hx => (h1 j s x hs' hx).1.base hb1a.size, h2⟩⟩, hb1.trans ((Bl.alloc (Below.refl _ _) _).trans hb2 |>.mono hb1.size)⟩
end Go.Proofs.YtbkglhakhahfpaaGreatDoor
