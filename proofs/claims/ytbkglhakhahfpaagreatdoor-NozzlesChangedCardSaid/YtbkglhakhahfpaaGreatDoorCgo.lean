/- The contract of ChangesOf: what it finds among all ways is what the program counts. Conditions: at most 100 kinds, 1 to 8 holders. -/
import Derived.Test.YtbkglhakhahfpaaGreatDoorHol
import Derived.Deep.RegionHeld2
import Derived.Laws.EntriesVeiled
namespace Go.Proofs.YtbkglhakhahfpaaGreatDoor
open Go.RowKit Go.Sort

/-- the least of the first ones, as a loop finds it. -/
def leastTo (f : Nat → Nat) : Nat → Int
  | 0 => -1
  | k + 1 => if leastTo f k < 0 ∨ (f k : Int) < leastTo f k then (f k : Int) else leastTo f k
theorem leastTo_ok (f : Nat → Nat) : ∀ n, 1 ≤ n → (∃ j, j < n ∧ leastTo f n = (f j : Int)) ∧ ∀ j, j < n → leastTo f n ≤ (f j : Int)
  | 0, h => by omega
  | 1, _ => by
    refine ⟨⟨0, by omega, ?_⟩, fun j hj => ?_⟩
    · simp [leastTo]
    · obtain rfl : j = 0 := by omega
      simp [leastTo]
  | n + 2, _ => by
    obtain ⟨⟨j, hj, e⟩, h2⟩ := leastTo_ok f (n + 1) (by omega)
    rw [leastTo]
    by_cases c : leastTo f (n + 1) < 0 ∨ (f (n + 1) : Int) < leastTo f (n + 1)
    · rw [if_pos c]
      refine ⟨⟨n + 1, by omega, rfl⟩, fun i hi => ?_⟩
      rcases Nat.lt_or_ge i (n + 1) with h | h
      · have := h2 i h; omega
      · obtain rfl : i = n + 1 := by omega
        omega
    · rw [if_neg c]
      refine ⟨⟨j, by omega, e⟩, fun i hi => ?_⟩
      rcases Nat.lt_or_ge i (n + 1) with h | h
      · exact h2 i h
      · obtain rfl : i = n + 1 := by omega
        omega
theorem leastTo_min (g : Nat → Nat) (n : Nat) (hn : 1 ≤ n) : leastTo (fun j => 1 + g j) n = ((1 + (((List.range n).map g).min?.getD 0) : Nat) : Int) := by
  obtain ⟨⟨j, hj, e⟩, h2⟩ := leastTo_ok (fun j => 1 + g j) n hn
  obtain ⟨m, hm⟩ : ∃ m, ((List.range n).map g).min? = some m := by
    cases h : ((List.range n).map g).min? with
    | none => rw [List.min?_eq_none_iff] at h; have := congrArg List.length h; simp at this; omega
    | some m => exact ⟨m, rfl⟩
  obtain ⟨h3, h4⟩ := List.min?_eq_some_iff.1 hm
  rw [hm, Option.getD_some, e]
  obtain ⟨i, hi, rfl⟩ := List.mem_map.1 h3
  have := h2 i (List.mem_range.1 hi)
  have := h4 (g j) (List.mem_map.2 ⟨j, List.mem_range.2 hj, rfl⟩)
  omega
theorem chgH_few (h : Nat) : ∀ (ks : List Nm) (c : List Nm), chgH nlt h c ks ≤ ks.length
  | [], _ => Nat.le_refl _
  | k :: r, c => by
    have := chgH_few h r (stepH nlt h c k r)
    simp only [chgH, List.length_cons]
    unfold missH
    split <;> omega
theorem optH_few {h : Nat} (h1 : 1 ≤ h) {c : List Nm} (hc : Hld h c) (ks : List Nm) : optH h c ks ≤ ks.length := by
  rw [opt_chg nlt nlt_names h1 ks hc]; exact chgH_few h ks c
def tryGV (gK gH gT : Nat) : Value := .func (.func 126) #[] #[.pointer (some ⟨gK, 0, none⟩), .pointer (some ⟨gH, 0, none⟩), .pointer (some ⟨gT, 0, none⟩)]
/-- the boxes of the search. -/
structure Cgx (w : World) (gK gH gT : Nat) (ka : Option Addr) (kcap : Nat) (ks : List Nm) (h : Nat) : Prop where
  hK : w.heap[gK]? = some (.cells #[.slice ka ks.length kcap] 59 (0, 0))
  hH : w.heap[gH]? = some (.cells #[.int .i64 h] 3 (0, 0))
  hT : w.heap[gT]? = some (.cells #[tryGV gK gH gT] 194 (0, 0))
  rk : RecR TS w 0 (.slice ka ks.length kcap) ks
theorem Cgx.below {w w' : World} {gK gH gT : Nat} {ka : Option Addr} {kcap : Nat} {ks : List Nm} {h : Nat} (hx : Cgx w gK gH gT ka kcap ks h) (hb : Below w.heap.size w w') : Cgx w' gK gH gT ka kcap ks h :=
  ⟨blk_below hx.hK hb, blk_below hx.hH hb, blk_below hx.hT hb, hx.rk.below hb⟩
set_option maxHeartbeats 8000000 in
set_option maxRecDepth 100000 in
theorem chgTry_any (gK gH gT : Nat) (ka : Option Addr) (kcap : Nat) (ks : List Nm) (h : Nat) (h1 : 1 ≤ h) (h8 : h ≤ 8) (hlen : ks.length ≤ 100) : ∀ (f i : Nat) (held : List Nm) (vh : Value) (w : World), f = ks.length - i → i ≤ ks.length → Hld h held → Cgx w gK gH gT ka kcap ks h → RecR TS w 0 vh held →
    Calls Tryz.prog 126 #[.int .i64 i, vh, .pointer (some ⟨gK, 0, none⟩), .pointer (some ⟨gH, 0, none⟩), .pointer (some ⟨gT, 0, none⟩)] w fun e w' => e = .returned (.int .i64 (optH h held (ks.drop i) : Nat)) ∧ Below w.heap.size w w' := by
  intro f
  induction f using Nat.strongRecOn with
  | _ f ih =>
  intro i held vh w hf hi hH hx rh
  obtain ⟨ha, hcap, rfl, _, _⟩ := rh.form
  have hll := hH.le
  have cK : w.cell? ⟨gK, 0, none⟩ = some (.slice ka ks.length kcap) := blk_cell hx.hK 0
  have cH : w.cell? ⟨gH, 0, none⟩ = some (.int .i64 h) := blk_cell hx.hH 0
  have cT : w.cell? ⟨gT, 0, none⟩ = some (.func (.func 126) #[] #[.pointer (some ⟨gK, 0, none⟩), .pointer (some ⟨gH, 0, none⟩), .pointer (some ⟨gT, 0, none⟩)]) := blk_cell hx.hT 0
  have lK := blk_lt hx.hK
  have lH := blk_lt hx.hH
  have lT := blk_lt hx.hT
  have HX := Lib.hid hx
  have HR := Lib.hid rh
  have HH := Lib.hid hH
  have HIH := Lib.hid ih
  clear ih rh hx hH
  go_enter Tryz.func126, Tryz.ntmps126
  go_wp2_with fail
  go_loopw [0] (fun v wr => ∃ k : Nat, i ≤ k ∧ k ≤ ks.length ∧ v = .int .i64 k ∧ Hid (optH h held (ks.drop k) = optH h held (ks.drop i)) ∧ w = wr) (fun v _ => ks.length - (intOf v).toNat)
  case atStart => exact ⟨i, Nat.le_refl _, hi, rfl, Lib.hid rfl, rfl⟩
  case round =>
    obtain ⟨k, hik, hk, rfl, HE, rfl⟩ := hrel
    by_cases hlt : k < ks.length
    · obtain ⟨x, hx⟩ : ∃ x, ks[k]? = some x := ⟨_, List.getElem?_eq_getElem hlt⟩
      have HXk := Lib.hid hx
      obtain ⟨b2, o2, hae, _, hl2, hx2⟩ := strs_at HX.out.rk hx
      subst hae
      have hw1 : IntKind.i64.wrap ((k : Int) + 1) = ((k + 1 : Nat) : Int) := by rw [IntWalk.i64_in _ (by omega)]; omega
      have HCO := Lib.hid (ContainsS_any held (.slice ha held.length hcap) x w (by omega) HR.out)
      have HDR := Lib.hid (dropAt hx)
      clear hx
      by_cases hm : x ∈ held
      · rw [(Lib.containsS_iff _ _).2 hm] at HCO
        have HN : Hid (optH h held (ks.drop (k + 1)) = optH h held (ks.drop i)) := Lib.hid (by rw [← HE.out, HDR.out, optH, if_pos hm])
        clear hm
        go_wp2_with fail
        refine HCO.out.mono ?_
        rintro e w' ⟨rfl, rfl⟩
        go_wp2
        go_roundw
        case rel => exact ⟨k + 1, by omega, by omega, by go_num, HN, trivial⟩
        case measure => simp [intOf]; omega
      · have hnc : Lib.containsS held x = false := by
          cases hc : Lib.containsS held x
          · rfl
          · exact absurd ((Lib.containsS_iff _ _).1 hc) hm
        rw [hnc] at HCO
        have HM := Lib.hid hm
        have e0 : ((k : Int) == (ks.length : Int)) = false := by rw [beq_eq_false_iff_ne]; omega
        clear hm hnc
        by_cases hr : held.length < h
        · have HN : Hid (1 + optH h (held ++ [x]) (ks.drop (k + 1)) = optH h held (ks.drop i)) := Lib.hid (by rw [← HE.out, HDR.out, optH, if_neg HM.out, if_pos hr])
          have hH2 : Hld h (held ++ [x]) := ⟨by
            rw [List.nodup_append]
            exact ⟨HH.out.nd, by simp, fun a ha b hb => by simp at hb; subst hb; rintro rfl; exact HM.out ha⟩, by simp; omega⟩
          have hfew := optH_few h1 hH2 (ks.drop (k + 1))
          rw [List.length_drop] at hfew
          obtain ⟨q, hq⟩ : ∃ q, q = optH h (held ++ [x]) (ks.drop (k + 1)) := ⟨_, rfl⟩
          rw [← hq] at HN hfew
          have hw2 : IntKind.i64.wrap (1 + (q : Int)) = ((1 + q : Nat) : Int) := by rw [IntWalk.i64_in _ (by omega)]; omega
          have HClone := Lib.hid (show ∀ W, Below w.heap.size w W → Calls Tryz.prog 48 #[.slice ha held.length hcap] W fun e w' => (∃ a' c', e = .returned (.slice a' held.length c') ∧ OwnR TS w' w.heap.size (.slice a' held.length c') held) ∧ Below W.heap.size W w' ∧ Below w.heap.size w w' from fun W hW =>
            (CloneStr_any _ W (by omega) (HR.out.below hW)).mono fun e w' ⟨v', g1, g2, g3⟩ => by
              obtain ⟨a', c', rfl, _, _⟩ := g2.form
              exact ⟨⟨a', c', g1, OwnR.base g2 hW.size⟩, g3, Bl.trans hW g3⟩)
          have HSelf := Lib.hid (show ∀ W v, Below w.heap.size w W → OwnR TS W w.heap.size v (held ++ [x]) → Calls Tryz.prog 126 #[.int .i64 ((k + 1 : Nat) : Int), v, .pointer (some ⟨gK, 0, none⟩), .pointer (some ⟨gH, 0, none⟩), .pointer (some ⟨gT, 0, none⟩)] W fun e w' => e = .returned (.int .i64 (q : Nat)) ∧ Below w.heap.size w w' from fun W v hW hv => by
            rw [hq]
            exact (HIH.out (ks.length - (k + 1)) (by omega) (k + 1) (held ++ [x]) v W rfl (by omega) hH2 (HX.out.below hW) hv.rec0).mono fun e w' ⟨g1, g2⟩ => ⟨g1, Bl.trans hW g2⟩)
          have HCs := Lib.hid (show ∀ W, Below w.heap.size w W → W.cell? ⟨gT, 0, none⟩ = some (.func (.func 126) #[] #[.pointer (some ⟨gK, 0, none⟩), .pointer (some ⟨gH, 0, none⟩), .pointer (some ⟨gT, 0, none⟩)]) ∧ W.cell? ⟨gK, 0, none⟩ = some (.slice (some ⟨b2, o2, none⟩) ks.length kcap) ∧ W.cell? ⟨b2, o2 + k, none⟩ = some (.string x) from fun W hW =>
            ⟨((bcell hW).1 _ _ lT).trans cT, ((bcell hW).1 _ _ lK).trans cK, ((bcell hW).1 _ _ hl2).trans hx2⟩)
          have HGd := Lib.hid (show ∀ w2, Below (w.alloc (.cells #[.string x] 9)).drew.heap.size (w.alloc (.cells #[.string x] 9)).drew w2 → w2.heap[w.heap.size]? = some (.cells #[.string x] 9 (0, 0)) from fun w2 h => blk_below (show (w.alloc (.cells #[.string x] 9)).drew.heap[w.heap.size]? = _ from blk_new w _) h)
          have HGl := Lib.hid (show ∀ W w2, Below (World.alloc W (.cells #[.string x] 9)).heap.size (W.alloc (.cells #[.string x] 9)) w2 → w2.heap[W.heap.size]? = some (.cells #[.string x] 9 (0, 0)) from fun W w2 h => blk_below (blk_new W _) h)
          have hol : held.length ≤ 1000000 := by omega
          have hB := Below.refl w.heap.size w
          have hBd := Below.drew (Below.refl w.heap.size w)
          have hBe := Below.drew (Bl.alloc (Below.refl w.heap.size w) (.cells #[.string x] 9))
          clear hq hH2
          go_wp2_with fail
          refine HCO.out.mono ?_
          rintro e w' ⟨rfl, rfl⟩
          go_wp2
          go_region_held2 (fun W : World => W.cell? ⟨gT, 0, none⟩ = some (.func (.func 126) #[] #[.pointer (some ⟨gK, 0, none⟩), .pointer (some ⟨gH, 0, none⟩), .pointer (some ⟨gT, 0, none⟩)]) ∧ W.cell? ⟨gK, 0, none⟩ = some (.slice (some ⟨b2, o2, none⟩) ks.length kcap) ∧ W.cell? ⟨b2, o2 + k, none⟩ = some (.string x))
            (first | exact HCs.out _ hSelf | exact HCs.out _ hB | exact HCs.out _ hBd | exact HCs.out _ hBe | exact HCs.out _ (Bl.alloc hB _))
            (first
              | (refine step_app_rec TS.ok rfl (.tmp 38) (.tmp 43) rfl w.heap.size _ held rfl (by first | exact hO | exact hO.alloc _) _ _ x rfl (by first | exact hG | exact blk_new _ _) rfl hol (by first | exact hB.size | exact (Bl.alloc hB _).size) ?_; intro vA wA hOA hgA hbA; have hB := (by first | exact hB.trans hbA | exact (Bl.alloc hB _).trans hbA))
              | (go_at_call 48; refine (HClone.out _ (by first | exact hB | exact hBd | exact hBe | exact Bl.alloc hB _)).mono ?_; rintro e wC ⟨⟨aC, cC, rfl, hO⟩, hb, hB⟩; first | have hG := HGd.out _ hb | have hG := HGl.out _ _ hb | have hG := blk_below hG hb | skip)
              | (go_at_call 126; (try rw [hw1]); refine (HSelf.out _ _ hB hOA).mono ?_; rintro e wE ⟨rfl, hSelf⟩))
          all_goals (
            go_wp2
            go_ret
            exact ⟨ret_int (by rw [← HN.out]; omega), hSelf⟩)
        · have HN : Hid (leastTo (fun j => 1 + optH h (held.set j x) (ks.drop (k + 1))) held.length = ((optH h held (ks.drop i) : Nat) : Int)) := Lib.hid (by
            rw [leastTo_min _ _ (by omega), ← HE.out, HDR.out, optH, if_neg HM.out, if_neg hr])
          have hne : held ≠ [] := by rintro rfl; simp at hr; omega
          have HNE := Lib.hid hne
          have hH2 : ∀ j, j < held.length → Hld h (held.set j x) := fun j hj => ⟨set_nodup HH.out.nd HM.out hj, by rw [List.length_set]; exact hll⟩
          have HH2 := Lib.hid hH2
          clear hne hH2
          go_wp2_with fail
          refine HCO.out.mono ?_
          rintro e w' ⟨rfl, rfl⟩
          go_wp2_with fail
          go_loopw [8, 49] (fun bv jv wr => ∃ (j : Nat) (b : Int), j ≤ held.length ∧ jv = .int .i64 j ∧ bv = .int .i64 b ∧ Hid (b = leastTo (fun j => 1 + optH h (held.set j x) (ks.drop (k + 1))) j) ∧ -1 ≤ b ∧ b ≤ 1000 ∧ Below w.heap.size w wr) (fun _ jv _ => held.length - (intOf jv).toNat)
          case atStart => exact ⟨0, -1, Nat.zero_le _, rfl, rfl, Lib.hid rfl, by omega, by omega, Below.refl _ _⟩
          case round =>
            obtain ⟨j, b, hj, rfl, rfl, HB, hb1, hb2, hbr⟩ := hrel
            by_cases hjl : j < held.length
            · have cK' : wr.cell? ⟨gK, 0, none⟩ = some (.slice (some ⟨b2, o2, none⟩) ks.length kcap) := ((bcell hbr).1 _ _ lK).trans cK
              have HCL := Lib.hid (CloneStr_any (l := held) (.slice ha held.length hcap) wr (by omega) (HR.out.below hbr))
              have hfew := optH_few h1 (HH2.out j hjl) (ks.drop (k + 1))
              rw [List.length_drop] at hfew
              obtain ⟨q, hq⟩ : ∃ q, q = optH h (held.set j x) (ks.drop (k + 1)) := ⟨_, rfl⟩
              rw [← hq] at hfew
              have HQ := Lib.hid hq
              clear hq
              have HBS : Hid (leastTo (fun j => 1 + optH h (held.set j x) (ks.drop (k + 1))) (j + 1) = if b < 0 ∨ ((1 + q : Nat) : Int) < b then ((1 + q : Nat) : Int) else b) := Lib.hid (by rw [leastTo, ← HB.out, ← HQ.out])
              go_wp2_with fail
              refine HCL.out.mono ?_
              rintro e wc ⟨v2, rfl, hO2, hbc⟩
              obtain ⟨g2, cap2, cur, rfl, hg2, _, _⟩ := hO2.blk HNE.out
              have hcc := strs_at hO2.rec0 (List.getElem?_eq_getElem hjl)
              obtain ⟨b5, o5, e5, _, hl5, hc5⟩ := hcc
              injection e5 with e5
              injection e5 with e6 e7 _
              subst e6 e7
              rw [Nat.zero_add] at hc5
              have hf5 := OwnS.free hO2 rfl j
              have hO3 := OwnS.set hO2 rfl j x
              have hb0c := Bl.trans hbr hbc
              have cK2 : wc.cell? ⟨gK, 0, none⟩ = some (.slice (some ⟨b2, o2, none⟩) ks.length kcap) := ((bcell hb0c).1 _ _ lK).trans cK
              have cx2 : wc.cell? ⟨b2, o2 + k, none⟩ = some (.string x) := ((bcell hb0c).1 _ _ hl2).trans hx2
              have hbz : Below w.heap.size w (wc.setCell ⟨g2, j, none⟩ (.string x)) := Bl.set hb0c g2 j (Nat.le_trans hbr.size hg2) (.string x)
              have cT3 : (wc.setCell ⟨g2, j, none⟩ (.string x)).cell? ⟨gT, 0, none⟩ = some (.func (.func 126) #[] #[.pointer (some ⟨gK, 0, none⟩), .pointer (some ⟨gH, 0, none⟩), .pointer (some ⟨gT, 0, none⟩)]) := ((bcell hbz).1 _ _ lT).trans cT
              have HSelf := Lib.hid (show Calls Tryz.prog 126 #[.int .i64 ((k + 1 : Nat) : Int), .slice (some ⟨g2, 0, none⟩) held.length cap2, .pointer (some ⟨gK, 0, none⟩), .pointer (some ⟨gH, 0, none⟩), .pointer (some ⟨gT, 0, none⟩)] (wc.setCell ⟨g2, j, none⟩ (.string x)) fun e w' => e = .returned (.int .i64 (q : Nat)) ∧ Below w.heap.size w w' from by
                rw [HQ.out]
                exact (HIH.out (ks.length - (k + 1)) (by omega) (k + 1) (held.set j x) _ _ rfl (by omega) (HH2.out j hjl) (HX.out.below hbz) hO3.rec0).mono fun e w' ⟨g1, g2⟩ => ⟨g1, Bl.trans hbz g2⟩)
              have hw2 : IntKind.i64.wrap (1 + (q : Int)) = ((1 + q : Nat) : Int) := by rw [IntWalk.i64_in _ (by omega)]; omega
              have hw3 : IntKind.i64.wrap ((j : Int) + 1) = ((j + 1 : Nat) : Int) := by rw [IntWalk.i64_in _ (by omega)]; omega
              clear hO3 hbc hO2 HCL
              go_upto_region 13 with fail
              generalize wc.setCell ⟨g2, j, none⟩ (.string x) = w3 at *
              go_wp2_with fail
              (try rw [hw1])
              refine HSelf.out.mono ?_
              rintro e w4 ⟨rfl, hb4⟩
              clear HSelf cT3 hbz hb0c cK2 cx2 hc5 hf5 cK'
              by_cases c1 : b < 0
              · have HF : Hid (((1 + q : Nat) : Int) = leastTo (fun j => 1 + optH h (held.set j x) (ks.drop (k + 1))) (j + 1)) := Lib.hid (by rw [HBS.out, if_pos (.inl c1)])
                go_wp2
                go_roundw
                case rel => exact ⟨j + 1, _, by omega, by go_num, rfl, HF, by omega, by omega, hb4⟩
                case measure => simp [intOf]; omega
              · by_cases c2 : ((1 + q : Nat) : Int) < b
                · have HF : Hid (((1 + q : Nat) : Int) = leastTo (fun j => 1 + optH h (held.set j x) (ks.drop (k + 1))) (j + 1)) := Lib.hid (by rw [HBS.out, if_pos (.inr c2)])
                  go_wp2
                  go_roundw
                  case rel => exact ⟨j + 1, _, by omega, by go_num, rfl, HF, by omega, by omega, hb4⟩
                  case measure => simp [intOf]; omega
                · have HF : Hid (b = leastTo (fun j => 1 + optH h (held.set j x) (ks.drop (k + 1))) (j + 1)) := Lib.hid (by rw [HBS.out, if_neg (by omega)])
                  go_wp2
                  go_roundw
                  case rel => exact ⟨j + 1, _, by omega, by go_num, rfl, HF, by omega, by omega, hb4⟩
                  case measure => simp [intOf]; omega
            · obtain rfl : j = held.length := by omega
              go_wp2
              go_ret
              exact ⟨ret_int (by rw [HB.out, HN.out]), hbr⟩
    · obtain rfl : k = ks.length := by omega
      have HN : Hid (optH h held (ks.drop i) = 0) := Lib.hid (by rw [← HE.out, List.drop_length]; rfl)
      have e0 : ((ks.length : Int) == (ks.length : Int)) = true := by simp
      go_wp2
      go_ret
      exact ⟨ret_int (by rw [HN.out]; rfl), Below.refl _ _⟩
set_option maxHeartbeats 2000000 in
theorem ChangesOf_any (ks : List Nm) (h : Nat) (vk : Value) (w : World) (h1 : 1 ≤ h) (h8 : h ≤ 8) (hlen : ks.length ≤ 100) (rk : RecR TS w 0 vk ks) :
    Calls Tryz.prog 33 #[vk, .int .i64 h] w fun e w' => e = .returned (.int .i64 (chgH nlt h [] ks : Nat)) ∧ Below w.heap.size w w' := by
  obtain ⟨ka, kcap, rfl, _, _⟩ := rk.form
  have hmf : ∀ (fn : Fn) (first cap : Array Value) (w : World), (Instr.makeFunc fn first cap).run Tryz.prog w = .ok (.func fn first cap) w := fun _ _ _ _ => rfl
  have a1 := blk_new w (.cells #[.slice ka ks.length kcap] 59)
  have a2 := blk_old a1 (.cells #[.int .i64 h] 3)
  have p2 := blk_new' (w.alloc (.cells #[.slice ka ks.length kcap] 59)) (.cells #[.int .i64 h] 3) (g := w.heap.size + 1) (by simp)
  have a3 := blk_old a2 (.cells #[tryGV w.heap.size (w.heap.size + 1) (w.heap.size + 1 + 1)] 194)
  have p3 := blk_old p2 (.cells #[tryGV w.heap.size (w.heap.size + 1) (w.heap.size + 1 + 1)] 194)
  have t3 := blk_new' ((w.alloc (.cells #[.slice ka ks.length kcap] 59)).alloc (.cells #[.int .i64 h] 3)) (.cells #[tryGV w.heap.size (w.heap.size + 1) (w.heap.size + 1 + 1)] 194) (g := w.heap.size + 1 + 1) (by simp)
  have hb3 := Bl.alloc (Bl.alloc (Bl.alloc (Below.refl w.heap.size w) (.cells #[.slice ka ks.length kcap] 59)) (.cells #[.int .i64 h] 3)) (.cells #[tryGV w.heap.size (w.heap.size + 1) (w.heap.size + 1 + 1)] 194)
  have hx : Cgx (((w.alloc (.cells #[.slice ka ks.length kcap] 59)).alloc (.cells #[.int .i64 h] 3)).alloc (.cells #[tryGV w.heap.size (w.heap.size + 1) (w.heap.size + 1 + 1)] 194)) w.heap.size (w.heap.size + 1) (w.heap.size + 1 + 1) ka kcap ks h := ⟨a3, p3, t3, rk.below hb3⟩
  have HT := Lib.hid (chgTry_any w.heap.size (w.heap.size + 1) (w.heap.size + 1 + 1) ka kcap ks h h1 h8 hlen ks.length 0 [] (.slice none 0 0) _ (by omega) (Nat.zero_le _) ⟨List.nodup_nil, by simp⟩ hx (RecR.nil _ _))
  have HB := Lib.hid hb3
  have HE := Lib.hid (opt_chg nlt nlt_names h1 ks (c := []) ⟨List.nodup_nil, by simp⟩)
  have cT := blk_cell t3 0
  clear a1 a2 p2 a3 p3 t3 hb3 hx rk
  unfold tryGV at *
  go_enter Tryz.func33, Tryz.ntmps33
  go_wp2_with fail
  generalize ((w.alloc (.cells #[.slice ka ks.length kcap] 59)).alloc (.cells #[.int .i64 h] 3)).alloc (.cells #[.func (.func 126) #[] #[.pointer (some ⟨w.heap.size, 0, none⟩), .pointer (some ⟨w.heap.size + 1, 0, none⟩), .pointer (some ⟨w.heap.size + 1 + 1, 0, none⟩)]] 194) = w3 at *
  refine HT.out.mono ?_
  rintro e w4 ⟨rfl, hb4⟩
  go_wp2
  go_ret
  exact ⟨ret_int (by rw [HE.out]), Bl.trans HB.out hb4⟩
end Go.Proofs.YtbkglhakhahfpaaGreatDoor
