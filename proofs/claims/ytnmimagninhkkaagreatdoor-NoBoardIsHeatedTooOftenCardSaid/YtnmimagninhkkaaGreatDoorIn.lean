/- Which boards have a state: Shop.In and Boards over general maps. Conditions: names of at most 1000 bytes. -/
import Derived.Test.YtnmimagninhkkaaGreatDoorCnd
import Derived.Test.YtnmimagninhkkaaGreatDoorStrs
namespace Go.Proofs.YtnmimagninhkkaaGreatDoor
open Go.RowKit Go.Sort Go.Maps Go.Shelf Go.Lib

theorem keysP_any (gm : Nat) (W : World) : Calls Tryz.prog 147 #[.map (some gm)] W fun e w' => e = .returned (.func (.func 210) #[] #[.pointer (some ⟨W.heap.size, 0, none⟩)]) ∧ w' = W.alloc (.cells #[.map (some gm)] 130) :=
  callsIn_wide.1 (Tryz.maps_Keys_147 (some gm) W)
theorem sortedP_any (b : Nat) (m : Sm (Option Nat)) (w : World) (hown : MapS TP w b m) (hmax : m.length ≤ 100000) :
    Calls Tryz.prog 146 #[.func (.func 210) #[] #[.pointer (some ⟨w.heap.size, 0, none⟩)]] (w.alloc (.cells #[.map (some b)] 130)) fun e w' => ∃ (v : Value), e = .returned v ∧ OwnR TS w' w.heap.size v (m.keys.map baOf) ∧ Below w.heap.size w w' := by
  have hsz : Maps.size (DataW.map (smD TP m)) ≤ 100000 := by show (smD TP m).length ≤ _; unfold smD; rw [List.length_map]; exact hmax
  refine (callsIn_wide.1 (Tryz.slices_Sorted_keys_146_147 b _ _ _ w hown.2 (by unfold maxLen; omega) (by omega))).mono ?_
  rintro e w' ⟨v, ss, rfl, hS, hrow, hnil, hb⟩
  rw [smD_keys] at hS
  exact ⟨v, rfl, own_keys hown.1 hS (ownsRow_base_a hrow (by simp)), ((Below.refl _ w).alloc (Nat.le_refl _) _).trans (hb.mono (by simp))⟩
theorem inS_take {m : Sm Bd0} {k : Nat} {p : Bs × Bd0} (hp : m[k]? = some p) (st : Int) : inS (m.take (k + 1)) st = inS (m.take k) st ++ if p.2.st = st then [p.1] else [] := by
  obtain ⟨hk, he⟩ := List.getElem?_eq_some_iff.1 hp
  have : m.take (k + 1) = m.take k ++ [p] := by rw [List.take_add_one, hp]; rfl
  rw [this]
  unfold inS
  rw [List.filter_append, List.map_append]
  by_cases h : p.2.st = st
  · rw [if_pos h]; simp [h]
  · rw [if_neg h]; simp [h]
theorem flat_one (b : ByteArray) : TS.f b = [.string b] := rfl
theorem Sm.keys_mapv {α β : Type} (f : α → β) (l : Sm α) : (l.mapv f).keys = l.keys := by
  unfold Sm.mapv Sm.keys; rw [List.map_map]; rfl
theorem keys_at {α : Type} {m : Sm α} {k : Nat} {p : Bs × α} (h : m[k]? = some p) : (m.keys.map baOf)[k]? = some (baOf p.1) := by
  unfold Sm.keys
  simp [h]
/-- all names are short. -/
def Names (m : Sm Bd0) : Prop := ∀ p ∈ m, p.1.length ≤ 1000
set_option maxHeartbeats 4000000 in
set_option maxRecDepth 100000 in
theorem In_any (S : Nat) (rh rr st : Int) (m : Sm Bd0) (w0 w : World) (h : ShopA w0 w S rh rr m) (hn : Names m) (hm : m.length ≤ 100000) :
    Calls Tryz.prog 94 #[.pointer (some ⟨S, 0, none⟩), .int .i64 st] w fun e w' => (∃ v, e = .returned v ∧ OwnR TS w' w.heap.size v ((inS m st).map baOf)) ∧ Below w.heap.size w w' := by
  obtain ⟨⟨L, hL, hLm⟩, _⟩ := h
  have lS := hL.lt
  have hLl : L.length ≤ 100000 := by rw [← Sm.len_mapv (·.2) L, hLm]; exact hm
  have c1 : w.cell? ⟨S, 2, none⟩ = some (.map (some (S - 1))) := blk_cell hL.blk 2
  have HL := Lib.hid hL
  have HLM := Lib.hid hLm
  have HSO := Lib.hid (sortedP_any (S - 1) _ w hL.map (by rw [Sm.len_mapv]; exact hLl))
  have HN := Lib.hid hn
  clear hL hLm hn
  go_enter Tryz.func94, Tryz.ntmps94
  go_wp2_with fail
  refine (keysP_any (S - 1) w).mono ?_
  rintro e w1 ⟨rfl, rfl⟩
  go_wp2_with fail
  refine HSO.out.mono ?_
  rintro e w2 ⟨v, rfl, hO, hb2⟩
  obtain ⟨va, vc, rfl, _, _⟩ := hO.form
  have hlk : ((Sm.keys (L.mapv fun x => some x.1)).map baOf).length = L.length := by rw [List.length_map, keys_len, Sm.len_mapv]
  have HO := Lib.hid hO
  rw [hlk]
  have HLK := Lib.hid hlk
  clear hO hlk
  go_wp2_with fail
  have hz2 := hb2.size
  have HB2 := Lib.hid hb2
  clear hb2
  go_loopw [5, 15] (fun ov i wr => ∃ (k : Nat), k ≤ L.length ∧ i = .int .i64 k ∧ OwnR TS wr w2.heap.size ov ((inS (m.take k) st).map baOf) ∧ Below w2.heap.size w2 wr) (fun _ i _ => L.length - (intOf i).toNat)
  case atStart => exact ⟨0, Nat.zero_le _, rfl, OwnR.nil _ _, Below.refl _ _⟩
  case round =>
    obtain ⟨k, hk, rfl, hOv, hb⟩ := hrel
    by_cases hlt : k < L.length
    · obtain ⟨⟨ks, g, b⟩, hp⟩ : ∃ p, L[k]? = some p := ⟨_, List.getElem?_eq_getElem hlt⟩
      have hpm : m[k]? = some (ks, b) := by rw [← HLM.out]; unfold Sm.mapv; rw [List.getElem?_map, hp]; rfl
      have hnm : (baOf ks).size ≤ maxLen := by
        have := HN.out _ (List.mem_of_getElem? hpm)
        have e : (baOf ks).size = ks.length := by show ks.toArray.size = _; simp
        rw [e]; unfold maxLen; simp only at this; omega
      have HIS := Lib.hid (inS_take hpm st)
      have hLw := (HL.out.below HB2.out).below hb
      obtain ⟨b1, o1, rfl, _, hl1, hx1⟩ := str_at (HO.out.rec0.below hb) (keys_at (m := L.mapv fun x => some x.1) (p := (ks, some g)) (by unfold Sm.mapv; rw [List.getElem?_map, hp]; rfl))
      simp only at hx1
      have hBr := (hLw.brd _ (List.mem_of_getElem? hp)).2
      have d0 : wr.cell? ⟨g, 0, none⟩ = some (.int .i64 b.st) := blk_cell hBr.2.1 0
      have d2 : wr.cell? ⟨S, 2, none⟩ = some (.map (some (S - 1))) := blk_cell hLw.blk 2
      have hget : (L.mapv fun x => some x.1).get (baOf ks).data.toList = some (some g) := by
        rw [Sm.get_mapv, show (baOf ks).data.toList = ks from bsOf_baOf ks, Sm.get_of_mem hLw.ok (List.mem_of_getElem? hp)]; rfl
      have hlk : (Instr.lookup 130 (.map (some (S - 1))) (.string (baOf ks)) false).run Tryz.prog wr = .ok (.pointer (some ⟨g, 0, none⟩)) wr := by
        have := hLw.map.look TP.ok (baOf ks) hnm
        rw [hget] at this
        exact this
      have hw1 : IntKind.i64.wrap ((k : Int) + 1) = ((k + 1 : Nat) : Int) := by rw [IntWalk.i64_in _ (by omega)]; omega
      have lg := hBr.lt
      have lSr := hLw.lt
      have hlen : ((inS (m.take k) st).map baOf).length ≤ 1000000 := by
        rw [List.length_map]
        unfold inS
        rw [List.length_map]
        have := List.length_filter_le (fun p : Bs × Bd0 => decide (p.2.st = st)) (m.take k)
        rw [List.length_take] at this
        omega
      clear hLw hBr hget hnm hpm hp
      have HOv := Lib.hid hOv
      by_cases hst : b.st = st
      · have hbst : (b.st == st) = true := by simpa using hst
        have hI2 := HIS.out
        rw [if_pos hst] at hI2
        have HI2 := Lib.hid hI2
        clear hst hI2 hOv
        go_wp2_with (at_builtin; refine wp_app_rec TS.ok rfl _ _ rfl w2.heap.size _ ((inS (m.take k) st).map baOf) rfl (HOv.out.alloc _) wr.heap.size 1 (baOf ks) rfl (blk_new wr _) rfl hlen (by have := hb.size; simp; omega) ?_)
        intro v' w5 hO5 hA5 hb5
        have hbx5 : Below w2.heap.size w2 w5 := Below.trans (Bl.alloc hb _) hb5
        have HO5 : Hid (OwnR TS w5 w2.heap.size v' ((inS (m.take (k + 1)) st).map baOf)) := Lib.hid (by rw [HI2.out, List.map_append]; exact hO5)
        clear hO5 hA5
        go_wp2
        go_roundw
        case rel => exact ⟨k + 1, by omega, by go_num, HO5.out, hbx5⟩
        case measure => simp [intOf]; omega
      · have hbst : (b.st == st) = false := by simpa using hst
        have hI2 := HIS.out
        rw [if_neg hst, List.append_nil] at hI2
        have HO5 : Hid (OwnR TS wr w2.heap.size u5 ((inS (m.take (k + 1)) st).map baOf)) := Lib.hid (by rw [hI2]; exact hOv)
        clear hst hI2 hOv
        go_wp2
        go_roundw
        case rel => exact ⟨k + 1, by omega, by go_num, HO5.out, hb⟩
        case measure => simp [intOf]; omega
    · obtain rfl : k = L.length := by omega
      have hfull : m.take L.length = m := by rw [← HLM.out, ← Sm.len_mapv (·.2) L, List.take_length]
      rw [hfull] at hOv
      have HOV := Lib.hid (hOv.base hz2)
      have HBB := Lib.hid (Below.trans HB2.out (hb.mono hz2))
      clear hOv
      go_wp2
      go_ret
      exact ⟨⟨_, rfl, HOV.out⟩, HBB.out⟩
theorem mfltF_zero {rh rr : Int} {l : List Stp} {at' : Int} (h : mfltF rh rr l at' = 0) : rulesF rh rr = 0 ∧ stepsF l = 0 ∧ 0 ≤ at' ∧ at' ≤ 345686399999 := by
  unfold mfltF fltF at h
  by_cases h2 : rulesF rh rr = 0
  · rw [if_pos h2] at h
    by_cases h1 : stepsF l = 0
    · rw [if_pos h1] at h
      by_cases h4 : momB at' = true
      · simp only [momB, inB, Bool.and_eq_true, decide_eq_true_eq] at h4
        exact ⟨h2, h1, h4⟩
      · rw [if_neg h4] at h; exact absurd h (by decide)
    · rw [if_neg h1] at h; exact absurd h h1
  · rw [if_neg h2, if_neg h2] at h; exact absurd h h2
theorem run_names {rh rr at' : Int} {l : List Stp} (h : stepsF l = 0) : Names (runS rh rr at' [] l) := fun p hp => by
  have := keyB_size (runS_J h p hp).2
  have e : (baOf p.1).size = p.1.length := by show p.1.toArray.size = _; simp
  omega
def bsF (rh rr : Int) (l : List Stp) (at' st : Int) : Int := if mfltF rh rr l at' = 0 then (if inB 1 st 6 = true then 0 else 4) else mfltF rh rr l at'
def bsL (rh rr : Int) (l : List Stp) (at' st : Int) : List Bs := if bsF rh rr l at' st = 0 then inS (runS rh rr at' [] l) st else []
set_option maxHeartbeats 4000000 in
set_option maxRecDepth 100000 in
theorem Boards_any (rh rr : Int) (l : List Stp) (at' st : Int) (v : Value) (w : World) (hl : l.length ≤ 1000000) (rl : RecR TSt w 0 v l) (hz : StpZ l) :
    Calls Tryz.prog 21 #[.agg #[.int .i64 rh, .int .i64 rr], v, .int .i64 at', .int .i64 st] w fun e w' => (∃ v', e = .returned (.tuple #[v', .int .i64 (bsF rh rr l at' st)]) ∧ OwnR TS w' w.heap.size v' ((bsL rh rr l at' st).map baOf)) ∧ Below w.heap.size w w' := by
  have hR0 := blk_new w (.cells #[.int .i64 rh, .int .i64 rr] 27)
  have hb0 := Bl.alloc (Below.refl w.heap.size w) (.cells #[.int .i64 rh, .int .i64 rr] 27)
  have HMF := Lib.hid fun W (hW : Below w.heap.size w W) => rMomentFault_any rh rr l at' v W hl (rl.below hW) hz
  have HSA := Lib.hid fun W (hW : Below w.heap.size w W) => shopAt_any rh rr at' l v W (rl.below hW)
  obtain ⟨F, hF⟩ : ∃ F, F = mfltF rh rr l at' := ⟨_, rfl⟩
  rw [← hF] at HMF
  obtain ⟨G, hG⟩ : ∃ G, G = bsF rh rr l at' st := ⟨_, rfl⟩
  obtain ⟨R, hR⟩ : ∃ R, R = bsL rh rr l at' st := ⟨_, rfl⟩
  rw [← hG, ← hR]
  have HG := Lib.hid (show G = if F = 0 then (if inB 1 st 6 = true then 0 else 4) else F by rw [hG, hF]; rfl)
  have HR := Lib.hid (show R = if G = 0 then inS (runS rh rr at' [] l) st else [] by rw [hR, hG]; rfl)
  have HF := Lib.hid hF
  clear hF hG hR rl hl hz
  by_cases h0 : F = 0
  · subst h0
    have HZ := Lib.hid (mfltF_zero HF.out.symm)
    obtain ⟨o, ho⟩ : ∃ o, o = (!inB 1 st 6) := ⟨_, rfl⟩
    have HOU := Outside_any st 1 6
    rw [← ho] at HOU
    have HOU := Lib.hid HOU
    have HO := Lib.hid ho
    clear ho
    go_enter Tryz.func21, Tryz.ntmps21
    go_wp2_with fail
    refine (HMF.out _ hb0).mono ?_
    rintro e w2 ⟨rfl, hb2⟩
    have hb02 := Bl.trans hb0 hb2
    have hR2 := blk_below hR0 hb2
    have q0 : w2.cell? ⟨w.heap.size, 0, none⟩ = some (.int .i64 rh) := blk_cell hR2 0
    have q1 : w2.cell? ⟨w.heap.size, 1, none⟩ = some (.int .i64 rr) := blk_cell hR2 1
    clear hb0 hR0 hb2
    go_wp2_with fail
    refine (HOU.out _).mono ?_
    rintro e w' ⟨rfl, rfl⟩
    cases o
    · have hin : inB 1 st 6 = true := by have := HO.out; simpa using this
      have hG0 : G = 0 := by rw [HG.out]; simp [hin]
      have hR0 : R = inS (runS rh rr at' [] l) st := by rw [HR.out, if_pos hG0]
      have HG0 := Lib.hid hG0
      have HR0 := Lib.hid hR0
      clear hin hG0 hR0
      go_wp2_with fail
      refine (HSA.out _ hb02 HZ.out.2.1).mono ?_
      rintro e w3 ⟨⟨S, rfl, hs⟩, hb3⟩
      have hb03 := Bl.trans hb02 hb3
      have HT := Lib.hid (In_any S rh rr st _ _ w3 hs (run_names HZ.out.2.1) (run_small HZ.out.2.1).1)
      clear hs hb3 hR2 q0 q1
      go_wp2_with fail
      refine HT.out.mono ?_
      rintro e w4 ⟨⟨v4, rfl, h4⟩, hb4⟩
      have hz3 := hb03.size
      have H4 := Lib.hid (h4.base hz3)
      have HB4 := Lib.hid (Bl.trans hb03 hb4)
      clear h4 hb4 hb03
      go_wp2
      go_ret2
      exact ⟨⟨_, by rw [HG0.out] <;> rfl, by rw [HR0.out]; exact H4.out⟩, HB4.out⟩
    · have hin : ¬ inB 1 st 6 = true := by have := HO.out; simpa using this
      have hG0 : G = 4 := by rw [HG.out]; simp [hin]
      have hR0 : R = [] := by rw [HR.out, hG0]; rfl
      have HG0 := Lib.hid hG0
      have HR0 := Lib.hid hR0
      clear hin hG0 hR0
      go_wp2
      go_ret2
      exact ⟨⟨_, by rw [HG0.out] <;> rfl, by rw [HR0.out]; exact OwnR.nil _ _⟩, hb02⟩
  · have hG0 : G = F := by rw [HG.out, if_neg h0]
    have hR0 : R = [] := by rw [HR.out, if_neg (by rw [hG0]; exact h0)]
    have HG0 := Lib.hid hG0
    have HR0 := Lib.hid hR0
    clear hG0 hR0
    go_enter Tryz.func21, Tryz.ntmps21
    go_wp2_with fail
    refine (HMF.out _ hb0).mono ?_
    rintro e w2 ⟨rfl, hb2⟩
    have hb02 := Bl.trans hb0 hb2
    go_wp2
    go_ret2
    exact ⟨⟨_, by rw [HG0.out] <;> rfl, by rw [HR0.out]; exact OwnR.nil _ _⟩, hb02⟩
end Go.Proofs.YtnmimagninhkkaaGreatDoor
