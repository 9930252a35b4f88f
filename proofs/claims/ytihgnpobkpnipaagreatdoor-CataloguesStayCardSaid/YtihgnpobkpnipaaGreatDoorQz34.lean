/- Texts of the proof of a law, put together, part 34 of 41. Conditions: none beyond those that each theorem names. -/
import Derived.Test.YtihgnpobkpnipaaGreatDoorQz32
import Derived.Test.YtihgnpobkpnipaaGreatDoorQz33
namespace Go.Proofs.YtihgnpobkpnipaaGreatDoor
open Go.RowKit Go.Sort Go.Maps
theorem keysI_any (gm : Nat) (W : World) : Calls Tryz.prog 80 #[.map (some gm)] W fun e w' => e = .returned (.func (.func 118) #[] #[.pointer (some ⟨W.heap.size, 0, none⟩)]) ∧ w' = W.alloc (.cells #[.map (some gm)] 126) :=
  callsIn_wide.1 (Tryz.maps_Keys_80 (some gm) W)
theorem sortedI_any (b : Nat) (m : Sm Int) (w : World) (hown : MapS TMi w b m) (hmax : m.length ≤ 100000000) :
    Calls Tryz.prog 76 #[.func (.func 118) #[] #[.pointer (some ⟨w.heap.size, 0, none⟩)]] (w.alloc (.cells #[.map (some b)] 126)) fun e w' => ∃ (v : Value), e = .returned v ∧ OwnR TS w' w.heap.size v (m.keys.map baOf) ∧ Below w.heap.size w w' := by
  have hsz : Maps.size (DataW.map (smD TMi m)) ≤ 100000000 := by show (smD TMi m).length ≤ _; unfold smD; rw [List.length_map]; exact hmax
  refine (callsIn_wide.1 (Tryz.slices_Sorted_keys_76_80 b _ _ _ w hown.2 (by unfold maxLen; omega) (by omega))).mono ?_
  rintro e w' ⟨v, ss, rfl, hS, hrow, hnil, hb⟩
  rw [smD_keys] at hS
  exact ⟨v, rfl, own_keys hown.1 hS (ownsRow_base_a hrow (by simp)), ((Below.refl _ w).alloc (Nat.le_refl _) _).trans (hb.mono (by simp))⟩
theorem keysP_size {ps : List Prt} (hz : PrtZ ps) : ∀ s ∈ keysP ps, s.length ≤ maxLen := by
  intro s hs
  obtain ⟨x, hx, rfl⟩ := List.mem_map.1 hs
  have h := (hz x hx).1
  show x.1.data.toList.length ≤ maxLen
  rw [Array.length_toList]
  have : x.1.data.size = x.1.size := rfl
  unfold maxLen; omega
set_option maxHeartbeats 8000000 in
set_option maxRecDepth 100000 in
theorem reached_any (b : Nat) (a : ByteArray) (g : Bs → List Bs) (U : List Bs) (w : World) (hG : ByG w b g) (ha : bsOf a ∈ U) (hU : ∀ p s, s ∈ g p → s ∈ U) (hUl : U.length ≤ 1000000) (hUs : ∀ s ∈ U, s.length ≤ maxLen) (hgl : ∀ p, (g p).length ≤ 1000000) :
    Calls Tryz.prog 75 #[.map (some b), .string a] w fun e w' => (∃ m, e = .returned (.map (some m)) ∧ w.heap.size ≤ m ∧ MapS TMi w' m (bfsR g (bsOf a) U).st) ∧ Below w.heap.size w w' := by
  have hmm := @run_makeMap Tryz.prog
  have has : a.size ≤ maxLen := by have := hUs _ ha; show a.data.size ≤ maxLen; rw [← Array.length_toList]; exact this
  obtain ⟨w2, hr2, hM2, ht2⟩ := (MapS.made (T := TMi) w).put TMi.ok a has 0 (by show 0 < maxLen; unfold maxLen; omega)
  have hb2 : Below w.heap.size w w2 := Below.trans (Bl.alloc (Below.refl _ _) _) (Turned.below ht2 (Nat.le_refl _) (by simp))
  have hr2' : (Instr.mapUpdate 126 (.map (some w.heap.size)) (.string a) (.int .i64 0)).run Tryz.prog (w.alloc (.map #[] 0)) = .ok () w2 := hr2
  have HO := Lib.hid (own_one TS.ok (x := a) (B := w.heap.size) hb2.size (blk_new w2 (.cells #[.string a] 9)) rfl)
  have HM := Lib.hid (hM2.alloc (.cells #[.string a] 9))
  have HB := Lib.hid (Bl.alloc hb2 (.cells #[.string a] 9))
  have HS := Lib.hid (RcS.start (g := g) ha)
  have HG := Lib.hid hG
  have HU := Lib.hid hU
  have HUS := Lib.hid hUs
  have HGL := Lib.hid hgl
  have HL0 : Hid ([a] = (bfs0 (bsOf a)).ln.map baOf) := Lib.hid (by show [a] = [baOf (bsOf a)]; rw [baOf_bs])
  have HST0 : Hid (Sm.put [] (bsOf a) (0 : Int) = (bfs0 (bsOf a)).st) := Lib.hid rfl
  have HM : Hid (MapS TMi (w2.alloc (.cells #[.string a] 9)) w.heap.size (Sm.put [] (bsOf a) (0 : Int))) := HM
  obtain ⟨A, hA⟩ : ∃ A, A = bsOf a := ⟨_, rfl⟩
  rw [← hA] at HS HL0 HST0 HM ⊢
  obtain ⟨mb, hmb⟩ : ∃ mb, mb = w.heap.size := ⟨_, rfl⟩
  have HMBE := Lib.hid hmb
  clear hr2 hM2 ht2 hG ha hU hUs has hb2 hgl hA
  go_enter Tryz.func75, Tryz.ntmps75
  go_wp2_with fail
  rw [show (Value.map (some w.heap.size)) = Value.map (some mb) from by rw [HMBE.out]]
  clear hmb
  go_loopw [6, 7] (fun ln i wr => ∃ (k : Nat) (x : Bfs), k ≤ U.length ∧ i = .int .i64 k ∧ Hid (RcS g A U x k) ∧ Hid (MapS TMi wr mb x.st) ∧ Hid (OwnR TS wr w.heap.size ln (x.ln.map baOf)) ∧ Hid (Below w.heap.size w wr)) (fun _ i _ => U.length + 1 - (intOf i).toNat)
  case atStart => exact ⟨0, bfs0 A, Nat.zero_le _, rfl, HS, Lib.hid (by rw [← HST0.out, HMBE.out]; exact HM.out), Lib.hid (by rw [← HL0.out]; exact HO.out), HB⟩
  case round =>
    obtain ⟨k, x, hk, rfl, HR, HM1, HO1, HB1⟩ := hrel
    obtain ⟨la, lc, hlv, _, _⟩ := HO1.out.form
    obtain ⟨n, hn⟩ : ∃ n, n = x.ln.length := ⟨_, rfl⟩
    rw [List.length_map, ← hn] at hlv
    subst hlv
    have hnU : n ≤ U.length := by rw [hn]; exact HR.out.len
    have HN := Lib.hid hn
    clear hn
    by_cases hlt : k < n
    · obtain ⟨p, hp⟩ : ∃ p, x.ln[k]? = some p := ⟨_, List.getElem?_eq_getElem (by have := HN.out; omega)⟩
      have hpU := HR.out.sub _ (List.mem_of_getElem? hp)
      have HPS : Hid ((baOf p).size ≤ maxLen) := Lib.hid (by rw [baOf_size]; exact HUS.out _ hpU)
      obtain ⟨rv, hrv⟩ := HG.out.look (baOf p) HPS.out
      rw [bsOf_baOf] at hrv
      obtain ⟨hlk1, hrr1⟩ := hrv wr HB1.out
      obtain ⟨ra, rc, rfl, _, _⟩ := hrr1.form
      have hRO := HO1.out.rec0
      obtain ⟨b1, o1, rfl, _, _, c0⟩ := str_at hRO (show (x.ln.map baOf)[k]? = some (baOf p) by rw [List.getElem?_map, hp]; rfl)
      have HRV := Lib.hid hrv
      have HP := Lib.hid hp
      have hgl := HGL.out p
      obtain ⟨rn, hrn⟩ : ∃ rn, rn = (g p).length := ⟨_, rfl⟩
      rw [List.length_map, ← hrn] at hlk1 HRV
      rw [← hrn] at hgl
      have HRN := Lib.hid hrn
      have HP0 := Lib.hid (RcP.start HR.out hp)
      have hwk : IntKind.i64.wrap ((k : Int) + 1) = ((k + 1 : Nat) : Int) := by rw [IntWalk.i64_in _ (by omega)]; omega
      have j1 : (0 : Int) ≤ (k : Int) := by omega
      have j2 : (k : Int) < (n : Int) := by omega
      clear hp hrv hrr1 hRO hrn
      go_wp2_with fail
      clear c0 hlk1
      go_loopw [6, 30] (fun ln j wr => ∃ (jn : Nat) (y : Bfs), jn ≤ rn ∧ j = .int .i64 jn ∧ Hid (RcP g A U x k p y jn) ∧ Hid (MapS TMi wr mb y.st) ∧ Hid (OwnR TS wr w.heap.size ln (y.ln.map baOf)) ∧ Hid (Below w.heap.size w wr)) (fun _ j _ => rn - (intOf j).toNat)
      case atStart => exact ⟨0, x, Nat.zero_le _, rfl, HP0, HM1, Lib.hid (by have := HO1.out; rw [HN.out] at *; exact this), HB1⟩
      case round =>
        obtain ⟨jn, y, hj, rfl, HRP, HM2, HO2, HB2⟩ := hrel
        obtain ⟨f1, f2, f3, f4, f5, f6, f7⟩ := HRP.out.facts HU.out
        obtain ⟨la2, lc2, hlv, _, _⟩ := HO2.out.form
        obtain ⟨n2, hn2⟩ : ∃ n, n = y.ln.length := ⟨_, rfl⟩
        rw [List.length_map, ← hn2] at hlv
        subst hlv
        have HN2 := Lib.hid hn2
        rw [← hn2] at f2
        clear hn2
        by_cases hlt2 : jn < rn
        · obtain ⟨s, hs⟩ : ∃ s, (g p)[jn]? = some s := ⟨_, List.getElem?_eq_getElem (by have := HRN.out; omega)⟩
          have HSS : Hid ((baOf s).size ≤ maxLen) := Lib.hid (by rw [baOf_size]; exact HUS.out _ (HU.out _ _ (List.mem_of_getElem? hs)))
          obtain ⟨hlk2, hrr2⟩ := HRV.out wr HB2.out
          have hrr3 : RecR TS wr 0 (.slice ra rn rc) ((g p).map baOf) := by simpa using hrr2
          obtain ⟨b3, o3, rfl, _, _, c1⟩ := str_at hrr3 (show ((g p).map baOf)[jn]? = some (baOf s) by rw [List.getElem?_map, hs]; rfl)
          obtain ⟨b1', o1', rfl, _, _, c2⟩ := str_at HO2.out.rec0 (show (y.ln.map baOf)[k]? = some (baOf p) by rw [List.getElem?_map, f1]; rfl)
          have hlo := HM2.out.look_ok TMi.ok (baOf s) HSS.out
          have hlv := HM2.out.look TMi.ok (baOf p) HPS.out
          rw [show (baOf s).data.toList = s from bsOf_baOf s] at hlo
          rw [show (baOf p).data.toList = p from bsOf_baOf p] at hlv
          have HNX := Lib.hid (HRP.out.next hs)
          obtain ⟨vs, hvs⟩ : ∃ vs, vs = (y.st.get s).getD 0 := ⟨_, rfl⟩
          obtain ⟨vp, hvp⟩ : ∃ vp, vp = valB x p := ⟨_, rfl⟩
          have hlv2 : (Instr.lookup 126 (.map (some mb)) (.string (baOf p)) false).run Tryz.prog wr = .ok (.int .i64 vp) wr := by rw [hvp, ← f4]; exact hlv
          rw [← hvp] at f5 f6 HNX
          have hwp : IntKind.i64.wrap (vp + 1) = vp + 1 := IntWalk.i64_in _ (by omega)
          have hwj : IntKind.i64.wrap ((jn : Int) + 1) = ((jn + 1 : Nat) : Int) := by rw [IntWalk.i64_in _ (by omega)]; omega
          have j3 : (k : Int) < (n2 : Int) := by have := (List.getElem?_eq_some_iff.1 f1).1; rw [← HN2.out] at this; omega
          have HYL : Hid (y.st.length < maxLen) := Lib.hid (by rw [f3, ← HN2.out]; unfold maxLen; omega)
          have HLL : Hid ((y.ln.map baOf).length ≤ 1000000) := Lib.hid (by rw [List.length_map, ← HN2.out]; omega)
          cases hh : y.st.has s
          · rw [hh] at hlo
            have hlo2 : (Instr.lookup 126 (.map (some mb)) (.string (baOf s)) true).run Tryz.prog wr = .ok (.tuple #[.int .i64 vs, .bool false]) wr := by rw [hvs]; exact hlo
            obtain ⟨w5, hr5, hM5, ht5⟩ := HM2.out.put TMi.ok (baOf s) HSS.out (vp + 1) HYL.out
            rw [show (baOf s).data.toList = s from bsOf_baOf s] at hM5
            have hr5' : (Instr.mapUpdate 126 (.map (some mb)) (.string (baOf s)) (.int .i64 (vp + 1))).run Tryz.prog wr = .ok () w5 := hr5
            have hB5 : Below w.heap.size w w5 := Below.trans HB2.out (Turned.below ht5 (by rw [HMBE.out]; exact Nat.le_refl _) HB2.out.size)
            have hO5 := ownR_offM HO2.out HM2.out ht5.grown
            have HO5 := Lib.hid hO5
            have HM5 := Lib.hid (hM5.alloc (.cells #[.string (baOf s)] 9))
            have HB5 := Lib.hid (Bl.alloc hB5 (.cells #[.string (baOf s)] 9))
            have HVI : Hid (visit1 (vp + 1) y s = ⟨y.st.put s (vp + 1), y.ln ++ [s]⟩) := Lib.hid (by unfold visit1; rw [if_neg (by rw [hh]; decide)])
            have hz5 := hB5.size
            clear hlk2 hrr2 hrr3 hlo hlv f1 f3 f4 f7 hs hvs hvp hr5 hM5 ht5 hB5 hO5 hh
            go_wp2_with (at_builtin; refine wp_app_r TS.ok rfl _ _ rfl w.heap.size _ (y.ln.map baOf) rfl (HO5.out.alloc _) w5.heap.size 1 (baOf s) rfl (blk_new w5 _) rfl HLL.out (by simp; omega) ?_)
            intro v9 w9 hO9 hg9 hbk9
            have HO9 : Hid (OwnR TS w9 w.heap.size v9 ((visit1 (vp + 1) y s).ln.map baOf)) := Lib.hid (by rw [HVI.out, List.map_append]; exact hO9)
            have HM9 : Hid (MapS TMi w9 mb (visit1 (vp + 1) y s).st) := Lib.hid (by rw [HVI.out]; exact map_off HM5.out (HO5.out.alloc _) hg9)
            have HB9 := Lib.hid (Below.trans HB5.out (app_belowR (HO5.out.alloc (.cells #[.string (baOf s)] 9)) hg9 (by simp; omega)))
            clear hO9 hg9 hbk9
            go_wp2
            go_roundw
            case rel => exact ⟨jn + 1, _, by omega, by go_num, HNX, HM9, HO9, HB9⟩
            case measure => simp [intOf]; omega
          · rw [hh] at hlo
            have hlo2 : (Instr.lookup 126 (.map (some mb)) (.string (baOf s)) true).run Tryz.prog wr = .ok (.tuple #[.int .i64 vs, .bool true]) wr := by rw [hvs]; exact hlo
            have HNY : Hid (RcP g A U x k p y (jn + 1)) := Lib.hid (by have := HNX.out; unfold visit1 at this; rw [if_pos hh] at this; exact this)
            have HO9 : Hid (OwnR TS wr w.heap.size (.slice (some ⟨b1', o1', none⟩) n2 lc2) (y.ln.map baOf)) := HO2
            clear hlk2 hrr2 hrr3 hlo hlv f1 f3 f4 f7 hs hvs hvp hh c2
            go_wp2
            go_roundw
            case rel => exact ⟨jn + 1, y, by omega, by go_num, HNY, HM2, HO9, HB2⟩
            case measure => simp [intOf]; omega
        · obtain rfl : jn = rn := by omega
          have HRE := Lib.hid (HRP.out.stop HU.out (by rw [← HRN.out]; exact Nat.le_refl _))
          clear f1 f2 f3 f4 f5 f6 f7
          go_wp2
          go_roundw
          case rel => exact ⟨k + 1, y, by omega, by go_num, HRE, HM2, HO2, HB2⟩
          case measure => simp [intOf]; omega
    · have HE : Hid (MapS TMi wr mb (bfsR g A U).st) := Lib.hid (by rw [← HR.out.stop (by rw [← HN.out]; omega)]; exact HM1.out)
      have HLE : Hid (w.heap.size ≤ mb) := Lib.hid (by rw [HMBE.out]; exact Nat.le_refl _)
      go_wp2
      go_ret
      exact ⟨⟨mb, rfl, HLE.out, HE.out⟩, HB1.out⟩
end Go.Proofs.YtihgnpobkpnipaaGreatDoor
namespace Go.Proofs.YtihgnpobkpnipaaGreatDoor
open Go.RowKit Go.Sort Go.Maps
theorem knownF_zero {ps : List Prt} {l : List Alt} {ks : List ByteArray} (h : knownF ps l ks = 0) : catsF ps l = 0 ∧ ∀ k ∈ ks, hasP ps k = true := by
  unfold knownF at h
  by_cases h0 : catsF ps l = 0
  · rw [if_neg (by simp [h0])] at h
    by_cases h1 : ks.all (hasP ps) = true
    · exact ⟨h0, List.all_eq_true.1 h1⟩
    · rw [if_neg h1] at h; exact absurd h (by decide)
  · rw [if_pos h0] at h; exact absurd h h0
def dirS (ps : List Prt) (l : List Alt) (key : ByteArray) : List ByteArray := if knownF ps l [key] = 0 then (nextL l (bsOf key)).map baOf else []
def allS (ps : List Prt) (l : List Alt) (key : ByteArray) : List ByteArray := if knownF ps l [key] = 0 then (allB ps l (bsOf key)).map baOf else []
theorem nextL_len (l : List Alt) (p : Bs) : (nextL l p).length ≤ 2 * l.length := by
  unfold nextL
  rw [List.length_mergeSort, List.length_map]
  exact Nat.le_trans (List.length_filter_le _ _) (waysL_len l)
end Go.Proofs.YtihgnpobkpnipaaGreatDoor
