/- Texts of the proof of a law, put together, part 36 of 41. Conditions: none beyond those that each theorem names. -/
import Derived.Test.YtihgnpobkpnipaaGreatDoorQz31
import Derived.Test.YtihgnpobkpnipaaGreatDoorQz34
import Derived.Test.YtihgnpobkpnipaaGreatDoorQz35
namespace Go.Proofs.YtihgnpobkpnipaaGreatDoor
open Go.RowKit Go.Sort Go.Maps
/-- rows of its own that read as a catalogue. -/
def CatO (B : Nat) (w : World) (vp va : Value) (ps : List Prt) (l : List Alt) : Prop := OwnR TPt w B vp ps ∧ OwnR TAl w B va l
theorem CatO.nil (B : Nat) (w : World) : CatO B w (.slice none 0 0) (.slice none 0 0) [] [] := ⟨OwnR.nil _ _, OwnR.nil _ _⟩
def RdO (t : Bs) (w : World) (e : Ending) (w' : World) : Prop := ∃ pv av, e = .returned (.tuple #[.agg #[pv, av], .int .i64 (catRead t).2.1, .int .i64 (catRead t).2.2]) ∧ CatO w.heap.size w' pv av (catRead t).1.1 (catRead t).1.2 ∧ Below w.heap.size w w'
theorem RdO.mk {t : Bs} {w w' : World} {pv av : Value} {c : Cst} {i F : Int} (h : catRead t = (c, i, F)) (hc : CatO w.heap.size w' pv av c.1 c.2) (hb : Below w.heap.size w w') : RdO t w (.returned (.tuple #[.agg #[pv, av], .int .i64 i, .int .i64 F])) w' := ⟨pv, av, by rw [h], by rw [h]; exact hc, hb⟩
/-- so many names of its own, whichever they are. -/
def SpO (w : World) (B : Nat) (v : Value) (n : Nat) : Prop := ∃ l : List ByteArray, l.length = n ∧ OwnR TS w B v l
theorem flatS (l : List ByteArray) : l.flatMap TS.f = l.map fun s => Value.string s := by
  induction l with
  | nil => rfl
  | cons x r ih => rw [List.flatMap_cons, ih]; rfl
theorem SpO.set {w : World} {B n : Nat} {v : Value} (h : SpO w B v n) (g j : Nat) (x : ByteArray) : SpO (w.setCell ⟨g, j, none⟩ (.string x)) B v n := by
  obtain ⟨l, rfl, h2⟩ := h
  by_cases hg : v.ownBlock = some g
  · obtain ⟨a, cap, rfl, _, _⟩ := h2.form
    obtain ⟨o, rfl⟩ : ∃ o, a = some ⟨g, o, none⟩ := by
      rcases h2.2 with ⟨e, _⟩ | ⟨g2, cap2, cur, e, _⟩
      · rw [e] at hg; cases hg
      · rw [e] at hg
        obtain rfl : g2 = g := by simpa [Value.ownBlock] using hg
        injection e with e _ _
        exact ⟨0, e⟩
    obtain rfl : o = 0 := by
      rcases h2.2 with ⟨e, _⟩ | ⟨g2, cap2, cur, e, _⟩
      · injection e with e _ _; cases e
      · injection e with e _ _; injection e with e; injection e
    refine ⟨l.set j x, List.length_set, ?_⟩
    unfold OwnR at h2 ⊢
    rw [flatS] at h2 ⊢
    have hs := (World.ownsRow.stored h2 j (.string x)).1
    rw [List.length_set, List.map_set]
    exact hs
  · exact ⟨l, rfl, (ownR_k TS B).keep h2 fun k hk => Below.heap_setCell _ ⟨g, j, none⟩ _ k fun e => hg (by rw [hk]; exact congrArg some e)⟩
/-- what holds no strings stays. -/
def TyK (w w' : World) : Prop := ∀ (i : Nat) (cs : Array Value) (t : TypeId) (f : Nat × Nat), t ≠ 9 → w.heap[i]? = some (.cells cs t f) → w'.heap[i]? = some (.cells cs t f)
theorem TyK.refl (w : World) : TyK w w := fun _ _ _ _ _ h => h
theorem TyK.trans {a b c : World} (h : TyK a b) (h2 : TyK b c) : TyK a c := fun i cs t f ht hh => h2 i cs t f ht (h i cs t f ht hh)
theorem TyK.of_below {w w' : World} (h : Below w.heap.size w w') : TyK w w' := fun _ _ _ _ _ hh => blk_below hh h
theorem OwnR.ty {α : Type} {T : Rty α} {w w' : World} {B : Nat} {v : Value} {l : List α} (hT : T.e ≠ 9) (h : OwnR T w B v l) (hk : TyK w w') : OwnR T w' B v l := (ownR_k T B).keep h fun k hk2 => by
  obtain ⟨_, c1, h1⟩ := (ownR_k T B).blk h hk2
  rw [h1]
  exact hk k c1 _ _ hT h1
theorem own_len {α : Type} {T : Rty α} {w : World} {B : Nat} {v : Value} {l : List α} (h : OwnR T w B v l) : l.length ≤ 9223372036854775807 := by
  by_cases h0 : l = []
  · rw [h0]; simp
  · obtain ⟨g, cap, cur, _, _, _, h1, h2, _⟩ := h.blk h0
    exact Nat.le_trans h1 (Nat.le_trans h2 (by decide))
set_option maxHeartbeats 2000000 in
theorem spoilC_any (l : List ByteArray) (v : Value) (w : World) (B : Nat) (hO : OwnR TS w B v l) :
    Calls Tryz.prog 31 #[v] w fun e w' => e = .returned (.tuple #[]) ∧ Below B w w' ∧ (∀ v n, SpO w B v n → SpO w' B v n) ∧ TyK w w' := by
  have hlen := own_len hO
  obtain ⟨a, cap, rfl, _, _⟩ := hO.form
  obtain ⟨n, hn⟩ : ∃ n, n = l.length := ⟨_, rfl⟩
  rw [← hn] at hO hlen ⊢
  have HN := Lib.hid hn
  have HO := Lib.hid hO
  clear hO hn
  go_enter Tryz.func31, Tryz.ntmps31
  go_wp2_with fail
  go_loopw [5] (fun i wr => ∃ (k : Nat) (l' : List ByteArray), k ≤ n ∧ i = .int .i64 k ∧ Hid (l'.length = n ∧ OwnR TS wr B (.slice a n cap) l') ∧ Hid (Below B w wr) ∧ Hid (∀ v n, SpO w B v n → SpO wr B v n) ∧ Hid (TyK w wr)) (fun i _ => n - (intOf i).toNat)
  case atStart => exact ⟨0, l, Nat.zero_le _, rfl, Lib.hid ⟨HN.out.symm, HO.out⟩, Lib.hid (Below.refl _ _), Lib.hid fun _ _ h => h, Lib.hid (TyK.refl _)⟩
  case round =>
    obtain ⟨k, l', hk, rfl, HI, HK, HSP, HTY⟩ := hrel
    by_cases hlt : k < n
    · obtain ⟨x, hx⟩ : ∃ x, l'[k]? = some x := ⟨_, List.getElem?_eq_getElem (by rw [HI.out.1]; exact hlt)⟩
      obtain ⟨g, cap', cur, hv, hBg, hgb, _⟩ := HI.out.2.blk (by intro e; have := HI.out.1; rw [e, List.length_nil] at this; omega)
      injection hv with e1 _ _
      subst e1
      obtain ⟨c1, f1⟩ := HI.out.2.cellf (fo := 0) (i := k) (x := x) (v := .string x) TS.ok HI.out.1.symm hx rfl
      simp only [TS, Nat.mul_one, Nat.add_zero] at c1 f1
      have hs : OwnR TS (wr.setCell ⟨g, k * 1 + 0, none⟩ (.string ⟨#[115, 112, 111, 105, 108, 116]⟩)) B (.slice (some ⟨g, 0, none⟩) n cap) (l'.set k ⟨#[115, 112, 111, 105, 108, 116]⟩) := OwnR.setf TS.ok HI.out.2 HI.out.1.symm hx (fo := 0) (by decide) rfl
      rw [Nat.mul_one, Nat.add_zero] at hs
      have HS := Lib.hid hs
      have HK2 := Lib.hid (Bl.set HK.out g k hBg (.string ⟨#[115, 112, 111, 105, 108, 116]⟩))
      have HSP2 : Hid (∀ v n, SpO w B v n → SpO (wr.setCell ⟨g, k, none⟩ (.string ⟨#[115, 112, 111, 105, 108, 116]⟩)) B v n) := Lib.hid fun v n h => (HSP.out v n h).set g k _
      have HTY2 : Hid (TyK w (wr.setCell ⟨g, k, none⟩ (.string ⟨#[115, 112, 111, 105, 108, 116]⟩))) := Lib.hid fun i cs t f ht h => by
        have h2 := HTY.out i cs t f ht h
        by_cases e : i = g
        · subst e
          rw [hgb] at h2
          injection h2 with h2
          injection h2 with _ e2 _
          exact absurd e2.symm ht
        · exact (Below.heap_setCell _ ⟨g, k, none⟩ _ i e).trans h2
      have hw1 : IntKind.i64.wrap ((k : Int) + 1) = ((k + 1 : Nat) : Int) := by rw [IntWalk.i64_in _ (by omega)]; omega
      have HL : Hid ((l'.set k ⟨#[115, 112, 111, 105, 108, 116]⟩).length = n) := Lib.hid (by rw [List.length_set]; exact HI.out.1)
      clear hs hx hgb
      go_wp2
      go_roundw
      case rel => exact ⟨k + 1, _, by omega, by go_num, Lib.hid ⟨HL.out, HS.out⟩, HK2, HSP2, HTY2⟩
      case measure => simp [intOf]; omega
    · go_wp2
      go_end0
      exact ⟨rfl, HK.out, HSP.out, HTY.out⟩
set_option maxHeartbeats 4000000 in
set_option maxRecDepth 100000 in
theorem Direct_own (ps : List Prt) (l : List Alt) (vp va : Value) (key : ByteArray) (w : World) (hl : ps.length ≤ 100000) (hl2 : l.length ≤ 100000) (hz : PrtZ ps) (hz2 : AltZ l) (hc : CatR w vp va ps l) (hk : key.size ≤ maxLen) :
    Calls Tryz.prog 32 #[.agg #[vp, va], .string key] w fun e w' => (∃ v, e = .returned (.tuple #[v, .int .i64 (knownF ps l [key])]) ∧ OwnR TS w' w.heap.size v (dirS ps l key)) ∧ Below w.heap.size w w' := by
  have HKN := Lib.hid fun vk W (hW : Below w.heap.size w W) (hr : RecR TS W 0 vk [key]) => known_any ps l vp va vk [key] W (by omega) (by omega) (by simp) hz hz2 (hc.low hW) hr
  have HBP := Lib.hid fun W (hW : Below w.heap.size w W) => byPart_any ps l vp va W hl2 hz2 (hc.low hW)
  obtain ⟨pa, pc, rfl, _, _⟩ := hc.p.form
  obtain ⟨aa, ac, rfl, _, _⟩ := hc.a.form
  obtain ⟨w2, hw2⟩ : ∃ w2, w2 = (w.alloc (.cells #[.slice pa ps.length pc, .slice aa l.length ac] 29)).alloc (.cells #[.string key] 9) := ⟨_, rfl⟩
  have hA2 : Below w.heap.size w w2 := by rw [hw2]; exact Bl.alloc (Bl.alloc (Below.refl _ _) _) _
  have h3 : w2.heap[w.heap.size]? = some (.cells #[.slice pa ps.length pc, .slice aa l.length ac] 29 (0, 0)) := by rw [hw2]; exact blk_old (blk_new w _) _
  have h4 : w2.heap[w.heap.size + 1]? = some (.cells #[.string key] 9 (0, 0)) := by rw [hw2]; exact blk_new' _ _ (by simp)
  obtain ⟨F, hF⟩ : ∃ F, F = knownF ps l [key] := ⟨_, rfl⟩
  have HK0 := HKN.out (.slice (some ⟨w.heap.size + 1, 0, none⟩) 1 1) w2 hA2 (RecR.of_blk (T := TS) h4 rfl rfl (by simp) (by omega) (Nat.zero_le _))
  rw [← hF] at HK0
  have HK := Lib.hid HK0
  have HW2 := Lib.hid hw2
  have HX := Lib.hid h3
  have HA2 := Lib.hid hA2
  have HKS := Lib.hid hk
  have HD : Hid (dirS ps l key = if F = 0 then (nextL l (bsOf key)).map baOf else []) := Lib.hid (by rw [hF]; rfl)
  obtain ⟨R, hR⟩ : ∃ R, R = dirS ps l key := ⟨_, rfl⟩
  rw [← hR] at HD ⊢
  rw [← hF]
  clear hw2 h3 h4 hA2 hF HK0 HKN hc hz hz2 hR hk
  go_enter Tryz.func32, Tryz.ntmps32
  go_wp2_with fail
  rw [← HW2.out]
  refine HK.out.mono ?_
  rintro e w3 ⟨rfl, hb3⟩
  have HB3 := Lib.hid (Bl.trans HA2.out hb3)
  have hx3 := blk_below HX.out hb3
  have c0 : w3.cell? ⟨w.heap.size, 0, none⟩ = some (.slice pa ps.length pc) := blk_cell hx3 0
  have c1 : w3.cell? ⟨w.heap.size, 1, none⟩ = some (.slice aa l.length ac) := blk_cell hx3 1
  clear hb3 hx3
  by_cases h0 : F = 0
  · have HDD : Hid (R = (nextL l (bsOf key)).map baOf) := Lib.hid (by rw [HD.out, if_pos h0])
    subst h0
    have HBY := Lib.hid (HBP.out w3 HB3.out)
    clear HBP HD
    go_wp2_with fail
    refine HBY.out.mono ?_
    rintro e w4 ⟨⟨b, FF, rfl, _, hN⟩, hb4⟩
    obtain ⟨hd, hv1, hv2⟩ := hN.by'.look key HKS.out
    have hlk := hv1 w4 (Below.refl _ _)
    have hrr := hv2.1 w4 (Below.refl _ _)
    have hrw := hN.row (bsOf key)
    have HRR : Hid (OwnR TS w4 w.heap.size (hdrV hd) ((nextL l (bsOf key)).map baOf)) := Lib.hid (by rw [← hrw]; exact OwnR.base hrr HB3.out.size)
    have HB4 := Lib.hid (Bl.trans HB3.out hb4)
    clear hN hv1 hv2 hrr hrw hb4
    go_wp2
    go_ret2
    exact ⟨⟨_, rfl, by rw [HDD.out]; exact HRR.out⟩, HB4.out⟩
  · have HDD : Hid (R = []) := Lib.hid (by rw [HD.out, if_neg h0])
    have h0' : (F != 0) = true := by simpa using h0
    go_wp2
    go_ret2
    exact ⟨⟨_, rfl, by rw [HDD.out]; exact OwnR.nil _ _⟩, HB3.out⟩
set_option maxHeartbeats 4000000 in
set_option maxRecDepth 100000 in
theorem All_own (ps : List Prt) (l : List Alt) (vp va : Value) (key : ByteArray) (w : World) (hl : ps.length ≤ 100000) (hl2 : l.length ≤ 100000) (hz : PrtZ ps) (hz2 : AltZ l) (hc : CatR w vp va ps l) (hk : key.size ≤ maxLen) :
    Calls Tryz.prog 33 #[.agg #[vp, va], .string key] w fun e w' => (∃ v, e = .returned (.tuple #[v, .int .i64 (knownF ps l [key])]) ∧ OwnR TS w' w.heap.size v (allS ps l key)) ∧ Below w.heap.size w w' := by
  have HKN := Lib.hid fun vk W (hW : Below w.heap.size w W) (hr : RecR TS W 0 vk [key]) => known_any ps l vp va vk [key] W (by omega) (by omega) (by simp) hz hz2 (hc.low hW) hr
  have HBP := Lib.hid fun W (hW : Below w.heap.size w W) => byPart_any ps l vp va W hl2 hz2 (hc.low hW)
  obtain ⟨pa, pc, rfl, _, _⟩ := hc.p.form
  obtain ⟨aa, ac, rfl, _, _⟩ := hc.a.form
  obtain ⟨w2, hw2⟩ : ∃ w2, w2 = (w.alloc (.cells #[.slice pa ps.length pc, .slice aa l.length ac] 29)).alloc (.cells #[.string key] 9) := ⟨_, rfl⟩
  have hA2 : Below w.heap.size w w2 := by rw [hw2]; exact Bl.alloc (Bl.alloc (Below.refl _ _) _) _
  have h3 : w2.heap[w.heap.size]? = some (.cells #[.slice pa ps.length pc, .slice aa l.length ac] 29 (0, 0)) := by rw [hw2]; exact blk_old (blk_new w _) _
  have h4 : w2.heap[w.heap.size + 1]? = some (.cells #[.string key] 9 (0, 0)) := by rw [hw2]; exact blk_new' _ _ (by simp)
  obtain ⟨F, hF⟩ : ∃ F, F = knownF ps l [key] := ⟨_, rfl⟩
  have HK0 := HKN.out (.slice (some ⟨w.heap.size + 1, 0, none⟩) 1 1) w2 hA2 (RecR.of_blk (T := TS) h4 rfl rfl (by simp) (by omega) (Nat.zero_le _))
  rw [← hF] at HK0
  have HK := Lib.hid HK0
  have HW2 := Lib.hid hw2
  have HX := Lib.hid h3
  have HA2 := Lib.hid hA2
  have HKS := Lib.hid hk
  have HZP := Lib.hid (keysP_size hz)
  have HF := Lib.hid hF
  have HD : Hid (allS ps l key = if F = 0 then (allB ps l (bsOf key)).map baOf else []) := Lib.hid (by rw [hF]; rfl)
  obtain ⟨R, hR⟩ : ∃ R, R = allS ps l key := ⟨_, rfl⟩
  rw [← hR] at HD ⊢
  rw [← hF]
  clear hw2 h3 h4 hA2 hF HK0 HKN hc hz hz2 hR hk
  go_enter Tryz.func33, Tryz.ntmps33
  go_wp2_with fail
  rw [← HW2.out]
  refine HK.out.mono ?_
  rintro e w3 ⟨rfl, hb3⟩
  have HB3 := Lib.hid (Bl.trans HA2.out hb3)
  have hx3 := blk_below HX.out hb3
  have c0 : w3.cell? ⟨w.heap.size, 0, none⟩ = some (.slice pa ps.length pc) := blk_cell hx3 0
  have c1 : w3.cell? ⟨w.heap.size, 1, none⟩ = some (.slice aa l.length ac) := blk_cell hx3 1
  clear hb3 hx3
  by_cases h0 : F = 0
  · have HDD : Hid (R = (allB ps l (bsOf key)).map baOf) := Lib.hid (by rw [HD.out, if_pos h0])
    obtain ⟨g1, g2⟩ := knownF_zero (HF.out.symm.trans h0)
    have HIN : Hid (bsOf key ∈ keysP ps) := Lib.hid (hasP_key (g2 key (by simp)))
    have HCA := Lib.hid g1
    subst h0
    have HBY := Lib.hid (HBP.out w3 HB3.out)
    clear HBP HD g1 g2
    go_wp2_with fail
    refine HBY.out.mono ?_
    rintro e w4 ⟨⟨b, FF, rfl, _, hN⟩, hb4⟩
    have HB4 := Lib.hid (Bl.trans HB3.out hb4)
    have HRE := Lib.hid (reached_any b key (nextL l) (keysP ps) w4 hN.byG HIN.out (fun p s hs => (next_in HCA.out hs).2.1) (by unfold keysP; rw [List.length_map]; omega) HZP.out (fun p => by have := nextL_len l p; omega))
    clear hN hb4
    go_wp2_with fail
    refine HRE.out.mono ?_
    rintro e w5 ⟨⟨m, rfl, hmm5, hM5⟩, hb5⟩
    obtain ⟨w6, hr6, hM6, ht6⟩ := hM5.del TMi.ok key HKS.out 0
    have HB5 := Lib.hid (Bl.trans HB4.out hb5)
    have HB6 := Lib.hid (HB5.out.trans (Turned.below ht6 (Nat.le_trans HB4.out.size hmm5) HB5.out.size))
    have hlm : ((bfsR (nextL l) (bsOf key) (keysP ps)).st.del (bsOf key)).length ≤ 100000 := by
      obtain ⟨j, h1, _, h3, _⟩ := bfsR_law (nextL l) (bsOf key) (keysP ps) HIN.out (fun p s hs => (next_in HCA.out hs).2.1)
      have h4 := bf_len h1
      have h5 := List.Nodup.length_le_of_subset h1.nd h3
      have h6 : (keysP ps).length = ps.length := by unfold keysP; rw [List.length_map]
      have h7 := List.length_filter_le (fun p : Bs × Int => decide (p.1 ≠ bsOf key)) (bfsR (nextL l) (bsOf key) (keysP ps)).st
      show (List.filter _ _).length ≤ _
      omega
    have HSO := Lib.hid (sortedI_any m _ w6 hM6 (by show _ ≤ _; exact Nat.le_trans hlm (by omega)))
    have hr6' : (Builtin.delete_ #[126, 9] 0 #[.map (some m), .string key]).run Tryz.prog w5 = .ok (.tuple #[]) w6 := hr6
    clear hM5 hr6 hM6 ht6 hb5 hmm5 hlm
    go_wp2_with (first
      | (go_at_call 80; refine (keysI_any m _).mono ?_; rintro e w1' ⟨rfl, rfl⟩)
      | fail)
    refine HSO.out.mono ?_
    rintro e w7 ⟨v, rfl, hO7, hb7⟩
    have HR7 := Lib.hid (OwnR.base hO7 HB6.out.size)
    have HB7 := Lib.hid (Bl.trans HB6.out hb7)
    clear hO7 hb7
    go_wp2
    go_ret2
    exact ⟨⟨_, rfl, by rw [HDD.out]; exact HR7.out⟩, HB7.out⟩
  · have HDD : Hid (R = []) := Lib.hid (by rw [HD.out, if_neg h0])
    have h0' : (F != 0) = true := by simpa using h0
    go_wp2
    go_ret2
    exact ⟨⟨_, rfl, by rw [HDD.out]; exact OwnR.nil _ _⟩, HB3.out⟩
set_option maxHeartbeats 16000000 in
set_option maxRecDepth 100000 in
theorem CatRead_own (s : ByteArray) (w : World) (hT : TxW w) (hs : s.size ≤ 1000000) :
    Calls Tryz.prog 13 #[.string s] w fun e w' => RdO (bsOf s) w e w' := by
  have hsz : (bsOf s).length = s.size := bsOf_len s
  obtain ⟨w1, hw1⟩ : ∃ w1, w1 = w.alloc (.cells #[.slice none 0 0, .slice none 0 0] 29) := ⟨_, rfl⟩
  have hA1 : Below w.heap.size w w1 := by rw [hw1]; exact Bl.alloc (Below.refl _ _) _
  have hx1 : w1.heap[w.heap.size]? = some (.cells #[.slice none 0 0, .slice none 0 0] 29 (0, 0)) := by rw [hw1]; exact blk_new w _
  have HW1 := Lib.hid hw1
  by_cases hbig : 200000 < s.size
  · have HV : Hid (catRead (bsOf s) = (([], []), 0, 2)) := Lib.hid (by unfold catRead; rw [if_pos (by omega)])
    have hb1 : (200000 : Int) < (s.size : Int) := by omega
    have q0 : w1.cell? ⟨w.heap.size, 0, none⟩ = some (.slice none 0 0) := blk_cell hx1 0
    have q1 : w1.cell? ⟨w.heap.size, 1, none⟩ = some (.slice none 0 0) := blk_cell hx1 1
    have g0 := blk_free hx1 0
    have g1 := blk_free hx1 1
    have lR := blk_lt hx1
    have hZ := blk_set (blk_set hx1 0 (.slice none 0 0)) 1 (.slice none 0 0)
    have hBZ := Bl.set (Bl.set hA1 w.heap.size 0 (Nat.le_refl _) (.slice none 0 0)) w.heap.size 1 (Nat.le_refl _) (.slice none 0 0)
    clear hsz hT hx1 hA1
    go_enter Tryz.func13, Tryz.ntmps13
    go_upto_region 2 with fail
    rw [← HW1.out]
    clear hw1
    go_wp2
    generalize ((w1.setCell ⟨w.heap.size, 0, none⟩ (.slice none 0 0)).setCell ⟨w.heap.size, 1, none⟩ (.slice none 0 0)) = w9 at *
    have r0 : w9.cell? ⟨w.heap.size, 0, none⟩ = some (.slice none 0 0) := blk_cell hZ 0
    have r1 : w9.cell? ⟨w.heap.size, 1, none⟩ = some (.slice none 0 0) := blk_cell hZ 1
    refine bodyPost_ret (v := .tuple #[.agg #[.slice none 0 0, .slice none 0 0], .int .i64 0, .int .i64 2]) (by simp [results, Tryz.results13, go_sem, r0, r1]) rfl ?_
    exact RdO.mk HV.out (CatO.nil _ _) hBZ
  · have HV : Hid (catRead (bsOf s) = rdEndC (readKt rdC (linesK (bsOf s)).2 0 ([], []) (linesK (bsOf s)).1)) := Lib.hid (by unfold catRead; rw [if_neg (by omega), readKt_eq])
    have hb1 : ¬ (200000 : Int) < (s.size : Int) := by omega
    have HLI := Lib.hid (Lines_any s w1 (hT.below hA1) hs)
    have hle := linesS_le (bsOf s)
    have hln := linesS_len (bsOf s)
    have HLE := Lib.hid hle
    obtain ⟨bo, hbo⟩ : ∃ bo, bo = (linesK (bsOf s)).2 := ⟨_, rfl⟩
    obtain ⟨Ls, hLs⟩ : ∃ Ls, Ls = (linesK (bsOf s)).1 := ⟨_, rfl⟩
    change Hid (Calls _ _ _ _ fun e w' => ∃ v l, e = .returned (.tuple #[v, .bool (linesK (bsOf s)).2]) ∧ OwnR TS w' w1.heap.size v l ∧ l.map bsOf = (linesK (bsOf s)).1 ∧ l.length ≤ 1000001 ∧ Below w1.heap.size w1 w') at HLI
    rw [← hbo, ← hLs] at HV HLI
    rw [← hLs] at HLE hln
    have HT1 := Lib.hid (hT.below hA1)
    have HX1 := Lib.hid hx1
    have HA1 := Lib.hid hA1
    clear hbo hLs hT hle hw1 hA1 hx1
    go_enter Tryz.func13, Tryz.ntmps13
    go_wp2_with fail
    rw [← HW1.out]
    refine HLI.out.mono ?_
    rintro e w2 ⟨v, l, rfl, hO, hm, _, hb2⟩
    obtain ⟨n, hn⟩ : ∃ n, n = l.length := ⟨_, rfl⟩
    obtain ⟨sa, sc, rfl, _, _⟩ := hO.form
    rw [← hn] at hO ⊢
    have HN := Lib.hid hn
    have hll : l.length = Ls.length := by rw [← hm, List.length_map]
    have hn1 : n ≤ 200001 := by omega
    have HO := Lib.hid hO
    have HM := Lib.hid hm
    have HLL : Hid (n = Ls.length) := Lib.hid (by rw [hn, hll])
    have HB2 := Lib.hid (Bl.trans HA1.out hb2)
    have HX2 := Lib.hid (blk_below HX1.out hb2)
    have HT2 := Lib.hid (HT1.out.below hb2)
    obtain ⟨b, hb⟩ : ∃ b, b = w2.heap.size := ⟨_, rfl⟩
    obtain ⟨w3, hw3⟩ : ∃ w3, w3 = w2.alloc (.cells #[.slice none 0 0, .slice none 0 0] 29) := ⟨_, rfl⟩
    have HB3 : Hid (Below w2.heap.size w2 w3) := Lib.hid (by rw [hw3]; exact Bl.alloc (Below.refl _ _) _)
    have HC3 : Hid (CatBox w3 b ([], [])) := Lib.hid (CatBox.new (by rw [hw3, hb]; exact blk_new w2 _))
    have HRX := Lib.hid (And.intro hb hw3)
    have hRb : w.heap.size < b := by rw [hb]; exact blk_lt HX2.out
    have HS0 : Hid (SmC 200000 ([], []) 0) := Lib.hid ⟨rfl, fun _ h => by simp at h, fun _ h => by simp at h⟩
    have HBB : Hid (b = w2.heap.size) := Lib.hid hb
    clear hO hm hll hln hb2 hn hw3 hb
    go_upto_region 5 with fail
    rw [← HRX.out.2, ← HRX.out.1]
    go_wp2_with fail
    go_loopw [22] (fun i wr => ∃ (k : Nat) (c : Cst), k ≤ n ∧ i = .int .i64 k ∧ Hid (CatBox wr b c) ∧ Hid (SmC 200000 c k) ∧ Hid (readKt rdC bo 0 ([], []) Ls = readKt rdC bo k c (Ls.drop k)) ∧ Hid (Below w2.heap.size w2 wr)) (fun i _ => n - (intOf i).toNat)
    case atStart => exact ⟨0, ([], []), Nat.zero_le _, rfl, HC3, HS0, Lib.hid rfl, HB3⟩
    case round =>
      obtain ⟨k, c, hk, rfl, HC, HSM, HP, HB⟩ := hrel
      have HTk := Lib.hid (HT2.out.below HB.out)
      have HBW := Lib.hid (Bl.trans HB2.out HB.out)
      have HRk := Lib.hid (blk_below HX2.out HB.out)
      by_cases hlt : k < n
      · obtain ⟨x, hx⟩ : ∃ x, l[k]? = some x := ⟨_, List.getElem?_eq_getElem (by rw [← HN.out]; exact hlt)⟩
        have hLx : Ls[k]? = some (bsOf x) := by rw [← HM.out, List.getElem?_map, hx]; rfl
        obtain ⟨hkl, hLk⟩ := List.getElem?_eq_some_iff.1 hLx
        have hdr : Ls.drop k = bsOf x :: Ls.drop (k + 1) := by rw [List.drop_eq_getElem_cons hkl, hLk]
        have hxs : x.size ≤ 200000 := by
          have h1 := HLE.out _ (List.mem_of_getElem? hLx)
          have h2 := bsOf_len x
          omega
        obtain ⟨b1, o1, rfl, _, _, c0⟩ := str_at (HO.out.rec.below HB.out) hx
        have hw1 : IntKind.i64.wrap ((k : Int) + 1) = ((k + 1 : Nat) : Int) := by rw [IntWalk.i64_in _ (by omega)]; omega
        have hw2 : IntKind.i64.wrap ((n : Int) - 1) = ((n - 1 : Nat) : Int) := by rw [IntWalk.i64_in _ (by omega)]; omega
        have HRL := Lib.hid (CatLine_any b c x wr HTk.out (by omega) HC.out (by have := HSM.out.1; omega) (by have := HSM.out.1; omega))
        have HDR := Lib.hid hdr
        have HXS : Hid ((bsOf x).length ≤ 200000) := Lib.hid (by rw [bsOf_len]; exact hxs)
        clear hx hLx hkl hLk hdr
        have HBAD := Lib.hid (show (rdC c (bsOf x) = none ∨ (bo = false ∧ Ls.drop (k + 1) = [])) → catRead (bsOf s) = (([], []), (k : Int), 9) from fun h => by
          have h1 := HP.out
          rw [HDR.out, readKt_bad h] at h1
          rw [HV.out, h1]; rfl)
        obtain ⟨od, hod⟩ : ∃ q, q = rdC c (bsOf x) := ⟨_, rfl⟩
        have HOD := Lib.hid hod
        rw [← hod] at HRL
        clear hod
        go_wp2_with fail
        refine HRL.out.mono ?_
        rintro e w4 ⟨rfl, hc4, hb4⟩
        have HB4 : Hid (Below w2.heap.size w2 w4) := Lib.hid (Below.trans HB.out (by rw [← HBB.out]; exact hb4))
        have HC4 := Lib.hid hc4
        have hx4 := blk_below HX2.out HB4.out
        have HBW4 := Lib.hid (Bl.trans HB2.out HB4.out)
        have q0 : w4.cell? ⟨w.heap.size, 0, none⟩ = some (.slice none 0 0) := blk_cell hx4 0
        have q1 : w4.cell? ⟨w.heap.size, 1, none⟩ = some (.slice none 0 0) := blk_cell hx4 1
        have g0 := blk_free hx4 0
        have g1 := blk_free hx4 1
        have lR := blk_lt hx4
        have HZ := Lib.hid (blk_set (blk_set hx4 0 (.slice none 0 0)) 1 (.slice none 0 0))
        have HBZ := Lib.hid (Bl.set (Bl.set HBW4.out w.heap.size 0 (Nat.le_refl _) (.slice none 0 0)) w.heap.size 1 (Nat.le_refl _) (.slice none 0 0))
        clear hc4 hb4 hx4 HRL c0
        cases od with
        | none =>
          have HR : Hid (catRead (bsOf s) = (([], []), (k : Int), 9)) := Lib.hid (HBAD.out (.inl HOD.out.symm))
          clear HBAD
          go_wp2
          generalize ((w4.setCell ⟨w.heap.size, 0, none⟩ (.slice none 0 0)).setCell ⟨w.heap.size, 1, none⟩ (.slice none 0 0)) = w9 at *
          have r0 : w9.cell? ⟨w.heap.size, 0, none⟩ = some (.slice none 0 0) := blk_cell HZ.out 0
          have r1 : w9.cell? ⟨w.heap.size, 1, none⟩ = some (.slice none 0 0) := blk_cell HZ.out 1
          refine bodyPost_ret (v := .tuple #[.agg #[.slice none 0 0, .slice none 0 0], .int .i64 k, .int .i64 9]) (by simp [results, Tryz.results13, go_sem, r0, r1]) rfl ?_
          exact RdO.mk HR.out (CatO.nil _ _) HBZ.out
        | some d =>
          have HD4 : Hid (CatBox w4 b d) := HC4
          have HSN := Lib.hid (rdC_sm HXS.out HSM.out HOD.out.symm)
          by_cases hlast : bo = false ∧ k + 1 = n
          · obtain ⟨rfl, hl9⟩ := hlast
            have HR : Hid (catRead (bsOf s) = (([], []), (k : Int), 9)) := Lib.hid (HBAD.out (.inr ⟨rfl, by rw [List.drop_eq_nil_iff]; have := HLL.out; omega⟩))
            have hqb : ((k : Int) == ((n - 1 : Nat) : Int)) = true := by simp; omega
            have hqc : (k : Int) = ((n - 1 : Nat) : Int) := by omega
            clear hl9 HBAD
            go_wp2
            generalize ((w4.setCell ⟨w.heap.size, 0, none⟩ (.slice none 0 0)).setCell ⟨w.heap.size, 1, none⟩ (.slice none 0 0)) = w9 at *
            have r0 : w9.cell? ⟨w.heap.size, 0, none⟩ = some (.slice none 0 0) := blk_cell HZ.out 0
            have r1 : w9.cell? ⟨w.heap.size, 1, none⟩ = some (.slice none 0 0) := blk_cell HZ.out 1
            refine bodyPost_ret (v := .tuple #[.agg #[.slice none 0 0, .slice none 0 0], .int .i64 k, .int .i64 9]) (by simp [results, Tryz.results13, go_sem, r0, r1] <;> omega) rfl ?_
            exact RdO.mk HR.out (CatO.nil _ _) HBZ.out
          · have hgood : ¬(bo = false ∧ Ls.drop (k + 1) = []) := fun h => hlast ⟨h.1, by have h2 := h.2; rw [List.drop_eq_nil_iff] at h2; have := HLL.out; omega⟩
            have HP3 : Hid (readKt rdC bo 0 ([], []) Ls = readKt rdC bo (k + 1) d (Ls.drop (k + 1))) := Lib.hid (by rw [HP.out, HDR.out, readKt_good HOD.out.symm hgood])
            have hqq : bo = true ∨ (bo = false ∧ ((k : Int) == ((n - 1 : Nat) : Int)) = false ∧ ¬ (k : Int) = ((n - 1 : Nat) : Int)) := by
              cases bo with
              | true => exact .inl rfl
              | false =>
                have h9 : ¬ (k : Int) = ((n - 1 : Nat) : Int) := fun e => hlast ⟨rfl, by omega⟩
                exact .inr ⟨rfl, by simpa using h9, h9⟩
            clear hlast hgood HBAD HP q0 q1 g0 g1 HZ HBZ lR
            rcases hqq with rfl | ⟨rfl, hq1, hq2⟩
            all_goals
              go_wp2
              go_roundw
              case rel => exact ⟨k + 1, d, by omega, by go_num, HD4, HSN, HP3, HB4⟩
              case measure => simp [intOf]; omega
      · obtain rfl : k = n := by omega
        have HR : Hid (readKt rdC bo 0 ([], []) Ls = .ok c) := Lib.hid (by
          rw [HP.out, HLL.out, List.drop_length]; rfl)
        have HV1 : Hid (catRead (bsOf s) = if catsF c.1 c.2 = 0 then (c, 0, 0) else (([], []), 0, catsF c.1 c.2)) := Lib.hid (by rw [HV.out, HR.out]; rfl)
        obtain ⟨pv, av, hbx, hpo, hao⟩ := HC.out
        obtain ⟨zp, za⟩ := HSM.out.z (by decide)
        have HCC := Lib.hid (CheckCatalogue_any c.1 c.2 pv av wr (by have := HSM.out.1; omega) (by have := HSM.out.1; omega) zp za ⟨hpo.rec0, hao.rec0⟩)
        obtain ⟨pa, pc, rfl, _, _⟩ := hpo.form
        obtain ⟨aa, ac, rfl, _, _⟩ := hao.form
        obtain ⟨pn, hpn⟩ : ∃ q, q = c.1.length := ⟨_, rfl⟩
        obtain ⟨an, han⟩ : ∃ q, q = c.2.length := ⟨_, rfl⟩
        rw [← hpn, ← han] at HCC hbx
        rw [← hpn] at hpo
        rw [← han] at hao
        have HPO := Lib.hid (And.intro hpo hao)
        have HBX := Lib.hid hbx
        obtain ⟨F, hF⟩ : ∃ F, F = catsF c.1 c.2 := ⟨_, rfl⟩
        rw [← hF] at HV1 HCC
        have k0 : wr.cell? ⟨b, 0, none⟩ = some (.slice pa pn pc) := blk_cell hbx 0
        have k1 : wr.cell? ⟨b, 1, none⟩ = some (.slice aa an ac) := blk_cell hbx 1
        have lb := blk_lt hbx
        clear hbx hpo hao zp za hpn han hF HV HR HP
        go_wp2_with fail
        refine HCC.out.mono ?_
        rintro e w5 ⟨rfl, hb5⟩
        have HB5 := Lib.hid (Bl.trans HBW.out hb5)
        have hx5 := blk_below HRk.out hb5
        have hbx5 := blk_below HBX.out hb5
        have HPO5 := Lib.hid (And.intro (HPO.out.1.below hb5) (HPO.out.2.below hb5))
        have q0 : w5.cell? ⟨w.heap.size, 0, none⟩ = some (.slice none 0 0) := blk_cell hx5 0
        have q1 : w5.cell? ⟨w.heap.size, 1, none⟩ = some (.slice none 0 0) := blk_cell hx5 1
        have g0 := blk_free hx5 0
        have g1 := blk_free hx5 1
        have lR := blk_lt hx5
        have m0 : w5.cell? ⟨b, 0, none⟩ = some (.slice pa pn pc) := blk_cell hbx5 0
        have m1 : w5.cell? ⟨b, 1, none⟩ = some (.slice aa an ac) := blk_cell hbx5 1
        have lb5 := blk_lt hbx5
        have HX5 := Lib.hid hx5
        clear hb5 hx5 hbx5 k0 k1 lb HCC
        by_cases h0 : F = 0
        · have HR : Hid (catRead (bsOf s) = (c, 0, 0)) := Lib.hid (by rw [HV1.out, if_pos h0])
          have HZ := Lib.hid (blk_set (blk_set HX5.out 0 (.slice pa pn pc)) 1 (.slice aa an ac))
          have HBZ := Lib.hid (Bl.set (Bl.set HB5.out w.heap.size 0 (Nat.le_refl _) (.slice pa pn pc)) w.heap.size 1 (Nat.le_refl _) (.slice aa an ac))
          have HCZ : Hid (CatO w.heap.size ((w5.setCell ⟨w.heap.size, 0, none⟩ (.slice pa pn pc)).setCell ⟨w.heap.size, 1, none⟩ (.slice aa an ac)) (.slice pa pn pc) (.slice aa an ac) c.1 c.2) := Lib.hid ⟨((HPO5.out.1.far (show w.heap.size < b + 1 by omega) 0 _).far (show w.heap.size < b + 1 by omega) 1 _).base (by omega), ((HPO5.out.2.far (show w.heap.size < b + 1 by omega) 0 _).far (show w.heap.size < b + 1 by omega) 1 _).base (by omega)⟩
          subst h0
          clear HV1
          go_wp2
          generalize ((w5.setCell ⟨w.heap.size, 0, none⟩ (.slice pa pn pc)).setCell ⟨w.heap.size, 1, none⟩ (.slice aa an ac)) = w9 at *
          have r0 : w9.cell? ⟨w.heap.size, 0, none⟩ = some (.slice pa pn pc) := blk_cell HZ.out 0
          have r1 : w9.cell? ⟨w.heap.size, 1, none⟩ = some (.slice aa an ac) := blk_cell HZ.out 1
          refine bodyPost_ret (v := .tuple #[.agg #[.slice pa pn pc, .slice aa an ac], .int .i64 0, .int .i64 0]) (by simp [results, Tryz.results13, go_sem, r0, r1]) rfl ?_
          exact RdO.mk HR.out HCZ.out HBZ.out
        · have HR : Hid (catRead (bsOf s) = (([], []), 0, F)) := Lib.hid (by rw [HV1.out, if_neg h0])
          have h0' : (F != 0) = true := by simpa using h0
          have HZ := Lib.hid (blk_set (blk_set HX5.out 0 (.slice none 0 0)) 1 (.slice none 0 0))
          have HBZ := Lib.hid (Bl.set (Bl.set HB5.out w.heap.size 0 (Nat.le_refl _) (.slice none 0 0)) w.heap.size 1 (Nat.le_refl _) (.slice none 0 0))
          clear HV1
          go_wp2
          generalize ((w5.setCell ⟨w.heap.size, 0, none⟩ (.slice none 0 0)).setCell ⟨w.heap.size, 1, none⟩ (.slice none 0 0)) = w9 at *
          have r0 : w9.cell? ⟨w.heap.size, 0, none⟩ = some (.slice none 0 0) := blk_cell HZ.out 0
          have r1 : w9.cell? ⟨w.heap.size, 1, none⟩ = some (.slice none 0 0) := blk_cell HZ.out 1
          refine bodyPost_ret (v := .tuple #[.agg #[.slice none 0 0, .slice none 0 0], .int .i64 0, .int .i64 F]) (by simp [results, Tryz.results13, go_sem, r0, r1]) rfl ?_
          exact RdO.mk HR.out (CatO.nil _ _) HBZ.out
end Go.Proofs.YtihgnpobkpnipaaGreatDoor
