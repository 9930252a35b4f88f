/- Texts of the proof of a law, put together, part 30 of 41. Conditions: none beyond those that each theorem names. -/
import Derived.Test.YtihgnpobkpnipaaGreatDoorQz7
import Derived.Test.YtihgnpobkpnipaaGreatDoorQz28
import Derived.Test.YtihgnpobkpnipaaGreatDoorQz29
namespace Go.Proofs.YtihgnpobkpnipaaGreatDoor
open Go.RowKit Go.Sort Go.Maps
/-- a catalogue that grows in its box. -/
def CatBox (w : World) (b : Nat) (c : Cst) : Prop := ∃ pv av, w.heap[b]? = some (.cells #[pv, av] 29 (0, 0)) ∧ OwnR TPt w (b + 1) pv c.1 ∧ OwnR TAl w (b + 1) av c.2
theorem CatBox.low {w w' : World} {b : Nat} {c : Cst} (h : CatBox w b c) (hb : Below w.heap.size w w') : CatBox w' b c := by
  obtain ⟨pv, av, h1, h2, h3⟩ := h
  exact ⟨pv, av, blk_below h1 hb, h2.below hb, h3.below hb⟩
theorem row_from {w : World} {g n cap : Nat} {l : List ByteArray} (h : RecR TS w 0 (.slice (some ⟨g, 0, none⟩) n cap) l) (k : Nat) (hk : k ≤ l.length) : RecR TS w 0 (.slice (some ⟨g, k, none⟩) (n - k) (cap - k)) (l.drop k) := by
  obtain ⟨a0, c0, hv, h1, h2⟩ := h.form
  injection hv with _ hn hc
  subst hn hc
  refine ⟨some ⟨g, k, none⟩, cap - k, by rw [List.length_drop], by rw [List.length_drop]; omega, by omega, fun j u hj => ?_⟩
  have hjl : j < ((l.drop k).flatMap TS.f).length := (List.getElem?_eq_some_iff.1 hj).1
  rw [flat_len TS.ok.len] at hjl
  have hj1 : j < (l.drop k).length := by have : TS.k = 1 := rfl; rw [this, Nat.mul_one] at hjl; exact hjl
  have hx : (l.drop k)[j]? = some (l.drop k)[j] := List.getElem?_eq_getElem hj1
  obtain ⟨b, o, e, _, hb, hc⟩ := str_at h (k := k + j) (x := (l.drop k)[j]) (by rw [← List.getElem?_drop]; exact hx)
  injection e with e
  injection e with e1 e2 _
  subst e1 e2
  have hju : some (Value.string (l.drop k)[j]) = some u := by
    rw [← hj]
    clear hj hc
    have : (l.drop k).flatMap TS.f = (l.drop k).map Value.string := by
      generalize l.drop k = m
      induction m with
      | nil => rfl
      | cons a m ih => rw [List.flatMap_cons, ih]; rfl
    rw [this, List.getElem?_map, hx]
    rfl
  rw [← hju]
  exact ⟨g, k, rfl, Nat.zero_le _, hb, by rw [← hc]; congr 2; omega⟩
theorem five_of {α : Type} {l : List α} (h : l.length = 5) : ∃ a b c d e, l = [a, b, c, d, e] := by
  match l, h with
  | [a, b, c, d, e], _ => exact ⟨a, b, c, d, e, rfl⟩
theorem four_of {α : Type} {l : List α} (h : l.length = 4) : ∃ a b c d, l = [a, b, c, d] := by
  match l, h with
  | [a, b, c, d], _ => exact ⟨a, b, c, d, rfl⟩
theorem rdCw_other {c : Cst} {ws : List Bs} (h5 : ws.length ≠ 5) (h4 : ws.length ≠ 4) : rdCw c ws = none := by
  unfold rdCw
  split
  · rfl
  · split
    · exact absurd rfl h5
    · exact absurd rfl h4
    · rfl
theorem rdPt_at {c : Cst} {w a b n m : Bs} (hw : w = kwPart) (hc : c.2 = []) : rdPt c w a b n m = match numT 15 n, numT 15 m with
    | some i, some j => some (c.1 ++ [(baOf a, baOf b, i, j)], c.2)
    | _, _ => none := by unfold rdPt; rw [if_pos ⟨hw, hc⟩]; cases numT 15 n <;> cases numT 15 m <;> rfl
def VSl (B : Nat) (cs : Array Value) (t : TypeId) : Value → World → Prop := fun v w => ∃ g, v = .slice (some ⟨g, 0, none⟩) 1 1 ∧ w.heap[g]? = some (.cells cs t (0, 0)) ∧ B ≤ g
theorem VSl.low {B : Nat} {cs : Array Value} {t : TypeId} {v : Value} {w w' : World} (h : VSl B cs t v w) (hb : Below w.heap.size w w') : VSl B cs t v w' := by
  obtain ⟨g, h1, h2, h3⟩ := h
  exact ⟨g, h1, blk_below h2 hb, h3⟩
/-- what readLine has told. -/
def RlR (b : Nat) (w : World) (c : Cst) (o : Option Cst) (e : Ending) (w' : World) : Prop := e = .returned (.bool o.isSome) ∧ CatBox w' b (o.getD c) ∧ Below b w w'
theorem RlR.no {b : Nat} {w w' : World} {c : Cst} {o : Option Cst} (ho : o = none) (h : CatBox w' b c) (hb : Below b w w') : RlR b w c o (.returned (.bool false)) w' := by subst ho; exact ⟨rfl, h, hb⟩
theorem RlR.yes {b : Nat} {w w' : World} {c d : Cst} {o : Option Cst} (ho : o = some d) (h : CatBox w' b d) (hb : Below b w w') : RlR b w c o (.returned (.bool true)) w' := by subst ho; exact ⟨rfl, h, hb⟩
set_option maxHeartbeats 16000000 in
set_option maxRecDepth 100000 in
theorem CatLine_any (b : Nat) (c : Cst) (s : ByteArray) (w : World) (hT : TxW w) (hs : s.size ≤ 1000000) (hB : CatBox w b c) (hl1 : c.1.length ≤ 500000) (hl2 : c.2.length ≤ 500000) :
    Calls Tryz.prog 54 #[.pointer (some ⟨b, 0, none⟩), .string s] w fun e w' => RlR b w c (rdC c (bsOf s)) e w' := by
  have HKW := Lib.hid (KWords_any s w hT hs)
  have HBX := Lib.hid fun W (hW : Below w.heap.size w W) => hB.low hW
  obtain ⟨pv, av, hbx, hP, hA⟩ := hB
  have hbl := blk_lt hbx
  obtain ⟨pa, pc, rfl, _, _⟩ := hP.form
  obtain ⟨aa, ac, rfl, _, _⟩ := hA.form
  obtain ⟨pn, hpn⟩ : ∃ q, q = c.1.length := ⟨_, rfl⟩
  obtain ⟨an, han⟩ : ∃ q, q = c.2.length := ⟨_, rfl⟩
  have HPN := Lib.hid hpn
  have HAN := Lib.hid han
  rw [← hpn] at hP
  rw [← han] at hA
  rw [← hpn, ← han] at hbx
  have HXC := Lib.hid fun W (hW : Below w.heap.size w W) => blk_below hbx hW
  have HP := Lib.hid fun W (hW : Below w.heap.size w W) => hP.below hW
  have HA := Lib.hid fun W (hW : Below w.heap.size w W) => hA.below hW
  have HT := Lib.hid hT
  obtain ⟨Ls, hLs⟩ : ∃ Ls, Ls = splitL 32 (bsOf s) := ⟨_, rfl⟩
  have HRD : Hid (rdC c (bsOf s) = rdCw c Ls) := Lib.hid (by rw [hLs]; rfl)
  rw [← hLs] at HKW
  obtain ⟨R, hR⟩ : ∃ R, R = rdC c (bsOf s) := ⟨_, rfl⟩
  have HRE : Hid (R = rdCw c Ls) := Lib.hid (by rw [hR]; exact HRD.out)
  rw [← hR]
  have HLE : Hid (∀ z ∈ Ls, z.length ≤ 1000000) := Lib.hid fun z hz => by
    have h1 := splitC_le 32 (bsOf s) z (by rw [← hLs]; exact hz)
    have h2 := bsOf_len s
    omega
  clear hT hbx hP hA hpn han hLs hR HRD
  go_enter Tryz.func54, Tryz.ntmps54
  go_wp2_with fail
  refine HKW.out.mono ?_
  rintro e w2 ⟨v, rfl, hv, hb2⟩
  have HB2 := Lib.hid hb2
  have HBB : Hid (Below b w w2) := Lib.hid (hb2.mono (Nat.le_of_lt hbl))
  clear hb2 HKW
  by_cases hm : [] ∈ Ls
  · have hd : decide ([] ∉ Ls) = false := by simp [hm]
    rw [hd]
    have HR : Hid (R = none) := Lib.hid (by rw [HRE.out]; unfold rdCw; rw [if_pos hm])
    clear hm hd hv
    go_wp2
    go_ret
    exact RlR.no HR.out (HBX.out w2 HB2.out) HBB.out
  have hd : decide ([] ∉ Ls) = true := by simp [hm]
  rw [hd]
  obtain ⟨l, hO, hml, hlm⟩ := hv hm
  have HLL : Hid (Ls.length = l.length) := Lib.hid (by rw [← hml, List.length_map])
  have HML := Lib.hid hml
  obtain ⟨n, hn⟩ : ∃ n, n = l.length := ⟨_, rfl⟩
  obtain ⟨va, vc, rfl, _, _⟩ := hO.form
  have HOO := Lib.hid hO
  rw [← hn] at hlm
  rw [← hn] at HOO ⊢
  have HN := Lib.hid hn
  have HM := Lib.hid hm
  clear hv hm hd hml hO hn
  by_cases h5 : n = 5
  case neg =>
    by_cases h4 : n = 4
    case neg =>
      have HR : Hid (R = none) := Lib.hid (by rw [HRE.out]; exact rdCw_other (by rw [HLL.out, ← HN.out]; exact h5) (by rw [HLL.out, ← HN.out]; exact h4))
      have e5 : ((n : Int) == 5) = false := by simp; omega
      have e4 : ((n : Int) == 4) = false := by simp; omega
      have e5' : ¬ (n : Int) = 5 := by omega
      have e4' : ¬ (n : Int) = 4 := by omega
      clear h5 h4
      go_wp2
      go_ret
      exact RlR.no HR.out (HBX.out w2 HB2.out) HBB.out
    have hll := HN.out
    subst h4
    obtain ⟨x0, x1, x2, x3, rfl⟩ := four_of hll.symm
    obtain ⟨g, cap, cur, hvb, _, hgb, hcp, hcq, _⟩ := HOO.out.blk (by simp)
    injection hvb with e1 _ e2
    subst e1 e2
    obtain ⟨_, _, e0, _, _, c0⟩ := str_at HOO.out.rec0 (k := 0) (x := x0) rfl
    injection e0 with e0
    injection e0 with e1 e2 _
    subst e1 e2
    obtain ⟨_, _, e0, _, _, c1⟩ := str_at HOO.out.rec0 (k := 1) (x := x1) rfl
    injection e0 with e0
    injection e0 with e1 e2 _
    subst e1 e2
    obtain ⟨_, _, e0, _, _, c2⟩ := str_at HOO.out.rec0 (k := 2) (x := x2) rfl
    injection e0 with e0
    injection e0 with e1 e2 _
    subst e1 e2
    obtain ⟨_, _, e0, _, _, c3⟩ := str_at HOO.out.rec0 (k := 3) (x := x3) rfl
    injection e0 with e0
    injection e0 with e1 e2 _
    subst e1 e2
    have hbx2 := HXC.out w2 HB2.out
    have k0 : w2.cell? ⟨b, 0, none⟩ = some (.slice pa pn pc) := blk_cell hbx2 0
    have k1 : w2.cell? ⟨b, 1, none⟩ = some (.slice aa an ac) := blk_cell hbx2 1
    have lb := blk_lt hbx2
    have lw : w.heap.size ≤ w2.heap.size := HB2.out.size
    have HR4 : Hid (R = rdAl c (bsOf x0) (bsOf x1) (bsOf x2) (bsOf x3)) := Lib.hid (by
      have hm := HM.out
      rw [HRE.out]
      rw [← HML.out] at hm ⊢
      unfold rdCw
      rw [if_neg hm]
      rfl)
    have hgl : g < w2.heap.size := blk_lt hgb
    clear hll HRE hgb hcp hcq hbx2
    have NO : Hid (R = none → RlR b w c R (.returned (.bool false)) w2) := Lib.hid fun h => RlR.no h (HBX.out w2 HB2.out) HBB.out
    by_cases hu : x0 = ⟨#[117, 115, 101]⟩
    · subst hu
      by_cases hf : x2 = ⟨#[102, 111, 114]⟩
      · subst hf
        have HR : Hid (R = some (c.1, c.2 ++ [(x3, x1, false)])) := Lib.hid (by rw [HR4.out]; unfold rdAl; rw [if_pos ⟨.inl rfl, rfl⟩, baOf_bs, baOf_bs]; rfl)
        clear NO HR4
        go_wp2_with fail
        have HC0 := Lib.hid fun U (hU : Below w2.heap.size w2 U) => (hU.cell (p := ⟨g, 0, none⟩) hgl).trans c0
        have HC1 := Lib.hid fun U (hU : Below w2.heap.size w2 U) => (hU.cell (p := ⟨g, 1, none⟩) hgl).trans c1
        have HC3 := Lib.hid fun U (hU : Below w2.heap.size w2 U) => (hU.cell (p := ⟨g, 3, none⟩) hgl).trans c3
        have HV := Lib.hid fun U (hU : Below w2.heap.size w2 U) => HA.out U (Bl.trans HB2.out hU)
        have HU := Lib.hid fun U (hU : Below w2.heap.size w2 U) => HXC.out U (Bl.trans HB2.out hU)
        have HO2 := Lib.hid fun U (hU : Below w2.heap.size w2 U) => HP.out U (Bl.trans HB2.out hU)
        have HLN : Hid (c.2.length ≤ 1000000) := Lib.hid (by omega)
        refine wp_region_ph (by kernel_rfl) [87, 88, 89, 90, 91, 92, 93, 94, 95, 96, 97, 98, 99, 100, 101, 102, 103, 104, 105, 106] (fun ii => ([some (.pointer (some ⟨b, 0, none⟩)), some (.pointer (some ⟨b, 0, none⟩)), some (.pointer (some ⟨b, 0, none⟩)), some (.pointer (some ⟨b, 1, none⟩)), some (.slice aa an ac), some (.slice (some ⟨g, 0, none⟩) 4 vc), some (.pointer (some ⟨g, 3, none⟩)), some (.string x3), some (.slice (some ⟨g, 0, none⟩) 4 vc), some (.pointer (some ⟨g, 1, none⟩)), some (.string x1), some (.slice (some ⟨g, 0, none⟩) 4 vc), some (.pointer (some ⟨g, 0, none⟩)), some (.string ⟨#[117, 115, 101]⟩), some (.bool false), some (.agg #[.string x3, .string x1, .bool false]), none, none, some (.pointer (some ⟨b, 0, none⟩)), some (.pointer (some ⟨b, 1, none⟩)), none] : List (Option Value)).getD ii none) 17 20 104 (fun _ W => Below w2.heap.size w2 W) (fun W W' => Below W.heap.size W W') (fun W => CatBox W b (c.1, c.2 ++ [(x3, x1, false)]) ∧ Below b w W) (fun v W => ∃ a n q, v = .slice a n q ∧ W.heap[b]? = some (.cells #[.slice pa pn pc, .slice aa an ac] 29 (0, 0)) ∧ OwnR TAl W (b + 1) v (c.2 ++ [(x3, x1, false)]) ∧ OwnR TPt W (b + 1) (.slice pa pn pc) c.1 ∧ Below b w W) (fun i => [VT, VT, VT, VT, VT, VT, VT, VT, VT, VT, VT, VT, VT, VT, VT, VT, VSl (w2.heap.size) #[.string x3, .string x1, .bool false] 72, VT, VT, VT, VT].getD i VT) (by kernel_rfl) (by kernel_rfl) (by kernel_rfl) ⟨rfl, rfl⟩ (by decide) (by decide) rfl rfl
          (fun l hcl h => hcl.no h 20 ⟨17, .data⟩ rfl rfl (by simp) rfl) ?_ (fun o ho => by obtain rfl := Option.some.inj ho; exact ⟨⟨17, .data⟩, by simp, rfl, rfl⟩) (fun u u' W hu h => h) (Below.drew (Below.refl _ _)) ?_ ?_ ?_ ?_ ?_ ?_
        · intro i l hi hci him hcl hl0
          have hi' : i = 0 ∨ i = 1 ∨ i = 2 ∨ i = 3 ∨ i = 4 ∨ i = 5 ∨ i = 6 ∨ i = 7 ∨ i = 8 ∨ i = 9 ∨ i = 10 ∨ i = 11 ∨ i = 12 ∨ i = 13 ∨ i = 14 ∨ i = 15 ∨ i = 16 ∨ i = 17 ∨ i = 18 ∨ i = 19 ∨ i = 20 := by
            have : i < 21 := hi
            omega
          rcases hi' with rfl | rfl | rfl | rfl | rfl | rfl | rfl | rfl | rfl | rfl | rfl | rfl | rfl | rfl | rfl | rfl | rfl | rfl | rfl | rfl | rfl
          · cases hci
          · cases hci
          · cases hci
          · cases hci
          · cases hci
          · cases hci
          · cases hci
          · cases hci
          · cases hci
          · cases hci
          · cases hci
          · cases hci
          · cases hci
          · cases hci
          · cases hci
          · cases hci
          · exact hcl.no (hl0) 17 ⟨16, .data⟩ rfl rfl (by simp) rfl
          · exact hl0
          · cases hci
          · cases hci
          · exact absurd rfl him
        · intro u W W' i v hB hR hV
          exact match i, hV with
            | 0, h => h
            | 1, h => h
            | 2, h => h
            | 3, h => h
            | 4, h => h
            | 5, h => h
            | 6, h => h
            | 7, h => h
            | 8, h => h
            | 9, h => h
            | 10, h => h
            | 11, h => h
            | 12, h => h
            | 13, h => h
            | 14, h => h
            | 15, h => h
            | 16, h => VSl.low h hR
            | 17, h => h
            | 18, h => h
            | 19, h => h
            | 20, h => h
            | (_ + 21), _ => trivial
        · intro listed f i o v W ho hc hdep hPre hcl hli hV
          match i, ho, hc with
          | 0, ho, hc =>
            obtain rfl := Option.some.inj hc
            refine ⟨by obtain rfl := Option.some.inj ho; rfl, ?_⟩
            · intro q hq
              obtain rfl := Option.some.inj ho
              have e0 := hq.tmp 0
              simp at e0
              simp [execOp, e0, go_sem]
          | 1, ho, hc =>
            obtain rfl := Option.some.inj hc
            refine ⟨by obtain rfl := Option.some.inj ho; rfl, ?_⟩
            · intro q hq
              obtain rfl := Option.some.inj ho
              have e0 := hq.tmp 0
              simp at e0
              simp [execOp, e0, go_sem]
          | 2, ho, hc =>
            obtain rfl := Option.some.inj hc
            have d88 : f 88 = .pointer (some ⟨b, 0, none⟩) := hV 1 _ (by decide) (hdep ⟨1, .data⟩ (by obtain rfl := Option.some.inj ho; simp) rfl) rfl
            refine ⟨by obtain rfl := Option.some.inj ho; rfl, ?_⟩
            · intro q hq
              obtain rfl := Option.some.inj ho
              have e88 := hq.tmp 88
              simp at e88
              simp [execOp, e88, d88, go_sem]
          | 3, ho, hc =>
            obtain rfl := Option.some.inj hc
            have d89 : f 89 = .pointer (some ⟨b, 0, none⟩) := hV 2 _ (by decide) (hdep ⟨2, .data⟩ (by obtain rfl := Option.some.inj ho; simp) rfl) rfl
            refine ⟨by obtain rfl := Option.some.inj ho; rfl, ?_⟩
            · intro q hq
              obtain rfl := Option.some.inj ho
              have e89 := hq.tmp 89
              simp at e89
              simp [execOp, e89, d89, go_sem]
          | 4, ho, hc =>
            obtain rfl := Option.some.inj hc
            obtain ⟨u, hB⟩ := hPre (hcl.no (hli) 17 ⟨4, .data⟩ rfl rfl (by simp) rfl)
            have y0 := blk_cell (HU.out W hB) 1
            have d90 : f 90 = .pointer (some ⟨b, 1, none⟩) := hV 3 _ (by decide) (hdep ⟨3, .data⟩ (by obtain rfl := Option.some.inj ho; simp) rfl) rfl
            refine ⟨by obtain rfl := Option.some.inj ho; rfl, ?_⟩
            · intro q hq
              obtain rfl := Option.some.inj ho
              have e90 := hq.tmp 90
              simp at e90
              simp [execOp, e90, d90, go_sem, y0]
          | 5, ho, hc =>
            obtain rfl := Option.some.inj hc
            refine ⟨by obtain rfl := Option.some.inj ho; rfl, ?_⟩
            · intro q hq
              obtain rfl := Option.some.inj ho
              have e5 := hq.tmp 5
              simp at e5
              simp [execOp, e5, go_sem]
          | 6, ho, hc =>
            obtain rfl := Option.some.inj hc
            have d92 : f 92 = .slice (some ⟨g, 0, none⟩) 4 vc := hV 5 _ (by decide) (hdep ⟨5, .data⟩ (by obtain rfl := Option.some.inj ho; simp) rfl) rfl
            refine ⟨by obtain rfl := Option.some.inj ho; rfl, ?_⟩
            · intro q hq
              obtain rfl := Option.some.inj ho
              have e92 := hq.tmp 92
              simp at e92
              simp [execOp, hq.const, e92, d92, go_sem]
          | 7, ho, hc =>
            obtain rfl := Option.some.inj hc
            obtain ⟨u, hB⟩ := hPre (hcl.no (hcl.no (hcl.no (hli) 15 ⟨7, .data⟩ rfl rfl (by simp) rfl) 16 ⟨15, .data⟩ rfl rfl (by simp) rfl) 17 ⟨16, .data⟩ rfl rfl (by simp) rfl)
            have y0 := HC3.out W hB
            have d93 : f 93 = .pointer (some ⟨g, 3, none⟩) := hV 6 _ (by decide) (hdep ⟨6, .data⟩ (by obtain rfl := Option.some.inj ho; simp) rfl) rfl
            refine ⟨by obtain rfl := Option.some.inj ho; rfl, ?_⟩
            · intro q hq
              obtain rfl := Option.some.inj ho
              have e93 := hq.tmp 93
              simp at e93
              simp [execOp, e93, d93, go_sem, y0]
          | 8, ho, hc =>
            obtain rfl := Option.some.inj hc
            refine ⟨by obtain rfl := Option.some.inj ho; rfl, ?_⟩
            · intro q hq
              obtain rfl := Option.some.inj ho
              have e5 := hq.tmp 5
              simp at e5
              simp [execOp, e5, go_sem]
          | 9, ho, hc =>
            obtain rfl := Option.some.inj hc
            have d95 : f 95 = .slice (some ⟨g, 0, none⟩) 4 vc := hV 8 _ (by decide) (hdep ⟨8, .data⟩ (by obtain rfl := Option.some.inj ho; simp) rfl) rfl
            refine ⟨by obtain rfl := Option.some.inj ho; rfl, ?_⟩
            · intro q hq
              obtain rfl := Option.some.inj ho
              have e95 := hq.tmp 95
              simp at e95
              simp [execOp, hq.const, e95, d95, go_sem]
          | 10, ho, hc =>
            obtain rfl := Option.some.inj hc
            obtain ⟨u, hB⟩ := hPre (hcl.no (hcl.no (hcl.no (hli) 15 ⟨10, .data⟩ rfl rfl (by simp) rfl) 16 ⟨15, .data⟩ rfl rfl (by simp) rfl) 17 ⟨16, .data⟩ rfl rfl (by simp) rfl)
            have y0 := HC1.out W hB
            have d96 : f 96 = .pointer (some ⟨g, 1, none⟩) := hV 9 _ (by decide) (hdep ⟨9, .data⟩ (by obtain rfl := Option.some.inj ho; simp) rfl) rfl
            refine ⟨by obtain rfl := Option.some.inj ho; rfl, ?_⟩
            · intro q hq
              obtain rfl := Option.some.inj ho
              have e96 := hq.tmp 96
              simp at e96
              simp [execOp, e96, d96, go_sem, y0]
          | 11, ho, hc =>
            obtain rfl := Option.some.inj hc
            refine ⟨by obtain rfl := Option.some.inj ho; rfl, ?_⟩
            · intro q hq
              obtain rfl := Option.some.inj ho
              have e5 := hq.tmp 5
              simp at e5
              simp [execOp, e5, go_sem]
          | 12, ho, hc =>
            obtain rfl := Option.some.inj hc
            have d98 : f 98 = .slice (some ⟨g, 0, none⟩) 4 vc := hV 11 _ (by decide) (hdep ⟨11, .data⟩ (by obtain rfl := Option.some.inj ho; simp) rfl) rfl
            refine ⟨by obtain rfl := Option.some.inj ho; rfl, ?_⟩
            · intro q hq
              obtain rfl := Option.some.inj ho
              have e98 := hq.tmp 98
              simp at e98
              simp [execOp, hq.const, e98, d98, go_sem]
          | 13, ho, hc =>
            obtain rfl := Option.some.inj hc
            obtain ⟨u, hB⟩ := hPre (hcl.no (hcl.no (hcl.no (hcl.no (hli) 14 ⟨13, .data⟩ rfl rfl (by simp) rfl) 15 ⟨14, .data⟩ rfl rfl (by simp) rfl) 16 ⟨15, .data⟩ rfl rfl (by simp) rfl) 17 ⟨16, .data⟩ rfl rfl (by simp) rfl)
            have y0 := HC0.out W hB
            have d99 : f 99 = .pointer (some ⟨g, 0, none⟩) := hV 12 _ (by decide) (hdep ⟨12, .data⟩ (by obtain rfl := Option.some.inj ho; simp) rfl) rfl
            refine ⟨by obtain rfl := Option.some.inj ho; rfl, ?_⟩
            · intro q hq
              obtain rfl := Option.some.inj ho
              have e99 := hq.tmp 99
              simp at e99
              simp [execOp, e99, d99, go_sem, y0]
          | 14, ho, hc =>
            obtain rfl := Option.some.inj hc
            have d100 : f 100 = .string ⟨#[117, 115, 101]⟩ := hV 13 _ (by decide) (hdep ⟨13, .data⟩ (by obtain rfl := Option.some.inj ho; simp) rfl) rfl
            refine ⟨by obtain rfl := Option.some.inj ho; rfl, ?_⟩
            · intro q hq
              obtain rfl := Option.some.inj ho
              have e100 := hq.tmp 100
              simp at e100
              simp [execOp, hq.const, e100, d100, go_sem]
          | 15, ho, hc =>
            obtain rfl := Option.some.inj hc
            have d94 : f 94 = .string x3 := hV 7 _ (by decide) (hdep ⟨7, .data⟩ (by obtain rfl := Option.some.inj ho; simp) rfl) rfl
            have d97 : f 97 = .string x1 := hV 10 _ (by decide) (hdep ⟨10, .data⟩ (by obtain rfl := Option.some.inj ho; simp) rfl) rfl
            have d101 : f 101 = .bool false := hV 14 _ (by decide) (hdep ⟨14, .data⟩ (by obtain rfl := Option.some.inj ho; simp) rfl) rfl
            refine ⟨by obtain rfl := Option.some.inj ho; rfl, ?_⟩
            · intro q hq
              obtain rfl := Option.some.inj ho
              have e94 := hq.tmp 94
              have e97 := hq.tmp 97
              have e101 := hq.tmp 101
              simp at e94 e97 e101
              simp [execOp, e94, e97, e101, d94, d97, d101, go_sem]
          | 16, ho, hc => exact absurd hc (by simp)
          | 17, ho, hc => exact absurd hc (by simp)
          | 18, ho, hc =>
            obtain rfl := Option.some.inj hc
            have d87 : f 87 = .pointer (some ⟨b, 0, none⟩) := hV 0 _ (by decide) (hdep ⟨0, .data⟩ (by obtain rfl := Option.some.inj ho; simp) rfl) rfl
            refine ⟨by obtain rfl := Option.some.inj ho; rfl, ?_⟩
            · intro q hq
              obtain rfl := Option.some.inj ho
              have e87 := hq.tmp 87
              simp at e87
              simp [execOp, e87, d87, go_sem]
          | 19, ho, hc =>
            obtain rfl := Option.some.inj hc
            have d105 : f 105 = .pointer (some ⟨b, 0, none⟩) := hV 18 _ (by decide) (hdep ⟨18, .data⟩ (by obtain rfl := Option.some.inj ho; simp) rfl) rfl
            refine ⟨by obtain rfl := Option.some.inj ho; rfl, ?_⟩
            · intro q hq
              obtain rfl := Option.some.inj ho
              have e105 := hq.tmp 105
              simp at e105
              simp [execOp, e105, d105, go_sem]
          | 20, ho, hc => exact absurd hc (by simp)
          | (_ + 21), ho, hc => exact absurd hc (by simp)
        · intro listed f i o u W ho hc hna hnm' hdep hB hV hVV
          have hi' : i = 0 ∨ i = 1 ∨ i = 2 ∨ i = 3 ∨ i = 4 ∨ i = 5 ∨ i = 6 ∨ i = 7 ∨ i = 8 ∨ i = 9 ∨ i = 10 ∨ i = 11 ∨ i = 12 ∨ i = 13 ∨ i = 14 ∨ i = 15 ∨ i = 16 ∨ i = 17 ∨ i = 18 ∨ i = 19 ∨ i = 20 := by
            have : i < 21 := (Array.getElem?_eq_some_iff.1 ho).1
            omega
          rcases hi' with rfl | rfl | rfl | rfl | rfl | rfl | rfl | rfl | rfl | rfl | rfl | rfl | rfl | rfl | rfl | rfl | rfl | rfl | rfl | rfl | rfl
          · cases hc
          · cases hc
          · cases hc
          · cases hc
          · cases hc
          · cases hc
          · cases hc
          · cases hc
          · cases hc
          · cases hc
          · cases hc
          · cases hc
          · cases hc
          · cases hc
          · cases hc
          · cases hc
          · have d102 : f 102 = .agg #[.string x3, .string x1, .bool false] := hV 15 _ (by decide) (hdep ⟨15, .data⟩ (by obtain rfl := Option.some.inj ho; simp) rfl) rfl
            refine iv_val ho (by obtain rfl := Option.some.inj ho; rfl) (.slice (some ⟨W.heap.size, 0, none⟩) 1 1) (W.alloc (.cells #[.string x3, .string x1, .bool false] 72)) ?_ (Bl.alloc hB _) (Bl.alloc (Below.refl _ _) _) ⟨W.heap.size, rfl, blk_new W _, hB.size⟩
            · intro q hq
              obtain rfl := Option.some.inj ho
              have e102 := hq.tmp 102
              simp at e102
              simp [execOp, e102, d102, go_sem]
          · exact absurd rfl hna
          · cases hc
          · cases hc
          · exact absurd rfl hnm'
        · intro listed f o u W ho hdep hB hV hVV
          have d91 : f 91 = .slice aa an ac := hV 4 _ (by decide) (hdep ⟨4, .data⟩ (by obtain rfl := Option.some.inj ho; simp) rfl) rfl
          have x103 := hVV 16 (by decide) (hdep ⟨16, .data⟩ (by obtain rfl := Option.some.inj ho; simp) rfl) rfl (by decide) (by decide)
          obtain rfl := Option.some.inj ho
          refine ⟨rfl, fun K hK => ?_⟩
          have x103 : VSl (w2.heap.size) #[.string x3, .string x1, .bool false] 72 (f 103) W := x103
          obtain ⟨g1, hv1, hg1, hl1'⟩ := x103
          obtain ⟨v', w', hr, h2, h3, _⟩ := (HV.out W hB).app TAl.ok 27 g1 1 (x3, x1, false) hg1 rfl HLN.out (by have := hB.size; omega)
          refine oper_append (.tmp 91) (.tmp 103) 27 rfl (.slice aa an ac) (.slice (some ⟨g1, 0, none⟩) 1 1) v' (by rw [← d91]; simp [putsA_eval]) (by rw [← hv1]; simp [putsA_eval]) hr (hK v' w' ?_)
          have hBw : Below (b + 1) W w' := app_belowR (HV.out W hB) h3 (by have := hB.size; omega)
          obtain ⟨a4, c4, e4, _, _⟩ := h2.form
          exact ⟨a4, _, c4, e4, (hBw.block b (Nat.lt_succ_self b)).trans (HU.out W hB), h2, ownR_off (HO2.out W hB) (HV.out W hB) (by decide) h3, Below.trans (Below.trans HBB.out (hB.mono (Nat.le_of_lt lb))) (hBw.mono (Nat.le_succ b))⟩
        · intro listed f o W ho hdep hMid hV
          have d106 : f 106 = .pointer (some ⟨b, 1, none⟩) := hV 19 _ (by decide) (hdep ⟨19, .data⟩ (by obtain rfl := Option.some.inj ho; simp) rfl) rfl
          obtain rfl := Option.some.inj ho
          obtain ⟨a4, n4, c4, hv4, hx4, hO4, hA4, hb4⟩ := hMid
          have y0 := blk_cell hx4 1
          have g0 := blk_free hx4 1
          simp at y0
          refine ⟨rfl, W.setCell ⟨b, 1, none⟩ (f 104), fun q hq => ?_, ?_⟩
          · have e106 := hq.tmp 106
            have e104 := hq.tmp 104
            simp at e106 e104
            simp [execOp, e106, e104, d106, hv4, go_sem, y0, g0]
          · have hS := blk_set hx4 1 (f 104)
            refine ⟨⟨_, _, by simpa using hS, hA4.far (Nat.lt_succ_self b) 1 _, hO4.far (Nat.lt_succ_self b) 1 _⟩, Bl.set hb4 b 1 (Nat.le_refl _) _⟩
        intro f0 w5 hp5 _
        have HQ5 := Lib.hid hp5
        clear hp5
        unfold putsA
        simp only [List.mapIdx_toArray, List.mapIdx_cons, List.mapIdx_nil, List.contains_cons]
        simp
        go_wp2
        go_ret
        exact RlR.yes HR.out HQ5.out.1 HQ5.out.2
      · have HR : Hid (R = none) := Lib.hid (by rw [HR4.out]; unfold rdAl; rw [if_neg fun q => hf (by rw [← baOf_bs x2, q.2]; rfl)])
        have f1 : (x2.toList == [102, 111, 114]) = false := by rw [beq_eq_false_iff_ne]; exact fun e => hf (ba_inj (e.trans (by rw [ByteArray.toList_eq])))
        have f2 : ¬ x2.toList = [102, 111, 114] := by simpa using f1
        have HF := Lib.hid (NO.out HR.out)
        clear hf NO HR4
        go_wp2
        go_ret
        exact HF.out
    · by_cases hb : x0 = ⟨#[98, 111, 116, 104]⟩
      · subst hb
        clear hu
        by_cases hf : x2 = ⟨#[102, 111, 114]⟩
        · subst hf
          have HR : Hid (R = some (c.1, c.2 ++ [(x3, x1, true)])) := Lib.hid (by rw [HR4.out]; unfold rdAl; rw [if_pos ⟨.inr rfl, rfl⟩, baOf_bs, baOf_bs]; rfl)
          clear NO HR4
          go_wp2_with fail
          have HC0 := Lib.hid fun U (hU : Below w2.heap.size w2 U) => (hU.cell (p := ⟨g, 0, none⟩) hgl).trans c0
          have HC1 := Lib.hid fun U (hU : Below w2.heap.size w2 U) => (hU.cell (p := ⟨g, 1, none⟩) hgl).trans c1
          have HC3 := Lib.hid fun U (hU : Below w2.heap.size w2 U) => (hU.cell (p := ⟨g, 3, none⟩) hgl).trans c3
          have HV := Lib.hid fun U (hU : Below w2.heap.size w2 U) => HA.out U (Bl.trans HB2.out hU)
          have HU := Lib.hid fun U (hU : Below w2.heap.size w2 U) => HXC.out U (Bl.trans HB2.out hU)
          have HO2 := Lib.hid fun U (hU : Below w2.heap.size w2 U) => HP.out U (Bl.trans HB2.out hU)
          have HLN : Hid (c.2.length ≤ 1000000) := Lib.hid (by omega)
          refine wp_region_ph (by kernel_rfl) [87, 88, 89, 90, 91, 92, 93, 94, 95, 96, 97, 98, 99, 100, 101, 102, 103, 104, 105, 106] (fun ii => ([some (.pointer (some ⟨b, 0, none⟩)), some (.pointer (some ⟨b, 0, none⟩)), some (.pointer (some ⟨b, 0, none⟩)), some (.pointer (some ⟨b, 1, none⟩)), some (.slice aa an ac), some (.slice (some ⟨g, 0, none⟩) 4 vc), some (.pointer (some ⟨g, 3, none⟩)), some (.string x3), some (.slice (some ⟨g, 0, none⟩) 4 vc), some (.pointer (some ⟨g, 1, none⟩)), some (.string x1), some (.slice (some ⟨g, 0, none⟩) 4 vc), some (.pointer (some ⟨g, 0, none⟩)), some (.string ⟨#[98, 111, 116, 104]⟩), some (.bool true), some (.agg #[.string x3, .string x1, .bool true]), none, none, some (.pointer (some ⟨b, 0, none⟩)), some (.pointer (some ⟨b, 1, none⟩)), none] : List (Option Value)).getD ii none) 17 20 104 (fun _ W => Below w2.heap.size w2 W) (fun W W' => Below W.heap.size W W') (fun W => CatBox W b (c.1, c.2 ++ [(x3, x1, true)]) ∧ Below b w W) (fun v W => ∃ a n q, v = .slice a n q ∧ W.heap[b]? = some (.cells #[.slice pa pn pc, .slice aa an ac] 29 (0, 0)) ∧ OwnR TAl W (b + 1) v (c.2 ++ [(x3, x1, true)]) ∧ OwnR TPt W (b + 1) (.slice pa pn pc) c.1 ∧ Below b w W) (fun i => [VT, VT, VT, VT, VT, VT, VT, VT, VT, VT, VT, VT, VT, VT, VT, VT, VSl (w2.heap.size) #[.string x3, .string x1, .bool true] 72, VT, VT, VT, VT].getD i VT) (by kernel_rfl) (by kernel_rfl) (by kernel_rfl) ⟨rfl, rfl⟩ (by decide) (by decide) rfl rfl
            (fun l hcl h => hcl.no h 20 ⟨17, .data⟩ rfl rfl (by simp) rfl) ?_ (fun o ho => by obtain rfl := Option.some.inj ho; exact ⟨⟨17, .data⟩, by simp, rfl, rfl⟩) (fun u u' W hu h => h) (Below.drew (Below.refl _ _)) ?_ ?_ ?_ ?_ ?_ ?_
          · intro i l hi hci him hcl hl0
            have hi' : i = 0 ∨ i = 1 ∨ i = 2 ∨ i = 3 ∨ i = 4 ∨ i = 5 ∨ i = 6 ∨ i = 7 ∨ i = 8 ∨ i = 9 ∨ i = 10 ∨ i = 11 ∨ i = 12 ∨ i = 13 ∨ i = 14 ∨ i = 15 ∨ i = 16 ∨ i = 17 ∨ i = 18 ∨ i = 19 ∨ i = 20 := by
              have : i < 21 := hi
              omega
            rcases hi' with rfl | rfl | rfl | rfl | rfl | rfl | rfl | rfl | rfl | rfl | rfl | rfl | rfl | rfl | rfl | rfl | rfl | rfl | rfl | rfl | rfl
            · cases hci
            · cases hci
            · cases hci
            · cases hci
            · cases hci
            · cases hci
            · cases hci
            · cases hci
            · cases hci
            · cases hci
            · cases hci
            · cases hci
            · cases hci
            · cases hci
            · cases hci
            · cases hci
            · exact hcl.no (hl0) 17 ⟨16, .data⟩ rfl rfl (by simp) rfl
            · exact hl0
            · cases hci
            · cases hci
            · exact absurd rfl him
          · intro u W W' i v hB hR hV
            exact match i, hV with
              | 0, h => h
              | 1, h => h
              | 2, h => h
              | 3, h => h
              | 4, h => h
              | 5, h => h
              | 6, h => h
              | 7, h => h
              | 8, h => h
              | 9, h => h
              | 10, h => h
              | 11, h => h
              | 12, h => h
              | 13, h => h
              | 14, h => h
              | 15, h => h
              | 16, h => VSl.low h hR
              | 17, h => h
              | 18, h => h
              | 19, h => h
              | 20, h => h
              | (_ + 21), _ => trivial
          · intro listed f i o v W ho hc hdep hPre hcl hli hV
            match i, ho, hc with
            | 0, ho, hc =>
              obtain rfl := Option.some.inj hc
              refine ⟨by obtain rfl := Option.some.inj ho; rfl, ?_⟩
              · intro q hq
                obtain rfl := Option.some.inj ho
                have e0 := hq.tmp 0
                simp at e0
                simp [execOp, e0, go_sem]
            | 1, ho, hc =>
              obtain rfl := Option.some.inj hc
              refine ⟨by obtain rfl := Option.some.inj ho; rfl, ?_⟩
              · intro q hq
                obtain rfl := Option.some.inj ho
                have e0 := hq.tmp 0
                simp at e0
                simp [execOp, e0, go_sem]
            | 2, ho, hc =>
              obtain rfl := Option.some.inj hc
              have d88 : f 88 = .pointer (some ⟨b, 0, none⟩) := hV 1 _ (by decide) (hdep ⟨1, .data⟩ (by obtain rfl := Option.some.inj ho; simp) rfl) rfl
              refine ⟨by obtain rfl := Option.some.inj ho; rfl, ?_⟩
              · intro q hq
                obtain rfl := Option.some.inj ho
                have e88 := hq.tmp 88
                simp at e88
                simp [execOp, e88, d88, go_sem]
            | 3, ho, hc =>
              obtain rfl := Option.some.inj hc
              have d89 : f 89 = .pointer (some ⟨b, 0, none⟩) := hV 2 _ (by decide) (hdep ⟨2, .data⟩ (by obtain rfl := Option.some.inj ho; simp) rfl) rfl
              refine ⟨by obtain rfl := Option.some.inj ho; rfl, ?_⟩
              · intro q hq
                obtain rfl := Option.some.inj ho
                have e89 := hq.tmp 89
                simp at e89
                simp [execOp, e89, d89, go_sem]
            | 4, ho, hc =>
              obtain rfl := Option.some.inj hc
              obtain ⟨u, hB⟩ := hPre (hcl.no (hli) 17 ⟨4, .data⟩ rfl rfl (by simp) rfl)
              have y0 := blk_cell (HU.out W hB) 1
              have d90 : f 90 = .pointer (some ⟨b, 1, none⟩) := hV 3 _ (by decide) (hdep ⟨3, .data⟩ (by obtain rfl := Option.some.inj ho; simp) rfl) rfl
              refine ⟨by obtain rfl := Option.some.inj ho; rfl, ?_⟩
              · intro q hq
                obtain rfl := Option.some.inj ho
                have e90 := hq.tmp 90
                simp at e90
                simp [execOp, e90, d90, go_sem, y0]
            | 5, ho, hc =>
              obtain rfl := Option.some.inj hc
              refine ⟨by obtain rfl := Option.some.inj ho; rfl, ?_⟩
              · intro q hq
                obtain rfl := Option.some.inj ho
                have e5 := hq.tmp 5
                simp at e5
                simp [execOp, e5, go_sem]
            | 6, ho, hc =>
              obtain rfl := Option.some.inj hc
              have d92 : f 92 = .slice (some ⟨g, 0, none⟩) 4 vc := hV 5 _ (by decide) (hdep ⟨5, .data⟩ (by obtain rfl := Option.some.inj ho; simp) rfl) rfl
              refine ⟨by obtain rfl := Option.some.inj ho; rfl, ?_⟩
              · intro q hq
                obtain rfl := Option.some.inj ho
                have e92 := hq.tmp 92
                simp at e92
                simp [execOp, hq.const, e92, d92, go_sem]
            | 7, ho, hc =>
              obtain rfl := Option.some.inj hc
              obtain ⟨u, hB⟩ := hPre (hcl.no (hcl.no (hcl.no (hli) 15 ⟨7, .data⟩ rfl rfl (by simp) rfl) 16 ⟨15, .data⟩ rfl rfl (by simp) rfl) 17 ⟨16, .data⟩ rfl rfl (by simp) rfl)
              have y0 := HC3.out W hB
              have d93 : f 93 = .pointer (some ⟨g, 3, none⟩) := hV 6 _ (by decide) (hdep ⟨6, .data⟩ (by obtain rfl := Option.some.inj ho; simp) rfl) rfl
              refine ⟨by obtain rfl := Option.some.inj ho; rfl, ?_⟩
              · intro q hq
                obtain rfl := Option.some.inj ho
                have e93 := hq.tmp 93
                simp at e93
                simp [execOp, e93, d93, go_sem, y0]
            | 8, ho, hc =>
              obtain rfl := Option.some.inj hc
              refine ⟨by obtain rfl := Option.some.inj ho; rfl, ?_⟩
              · intro q hq
                obtain rfl := Option.some.inj ho
                have e5 := hq.tmp 5
                simp at e5
                simp [execOp, e5, go_sem]
            | 9, ho, hc =>
              obtain rfl := Option.some.inj hc
              have d95 : f 95 = .slice (some ⟨g, 0, none⟩) 4 vc := hV 8 _ (by decide) (hdep ⟨8, .data⟩ (by obtain rfl := Option.some.inj ho; simp) rfl) rfl
              refine ⟨by obtain rfl := Option.some.inj ho; rfl, ?_⟩
              · intro q hq
                obtain rfl := Option.some.inj ho
                have e95 := hq.tmp 95
                simp at e95
                simp [execOp, hq.const, e95, d95, go_sem]
            | 10, ho, hc =>
              obtain rfl := Option.some.inj hc
              obtain ⟨u, hB⟩ := hPre (hcl.no (hcl.no (hcl.no (hli) 15 ⟨10, .data⟩ rfl rfl (by simp) rfl) 16 ⟨15, .data⟩ rfl rfl (by simp) rfl) 17 ⟨16, .data⟩ rfl rfl (by simp) rfl)
              have y0 := HC1.out W hB
              have d96 : f 96 = .pointer (some ⟨g, 1, none⟩) := hV 9 _ (by decide) (hdep ⟨9, .data⟩ (by obtain rfl := Option.some.inj ho; simp) rfl) rfl
              refine ⟨by obtain rfl := Option.some.inj ho; rfl, ?_⟩
              · intro q hq
                obtain rfl := Option.some.inj ho
                have e96 := hq.tmp 96
                simp at e96
                simp [execOp, e96, d96, go_sem, y0]
            | 11, ho, hc =>
              obtain rfl := Option.some.inj hc
              refine ⟨by obtain rfl := Option.some.inj ho; rfl, ?_⟩
              · intro q hq
                obtain rfl := Option.some.inj ho
                have e5 := hq.tmp 5
                simp at e5
                simp [execOp, e5, go_sem]
            | 12, ho, hc =>
              obtain rfl := Option.some.inj hc
              have d98 : f 98 = .slice (some ⟨g, 0, none⟩) 4 vc := hV 11 _ (by decide) (hdep ⟨11, .data⟩ (by obtain rfl := Option.some.inj ho; simp) rfl) rfl
              refine ⟨by obtain rfl := Option.some.inj ho; rfl, ?_⟩
              · intro q hq
                obtain rfl := Option.some.inj ho
                have e98 := hq.tmp 98
                simp at e98
                simp [execOp, hq.const, e98, d98, go_sem]
            | 13, ho, hc =>
              obtain rfl := Option.some.inj hc
              obtain ⟨u, hB⟩ := hPre (hcl.no (hcl.no (hcl.no (hcl.no (hli) 14 ⟨13, .data⟩ rfl rfl (by simp) rfl) 15 ⟨14, .data⟩ rfl rfl (by simp) rfl) 16 ⟨15, .data⟩ rfl rfl (by simp) rfl) 17 ⟨16, .data⟩ rfl rfl (by simp) rfl)
              have y0 := HC0.out W hB
              have d99 : f 99 = .pointer (some ⟨g, 0, none⟩) := hV 12 _ (by decide) (hdep ⟨12, .data⟩ (by obtain rfl := Option.some.inj ho; simp) rfl) rfl
              refine ⟨by obtain rfl := Option.some.inj ho; rfl, ?_⟩
              · intro q hq
                obtain rfl := Option.some.inj ho
                have e99 := hq.tmp 99
                simp at e99
                simp [execOp, e99, d99, go_sem, y0]
            | 14, ho, hc =>
              obtain rfl := Option.some.inj hc
              have d100 : f 100 = .string ⟨#[98, 111, 116, 104]⟩ := hV 13 _ (by decide) (hdep ⟨13, .data⟩ (by obtain rfl := Option.some.inj ho; simp) rfl) rfl
              refine ⟨by obtain rfl := Option.some.inj ho; rfl, ?_⟩
              · intro q hq
                obtain rfl := Option.some.inj ho
                have e100 := hq.tmp 100
                simp at e100
                simp [execOp, hq.const, e100, d100, go_sem]
            | 15, ho, hc =>
              obtain rfl := Option.some.inj hc
              have d94 : f 94 = .string x3 := hV 7 _ (by decide) (hdep ⟨7, .data⟩ (by obtain rfl := Option.some.inj ho; simp) rfl) rfl
              have d97 : f 97 = .string x1 := hV 10 _ (by decide) (hdep ⟨10, .data⟩ (by obtain rfl := Option.some.inj ho; simp) rfl) rfl
              have d101 : f 101 = .bool true := hV 14 _ (by decide) (hdep ⟨14, .data⟩ (by obtain rfl := Option.some.inj ho; simp) rfl) rfl
              refine ⟨by obtain rfl := Option.some.inj ho; rfl, ?_⟩
              · intro q hq
                obtain rfl := Option.some.inj ho
                have e94 := hq.tmp 94
                have e97 := hq.tmp 97
                have e101 := hq.tmp 101
                simp at e94 e97 e101
                simp [execOp, e94, e97, e101, d94, d97, d101, go_sem]
            | 16, ho, hc => exact absurd hc (by simp)
            | 17, ho, hc => exact absurd hc (by simp)
            | 18, ho, hc =>
              obtain rfl := Option.some.inj hc
              have d87 : f 87 = .pointer (some ⟨b, 0, none⟩) := hV 0 _ (by decide) (hdep ⟨0, .data⟩ (by obtain rfl := Option.some.inj ho; simp) rfl) rfl
              refine ⟨by obtain rfl := Option.some.inj ho; rfl, ?_⟩
              · intro q hq
                obtain rfl := Option.some.inj ho
                have e87 := hq.tmp 87
                simp at e87
                simp [execOp, e87, d87, go_sem]
            | 19, ho, hc =>
              obtain rfl := Option.some.inj hc
              have d105 : f 105 = .pointer (some ⟨b, 0, none⟩) := hV 18 _ (by decide) (hdep ⟨18, .data⟩ (by obtain rfl := Option.some.inj ho; simp) rfl) rfl
              refine ⟨by obtain rfl := Option.some.inj ho; rfl, ?_⟩
              · intro q hq
                obtain rfl := Option.some.inj ho
                have e105 := hq.tmp 105
                simp at e105
                simp [execOp, e105, d105, go_sem]
            | 20, ho, hc => exact absurd hc (by simp)
            | (_ + 21), ho, hc => exact absurd hc (by simp)
          · intro listed f i o u W ho hc hna hnm' hdep hB hV hVV
            have hi' : i = 0 ∨ i = 1 ∨ i = 2 ∨ i = 3 ∨ i = 4 ∨ i = 5 ∨ i = 6 ∨ i = 7 ∨ i = 8 ∨ i = 9 ∨ i = 10 ∨ i = 11 ∨ i = 12 ∨ i = 13 ∨ i = 14 ∨ i = 15 ∨ i = 16 ∨ i = 17 ∨ i = 18 ∨ i = 19 ∨ i = 20 := by
              have : i < 21 := (Array.getElem?_eq_some_iff.1 ho).1
              omega
            rcases hi' with rfl | rfl | rfl | rfl | rfl | rfl | rfl | rfl | rfl | rfl | rfl | rfl | rfl | rfl | rfl | rfl | rfl | rfl | rfl | rfl | rfl
            · cases hc
            · cases hc
            · cases hc
            · cases hc
            · cases hc
            · cases hc
            · cases hc
            · cases hc
            · cases hc
            · cases hc
            · cases hc
            · cases hc
            · cases hc
            · cases hc
            · cases hc
            · cases hc
            · have d102 : f 102 = .agg #[.string x3, .string x1, .bool true] := hV 15 _ (by decide) (hdep ⟨15, .data⟩ (by obtain rfl := Option.some.inj ho; simp) rfl) rfl
              refine iv_val ho (by obtain rfl := Option.some.inj ho; rfl) (.slice (some ⟨W.heap.size, 0, none⟩) 1 1) (W.alloc (.cells #[.string x3, .string x1, .bool true] 72)) ?_ (Bl.alloc hB _) (Bl.alloc (Below.refl _ _) _) ⟨W.heap.size, rfl, blk_new W _, hB.size⟩
              · intro q hq
                obtain rfl := Option.some.inj ho
                have e102 := hq.tmp 102
                simp at e102
                simp [execOp, e102, d102, go_sem]
            · exact absurd rfl hna
            · cases hc
            · cases hc
            · exact absurd rfl hnm'
          · intro listed f o u W ho hdep hB hV hVV
            have d91 : f 91 = .slice aa an ac := hV 4 _ (by decide) (hdep ⟨4, .data⟩ (by obtain rfl := Option.some.inj ho; simp) rfl) rfl
            have x103 := hVV 16 (by decide) (hdep ⟨16, .data⟩ (by obtain rfl := Option.some.inj ho; simp) rfl) rfl (by decide) (by decide)
            obtain rfl := Option.some.inj ho
            refine ⟨rfl, fun K hK => ?_⟩
            have x103 : VSl (w2.heap.size) #[.string x3, .string x1, .bool true] 72 (f 103) W := x103
            obtain ⟨g1, hv1, hg1, hl1'⟩ := x103
            obtain ⟨v', w', hr, h2, h3, _⟩ := (HV.out W hB).app TAl.ok 27 g1 1 (x3, x1, true) hg1 rfl HLN.out (by have := hB.size; omega)
            refine oper_append (.tmp 91) (.tmp 103) 27 rfl (.slice aa an ac) (.slice (some ⟨g1, 0, none⟩) 1 1) v' (by rw [← d91]; simp [putsA_eval]) (by rw [← hv1]; simp [putsA_eval]) hr (hK v' w' ?_)
            have hBw : Below (b + 1) W w' := app_belowR (HV.out W hB) h3 (by have := hB.size; omega)
            obtain ⟨a4, c4, e4, _, _⟩ := h2.form
            exact ⟨a4, _, c4, e4, (hBw.block b (Nat.lt_succ_self b)).trans (HU.out W hB), h2, ownR_off (HO2.out W hB) (HV.out W hB) (by decide) h3, Below.trans (Below.trans HBB.out (hB.mono (Nat.le_of_lt lb))) (hBw.mono (Nat.le_succ b))⟩
          · intro listed f o W ho hdep hMid hV
            have d106 : f 106 = .pointer (some ⟨b, 1, none⟩) := hV 19 _ (by decide) (hdep ⟨19, .data⟩ (by obtain rfl := Option.some.inj ho; simp) rfl) rfl
            obtain rfl := Option.some.inj ho
            obtain ⟨a4, n4, c4, hv4, hx4, hO4, hA4, hb4⟩ := hMid
            have y0 := blk_cell hx4 1
            have g0 := blk_free hx4 1
            simp at y0
            refine ⟨rfl, W.setCell ⟨b, 1, none⟩ (f 104), fun q hq => ?_, ?_⟩
            · have e106 := hq.tmp 106
              have e104 := hq.tmp 104
              simp at e106 e104
              simp [execOp, e106, e104, d106, hv4, go_sem, y0, g0]
            · have hS := blk_set hx4 1 (f 104)
              refine ⟨⟨_, _, by simpa using hS, hA4.far (Nat.lt_succ_self b) 1 _, hO4.far (Nat.lt_succ_self b) 1 _⟩, Bl.set hb4 b 1 (Nat.le_refl _) _⟩
          intro f0 w5 hp5 _
          have HQ5 := Lib.hid hp5
          clear hp5
          unfold putsA
          simp only [List.mapIdx_toArray, List.mapIdx_cons, List.mapIdx_nil, List.contains_cons]
          simp
          go_wp2
          go_ret
          exact RlR.yes HR.out HQ5.out.1 HQ5.out.2
        · have HR : Hid (R = none) := Lib.hid (by rw [HR4.out]; unfold rdAl; rw [if_neg fun q => hf (by rw [← baOf_bs x2, q.2]; rfl)])
          have f1 : (x2.toList == [102, 111, 114]) = false := by rw [beq_eq_false_iff_ne]; exact fun e => hf (ba_inj (e.trans (by rw [ByteArray.toList_eq])))
          have f2 : ¬ x2.toList = [102, 111, 114] := by simpa using f1
          have HF := Lib.hid (NO.out HR.out)
          clear hf NO HR4
          go_wp2
          go_ret
          exact HF.out
      · have HR : Hid (R = none) := Lib.hid (by
          rw [HR4.out]; unfold rdAl
          rw [if_neg fun q => ?_]
          rcases q.1 with h | h
          · exact hu (by rw [← baOf_bs x0, h]; rfl)
          · exact hb (by rw [← baOf_bs x0, h]; rfl))
        have f1 : (x0.toList == [117, 115, 101]) = false := by rw [beq_eq_false_iff_ne]; exact fun e => hu (ba_inj (e.trans (by rw [ByteArray.toList_eq])))
        have f2 : ¬ x0.toList = [117, 115, 101] := by simpa using f1
        have f3 : (x0.toList == [98, 111, 116, 104]) = false := by rw [beq_eq_false_iff_ne]; exact fun e => hb (ba_inj (e.trans (by rw [ByteArray.toList_eq])))
        have f4 : ¬ x0.toList = [98, 111, 116, 104] := by simpa using f3
        have HF := Lib.hid (NO.out HR.out)
        clear hu hb NO HR4
        go_wp2
        go_ret
        exact HF.out
  have hll := HN.out
  subst h5
  obtain ⟨x0, x1, x2, x3, x4, rfl⟩ := five_of hll.symm
  obtain ⟨g, cap, cur, hvb, _, hgb, hcp, hcq, _⟩ := HOO.out.blk (by simp)
  injection hvb with e1 _ e2
  subst e1 e2
  obtain ⟨_, _, e0, _, _, c0⟩ := str_at HOO.out.rec0 (k := 0) (x := x0) rfl
  injection e0 with e0
  injection e0 with e1 e2 _
  subst e1 e2
  obtain ⟨_, _, e0, _, _, c1⟩ := str_at HOO.out.rec0 (k := 1) (x := x1) rfl
  injection e0 with e0
  injection e0 with e1 e2 _
  subst e1 e2
  obtain ⟨_, _, e0, _, _, c2⟩ := str_at HOO.out.rec0 (k := 2) (x := x2) rfl
  injection e0 with e0
  injection e0 with e1 e2 _
  subst e1 e2
  obtain ⟨_, _, e0, _, _, c3⟩ := str_at HOO.out.rec0 (k := 3) (x := x3) rfl
  injection e0 with e0
  injection e0 with e1 e2 _
  subst e1 e2
  obtain ⟨_, _, e0, _, _, c4⟩ := str_at HOO.out.rec0 (k := 4) (x := x4) rfl
  injection e0 with e0
  injection e0 with e1 e2 _
  subst e1 e2
  have hbx2 := HXC.out w2 HB2.out
  have k0 : w2.cell? ⟨b, 0, none⟩ = some (.slice pa pn pc) := blk_cell hbx2 0
  have k1 : w2.cell? ⟨b, 1, none⟩ = some (.slice aa an ac) := blk_cell hbx2 1
  have lb := blk_lt hbx2
  have lw : w.heap.size ≤ w2.heap.size := HB2.out.size
  have HR5 : Hid (R = rdPt c (bsOf x0) (bsOf x1) (bsOf x2) (bsOf x3) (bsOf x4)) := Lib.hid (by
    have hm := HM.out
    rw [HRE.out]
    rw [← HML.out] at hm ⊢
    unfold rdCw
    rw [if_neg hm]
    rfl)
  have hgl : g < w2.heap.size := blk_lt hgb
  have hvc : 5 ≤ vc := hcp
  have hvq : vc ≤ 9223372036854775807 := by unfold maxLen at hcq; omega
  have hv3 : ¬ vc = 3 := by omega
  have hv4 : (3 : Int) ≤ (vc : Int) := by omega
  have NO : Hid (R = none → RlR b w c R (.returned (.bool false)) w2) := Lib.hid fun h => RlR.no h (HBX.out w2 HB2.out) HBB.out
  have hx3z : x3.size ≤ 1000000 := by rw [← bsOf_len]; exact HLE.out _ (by rw [← HML.out]; simp)
  have hx4z : x4.size ≤ 1000000 := by rw [← bsOf_len]; exact HLE.out _ (by rw [← HML.out]; simp)
  have HNM := Lib.hid (Numbers_any (.slice (some ⟨g, 3, none⟩) 2 (vc - 3)) [x3, x4] w2 (row_from HOO.out.rec0 3 (by simp)) (by simp) (by intro x hx; simp at hx; rcases hx with rfl | rfl <;> omega))
  clear hll HRE hgb hcp hcq hbx2 hx3z hx4z
  by_cases hk : x0 = ⟨#[112, 97, 114, 116]⟩
  · subst hk
    by_cases ha : c.2 = []
    · obtain rfl : an = 0 := by rw [HAN.out, ha]; rfl
      obtain ⟨oi, hoi⟩ : ∃ q, q = numT 15 (bsOf x3) := ⟨_, rfl⟩
      obtain ⟨oj, hoj⟩ : ∃ q, q = numT 15 (bsOf x4) := ⟨_, rfl⟩
      have hns : numsK ([x3, x4].map (·.data.toList)) = oi.bind fun i => oj.map fun j => [i, j] := by
        show numsK [bsOf x3, bsOf x4] = _
        rw [hoi, hoj]
        unfold numsK numsK numsK
        cases numT 15 (bsOf x3) <;> cases numT 15 (bsOf x4) <;> rfl
      have HRV : Hid (R = oi.bind fun i => oj.map fun j => (c.1 ++ [(x1, x2, i, j)], c.2)) := Lib.hid (by
        rw [HR5.out, rdPt_at (w := bsOf ⟨#[112, 97, 114, 116]⟩) rfl ha, baOf_bs, baOf_bs, hoi, hoj]
        cases numT 15 (bsOf x3) <;> cases numT 15 (bsOf x4) <;> rfl)
      rw [hns] at HNM
      clear hns hoi hoj HR5
      go_wp2_with fail
      refine HNM.out.mono ?_
      rintro e w3 ⟨u, rfl, hu, hb3⟩
      have HB3 := Lib.hid (Bl.trans HB2.out hb3)
      have HBB3 : Hid (Below b w w3) := Lib.hid (HB3.out.mono (Nat.le_of_lt hbl))
      have HL3 := Lib.hid hb3
      have HU3 := Lib.hid hu
      have lb3 : b < w3.heap.size := Nat.lt_of_lt_of_le hbl HB3.out.size
      clear hu hb3 HNM
      obtain ⟨ua, uc, hu2, _, _⟩ := Ints.form HU3.out.ints
      cases oi with
      | none =>
        have HR : Hid (R = none) := Lib.hid HRV.out
        subst hu2
        go_wp2
        go_ret
        exact RlR.no HR.out (HBX.out w3 HB3.out) HBB3.out
      | some ni =>
        cases oj with
        | none =>
          have HR : Hid (R = none) := Lib.hid HRV.out
          subst hu2
          go_wp2
          go_ret
          exact RlR.no HR.out (HBX.out w3 HB3.out) HBB3.out
        | some nj =>
          have HR : Hid (R = some (c.1 ++ [(x1, x2, ni, nj)], c.2)) := Lib.hid HRV.out
          have hu' : Own w3 w2.heap.size u [ni, nj] := HU3.out
          have hu1 : ∃ gu ucap, u = .slice (some ⟨gu, 0, none⟩) 2 ucap ∧ gu < w3.heap.size ∧ w3.cell? ⟨gu, 0, none⟩ = some (.int .i64 ni) ∧ w3.cell? ⟨gu, 1, none⟩ = some (.int .i64 nj) := by
            rcases hu'.2 with ⟨_, h⟩ | ⟨g, cap, cur, rfl, hB, hb, h1, h2, h3, h4⟩
            · simp at h
            · refine ⟨g, cap, rfl, blk_lt hb, ?_, ?_⟩
              · rw [blk_cell hb 0]
                have := congrArg (fun l => l[0]?) h4
                simpa [ics] using this
              · rw [blk_cell hb 1]
                have := congrArg (fun l => l[1]?) h4
                simpa [ics] using this
          obtain ⟨gu, ucap, hue, hgu, m1, m2⟩ := hu1
          clear hu2 hu' HRV NO
          subst hue
          have lb := lb3
          go_wp2_with fail
          have hgl3 : g < w3.heap.size := Nat.lt_of_lt_of_le hgl HL3.out.size
          have HC1 := Lib.hid fun U (hU : Below w3.heap.size w3 U) => (hU.cell (p := ⟨g, 1, none⟩) hgl3).trans ((HL3.out.cell (p := ⟨g, 1, none⟩) hgl).trans c1)
          have HC2 := Lib.hid fun U (hU : Below w3.heap.size w3 U) => (hU.cell (p := ⟨g, 2, none⟩) hgl3).trans ((HL3.out.cell (p := ⟨g, 2, none⟩) hgl).trans c2)
          have HC5 := Lib.hid fun U (hU : Below w3.heap.size w3 U) => (hU.cell (p := ⟨gu, 0, none⟩) hgu).trans m1
          have HC6 := Lib.hid fun U (hU : Below w3.heap.size w3 U) => (hU.cell (p := ⟨gu, 1, none⟩) hgu).trans m2
          have HV := Lib.hid fun U (hU : Below w3.heap.size w3 U) => HP.out U (Bl.trans HB3.out hU)
          have HU := Lib.hid fun U (hU : Below w3.heap.size w3 U) => HXC.out U (Bl.trans HB3.out hU)
          have HO2 := Lib.hid fun U (hU : Below w3.heap.size w3 U) => HA.out U (Bl.trans HB3.out hU)
          have HLN : Hid (c.1.length ≤ 1000000) := Lib.hid (by omega)
          refine wp_region_ph (by kernel_rfl) [43, 44, 45, 46, 47, 48, 49, 50, 51, 52, 53, 54, 55, 56, 57, 58, 59, 60, 61, 62, 63, 64] (fun ii => ([some (.pointer (some ⟨b, 0, none⟩)), some (.pointer (some ⟨b, 0, none⟩)), some (.pointer (some ⟨b, 0, none⟩)), some (.pointer (some ⟨b, 0, none⟩)), some (.slice pa pn pc), some (.slice (some ⟨g, 0, none⟩) 5 vc), some (.pointer (some ⟨g, 1, none⟩)), some (.string x1), some (.slice (some ⟨g, 0, none⟩) 5 vc), some (.pointer (some ⟨g, 2, none⟩)), some (.string x2), some (.slice (some ⟨gu, 0, none⟩) 2 ucap), some (.pointer (some ⟨gu, 0, none⟩)), some (.int .i64 ni), some (.slice (some ⟨gu, 0, none⟩) 2 ucap), some (.pointer (some ⟨gu, 1, none⟩)), some (.int .i64 nj), some (.agg #[.string x1, .string x2, .int .i64 ni, .int .i64 nj]), none, none, some (.pointer (some ⟨b, 0, none⟩)), some (.pointer (some ⟨b, 0, none⟩)), none] : List (Option Value)).getD ii none) 19 22 62 (fun _ W => Below w3.heap.size w3 W) (fun W W' => Below W.heap.size W W') (fun W => CatBox W b (c.1 ++ [(x1, x2, ni, nj)], c.2) ∧ Below b w W) (fun v W => ∃ a n q, v = .slice a n q ∧ W.heap[b]? = some (.cells #[.slice pa pn pc, .slice aa 0 ac] 29 (0, 0)) ∧ OwnR TPt W (b + 1) v (c.1 ++ [(x1, x2, ni, nj)]) ∧ OwnR TAl W (b + 1) (.slice aa 0 ac) c.2 ∧ Below b w W) (fun i => [VT, VT, VT, VT, VT, VT, VT, VT, VT, VT, VT, VT, VT, VT, VT, VT, VT, VT, VSl (w3.heap.size) #[.string x1, .string x2, .int .i64 ni, .int .i64 nj] 66, VT, VT, VT, VT].getD i VT) (by kernel_rfl) (by kernel_rfl) (by kernel_rfl) ⟨rfl, rfl⟩ (by decide) (by decide) rfl rfl
            (fun l hcl h => hcl.no h 22 ⟨19, .data⟩ rfl rfl (by simp) rfl) ?_ (fun o ho => by obtain rfl := Option.some.inj ho; exact ⟨⟨19, .data⟩, by simp, rfl, rfl⟩) (fun u u' W hu h => h) (Below.drew (Below.refl _ _)) ?_ ?_ ?_ ?_ ?_ ?_
          · intro i l hi hci him hcl hl0
            have hi' : i = 0 ∨ i = 1 ∨ i = 2 ∨ i = 3 ∨ i = 4 ∨ i = 5 ∨ i = 6 ∨ i = 7 ∨ i = 8 ∨ i = 9 ∨ i = 10 ∨ i = 11 ∨ i = 12 ∨ i = 13 ∨ i = 14 ∨ i = 15 ∨ i = 16 ∨ i = 17 ∨ i = 18 ∨ i = 19 ∨ i = 20 ∨ i = 21 ∨ i = 22 := by
              have : i < 23 := hi
              omega
            rcases hi' with rfl | rfl | rfl | rfl | rfl | rfl | rfl | rfl | rfl | rfl | rfl | rfl | rfl | rfl | rfl | rfl | rfl | rfl | rfl | rfl | rfl | rfl | rfl
            · cases hci
            · cases hci
            · cases hci
            · cases hci
            · cases hci
            · cases hci
            · cases hci
            · cases hci
            · cases hci
            · cases hci
            · cases hci
            · cases hci
            · cases hci
            · cases hci
            · cases hci
            · cases hci
            · cases hci
            · cases hci
            · exact hcl.no (hl0) 19 ⟨18, .data⟩ rfl rfl (by simp) rfl
            · exact hl0
            · cases hci
            · cases hci
            · exact absurd rfl him
          · intro u W W' i v hB hR hV
            exact match i, hV with
              | 0, h => h
              | 1, h => h
              | 2, h => h
              | 3, h => h
              | 4, h => h
              | 5, h => h
              | 6, h => h
              | 7, h => h
              | 8, h => h
              | 9, h => h
              | 10, h => h
              | 11, h => h
              | 12, h => h
              | 13, h => h
              | 14, h => h
              | 15, h => h
              | 16, h => h
              | 17, h => h
              | 18, h => VSl.low h hR
              | 19, h => h
              | 20, h => h
              | 21, h => h
              | 22, h => h
              | (_ + 23), _ => trivial
          · intro listed f i o v W ho hc hdep hPre hcl hli hV
            match i, ho, hc with
            | 0, ho, hc =>
              obtain rfl := Option.some.inj hc
              refine ⟨by obtain rfl := Option.some.inj ho; rfl, ?_⟩
              · intro q hq
                obtain rfl := Option.some.inj ho
                have e0 := hq.tmp 0
                simp at e0
                simp [execOp, e0, go_sem]
            | 1, ho, hc =>
              obtain rfl := Option.some.inj hc
              refine ⟨by obtain rfl := Option.some.inj ho; rfl, ?_⟩
              · intro q hq
                obtain rfl := Option.some.inj ho
                have e0 := hq.tmp 0
                simp at e0
                simp [execOp, e0, go_sem]
            | 2, ho, hc =>
              obtain rfl := Option.some.inj hc
              have d44 : f 44 = .pointer (some ⟨b, 0, none⟩) := hV 1 _ (by decide) (hdep ⟨1, .data⟩ (by obtain rfl := Option.some.inj ho; simp) rfl) rfl
              refine ⟨by obtain rfl := Option.some.inj ho; rfl, ?_⟩
              · intro q hq
                obtain rfl := Option.some.inj ho
                have e44 := hq.tmp 44
                simp at e44
                simp [execOp, e44, d44, go_sem]
            | 3, ho, hc =>
              obtain rfl := Option.some.inj hc
              have d45 : f 45 = .pointer (some ⟨b, 0, none⟩) := hV 2 _ (by decide) (hdep ⟨2, .data⟩ (by obtain rfl := Option.some.inj ho; simp) rfl) rfl
              refine ⟨by obtain rfl := Option.some.inj ho; rfl, ?_⟩
              · intro q hq
                obtain rfl := Option.some.inj ho
                have e45 := hq.tmp 45
                simp at e45
                simp [execOp, e45, d45, go_sem]
            | 4, ho, hc =>
              obtain rfl := Option.some.inj hc
              obtain ⟨u, hB⟩ := hPre (hcl.no (hli) 19 ⟨4, .data⟩ rfl rfl (by simp) rfl)
              have y0 := blk_cell (HU.out W hB) 0
              have d46 : f 46 = .pointer (some ⟨b, 0, none⟩) := hV 3 _ (by decide) (hdep ⟨3, .data⟩ (by obtain rfl := Option.some.inj ho; simp) rfl) rfl
              refine ⟨by obtain rfl := Option.some.inj ho; rfl, ?_⟩
              · intro q hq
                obtain rfl := Option.some.inj ho
                have e46 := hq.tmp 46
                simp at e46
                simp [execOp, e46, d46, go_sem, y0]
            | 5, ho, hc =>
              obtain rfl := Option.some.inj hc
              refine ⟨by obtain rfl := Option.some.inj ho; rfl, ?_⟩
              · intro q hq
                obtain rfl := Option.some.inj ho
                have e5 := hq.tmp 5
                simp at e5
                simp [execOp, e5, go_sem]
            | 6, ho, hc =>
              obtain rfl := Option.some.inj hc
              have d48 : f 48 = .slice (some ⟨g, 0, none⟩) 5 vc := hV 5 _ (by decide) (hdep ⟨5, .data⟩ (by obtain rfl := Option.some.inj ho; simp) rfl) rfl
              refine ⟨by obtain rfl := Option.some.inj ho; rfl, ?_⟩
              · intro q hq
                obtain rfl := Option.some.inj ho
                have e48 := hq.tmp 48
                simp at e48
                simp [execOp, hq.const, e48, d48, go_sem]
            | 7, ho, hc =>
              obtain rfl := Option.some.inj hc
              obtain ⟨u, hB⟩ := hPre (hcl.no (hcl.no (hcl.no (hli) 17 ⟨7, .data⟩ rfl rfl (by simp) rfl) 18 ⟨17, .data⟩ rfl rfl (by simp) rfl) 19 ⟨18, .data⟩ rfl rfl (by simp) rfl)
              have y0 := HC1.out W hB
              have d49 : f 49 = .pointer (some ⟨g, 1, none⟩) := hV 6 _ (by decide) (hdep ⟨6, .data⟩ (by obtain rfl := Option.some.inj ho; simp) rfl) rfl
              refine ⟨by obtain rfl := Option.some.inj ho; rfl, ?_⟩
              · intro q hq
                obtain rfl := Option.some.inj ho
                have e49 := hq.tmp 49
                simp at e49
                simp [execOp, e49, d49, go_sem, y0]
            | 8, ho, hc =>
              obtain rfl := Option.some.inj hc
              refine ⟨by obtain rfl := Option.some.inj ho; rfl, ?_⟩
              · intro q hq
                obtain rfl := Option.some.inj ho
                have e5 := hq.tmp 5
                simp at e5
                simp [execOp, e5, go_sem]
            | 9, ho, hc =>
              obtain rfl := Option.some.inj hc
              have d51 : f 51 = .slice (some ⟨g, 0, none⟩) 5 vc := hV 8 _ (by decide) (hdep ⟨8, .data⟩ (by obtain rfl := Option.some.inj ho; simp) rfl) rfl
              refine ⟨by obtain rfl := Option.some.inj ho; rfl, ?_⟩
              · intro q hq
                obtain rfl := Option.some.inj ho
                have e51 := hq.tmp 51
                simp at e51
                simp [execOp, hq.const, e51, d51, go_sem]
            | 10, ho, hc =>
              obtain rfl := Option.some.inj hc
              obtain ⟨u, hB⟩ := hPre (hcl.no (hcl.no (hcl.no (hli) 17 ⟨10, .data⟩ rfl rfl (by simp) rfl) 18 ⟨17, .data⟩ rfl rfl (by simp) rfl) 19 ⟨18, .data⟩ rfl rfl (by simp) rfl)
              have y0 := HC2.out W hB
              have d52 : f 52 = .pointer (some ⟨g, 2, none⟩) := hV 9 _ (by decide) (hdep ⟨9, .data⟩ (by obtain rfl := Option.some.inj ho; simp) rfl) rfl
              refine ⟨by obtain rfl := Option.some.inj ho; rfl, ?_⟩
              · intro q hq
                obtain rfl := Option.some.inj ho
                have e52 := hq.tmp 52
                simp at e52
                simp [execOp, e52, d52, go_sem, y0]
            | 11, ho, hc =>
              obtain rfl := Option.some.inj hc
              refine ⟨by obtain rfl := Option.some.inj ho; rfl, ?_⟩
              · intro q hq
                obtain rfl := Option.some.inj ho
                have e7 := hq.tmp 7
                simp at e7
                simp [execOp, e7, go_sem]
            | 12, ho, hc =>
              obtain rfl := Option.some.inj hc
              have d54 : f 54 = .slice (some ⟨gu, 0, none⟩) 2 ucap := hV 11 _ (by decide) (hdep ⟨11, .data⟩ (by obtain rfl := Option.some.inj ho; simp) rfl) rfl
              refine ⟨by obtain rfl := Option.some.inj ho; rfl, ?_⟩
              · intro q hq
                obtain rfl := Option.some.inj ho
                have e54 := hq.tmp 54
                simp at e54
                simp [execOp, hq.const, e54, d54, go_sem]
            | 13, ho, hc =>
              obtain rfl := Option.some.inj hc
              obtain ⟨u, hB⟩ := hPre (hcl.no (hcl.no (hcl.no (hli) 17 ⟨13, .data⟩ rfl rfl (by simp) rfl) 18 ⟨17, .data⟩ rfl rfl (by simp) rfl) 19 ⟨18, .data⟩ rfl rfl (by simp) rfl)
              have y0 := HC5.out W hB
              have d55 : f 55 = .pointer (some ⟨gu, 0, none⟩) := hV 12 _ (by decide) (hdep ⟨12, .data⟩ (by obtain rfl := Option.some.inj ho; simp) rfl) rfl
              refine ⟨by obtain rfl := Option.some.inj ho; rfl, ?_⟩
              · intro q hq
                obtain rfl := Option.some.inj ho
                have e55 := hq.tmp 55
                simp at e55
                simp [execOp, e55, d55, go_sem, y0]
            | 14, ho, hc =>
              obtain rfl := Option.some.inj hc
              refine ⟨by obtain rfl := Option.some.inj ho; rfl, ?_⟩
              · intro q hq
                obtain rfl := Option.some.inj ho
                have e7 := hq.tmp 7
                simp at e7
                simp [execOp, e7, go_sem]
            | 15, ho, hc =>
              obtain rfl := Option.some.inj hc
              have d57 : f 57 = .slice (some ⟨gu, 0, none⟩) 2 ucap := hV 14 _ (by decide) (hdep ⟨14, .data⟩ (by obtain rfl := Option.some.inj ho; simp) rfl) rfl
              refine ⟨by obtain rfl := Option.some.inj ho; rfl, ?_⟩
              · intro q hq
                obtain rfl := Option.some.inj ho
                have e57 := hq.tmp 57
                simp at e57
                simp [execOp, hq.const, e57, d57, go_sem]
            | 16, ho, hc =>
              obtain rfl := Option.some.inj hc
              obtain ⟨u, hB⟩ := hPre (hcl.no (hcl.no (hcl.no (hli) 17 ⟨16, .data⟩ rfl rfl (by simp) rfl) 18 ⟨17, .data⟩ rfl rfl (by simp) rfl) 19 ⟨18, .data⟩ rfl rfl (by simp) rfl)
              have y0 := HC6.out W hB
              have d58 : f 58 = .pointer (some ⟨gu, 1, none⟩) := hV 15 _ (by decide) (hdep ⟨15, .data⟩ (by obtain rfl := Option.some.inj ho; simp) rfl) rfl
              refine ⟨by obtain rfl := Option.some.inj ho; rfl, ?_⟩
              · intro q hq
                obtain rfl := Option.some.inj ho
                have e58 := hq.tmp 58
                simp at e58
                simp [execOp, e58, d58, go_sem, y0]
            | 17, ho, hc =>
              obtain rfl := Option.some.inj hc
              have d50 : f 50 = .string x1 := hV 7 _ (by decide) (hdep ⟨7, .data⟩ (by obtain rfl := Option.some.inj ho; simp) rfl) rfl
              have d53 : f 53 = .string x2 := hV 10 _ (by decide) (hdep ⟨10, .data⟩ (by obtain rfl := Option.some.inj ho; simp) rfl) rfl
              have d56 : f 56 = .int .i64 ni := hV 13 _ (by decide) (hdep ⟨13, .data⟩ (by obtain rfl := Option.some.inj ho; simp) rfl) rfl
              have d59 : f 59 = .int .i64 nj := hV 16 _ (by decide) (hdep ⟨16, .data⟩ (by obtain rfl := Option.some.inj ho; simp) rfl) rfl
              refine ⟨by obtain rfl := Option.some.inj ho; rfl, ?_⟩
              · intro q hq
                obtain rfl := Option.some.inj ho
                have e50 := hq.tmp 50
                have e53 := hq.tmp 53
                have e56 := hq.tmp 56
                have e59 := hq.tmp 59
                simp at e50 e53 e56 e59
                simp [execOp, e50, e53, e56, e59, d50, d53, d56, d59, go_sem]
            | 18, ho, hc => exact absurd hc (by simp)
            | 19, ho, hc => exact absurd hc (by simp)
            | 20, ho, hc =>
              obtain rfl := Option.some.inj hc
              have d43 : f 43 = .pointer (some ⟨b, 0, none⟩) := hV 0 _ (by decide) (hdep ⟨0, .data⟩ (by obtain rfl := Option.some.inj ho; simp) rfl) rfl
              refine ⟨by obtain rfl := Option.some.inj ho; rfl, ?_⟩
              · intro q hq
                obtain rfl := Option.some.inj ho
                have e43 := hq.tmp 43
                simp at e43
                simp [execOp, e43, d43, go_sem]
            | 21, ho, hc =>
              obtain rfl := Option.some.inj hc
              have d63 : f 63 = .pointer (some ⟨b, 0, none⟩) := hV 20 _ (by decide) (hdep ⟨20, .data⟩ (by obtain rfl := Option.some.inj ho; simp) rfl) rfl
              refine ⟨by obtain rfl := Option.some.inj ho; rfl, ?_⟩
              · intro q hq
                obtain rfl := Option.some.inj ho
                have e63 := hq.tmp 63
                simp at e63
                simp [execOp, e63, d63, go_sem]
            | 22, ho, hc => exact absurd hc (by simp)
            | (_ + 23), ho, hc => exact absurd hc (by simp)
          · intro listed f i o u W ho hc hna hnm' hdep hB hV hVV
            have hi' : i = 0 ∨ i = 1 ∨ i = 2 ∨ i = 3 ∨ i = 4 ∨ i = 5 ∨ i = 6 ∨ i = 7 ∨ i = 8 ∨ i = 9 ∨ i = 10 ∨ i = 11 ∨ i = 12 ∨ i = 13 ∨ i = 14 ∨ i = 15 ∨ i = 16 ∨ i = 17 ∨ i = 18 ∨ i = 19 ∨ i = 20 ∨ i = 21 ∨ i = 22 := by
              have : i < 23 := (Array.getElem?_eq_some_iff.1 ho).1
              omega
            rcases hi' with rfl | rfl | rfl | rfl | rfl | rfl | rfl | rfl | rfl | rfl | rfl | rfl | rfl | rfl | rfl | rfl | rfl | rfl | rfl | rfl | rfl | rfl | rfl
            · cases hc
            · cases hc
            · cases hc
            · cases hc
            · cases hc
            · cases hc
            · cases hc
            · cases hc
            · cases hc
            · cases hc
            · cases hc
            · cases hc
            · cases hc
            · cases hc
            · cases hc
            · cases hc
            · cases hc
            · cases hc
            · have d60 : f 60 = .agg #[.string x1, .string x2, .int .i64 ni, .int .i64 nj] := hV 17 _ (by decide) (hdep ⟨17, .data⟩ (by obtain rfl := Option.some.inj ho; simp) rfl) rfl
              refine iv_val ho (by obtain rfl := Option.some.inj ho; rfl) (.slice (some ⟨W.heap.size, 0, none⟩) 1 1) (W.alloc (.cells #[.string x1, .string x2, .int .i64 ni, .int .i64 nj] 66)) ?_ (Bl.alloc hB _) (Bl.alloc (Below.refl _ _) _) ⟨W.heap.size, rfl, blk_new W _, hB.size⟩
              · intro q hq
                obtain rfl := Option.some.inj ho
                have e60 := hq.tmp 60
                simp at e60
                simp [execOp, e60, d60, go_sem]
            · exact absurd rfl hna
            · cases hc
            · cases hc
            · exact absurd rfl hnm'
          · intro listed f o u W ho hdep hB hV hVV
            have d47 : f 47 = .slice pa pn pc := hV 4 _ (by decide) (hdep ⟨4, .data⟩ (by obtain rfl := Option.some.inj ho; simp) rfl) rfl
            have x61 := hVV 18 (by decide) (hdep ⟨18, .data⟩ (by obtain rfl := Option.some.inj ho; simp) rfl) rfl (by decide) (by decide)
            obtain rfl := Option.some.inj ho
            refine ⟨rfl, fun K hK => ?_⟩
            have x61 : VSl (w3.heap.size) #[.string x1, .string x2, .int .i64 ni, .int .i64 nj] 66 (f 61) W := x61
            obtain ⟨g1, hv1, hg1, hl1'⟩ := x61
            obtain ⟨v', w', hr, h2, h3, _⟩ := (HV.out W hB).app TPt.ok 26 g1 1 (x1, x2, ni, nj) hg1 rfl HLN.out (by have := hB.size; omega)
            refine oper_append (.tmp 47) (.tmp 61) 26 rfl (.slice pa pn pc) (.slice (some ⟨g1, 0, none⟩) 1 1) v' (by rw [← d47]; simp [putsA_eval]) (by rw [← hv1]; simp [putsA_eval]) hr (hK v' w' ?_)
            have hBw : Below (b + 1) W w' := app_belowR (HV.out W hB) h3 (by have := hB.size; omega)
            obtain ⟨a4, c4, e4, _, _⟩ := h2.form
            exact ⟨a4, _, c4, e4, (hBw.block b (Nat.lt_succ_self b)).trans (HU.out W hB), h2, ownR_off (HO2.out W hB) (HV.out W hB) (by decide) h3, Below.trans (Below.trans HBB3.out (hB.mono (Nat.le_of_lt lb))) (hBw.mono (Nat.le_succ b))⟩
          · intro listed f o W ho hdep hMid hV
            have d64 : f 64 = .pointer (some ⟨b, 0, none⟩) := hV 21 _ (by decide) (hdep ⟨21, .data⟩ (by obtain rfl := Option.some.inj ho; simp) rfl) rfl
            obtain rfl := Option.some.inj ho
            obtain ⟨a4, n4, c4, hv4, hx4, hO4, hA4, hb4⟩ := hMid
            have y0 := blk_cell hx4 0
            have g0 := blk_free hx4 0
            simp at y0
            refine ⟨rfl, W.setCell ⟨b, 0, none⟩ (f 62), fun q hq => ?_, ?_⟩
            · have e64 := hq.tmp 64
              have e62 := hq.tmp 62
              simp at e64 e62
              simp [execOp, e64, e62, d64, hv4, go_sem, y0, g0]
            · have hS := blk_set hx4 0 (f 62)
              refine ⟨⟨_, _, by simpa using hS, hO4.far (Nat.lt_succ_self b) 0 _, hA4.far (Nat.lt_succ_self b) 0 _⟩, Bl.set hb4 b 0 (Nat.le_refl _) _⟩
          intro f0 w5 hp5 _
          have HQ5 := Lib.hid hp5
          clear hp5
          unfold putsA
          simp only [List.mapIdx_toArray, List.mapIdx_cons, List.mapIdx_nil, List.contains_cons]
          simp
          go_wp2
          go_ret
          exact RlR.yes HR.out HQ5.out.1 HQ5.out.2
    · have HR : Hid (R = none) := Lib.hid (by rw [HR5.out]; unfold rdPt; rw [if_neg fun q => ha q.2])
      have han1 : ¬ an = 0 := by rw [HAN.out]; exact fun h => ha (List.length_eq_zero_iff.1 h)
      have han2 : ((an : Int) == 0) = false := by simpa using han1
      have HF := Lib.hid (NO.out HR.out)
      clear ha NO HR5 HNM
      go_wp2
      go_ret
      exact HF.out
  · have HR : Hid (R = none) := Lib.hid (by rw [HR5.out]; unfold rdPt; rw [if_neg fun q => hk (by rw [← baOf_bs x0, q.1]; rfl)])
    have f1 : (x0.toList == [112, 97, 114, 116]) = false := by rw [beq_eq_false_iff_ne]; exact fun e => hk (ba_inj (e.trans (by rw [ByteArray.toList_eq])))
    have f2 : ¬ x0.toList = [112, 97, 114, 116] := by simpa using f1
    have HF := Lib.hid (NO.out HR.out)
    clear hk NO HR5 HNM
    go_wp2
    go_ret
    exact HF.out
end Go.Proofs.YtihgnpobkpnipaaGreatDoor
