/- Texts of the proof of a law, put together, part 25 of 35. Conditions: none beyond those that each theorem names. -/
import Derived.Test.YtihgnpobkpnipaaGreatDoorCz23
import Derived.Test.YtihgnpobkpnipaaGreatDoorCz24
namespace Go.Proofs.YtihgnpobkpnipaaGreatDoor
open Go.RowKit Go.Sort Go.Maps
theorem has_emptyC (l : List ByteArray) : (!Lib.containsS l ⟨#[]⟩) = decide ([] ∉ l.map bsOf) := by
  have h : Lib.containsS l ⟨#[]⟩ = true ↔ [] ∈ l.map bsOf := by
    rw [Lib.containsS_iff, List.mem_map]
    constructor
    · intro hm; exact ⟨_, hm, rfl⟩
    · rintro ⟨x, hx, e⟩
      have hx0 : x = ⟨#[]⟩ := by rw [← baOf_bs x, e]; rfl
      rw [← hx0]; exact hx
  by_cases hm : [] ∈ l.map bsOf
  · rw [h.2 hm, decide_eq_false (fun hn => hn hm)]; rfl
  · have h2 : Lib.containsS l ⟨#[]⟩ = false := by
      cases hc : Lib.containsS l ⟨#[]⟩ with
      | false => rfl
      | true => exact absurd (h.1 hc) hm
    rw [h2, decide_eq_true hm]; rfl
theorem HasBC_any (l : List ByteArray) (v : Value) (x : ByteArray) (w : World) (hlen : l.length ≤ 10000000) (rl : RecR TS w 0 v l) :
    Calls Tryz.prog 29 #[v, .string x] w fun e w' => e = .returned (.bool (Lib.containsS l x)) ∧ w = w' := by
  obtain ⟨a, cap, rfl, hc1, hc2⟩ := rl.form
  by_cases h0 : l = []
  · subst h0
    exact (Tryz.slices_Contains_string_empty a cap x w).mono fun e w' ⟨h1, h2⟩ => ⟨by rw [h1]; rfl, h2.symm⟩
  · obtain ⟨y, hy⟩ : ∃ y, l[0]? = some y := ⟨_, List.getElem?_eq_getElem (List.length_pos_iff.2 h0)⟩
    obtain ⟨b, o, rfl, _, _, _⟩ := str_at rl hy
    have := Tryz.slices_Contains_string b o l.length cap l x w (Nat.le_refl _) (by omega) (str_cells rl)
    rw [List.take_length] at this
    exact this.mono fun e w' ⟨h1, h2⟩ => ⟨h1, h2.symm⟩
set_option maxHeartbeats 4000000 in
theorem CRWords_any (s : ByteArray) (w : World) (hT : TxW w) (hs : s.size ≤ 1000000) :
    Calls Tryz.prog 57 #[.string s] w fun e w' => ∃ v l, e = .returned (.tuple #[v, .bool (decide ([] ∉ splitL 32 (bsOf s)))]) ∧ OwnR TS w' w.heap.size v l ∧ l.map bsOf = splitL 32 (bsOf s) ∧ l.length ≤ 1000001 ∧ Below w.heap.size w w' := by
  have HSP := Lib.hid (Split_any s 32 w hT hs)
  clear hT hs
  go_enter Tryz.func57, Tryz.ntmps57
  go_wp2_with fail
  refine HSP.out.mono ?_
  rintro e w1 ⟨v, l, rfl, hO, hm, hl1, hb⟩
  have hm' : l.map bsOf = splitL 32 (bsOf s) := hm
  obtain ⟨q, hq⟩ : ∃ q, q = Lib.containsS l ⟨#[]⟩ := ⟨_, rfl⟩
  have HHB0 := HasBC_any l v ⟨#[]⟩ w1 (by omega) hO.rec0
  rw [← hq] at HHB0
  have HHB := Lib.hid HHB0
  have HQ : Hid ((!q) = decide ([] ∉ splitL 32 (bsOf s))) := Lib.hid (by rw [hq, has_emptyC, hm'])
  obtain ⟨a1, n1, c1, hv⟩ : ∃ a n c, v = .slice a n c := (by obtain ⟨a, c, h, _, _⟩ := hO.form; exact ⟨a, _, c, h⟩)
  subst hv
  have HO := Lib.hid (And.intro hO (And.intro hm' (And.intro hl1 hb)))
  clear hO hm hm' hl1 hb hq HHB0 HSP
  go_wp2_with fail
  refine HHB.out.mono ?_
  rintro e w2 ⟨rfl, rfl⟩
  go_wp2
  go_ret2
  exact ⟨_, l, by rw [← HQ.out] <;> rfl, HO.out⟩
/-- what the closure has told. -/
def ClR (b : Nat) (w : World) (o : Option Cst) (e : Ending) (w' : World) : Prop := e = .returned (.bool o.isSome) ∧ (∀ d, o = some d → CatBox w' b d) ∧ Below b w w'
theorem ClR.no {b : Nat} {w w' : World} {c : Cst} {o : Option Cst} (ho : o = none) (_ : CatBox w' b c) (hb : Below b w w') : ClR b w o (.returned (.bool false)) w' := by subst ho; exact ⟨rfl, fun _ h => (by cases h), hb⟩
theorem ClR.yes {b : Nat} {w w' : World} {d : Cst} {o : Option Cst} (ho : o = some d) (h : CatBox w' b d) (hb : Below b w w') : ClR b w o (.returned (.bool true)) w' := by subst ho; exact ⟨rfl, fun _ e => (by injection e with e; rw [← e]; exact h), hb⟩
theorem ClR.any {b : Nat} {w w' : World} {ok : Bool} {o : Option Cst} (ho : ok = o.isSome) (h : ∀ d, o = some d → CatBox w' b d) (hb : Below b w w') : ClR b w o (.returned (.bool ok)) w' := ⟨by rw [ho], h, hb⟩
set_option maxHeartbeats 16000000 in
set_option maxRecDepth 100000 in
theorem CatClo_any (b : Nat) (c : Cst) (s : ByteArray) (w : World) (hT : TxW w) (hs : s.size ≤ 1000000) (hB : CatBox w b c) (hl1 : c.1.length ≤ 500000) (hl2 : c.2.length ≤ 500000) :
    Calls Tryz.prog 56 #[.string s, .pointer (some ⟨b, 0, none⟩)] w fun e w' => ClR b w (rdC c (bsOf s)) e w' := by
  have HKW := Lib.hid (CRWords_any s w hT hs)
  have HBX := Lib.hid fun W (hW : Below w.heap.size w W) => hB.low hW
  obtain ⟨pv, av, hbx, hP, hA⟩ := hB
  have hbl := blk_lt hbx
  obtain ⟨pa, pc, rfl, _, _⟩ := hP.form
  obtain ⟨aa, ac, rfl, _, _⟩ := hA.form
  obtain ⟨pn, hpn⟩ : ∃ q, q = c.1.length := ⟨_, rfl⟩
  obtain ⟨an, han⟩ : ∃ q, q = c.2.length := ⟨_, rfl⟩
  have HPN := Lib.hid hpn
  have HAN := Lib.hid han
  rw [← hpn] at hP
  rw [← han] at hA
  rw [← hpn, ← han] at hbx
  have HXC := Lib.hid fun W (hW : Below w.heap.size w W) => blk_below hbx hW
  have HP := Lib.hid fun W (hW : Below w.heap.size w W) => hP.below hW
  have HA := Lib.hid fun W (hW : Below w.heap.size w W) => hA.below hW
  have HT := Lib.hid hT
  obtain ⟨Ls, hLs⟩ : ∃ Ls, Ls = splitL 32 (bsOf s) := ⟨_, rfl⟩
  have HRD : Hid (rdC c (bsOf s) = rdCw c Ls) := Lib.hid (by rw [hLs]; rfl)
  rw [← hLs] at HKW
  obtain ⟨R, hR⟩ : ∃ R, R = rdC c (bsOf s) := ⟨_, rfl⟩
  have HRE : Hid (R = rdCw c Ls) := Lib.hid (by rw [hR]; exact HRD.out)
  rw [← hR]
  have HLE : Hid (∀ z ∈ Ls, z.length ≤ 1000000) := Lib.hid fun z hz => by
    have h1 := splitC_le 32 (bsOf s) z (by rw [← hLs]; exact hz)
    have h2 := bsOf_len s
    omega
  clear hT hbx hP hA hpn han hLs hR HRD
  go_enter Tryz.func56, Tryz.ntmps56
  go_wp2_with fail
  refine HKW.out.mono ?_
  rintro e w2 ⟨v, l, rfl, hO, hml, hlm, hb2⟩
  have HB2 := Lib.hid hb2
  have HBB : Hid (Below b w w2) := Lib.hid (hb2.mono (Nat.le_of_lt hbl))
  clear hb2 HKW
  by_cases hm : [] ∈ Ls
  · have hd : decide ([] ∉ Ls) = false := by simp [hm]
    rw [hd]
    have HR : Hid (R = none) := Lib.hid (by rw [HRE.out]; unfold rdCw; rw [if_pos hm])
    obtain ⟨va, vc, rfl, _, _⟩ := hO.form
    obtain ⟨nl, hnl⟩ : ∃ q, q = l.length := ⟨_, rfl⟩
    rw [← hnl]
    clear hm hd hO hml hnl hlm
    go_wp2
    go_ret
    exact ClR.no HR.out (HBX.out w2 HB2.out) HBB.out
  have hd : decide ([] ∉ Ls) = true := by simp [hm]
  rw [hd]
  have HLL : Hid (Ls.length = l.length) := Lib.hid (by rw [← hml, List.length_map])
  have HML := Lib.hid hml
  obtain ⟨n, hn⟩ : ∃ n, n = l.length := ⟨_, rfl⟩
  obtain ⟨va, vc, rfl, _, _⟩ := hO.form
  have HOO := Lib.hid hO
  rw [← hn] at hlm
  rw [← hn] at HOO ⊢
  have HN := Lib.hid hn
  have HM := Lib.hid hm
  clear hm hd hml hO hn
  by_cases h5 : n = 5
  case neg =>
    by_cases h4 : n = 4
    case neg =>
      have HR : Hid (R = none) := Lib.hid (by rw [HRE.out]; exact rdCw_other (by rw [HLL.out, ← HN.out]; exact h5) (by rw [HLL.out, ← HN.out]; exact h4))
      have e5 : ((n : Int) == 5) = false := by simp; omega
      have e4 : ((n : Int) == 4) = false := by simp; omega
      have e5' : ¬ (n : Int) = 5 := by omega
      have e4' : ¬ (n : Int) = 4 := by omega
      clear h5 h4
      go_wp2
      go_ret
      exact ClR.no HR.out (HBX.out w2 HB2.out) HBB.out
    have hll := HN.out
    subst h4
    obtain ⟨x0, x1, x2, x3, rfl⟩ := four_of hll.symm
    obtain ⟨g, cap, cur, hvb, _, hgb, hcp, hcq, _⟩ := HOO.out.blk (by simp)
    injection hvb with e1 _ e2
    subst e1 e2
    obtain ⟨_, _, e0, _, _, c0⟩ := str_at HOO.out.rec0 (k := 0) (x := x0) rfl
    injection e0 with e0
    injection e0 with e1 e2 _
    subst e1 e2
    obtain ⟨_, _, e0, _, _, c1⟩ := str_at HOO.out.rec0 (k := 1) (x := x1) rfl
    injection e0 with e0
    injection e0 with e1 e2 _
    subst e1 e2
    obtain ⟨_, _, e0, _, _, c2⟩ := str_at HOO.out.rec0 (k := 2) (x := x2) rfl
    injection e0 with e0
    injection e0 with e1 e2 _
    subst e1 e2
    obtain ⟨_, _, e0, _, _, c3⟩ := str_at HOO.out.rec0 (k := 3) (x := x3) rfl
    injection e0 with e0
    injection e0 with e1 e2 _
    subst e1 e2
    have hbx2 := HXC.out w2 HB2.out
    have k0 : w2.cell? ⟨b, 0, none⟩ = some (.slice pa pn pc) := blk_cell hbx2 0
    have k1 : w2.cell? ⟨b, 1, none⟩ = some (.slice aa an ac) := blk_cell hbx2 1
    have lb := blk_lt hbx2
    have lw : w.heap.size ≤ w2.heap.size := HB2.out.size
    have HR4 : Hid (R = rdAl c (bsOf x0) (bsOf x1) (bsOf x2) (bsOf x3)) := Lib.hid (by
      have hm := HM.out
      rw [HRE.out]
      rw [← HML.out] at hm ⊢
      unfold rdCw
      rw [if_neg hm]
      rfl)
    have hgl : g < w2.heap.size := blk_lt hgb
    clear hll HRE hgb hcp hcq hbx2
    have NO : Hid (R = none → ClR b w R (.returned (.bool false)) w2) := Lib.hid fun h => ClR.no h (HBX.out w2 HB2.out) HBB.out
    by_cases hu : x0 = ⟨#[117, 115, 101]⟩
    · subst hu
      by_cases hf : x2 = ⟨#[102, 111, 114]⟩
      · subst hf
        have HR : Hid (R = some (c.1, c.2 ++ [(x3, x1, false)])) := Lib.hid (by rw [HR4.out]; unfold rdAl; rw [if_pos ⟨.inl rfl, rfl⟩, baOf_bs, baOf_bs]; rfl)
        clear NO HR4
        go_wp2_with fail
        have HC0 := Lib.hid fun U (hU : Below w2.heap.size w2 U) => (hU.cell (p := ⟨g, 0, none⟩) hgl).trans c0
        have HC1 := Lib.hid fun U (hU : Below w2.heap.size w2 U) => (hU.cell (p := ⟨g, 1, none⟩) hgl).trans c1
        have HC3 := Lib.hid fun U (hU : Below w2.heap.size w2 U) => (hU.cell (p := ⟨g, 3, none⟩) hgl).trans c3
        have HV := Lib.hid fun U (hU : Below w2.heap.size w2 U) => HA.out U (Bl.trans HB2.out hU)
        have HU := Lib.hid fun U (hU : Below w2.heap.size w2 U) => HXC.out U (Bl.trans HB2.out hU)
        have HO2 := Lib.hid fun U (hU : Below w2.heap.size w2 U) => HP.out U (Bl.trans HB2.out hU)
        have HLN : Hid (c.2.length ≤ 1000000) := Lib.hid (by omega)
        refine wp_region_ph (by kernel_rfl) [82, 83, 84, 85, 86, 87, 88, 89, 90, 91, 92, 93, 94, 95, 96, 97] (fun ii => ([some (.pointer (some ⟨b, 1, none⟩)), some (.slice aa an ac), some (.slice (some ⟨g, 0, none⟩) 4 vc), some (.pointer (some ⟨g, 3, none⟩)), some (.string x3), some (.slice (some ⟨g, 0, none⟩) 4 vc), some (.pointer (some ⟨g, 1, none⟩)), some (.string x1), some (.slice (some ⟨g, 0, none⟩) 4 vc), some (.pointer (some ⟨g, 0, none⟩)), some (.string ⟨#[117, 115, 101]⟩), some (.bool false), some (.agg #[.string x3, .string x1, .bool false]), none, none, some (.pointer (some ⟨b, 1, none⟩)), none] : List (Option Value)).getD ii none) 14 16 96 (fun _ W => Below w2.heap.size w2 W) (fun W W' => Below W.heap.size W W') (fun W => CatBox W b (c.1, c.2 ++ [(x3, x1, false)]) ∧ Below b w W) (fun v W => ∃ a n q, v = .slice a n q ∧ W.heap[b]? = some (.cells #[.slice pa pn pc, .slice aa an ac] 29 (0, 0)) ∧ OwnR TAl W (b + 1) v (c.2 ++ [(x3, x1, false)]) ∧ OwnR TPt W (b + 1) (.slice pa pn pc) c.1 ∧ Below b w W) (fun i => [VT, VT, VT, VT, VT, VT, VT, VT, VT, VT, VT, VT, VT, VSl (w2.heap.size) #[.string x3, .string x1, .bool false] 72, VT, VT, VT].getD i VT) (by kernel_rfl) (by kernel_rfl) (by kernel_rfl) ⟨rfl, rfl⟩ (by decide) (by decide) rfl rfl
          (fun l hcl h => hcl.no h 16 ⟨14, .data⟩ rfl rfl (by simp) rfl) ?_ (fun o ho => by obtain rfl := Option.some.inj ho; exact ⟨⟨14, .data⟩, by simp, rfl, rfl⟩) (fun u u' W hu h => h) (Below.drew (Below.refl _ _)) ?_ ?_ ?_ ?_ ?_ ?_
        · intro i l hi hci him hcl hl0
          have hi' : i = 0 ∨ i = 1 ∨ i = 2 ∨ i = 3 ∨ i = 4 ∨ i = 5 ∨ i = 6 ∨ i = 7 ∨ i = 8 ∨ i = 9 ∨ i = 10 ∨ i = 11 ∨ i = 12 ∨ i = 13 ∨ i = 14 ∨ i = 15 ∨ i = 16 := by
            have : i < 17 := hi
            omega
          rcases hi' with rfl | rfl | rfl | rfl | rfl | rfl | rfl | rfl | rfl | rfl | rfl | rfl | rfl | rfl | rfl | rfl | rfl
          · cases hci
          · cases hci
          · cases hci
          · cases hci
          · cases hci
          · cases hci
          · cases hci
          · cases hci
          · cases hci
          · cases hci
          · cases hci
          · cases hci
          · cases hci
          · exact hcl.no (hl0) 14 ⟨13, .data⟩ rfl rfl (by simp) rfl
          · exact hl0
          · cases hci
          · exact absurd rfl him
        · intro u W W' i v hB hR hV
          exact match i, hV with
            | 0, h => h
            | 1, h => h
            | 2, h => h
            | 3, h => h
            | 4, h => h
            | 5, h => h
            | 6, h => h
            | 7, h => h
            | 8, h => h
            | 9, h => h
            | 10, h => h
            | 11, h => h
            | 12, h => h
            | 13, h => VSl.low h hR
            | 14, h => h
            | 15, h => h
            | 16, h => h
            | (_ + 17), _ => trivial
        · intro listed f i o v W ho hc hdep hPre hcl hli hV
          match i, ho, hc with
          | 0, ho, hc =>
            obtain rfl := Option.some.inj hc
            refine ⟨by obtain rfl := Option.some.inj ho; rfl, ?_⟩
            · intro q hq
              obtain rfl := Option.some.inj ho
              have e1 := hq.tmp 1
              simp at e1
              simp [execOp, e1, go_sem]
          | 1, ho, hc =>
            obtain rfl := Option.some.inj hc
            obtain ⟨u, hB⟩ := hPre (hcl.no (hli) 14 ⟨1, .data⟩ rfl rfl (by simp) rfl)
            have y0 := blk_cell (HU.out W hB) 1
            have d82 : f 82 = .pointer (some ⟨b, 1, none⟩) := hV 0 _ (by decide) (hdep ⟨0, .data⟩ (by obtain rfl := Option.some.inj ho; simp) rfl) rfl
            refine ⟨by obtain rfl := Option.some.inj ho; rfl, ?_⟩
            · intro q hq
              obtain rfl := Option.some.inj ho
              have e82 := hq.tmp 82
              simp at e82
              simp [execOp, e82, d82, go_sem, y0]
          | 2, ho, hc =>
            obtain rfl := Option.some.inj hc
            refine ⟨by obtain rfl := Option.some.inj ho; rfl, ?_⟩
            · intro q hq
              obtain rfl := Option.some.inj ho
              have e4 := hq.tmp 4
              simp at e4
              simp [execOp, e4, go_sem]
          | 3, ho, hc =>
            obtain rfl := Option.some.inj hc
            have d84 : f 84 = .slice (some ⟨g, 0, none⟩) 4 vc := hV 2 _ (by decide) (hdep ⟨2, .data⟩ (by obtain rfl := Option.some.inj ho; simp) rfl) rfl
            refine ⟨by obtain rfl := Option.some.inj ho; rfl, ?_⟩
            · intro q hq
              obtain rfl := Option.some.inj ho
              have e84 := hq.tmp 84
              simp at e84
              simp [execOp, hq.const, e84, d84, go_sem]
          | 4, ho, hc =>
            obtain rfl := Option.some.inj hc
            obtain ⟨u, hB⟩ := hPre (hcl.no (hcl.no (hcl.no (hli) 12 ⟨4, .data⟩ rfl rfl (by simp) rfl) 13 ⟨12, .data⟩ rfl rfl (by simp) rfl) 14 ⟨13, .data⟩ rfl rfl (by simp) rfl)
            have y0 := HC3.out W hB
            have d85 : f 85 = .pointer (some ⟨g, 3, none⟩) := hV 3 _ (by decide) (hdep ⟨3, .data⟩ (by obtain rfl := Option.some.inj ho; simp) rfl) rfl
            refine ⟨by obtain rfl := Option.some.inj ho; rfl, ?_⟩
            · intro q hq
              obtain rfl := Option.some.inj ho
              have e85 := hq.tmp 85
              simp at e85
              simp [execOp, e85, d85, go_sem, y0]
          | 5, ho, hc =>
            obtain rfl := Option.some.inj hc
            refine ⟨by obtain rfl := Option.some.inj ho; rfl, ?_⟩
            · intro q hq
              obtain rfl := Option.some.inj ho
              have e4 := hq.tmp 4
              simp at e4
              simp [execOp, e4, go_sem]
          | 6, ho, hc =>
            obtain rfl := Option.some.inj hc
            have d87 : f 87 = .slice (some ⟨g, 0, none⟩) 4 vc := hV 5 _ (by decide) (hdep ⟨5, .data⟩ (by obtain rfl := Option.some.inj ho; simp) rfl) rfl
            refine ⟨by obtain rfl := Option.some.inj ho; rfl, ?_⟩
            · intro q hq
              obtain rfl := Option.some.inj ho
              have e87 := hq.tmp 87
              simp at e87
              simp [execOp, hq.const, e87, d87, go_sem]
          | 7, ho, hc =>
            obtain rfl := Option.some.inj hc
            obtain ⟨u, hB⟩ := hPre (hcl.no (hcl.no (hcl.no (hli) 12 ⟨7, .data⟩ rfl rfl (by simp) rfl) 13 ⟨12, .data⟩ rfl rfl (by simp) rfl) 14 ⟨13, .data⟩ rfl rfl (by simp) rfl)
            have y0 := HC1.out W hB
            have d88 : f 88 = .pointer (some ⟨g, 1, none⟩) := hV 6 _ (by decide) (hdep ⟨6, .data⟩ (by obtain rfl := Option.some.inj ho; simp) rfl) rfl
            refine ⟨by obtain rfl := Option.some.inj ho; rfl, ?_⟩
            · intro q hq
              obtain rfl := Option.some.inj ho
              have e88 := hq.tmp 88
              simp at e88
              simp [execOp, e88, d88, go_sem, y0]
          | 8, ho, hc =>
            obtain rfl := Option.some.inj hc
            refine ⟨by obtain rfl := Option.some.inj ho; rfl, ?_⟩
            · intro q hq
              obtain rfl := Option.some.inj ho
              have e4 := hq.tmp 4
              simp at e4
              simp [execOp, e4, go_sem]
          | 9, ho, hc =>
            obtain rfl := Option.some.inj hc
            have d90 : f 90 = .slice (some ⟨g, 0, none⟩) 4 vc := hV 8 _ (by decide) (hdep ⟨8, .data⟩ (by obtain rfl := Option.some.inj ho; simp) rfl) rfl
            refine ⟨by obtain rfl := Option.some.inj ho; rfl, ?_⟩
            · intro q hq
              obtain rfl := Option.some.inj ho
              have e90 := hq.tmp 90
              simp at e90
              simp [execOp, hq.const, e90, d90, go_sem]
          | 10, ho, hc =>
            obtain rfl := Option.some.inj hc
            obtain ⟨u, hB⟩ := hPre (hcl.no (hcl.no (hcl.no (hcl.no (hli) 11 ⟨10, .data⟩ rfl rfl (by simp) rfl) 12 ⟨11, .data⟩ rfl rfl (by simp) rfl) 13 ⟨12, .data⟩ rfl rfl (by simp) rfl) 14 ⟨13, .data⟩ rfl rfl (by simp) rfl)
            have y0 := HC0.out W hB
            have d91 : f 91 = .pointer (some ⟨g, 0, none⟩) := hV 9 _ (by decide) (hdep ⟨9, .data⟩ (by obtain rfl := Option.some.inj ho; simp) rfl) rfl
            refine ⟨by obtain rfl := Option.some.inj ho; rfl, ?_⟩
            · intro q hq
              obtain rfl := Option.some.inj ho
              have e91 := hq.tmp 91
              simp at e91
              simp [execOp, e91, d91, go_sem, y0]
          | 11, ho, hc =>
            obtain rfl := Option.some.inj hc
            have d92 : f 92 = .string ⟨#[117, 115, 101]⟩ := hV 10 _ (by decide) (hdep ⟨10, .data⟩ (by obtain rfl := Option.some.inj ho; simp) rfl) rfl
            refine ⟨by obtain rfl := Option.some.inj ho; rfl, ?_⟩
            · intro q hq
              obtain rfl := Option.some.inj ho
              have e92 := hq.tmp 92
              simp at e92
              simp [execOp, hq.const, e92, d92, go_sem]
          | 12, ho, hc =>
            obtain rfl := Option.some.inj hc
            have d86 : f 86 = .string x3 := hV 4 _ (by decide) (hdep ⟨4, .data⟩ (by obtain rfl := Option.some.inj ho; simp) rfl) rfl
            have d89 : f 89 = .string x1 := hV 7 _ (by decide) (hdep ⟨7, .data⟩ (by obtain rfl := Option.some.inj ho; simp) rfl) rfl
            have d93 : f 93 = .bool false := hV 11 _ (by decide) (hdep ⟨11, .data⟩ (by obtain rfl := Option.some.inj ho; simp) rfl) rfl
            refine ⟨by obtain rfl := Option.some.inj ho; rfl, ?_⟩
            · intro q hq
              obtain rfl := Option.some.inj ho
              have e86 := hq.tmp 86
              have e89 := hq.tmp 89
              have e93 := hq.tmp 93
              simp at e86 e89 e93
              simp [execOp, e86, e89, e93, d86, d89, d93, go_sem]
          | 13, ho, hc => exact absurd hc (by simp)
          | 14, ho, hc => exact absurd hc (by simp)
          | 15, ho, hc =>
            obtain rfl := Option.some.inj hc
            refine ⟨by obtain rfl := Option.some.inj ho; rfl, ?_⟩
            · intro q hq
              obtain rfl := Option.some.inj ho
              have e1 := hq.tmp 1
              simp at e1
              simp [execOp, e1, go_sem]
          | 16, ho, hc => exact absurd hc (by simp)
          | (_ + 17), ho, hc => exact absurd hc (by simp)
        · intro listed f i o u W ho hc hna hnm' hdep hB hV hVV
          have hi' : i = 0 ∨ i = 1 ∨ i = 2 ∨ i = 3 ∨ i = 4 ∨ i = 5 ∨ i = 6 ∨ i = 7 ∨ i = 8 ∨ i = 9 ∨ i = 10 ∨ i = 11 ∨ i = 12 ∨ i = 13 ∨ i = 14 ∨ i = 15 ∨ i = 16 := by
            have : i < 17 := (Array.getElem?_eq_some_iff.1 ho).1
            omega
          rcases hi' with rfl | rfl | rfl | rfl | rfl | rfl | rfl | rfl | rfl | rfl | rfl | rfl | rfl | rfl | rfl | rfl | rfl
          · cases hc
          · cases hc
          · cases hc
          · cases hc
          · cases hc
          · cases hc
          · cases hc
          · cases hc
          · cases hc
          · cases hc
          · cases hc
          · cases hc
          · cases hc
          · have d94 : f 94 = .agg #[.string x3, .string x1, .bool false] := hV 12 _ (by decide) (hdep ⟨12, .data⟩ (by obtain rfl := Option.some.inj ho; simp) rfl) rfl
            refine iv_val ho (by obtain rfl := Option.some.inj ho; rfl) (.slice (some ⟨W.heap.size, 0, none⟩) 1 1) (W.alloc (.cells #[.string x3, .string x1, .bool false] 72)) ?_ (Bl.alloc hB _) (Bl.alloc (Below.refl _ _) _) ⟨W.heap.size, rfl, blk_new W _, hB.size⟩
            · intro q hq
              obtain rfl := Option.some.inj ho
              have e94 := hq.tmp 94
              simp at e94
              simp [execOp, e94, d94, go_sem]
          · exact absurd rfl hna
          · cases hc
          · exact absurd rfl hnm'
        · intro listed f o u W ho hdep hB hV hVV
          have d83 : f 83 = .slice aa an ac := hV 1 _ (by decide) (hdep ⟨1, .data⟩ (by obtain rfl := Option.some.inj ho; simp) rfl) rfl
          have x95 := hVV 13 (by decide) (hdep ⟨13, .data⟩ (by obtain rfl := Option.some.inj ho; simp) rfl) rfl (by decide) (by decide)
          obtain rfl := Option.some.inj ho
          refine ⟨rfl, fun K hK => ?_⟩
          have x95 : VSl (w2.heap.size) #[.string x3, .string x1, .bool false] 72 (f 95) W := x95
          obtain ⟨g1, hv1, hg1, hl1'⟩ := x95
          obtain ⟨v', w', hr, h2, h3, _⟩ := (HV.out W hB).app TAl.ok 27 g1 1 (x3, x1, false) hg1 rfl HLN.out (by have := hB.size; omega)
          refine oper_append (.tmp 83) (.tmp 95) 27 rfl (.slice aa an ac) (.slice (some ⟨g1, 0, none⟩) 1 1) v' (by rw [← d83]; simp [putsA_eval]) (by rw [← hv1]; simp [putsA_eval]) hr (hK v' w' ?_)
          have hBw : Below (b + 1) W w' := app_belowR (HV.out W hB) h3 (by have := hB.size; omega)
          obtain ⟨a4, c4, e4, _, _⟩ := h2.form
          exact ⟨a4, _, c4, e4, (hBw.block b (Nat.lt_succ_self b)).trans (HU.out W hB), h2, ownR_off (HO2.out W hB) (HV.out W hB) (by decide) h3, Below.trans (Below.trans HBB.out (hB.mono (Nat.le_of_lt lb))) (hBw.mono (Nat.le_succ b))⟩
        · intro listed f o W ho hdep hMid hV
          have d97 : f 97 = .pointer (some ⟨b, 1, none⟩) := hV 15 _ (by decide) (hdep ⟨15, .data⟩ (by obtain rfl := Option.some.inj ho; simp) rfl) rfl
          obtain rfl := Option.some.inj ho
          obtain ⟨a4, n4, c4, hv4, hx4, hO4, hA4, hb4⟩ := hMid
          have y0 := blk_cell hx4 1
          have g0 := blk_free hx4 1
          simp at y0
          refine ⟨rfl, W.setCell ⟨b, 1, none⟩ (f 96), fun q hq => ?_, ?_⟩
          · have e97 := hq.tmp 97
            have e96 := hq.tmp 96
            simp at e97 e96
            simp [execOp, e97, e96, d97, hv4, go_sem, y0, g0]
          · have hS := blk_set hx4 1 (f 96)
            refine ⟨⟨_, _, by simpa using hS, hA4.far (Nat.lt_succ_self b) 1 _, hO4.far (Nat.lt_succ_self b) 1 _⟩, Bl.set hb4 b 1 (Nat.le_refl _) _⟩
        intro f0 w5 hp5 _
        have HQ5 := Lib.hid hp5
        clear hp5
        unfold putsA
        simp only [List.mapIdx_toArray, List.mapIdx_cons, List.mapIdx_nil, List.contains_cons]
        simp
        go_wp2
        go_ret
        exact ClR.yes HR.out HQ5.out.1 HQ5.out.2
      · have HR : Hid (R = none) := Lib.hid (by rw [HR4.out]; unfold rdAl; rw [if_neg fun q => hf (by rw [← baOf_bs x2, q.2]; rfl)])
        have f1 : (x2.toList == [102, 111, 114]) = false := by rw [beq_eq_false_iff_ne]; exact fun e => hf (ba_inj (e.trans (by rw [ByteArray.toList_eq])))
        have f2 : ¬ x2.toList = [102, 111, 114] := by simpa using f1
        have HF := Lib.hid (NO.out HR.out)
        clear hf NO HR4
        go_wp2
        go_ret
        exact HF.out
    · by_cases hb : x0 = ⟨#[98, 111, 116, 104]⟩
      · subst hb
        clear hu
        by_cases hf : x2 = ⟨#[102, 111, 114]⟩
        · subst hf
          have HR : Hid (R = some (c.1, c.2 ++ [(x3, x1, true)])) := Lib.hid (by rw [HR4.out]; unfold rdAl; rw [if_pos ⟨.inr rfl, rfl⟩, baOf_bs, baOf_bs]; rfl)
          clear NO HR4
          go_wp2_with fail
          have HC0 := Lib.hid fun U (hU : Below w2.heap.size w2 U) => (hU.cell (p := ⟨g, 0, none⟩) hgl).trans c0
          have HC1 := Lib.hid fun U (hU : Below w2.heap.size w2 U) => (hU.cell (p := ⟨g, 1, none⟩) hgl).trans c1
          have HC3 := Lib.hid fun U (hU : Below w2.heap.size w2 U) => (hU.cell (p := ⟨g, 3, none⟩) hgl).trans c3
          have HV := Lib.hid fun U (hU : Below w2.heap.size w2 U) => HA.out U (Bl.trans HB2.out hU)
          have HU := Lib.hid fun U (hU : Below w2.heap.size w2 U) => HXC.out U (Bl.trans HB2.out hU)
          have HO2 := Lib.hid fun U (hU : Below w2.heap.size w2 U) => HP.out U (Bl.trans HB2.out hU)
          have HLN : Hid (c.2.length ≤ 1000000) := Lib.hid (by omega)
          refine wp_region_ph (by kernel_rfl) [82, 83, 84, 85, 86, 87, 88, 89, 90, 91, 92, 93, 94, 95, 96, 97] (fun ii => ([some (.pointer (some ⟨b, 1, none⟩)), some (.slice aa an ac), some (.slice (some ⟨g, 0, none⟩) 4 vc), some (.pointer (some ⟨g, 3, none⟩)), some (.string x3), some (.slice (some ⟨g, 0, none⟩) 4 vc), some (.pointer (some ⟨g, 1, none⟩)), some (.string x1), some (.slice (some ⟨g, 0, none⟩) 4 vc), some (.pointer (some ⟨g, 0, none⟩)), some (.string ⟨#[98, 111, 116, 104]⟩), some (.bool true), some (.agg #[.string x3, .string x1, .bool true]), none, none, some (.pointer (some ⟨b, 1, none⟩)), none] : List (Option Value)).getD ii none) 14 16 96 (fun _ W => Below w2.heap.size w2 W) (fun W W' => Below W.heap.size W W') (fun W => CatBox W b (c.1, c.2 ++ [(x3, x1, true)]) ∧ Below b w W) (fun v W => ∃ a n q, v = .slice a n q ∧ W.heap[b]? = some (.cells #[.slice pa pn pc, .slice aa an ac] 29 (0, 0)) ∧ OwnR TAl W (b + 1) v (c.2 ++ [(x3, x1, true)]) ∧ OwnR TPt W (b + 1) (.slice pa pn pc) c.1 ∧ Below b w W) (fun i => [VT, VT, VT, VT, VT, VT, VT, VT, VT, VT, VT, VT, VT, VSl (w2.heap.size) #[.string x3, .string x1, .bool true] 72, VT, VT, VT].getD i VT) (by kernel_rfl) (by kernel_rfl) (by kernel_rfl) ⟨rfl, rfl⟩ (by decide) (by decide) rfl rfl
            (fun l hcl h => hcl.no h 16 ⟨14, .data⟩ rfl rfl (by simp) rfl) ?_ (fun o ho => by obtain rfl := Option.some.inj ho; exact ⟨⟨14, .data⟩, by simp, rfl, rfl⟩) (fun u u' W hu h => h) (Below.drew (Below.refl _ _)) ?_ ?_ ?_ ?_ ?_ ?_
          · intro i l hi hci him hcl hl0
            have hi' : i = 0 ∨ i = 1 ∨ i = 2 ∨ i = 3 ∨ i = 4 ∨ i = 5 ∨ i = 6 ∨ i = 7 ∨ i = 8 ∨ i = 9 ∨ i = 10 ∨ i = 11 ∨ i = 12 ∨ i = 13 ∨ i = 14 ∨ i = 15 ∨ i = 16 := by
              have : i < 17 := hi
              omega
            rcases hi' with rfl | rfl | rfl | rfl | rfl | rfl | rfl | rfl | rfl | rfl | rfl | rfl | rfl | rfl | rfl | rfl | rfl
            · cases hci
            · cases hci
            · cases hci
            · cases hci
            · cases hci
            · cases hci
            · cases hci
            · cases hci
            · cases hci
            · cases hci
            · cases hci
            · cases hci
            · cases hci
            · exact hcl.no (hl0) 14 ⟨13, .data⟩ rfl rfl (by simp) rfl
            · exact hl0
            · cases hci
            · exact absurd rfl him
          · intro u W W' i v hB hR hV
            exact match i, hV with
              | 0, h => h
              | 1, h => h
              | 2, h => h
              | 3, h => h
              | 4, h => h
              | 5, h => h
              | 6, h => h
              | 7, h => h
              | 8, h => h
              | 9, h => h
              | 10, h => h
              | 11, h => h
              | 12, h => h
              | 13, h => VSl.low h hR
              | 14, h => h
              | 15, h => h
              | 16, h => h
              | (_ + 17), _ => trivial
          · intro listed f i o v W ho hc hdep hPre hcl hli hV
            match i, ho, hc with
            | 0, ho, hc =>
              obtain rfl := Option.some.inj hc
              refine ⟨by obtain rfl := Option.some.inj ho; rfl, ?_⟩
              · intro q hq
                obtain rfl := Option.some.inj ho
                have e1 := hq.tmp 1
                simp at e1
                simp [execOp, e1, go_sem]
            | 1, ho, hc =>
              obtain rfl := Option.some.inj hc
              obtain ⟨u, hB⟩ := hPre (hcl.no (hli) 14 ⟨1, .data⟩ rfl rfl (by simp) rfl)
              have y0 := blk_cell (HU.out W hB) 1
              have d82 : f 82 = .pointer (some ⟨b, 1, none⟩) := hV 0 _ (by decide) (hdep ⟨0, .data⟩ (by obtain rfl := Option.some.inj ho; simp) rfl) rfl
              refine ⟨by obtain rfl := Option.some.inj ho; rfl, ?_⟩
              · intro q hq
                obtain rfl := Option.some.inj ho
                have e82 := hq.tmp 82
                simp at e82
                simp [execOp, e82, d82, go_sem, y0]
            | 2, ho, hc =>
              obtain rfl := Option.some.inj hc
              refine ⟨by obtain rfl := Option.some.inj ho; rfl, ?_⟩
              · intro q hq
                obtain rfl := Option.some.inj ho
                have e4 := hq.tmp 4
                simp at e4
                simp [execOp, e4, go_sem]
            | 3, ho, hc =>
              obtain rfl := Option.some.inj hc
              have d84 : f 84 = .slice (some ⟨g, 0, none⟩) 4 vc := hV 2 _ (by decide) (hdep ⟨2, .data⟩ (by obtain rfl := Option.some.inj ho; simp) rfl) rfl
              refine ⟨by obtain rfl := Option.some.inj ho; rfl, ?_⟩
              · intro q hq
                obtain rfl := Option.some.inj ho
                have e84 := hq.tmp 84
                simp at e84
                simp [execOp, hq.const, e84, d84, go_sem]
            | 4, ho, hc =>
              obtain rfl := Option.some.inj hc
              obtain ⟨u, hB⟩ := hPre (hcl.no (hcl.no (hcl.no (hli) 12 ⟨4, .data⟩ rfl rfl (by simp) rfl) 13 ⟨12, .data⟩ rfl rfl (by simp) rfl) 14 ⟨13, .data⟩ rfl rfl (by simp) rfl)
              have y0 := HC3.out W hB
              have d85 : f 85 = .pointer (some ⟨g, 3, none⟩) := hV 3 _ (by decide) (hdep ⟨3, .data⟩ (by obtain rfl := Option.some.inj ho; simp) rfl) rfl
              refine ⟨by obtain rfl := Option.some.inj ho; rfl, ?_⟩
              · intro q hq
                obtain rfl := Option.some.inj ho
                have e85 := hq.tmp 85
                simp at e85
                simp [execOp, e85, d85, go_sem, y0]
            | 5, ho, hc =>
              obtain rfl := Option.some.inj hc
              refine ⟨by obtain rfl := Option.some.inj ho; rfl, ?_⟩
              · intro q hq
                obtain rfl := Option.some.inj ho
                have e4 := hq.tmp 4
                simp at e4
                simp [execOp, e4, go_sem]
            | 6, ho, hc =>
              obtain rfl := Option.some.inj hc
              have d87 : f 87 = .slice (some ⟨g, 0, none⟩) 4 vc := hV 5 _ (by decide) (hdep ⟨5, .data⟩ (by obtain rfl := Option.some.inj ho; simp) rfl) rfl
              refine ⟨by obtain rfl := Option.some.inj ho; rfl, ?_⟩
              · intro q hq
                obtain rfl := Option.some.inj ho
                have e87 := hq.tmp 87
                simp at e87
                simp [execOp, hq.const, e87, d87, go_sem]
            | 7, ho, hc =>
              obtain rfl := Option.some.inj hc
              obtain ⟨u, hB⟩ := hPre (hcl.no (hcl.no (hcl.no (hli) 12 ⟨7, .data⟩ rfl rfl (by simp) rfl) 13 ⟨12, .data⟩ rfl rfl (by simp) rfl) 14 ⟨13, .data⟩ rfl rfl (by simp) rfl)
              have y0 := HC1.out W hB
              have d88 : f 88 = .pointer (some ⟨g, 1, none⟩) := hV 6 _ (by decide) (hdep ⟨6, .data⟩ (by obtain rfl := Option.some.inj ho; simp) rfl) rfl
              refine ⟨by obtain rfl := Option.some.inj ho; rfl, ?_⟩
              · intro q hq
                obtain rfl := Option.some.inj ho
                have e88 := hq.tmp 88
                simp at e88
                simp [execOp, e88, d88, go_sem, y0]
            | 8, ho, hc =>
              obtain rfl := Option.some.inj hc
              refine ⟨by obtain rfl := Option.some.inj ho; rfl, ?_⟩
              · intro q hq
                obtain rfl := Option.some.inj ho
                have e4 := hq.tmp 4
                simp at e4
                simp [execOp, e4, go_sem]
            | 9, ho, hc =>
              obtain rfl := Option.some.inj hc
              have d90 : f 90 = .slice (some ⟨g, 0, none⟩) 4 vc := hV 8 _ (by decide) (hdep ⟨8, .data⟩ (by obtain rfl := Option.some.inj ho; simp) rfl) rfl
              refine ⟨by obtain rfl := Option.some.inj ho; rfl, ?_⟩
              · intro q hq
                obtain rfl := Option.some.inj ho
                have e90 := hq.tmp 90
                simp at e90
                simp [execOp, hq.const, e90, d90, go_sem]
            | 10, ho, hc =>
              obtain rfl := Option.some.inj hc
              obtain ⟨u, hB⟩ := hPre (hcl.no (hcl.no (hcl.no (hcl.no (hli) 11 ⟨10, .data⟩ rfl rfl (by simp) rfl) 12 ⟨11, .data⟩ rfl rfl (by simp) rfl) 13 ⟨12, .data⟩ rfl rfl (by simp) rfl) 14 ⟨13, .data⟩ rfl rfl (by simp) rfl)
              have y0 := HC0.out W hB
              have d91 : f 91 = .pointer (some ⟨g, 0, none⟩) := hV 9 _ (by decide) (hdep ⟨9, .data⟩ (by obtain rfl := Option.some.inj ho; simp) rfl) rfl
              refine ⟨by obtain rfl := Option.some.inj ho; rfl, ?_⟩
              · intro q hq
                obtain rfl := Option.some.inj ho
                have e91 := hq.tmp 91
                simp at e91
                simp [execOp, e91, d91, go_sem, y0]
            | 11, ho, hc =>
              obtain rfl := Option.some.inj hc
              have d92 : f 92 = .string ⟨#[98, 111, 116, 104]⟩ := hV 10 _ (by decide) (hdep ⟨10, .data⟩ (by obtain rfl := Option.some.inj ho; simp) rfl) rfl
              refine ⟨by obtain rfl := Option.some.inj ho; rfl, ?_⟩
              · intro q hq
                obtain rfl := Option.some.inj ho
                have e92 := hq.tmp 92
                simp at e92
                simp [execOp, hq.const, e92, d92, go_sem]
            | 12, ho, hc =>
              obtain rfl := Option.some.inj hc
              have d86 : f 86 = .string x3 := hV 4 _ (by decide) (hdep ⟨4, .data⟩ (by obtain rfl := Option.some.inj ho; simp) rfl) rfl
              have d89 : f 89 = .string x1 := hV 7 _ (by decide) (hdep ⟨7, .data⟩ (by obtain rfl := Option.some.inj ho; simp) rfl) rfl
              have d93 : f 93 = .bool true := hV 11 _ (by decide) (hdep ⟨11, .data⟩ (by obtain rfl := Option.some.inj ho; simp) rfl) rfl
              refine ⟨by obtain rfl := Option.some.inj ho; rfl, ?_⟩
              · intro q hq
                obtain rfl := Option.some.inj ho
                have e86 := hq.tmp 86
                have e89 := hq.tmp 89
                have e93 := hq.tmp 93
                simp at e86 e89 e93
                simp [execOp, e86, e89, e93, d86, d89, d93, go_sem]
            | 13, ho, hc => exact absurd hc (by simp)
            | 14, ho, hc => exact absurd hc (by simp)
            | 15, ho, hc =>
              obtain rfl := Option.some.inj hc
              refine ⟨by obtain rfl := Option.some.inj ho; rfl, ?_⟩
              · intro q hq
                obtain rfl := Option.some.inj ho
                have e1 := hq.tmp 1
                simp at e1
                simp [execOp, e1, go_sem]
            | 16, ho, hc => exact absurd hc (by simp)
            | (_ + 17), ho, hc => exact absurd hc (by simp)
          · intro listed f i o u W ho hc hna hnm' hdep hB hV hVV
            have hi' : i = 0 ∨ i = 1 ∨ i = 2 ∨ i = 3 ∨ i = 4 ∨ i = 5 ∨ i = 6 ∨ i = 7 ∨ i = 8 ∨ i = 9 ∨ i = 10 ∨ i = 11 ∨ i = 12 ∨ i = 13 ∨ i = 14 ∨ i = 15 ∨ i = 16 := by
              have : i < 17 := (Array.getElem?_eq_some_iff.1 ho).1
              omega
            rcases hi' with rfl | rfl | rfl | rfl | rfl | rfl | rfl | rfl | rfl | rfl | rfl | rfl | rfl | rfl | rfl | rfl | rfl
            · cases hc
            · cases hc
            · cases hc
            · cases hc
            · cases hc
            · cases hc
            · cases hc
            · cases hc
            · cases hc
            · cases hc
            · cases hc
            · cases hc
            · cases hc
            · have d94 : f 94 = .agg #[.string x3, .string x1, .bool true] := hV 12 _ (by decide) (hdep ⟨12, .data⟩ (by obtain rfl := Option.some.inj ho; simp) rfl) rfl
              refine iv_val ho (by obtain rfl := Option.some.inj ho; rfl) (.slice (some ⟨W.heap.size, 0, none⟩) 1 1) (W.alloc (.cells #[.string x3, .string x1, .bool true] 72)) ?_ (Bl.alloc hB _) (Bl.alloc (Below.refl _ _) _) ⟨W.heap.size, rfl, blk_new W _, hB.size⟩
              · intro q hq
                obtain rfl := Option.some.inj ho
                have e94 := hq.tmp 94
                simp at e94
                simp [execOp, e94, d94, go_sem]
            · exact absurd rfl hna
            · cases hc
            · exact absurd rfl hnm'
          · intro listed f o u W ho hdep hB hV hVV
            have d83 : f 83 = .slice aa an ac := hV 1 _ (by decide) (hdep ⟨1, .data⟩ (by obtain rfl := Option.some.inj ho; simp) rfl) rfl
            have x95 := hVV 13 (by decide) (hdep ⟨13, .data⟩ (by obtain rfl := Option.some.inj ho; simp) rfl) rfl (by decide) (by decide)
            obtain rfl := Option.some.inj ho
            refine ⟨rfl, fun K hK => ?_⟩
            have x95 : VSl (w2.heap.size) #[.string x3, .string x1, .bool true] 72 (f 95) W := x95
            obtain ⟨g1, hv1, hg1, hl1'⟩ := x95
            obtain ⟨v', w', hr, h2, h3, _⟩ := (HV.out W hB).app TAl.ok 27 g1 1 (x3, x1, true) hg1 rfl HLN.out (by have := hB.size; omega)
            refine oper_append (.tmp 83) (.tmp 95) 27 rfl (.slice aa an ac) (.slice (some ⟨g1, 0, none⟩) 1 1) v' (by rw [← d83]; simp [putsA_eval]) (by rw [← hv1]; simp [putsA_eval]) hr (hK v' w' ?_)
            have hBw : Below (b + 1) W w' := app_belowR (HV.out W hB) h3 (by have := hB.size; omega)
            obtain ⟨a4, c4, e4, _, _⟩ := h2.form
            exact ⟨a4, _, c4, e4, (hBw.block b (Nat.lt_succ_self b)).trans (HU.out W hB), h2, ownR_off (HO2.out W hB) (HV.out W hB) (by decide) h3, Below.trans (Below.trans HBB.out (hB.mono (Nat.le_of_lt lb))) (hBw.mono (Nat.le_succ b))⟩
          · intro listed f o W ho hdep hMid hV
            have d97 : f 97 = .pointer (some ⟨b, 1, none⟩) := hV 15 _ (by decide) (hdep ⟨15, .data⟩ (by obtain rfl := Option.some.inj ho; simp) rfl) rfl
            obtain rfl := Option.some.inj ho
            obtain ⟨a4, n4, c4, hv4, hx4, hO4, hA4, hb4⟩ := hMid
            have y0 := blk_cell hx4 1
            have g0 := blk_free hx4 1
            simp at y0
            refine ⟨rfl, W.setCell ⟨b, 1, none⟩ (f 96), fun q hq => ?_, ?_⟩
            · have e97 := hq.tmp 97
              have e96 := hq.tmp 96
              simp at e97 e96
              simp [execOp, e97, e96, d97, hv4, go_sem, y0, g0]
            · have hS := blk_set hx4 1 (f 96)
              refine ⟨⟨_, _, by simpa using hS, hA4.far (Nat.lt_succ_self b) 1 _, hO4.far (Nat.lt_succ_self b) 1 _⟩, Bl.set hb4 b 1 (Nat.le_refl _) _⟩
          intro f0 w5 hp5 _
          have HQ5 := Lib.hid hp5
          clear hp5
          unfold putsA
          simp only [List.mapIdx_toArray, List.mapIdx_cons, List.mapIdx_nil, List.contains_cons]
          simp
          go_wp2
          go_ret
          exact ClR.yes HR.out HQ5.out.1 HQ5.out.2
        · have HR : Hid (R = none) := Lib.hid (by rw [HR4.out]; unfold rdAl; rw [if_neg fun q => hf (by rw [← baOf_bs x2, q.2]; rfl)])
          have f1 : (x2.toList == [102, 111, 114]) = false := by rw [beq_eq_false_iff_ne]; exact fun e => hf (ba_inj (e.trans (by rw [ByteArray.toList_eq])))
          have f2 : ¬ x2.toList = [102, 111, 114] := by simpa using f1
          have HF := Lib.hid (NO.out HR.out)
          clear hf NO HR4
          go_wp2
          go_ret
          exact HF.out
      · have HR : Hid (R = none) := Lib.hid (by
          rw [HR4.out]; unfold rdAl
          rw [if_neg fun q => ?_]
          rcases q.1 with h | h
          · exact hu (by rw [← baOf_bs x0, h]; rfl)
          · exact hb (by rw [← baOf_bs x0, h]; rfl))
        have f1 : (x0.toList == [117, 115, 101]) = false := by rw [beq_eq_false_iff_ne]; exact fun e => hu (ba_inj (e.trans (by rw [ByteArray.toList_eq])))
        have f2 : ¬ x0.toList = [117, 115, 101] := by simpa using f1
        have f3 : (x0.toList == [98, 111, 116, 104]) = false := by rw [beq_eq_false_iff_ne]; exact fun e => hb (ba_inj (e.trans (by rw [ByteArray.toList_eq])))
        have f4 : ¬ x0.toList = [98, 111, 116, 104] := by simpa using f3
        have HF := Lib.hid (NO.out HR.out)
        clear hu hb NO HR4
        go_wp2
        go_ret
        exact HF.out
  have hll := HN.out
  subst h5
  obtain ⟨x0, x1, x2, x3, x4, rfl⟩ := five_of hll.symm
  obtain ⟨g, cap, cur, hvb, _, hgb, hcp, hcq, _⟩ := HOO.out.blk (by simp)
  injection hvb with e1 _ e2
  subst e1 e2
  obtain ⟨_, _, e0, _, _, c0⟩ := str_at HOO.out.rec0 (k := 0) (x := x0) rfl
  injection e0 with e0
  injection e0 with e1 e2 _
  subst e1 e2
  obtain ⟨_, _, e0, _, _, c1⟩ := str_at HOO.out.rec0 (k := 1) (x := x1) rfl
  injection e0 with e0
  injection e0 with e1 e2 _
  subst e1 e2
  obtain ⟨_, _, e0, _, _, c2⟩ := str_at HOO.out.rec0 (k := 2) (x := x2) rfl
  injection e0 with e0
  injection e0 with e1 e2 _
  subst e1 e2
  obtain ⟨_, _, e0, _, _, c3⟩ := str_at HOO.out.rec0 (k := 3) (x := x3) rfl
  injection e0 with e0
  injection e0 with e1 e2 _
  subst e1 e2
  obtain ⟨_, _, e0, _, _, c4⟩ := str_at HOO.out.rec0 (k := 4) (x := x4) rfl
  injection e0 with e0
  injection e0 with e1 e2 _
  subst e1 e2
  have hbx2 := HXC.out w2 HB2.out
  have k0 : w2.cell? ⟨b, 0, none⟩ = some (.slice pa pn pc) := blk_cell hbx2 0
  have k1 : w2.cell? ⟨b, 1, none⟩ = some (.slice aa an ac) := blk_cell hbx2 1
  have lb := blk_lt hbx2
  have lw : w.heap.size ≤ w2.heap.size := HB2.out.size
  have HR5 : Hid (R = rdPt c (bsOf x0) (bsOf x1) (bsOf x2) (bsOf x3) (bsOf x4)) := Lib.hid (by
    have hm := HM.out
    rw [HRE.out]
    rw [← HML.out] at hm ⊢
    unfold rdCw
    rw [if_neg hm]
    rfl)
  have hgl : g < w2.heap.size := blk_lt hgb
  have hvc : 5 ≤ vc := hcp
  have hvq : vc ≤ 9223372036854775807 := by unfold maxLen at hcq; omega
  have hv3 : ¬ vc = 3 := by omega
  have hv4 : (3 : Int) ≤ (vc : Int) := by omega
  have NO : Hid (R = none → ClR b w R (.returned (.bool false)) w2) := Lib.hid fun h => ClR.no h (HBX.out w2 HB2.out) HBB.out
  have hx3z : x3.size ≤ 1000000 := by rw [← bsOf_len]; exact HLE.out _ (by rw [← HML.out]; simp)
  have hx4z : x4.size ≤ 1000000 := by rw [← bsOf_len]; exact HLE.out _ (by rw [← HML.out]; simp)
  have HNM := Lib.hid (RNumbersIn_any (.slice (some ⟨g, 3, none⟩) 2 (vc - 3)) [x3, x4] w2 (HT.out.below HB2.out) (row_from HOO.out.rec0 3 (by simp)) (by simp) (by intro x hx; simp at hx; rcases hx with rfl | rfl <;> omega))
  clear hll HRE hgb hcp hcq hbx2 hx3z hx4z
  by_cases hk : x0 = ⟨#[112, 97, 114, 116]⟩
  · subst hk
    by_cases ha : c.2 = []
    · obtain rfl : an = 0 := by rw [HAN.out, ha]; rfl
      obtain ⟨oi, hoi⟩ : ∃ q, q = numT 15 (bsOf x3) := ⟨_, rfl⟩
      obtain ⟨oj, hoj⟩ : ∃ q, q = numT 15 (bsOf x4) := ⟨_, rfl⟩
      have hns : numsK ([x3, x4].map (·.data.toList)) = oi.bind fun i => oj.map fun j => [i, j] := by
        show numsK [bsOf x3, bsOf x4] = _
        rw [hoi, hoj]
        unfold numsK numsK numsK
        cases numT 15 (bsOf x3) <;> cases numT 15 (bsOf x4) <;> rfl
      have HRV : Hid (R = oi.bind fun i => oj.map fun j => (c.1 ++ [(x1, x2, i, j)], c.2)) := Lib.hid (by
        rw [HR5.out, rdPt_at (w := bsOf ⟨#[112, 97, 114, 116]⟩) rfl ha, baOf_bs, baOf_bs, hoi, hoj]
        cases numT 15 (bsOf x3) <;> cases numT 15 (bsOf x4) <;> rfl)
      rw [hns] at HNM
      clear hns hoi hoj HR5
      go_wp2_with fail
      refine HNM.out.mono ?_
      rintro e w3 ⟨u, nsv, rfl, hu, hul, huq, hb3⟩
      obtain ⟨ni, nj, rfl⟩ : ∃ a b, nsv = [a, b] := by
        match nsv, hul with
        | [a, b], _ => exact ⟨a, b, rfl⟩
      have HB3 := Lib.hid (Bl.trans HB2.out hb3)
      have HBB3 : Hid (Below b w w3) := Lib.hid (HB3.out.mono (Nat.le_of_lt hbl))
      have HL3 := Lib.hid hb3
      have lb3 : b < w3.heap.size := Nat.lt_of_lt_of_le hbl HB3.out.size
      obtain ⟨ok, hok⟩ : ∃ q, q = (oi.bind fun i => oj.map fun j => [i, j]).isSome := ⟨_, rfl⟩
      have HOK : Hid (ok = R.isSome) := Lib.hid (by rw [hok, HRV.out]; cases oi <;> cases oj <;> rfl)
      have HRW : Hid (∀ d, R = some d → (c.1 ++ [(x1, x2, ni, nj)], c.2) = d) := Lib.hid (by
        intro d hd
        rw [HRV.out] at hd
        cases oi with
        | none => cases hd
        | some i =>
          cases oj with
          | none => cases hd
          | some j =>
            have h1 := huq _ rfl
            injection h1 with e1 h1
            injection h1 with e2 _
            subst e1 e2
            injection hd)
      rw [← hok]
      have hu' : Own w3 w2.heap.size u [ni, nj] := hu
      have hu1 : ∃ gu ucap, u = .slice (some ⟨gu, 0, none⟩) 2 ucap ∧ gu < w3.heap.size ∧ w3.cell? ⟨gu, 0, none⟩ = some (.int .i64 ni) ∧ w3.cell? ⟨gu, 1, none⟩ = some (.int .i64 nj) := by
        rcases hu'.2 with ⟨_, h⟩ | ⟨g, cap, cur, rfl, hB, hb, h1, h2, h3, h4⟩
        · simp at h
        · refine ⟨g, cap, rfl, blk_lt hb, ?_, ?_⟩
          · rw [blk_cell hb 0]
            have := congrArg (fun l => l[0]?) h4
            simpa [ics] using this
          · rw [blk_cell hb 1]
            have := congrArg (fun l => l[1]?) h4
            simpa [ics] using this
      obtain ⟨gu, ucap, hue, hgu, m1, m2⟩ := hu1
      clear hu hb3 HNM hul huq hok hu' HRV NO
      subst hue
      have lb := lb3
      go_wp2_with fail
      have hgl3 : g < w3.heap.size := Nat.lt_of_lt_of_le hgl HL3.out.size
      have HC1 := Lib.hid fun U (hU : Below w3.heap.size w3 U) => (hU.cell (p := ⟨g, 1, none⟩) hgl3).trans ((HL3.out.cell (p := ⟨g, 1, none⟩) hgl).trans c1)
      have HC2 := Lib.hid fun U (hU : Below w3.heap.size w3 U) => (hU.cell (p := ⟨g, 2, none⟩) hgl3).trans ((HL3.out.cell (p := ⟨g, 2, none⟩) hgl).trans c2)
      have HC5 := Lib.hid fun U (hU : Below w3.heap.size w3 U) => (hU.cell (p := ⟨gu, 0, none⟩) hgu).trans m1
      have HC6 := Lib.hid fun U (hU : Below w3.heap.size w3 U) => (hU.cell (p := ⟨gu, 1, none⟩) hgu).trans m2
      have HV := Lib.hid fun U (hU : Below w3.heap.size w3 U) => HP.out U (Bl.trans HB3.out hU)
      have HU := Lib.hid fun U (hU : Below w3.heap.size w3 U) => HXC.out U (Bl.trans HB3.out hU)
      have HO2 := Lib.hid fun U (hU : Below w3.heap.size w3 U) => HA.out U (Bl.trans HB3.out hU)
      have HLN : Hid (c.1.length ≤ 1000000) := Lib.hid (by omega)
      refine wp_region_ph (by kernel_rfl) [38, 39, 40, 41, 42, 43, 44, 45, 46, 47, 48, 49, 50, 51, 52, 53, 54, 55] (fun ii => ([some (.pointer (some ⟨b, 0, none⟩)), some (.slice pa pn pc), some (.slice (some ⟨g, 0, none⟩) 5 vc), some (.pointer (some ⟨g, 1, none⟩)), some (.string x1), some (.slice (some ⟨g, 0, none⟩) 5 vc), some (.pointer (some ⟨g, 2, none⟩)), some (.string x2), some (.slice (some ⟨gu, 0, none⟩) 2 ucap), some (.pointer (some ⟨gu, 0, none⟩)), some (.int .i64 ni), some (.slice (some ⟨gu, 0, none⟩) 2 ucap), some (.pointer (some ⟨gu, 1, none⟩)), some (.int .i64 nj), some (.agg #[.string x1, .string x2, .int .i64 ni, .int .i64 nj]), none, none, some (.pointer (some ⟨b, 0, none⟩)), none] : List (Option Value)).getD ii none) 16 18 54 (fun _ W => Below w3.heap.size w3 W) (fun W W' => Below W.heap.size W W') (fun W => CatBox W b (c.1 ++ [(x1, x2, ni, nj)], c.2) ∧ Below b w W) (fun v W => ∃ a n q, v = .slice a n q ∧ W.heap[b]? = some (.cells #[.slice pa pn pc, .slice aa 0 ac] 29 (0, 0)) ∧ OwnR TPt W (b + 1) v (c.1 ++ [(x1, x2, ni, nj)]) ∧ OwnR TAl W (b + 1) (.slice aa 0 ac) c.2 ∧ Below b w W) (fun i => [VT, VT, VT, VT, VT, VT, VT, VT, VT, VT, VT, VT, VT, VT, VT, VSl (w3.heap.size) #[.string x1, .string x2, .int .i64 ni, .int .i64 nj] 66, VT, VT, VT].getD i VT) (by kernel_rfl) (by kernel_rfl) (by kernel_rfl) ⟨rfl, rfl⟩ (by decide) (by decide) rfl rfl
        (fun l hcl h => hcl.no h 18 ⟨16, .data⟩ rfl rfl (by simp) rfl) ?_ (fun o ho => by obtain rfl := Option.some.inj ho; exact ⟨⟨16, .data⟩, by simp, rfl, rfl⟩) (fun u u' W hu h => h) (Below.drew (Below.refl _ _)) ?_ ?_ ?_ ?_ ?_ ?_
      · intro i l hi hci him hcl hl0
        have hi' : i = 0 ∨ i = 1 ∨ i = 2 ∨ i = 3 ∨ i = 4 ∨ i = 5 ∨ i = 6 ∨ i = 7 ∨ i = 8 ∨ i = 9 ∨ i = 10 ∨ i = 11 ∨ i = 12 ∨ i = 13 ∨ i = 14 ∨ i = 15 ∨ i = 16 ∨ i = 17 ∨ i = 18 := by
          have : i < 19 := hi
          omega
        rcases hi' with rfl | rfl | rfl | rfl | rfl | rfl | rfl | rfl | rfl | rfl | rfl | rfl | rfl | rfl | rfl | rfl | rfl | rfl | rfl
        · cases hci
        · cases hci
        · cases hci
        · cases hci
        · cases hci
        · cases hci
        · cases hci
        · cases hci
        · cases hci
        · cases hci
        · cases hci
        · cases hci
        · cases hci
        · cases hci
        · cases hci
        · exact hcl.no (hl0) 16 ⟨15, .data⟩ rfl rfl (by simp) rfl
        · exact hl0
        · cases hci
        · exact absurd rfl him
      · intro u W W' i v hB hR hV
        exact match i, hV with
          | 0, h => h
          | 1, h => h
          | 2, h => h
          | 3, h => h
          | 4, h => h
          | 5, h => h
          | 6, h => h
          | 7, h => h
          | 8, h => h
          | 9, h => h
          | 10, h => h
          | 11, h => h
          | 12, h => h
          | 13, h => h
          | 14, h => h
          | 15, h => VSl.low h hR
          | 16, h => h
          | 17, h => h
          | 18, h => h
          | (_ + 19), _ => trivial
      · intro listed f i o v W ho hc hdep hPre hcl hli hV
        match i, ho, hc with
        | 0, ho, hc =>
          obtain rfl := Option.some.inj hc
          refine ⟨by obtain rfl := Option.some.inj ho; rfl, ?_⟩
          · intro q hq
            obtain rfl := Option.some.inj ho
            have e1 := hq.tmp 1
            simp at e1
            simp [execOp, e1, go_sem]
        | 1, ho, hc =>
          obtain rfl := Option.some.inj hc
          obtain ⟨u, hB⟩ := hPre (hcl.no (hli) 16 ⟨1, .data⟩ rfl rfl (by simp) rfl)
          have y0 := blk_cell (HU.out W hB) 0
          have d38 : f 38 = .pointer (some ⟨b, 0, none⟩) := hV 0 _ (by decide) (hdep ⟨0, .data⟩ (by obtain rfl := Option.some.inj ho; simp) rfl) rfl
          refine ⟨by obtain rfl := Option.some.inj ho; rfl, ?_⟩
          · intro q hq
            obtain rfl := Option.some.inj ho
            have e38 := hq.tmp 38
            simp at e38
            simp [execOp, e38, d38, go_sem, y0]
        | 2, ho, hc =>
          obtain rfl := Option.some.inj hc
          refine ⟨by obtain rfl := Option.some.inj ho; rfl, ?_⟩
          · intro q hq
            obtain rfl := Option.some.inj ho
            have e4 := hq.tmp 4
            simp at e4
            simp [execOp, e4, go_sem]
        | 3, ho, hc =>
          obtain rfl := Option.some.inj hc
          have d40 : f 40 = .slice (some ⟨g, 0, none⟩) 5 vc := hV 2 _ (by decide) (hdep ⟨2, .data⟩ (by obtain rfl := Option.some.inj ho; simp) rfl) rfl
          refine ⟨by obtain rfl := Option.some.inj ho; rfl, ?_⟩
          · intro q hq
            obtain rfl := Option.some.inj ho
            have e40 := hq.tmp 40
            simp at e40
            simp [execOp, hq.const, e40, d40, go_sem]
        | 4, ho, hc =>
          obtain rfl := Option.some.inj hc
          obtain ⟨u, hB⟩ := hPre (hcl.no (hcl.no (hcl.no (hli) 14 ⟨4, .data⟩ rfl rfl (by simp) rfl) 15 ⟨14, .data⟩ rfl rfl (by simp) rfl) 16 ⟨15, .data⟩ rfl rfl (by simp) rfl)
          have y0 := HC1.out W hB
          have d41 : f 41 = .pointer (some ⟨g, 1, none⟩) := hV 3 _ (by decide) (hdep ⟨3, .data⟩ (by obtain rfl := Option.some.inj ho; simp) rfl) rfl
          refine ⟨by obtain rfl := Option.some.inj ho; rfl, ?_⟩
          · intro q hq
            obtain rfl := Option.some.inj ho
            have e41 := hq.tmp 41
            simp at e41
            simp [execOp, e41, d41, go_sem, y0]
        | 5, ho, hc =>
          obtain rfl := Option.some.inj hc
          refine ⟨by obtain rfl := Option.some.inj ho; rfl, ?_⟩
          · intro q hq
            obtain rfl := Option.some.inj ho
            have e4 := hq.tmp 4
            simp at e4
            simp [execOp, e4, go_sem]
        | 6, ho, hc =>
          obtain rfl := Option.some.inj hc
          have d43 : f 43 = .slice (some ⟨g, 0, none⟩) 5 vc := hV 5 _ (by decide) (hdep ⟨5, .data⟩ (by obtain rfl := Option.some.inj ho; simp) rfl) rfl
          refine ⟨by obtain rfl := Option.some.inj ho; rfl, ?_⟩
          · intro q hq
            obtain rfl := Option.some.inj ho
            have e43 := hq.tmp 43
            simp at e43
            simp [execOp, hq.const, e43, d43, go_sem]
        | 7, ho, hc =>
          obtain rfl := Option.some.inj hc
          obtain ⟨u, hB⟩ := hPre (hcl.no (hcl.no (hcl.no (hli) 14 ⟨7, .data⟩ rfl rfl (by simp) rfl) 15 ⟨14, .data⟩ rfl rfl (by simp) rfl) 16 ⟨15, .data⟩ rfl rfl (by simp) rfl)
          have y0 := HC2.out W hB
          have d44 : f 44 = .pointer (some ⟨g, 2, none⟩) := hV 6 _ (by decide) (hdep ⟨6, .data⟩ (by obtain rfl := Option.some.inj ho; simp) rfl) rfl
          refine ⟨by obtain rfl := Option.some.inj ho; rfl, ?_⟩
          · intro q hq
            obtain rfl := Option.some.inj ho
            have e44 := hq.tmp 44
            simp at e44
            simp [execOp, e44, d44, go_sem, y0]
        | 8, ho, hc =>
          obtain rfl := Option.some.inj hc
          refine ⟨by obtain rfl := Option.some.inj ho; rfl, ?_⟩
          · intro q hq
            obtain rfl := Option.some.inj ho
            have e6 := hq.tmp 6
            simp at e6
            simp [execOp, e6, go_sem]
        | 9, ho, hc =>
          obtain rfl := Option.some.inj hc
          have d46 : f 46 = .slice (some ⟨gu, 0, none⟩) 2 ucap := hV 8 _ (by decide) (hdep ⟨8, .data⟩ (by obtain rfl := Option.some.inj ho; simp) rfl) rfl
          refine ⟨by obtain rfl := Option.some.inj ho; rfl, ?_⟩
          · intro q hq
            obtain rfl := Option.some.inj ho
            have e46 := hq.tmp 46
            simp at e46
            simp [execOp, hq.const, e46, d46, go_sem]
        | 10, ho, hc =>
          obtain rfl := Option.some.inj hc
          obtain ⟨u, hB⟩ := hPre (hcl.no (hcl.no (hcl.no (hli) 14 ⟨10, .data⟩ rfl rfl (by simp) rfl) 15 ⟨14, .data⟩ rfl rfl (by simp) rfl) 16 ⟨15, .data⟩ rfl rfl (by simp) rfl)
          have y0 := HC5.out W hB
          have d47 : f 47 = .pointer (some ⟨gu, 0, none⟩) := hV 9 _ (by decide) (hdep ⟨9, .data⟩ (by obtain rfl := Option.some.inj ho; simp) rfl) rfl
          refine ⟨by obtain rfl := Option.some.inj ho; rfl, ?_⟩
          · intro q hq
            obtain rfl := Option.some.inj ho
            have e47 := hq.tmp 47
            simp at e47
            simp [execOp, e47, d47, go_sem, y0]
        | 11, ho, hc =>
          obtain rfl := Option.some.inj hc
          refine ⟨by obtain rfl := Option.some.inj ho; rfl, ?_⟩
          · intro q hq
            obtain rfl := Option.some.inj ho
            have e6 := hq.tmp 6
            simp at e6
            simp [execOp, e6, go_sem]
        | 12, ho, hc =>
          obtain rfl := Option.some.inj hc
          have d49 : f 49 = .slice (some ⟨gu, 0, none⟩) 2 ucap := hV 11 _ (by decide) (hdep ⟨11, .data⟩ (by obtain rfl := Option.some.inj ho; simp) rfl) rfl
          refine ⟨by obtain rfl := Option.some.inj ho; rfl, ?_⟩
          · intro q hq
            obtain rfl := Option.some.inj ho
            have e49 := hq.tmp 49
            simp at e49
            simp [execOp, hq.const, e49, d49, go_sem]
        | 13, ho, hc =>
          obtain rfl := Option.some.inj hc
          obtain ⟨u, hB⟩ := hPre (hcl.no (hcl.no (hcl.no (hli) 14 ⟨13, .data⟩ rfl rfl (by simp) rfl) 15 ⟨14, .data⟩ rfl rfl (by simp) rfl) 16 ⟨15, .data⟩ rfl rfl (by simp) rfl)
          have y0 := HC6.out W hB
          have d50 : f 50 = .pointer (some ⟨gu, 1, none⟩) := hV 12 _ (by decide) (hdep ⟨12, .data⟩ (by obtain rfl := Option.some.inj ho; simp) rfl) rfl
          refine ⟨by obtain rfl := Option.some.inj ho; rfl, ?_⟩
          · intro q hq
            obtain rfl := Option.some.inj ho
            have e50 := hq.tmp 50
            simp at e50
            simp [execOp, e50, d50, go_sem, y0]
        | 14, ho, hc =>
          obtain rfl := Option.some.inj hc
          have d42 : f 42 = .string x1 := hV 4 _ (by decide) (hdep ⟨4, .data⟩ (by obtain rfl := Option.some.inj ho; simp) rfl) rfl
          have d45 : f 45 = .string x2 := hV 7 _ (by decide) (hdep ⟨7, .data⟩ (by obtain rfl := Option.some.inj ho; simp) rfl) rfl
          have d48 : f 48 = .int .i64 ni := hV 10 _ (by decide) (hdep ⟨10, .data⟩ (by obtain rfl := Option.some.inj ho; simp) rfl) rfl
          have d51 : f 51 = .int .i64 nj := hV 13 _ (by decide) (hdep ⟨13, .data⟩ (by obtain rfl := Option.some.inj ho; simp) rfl) rfl
          refine ⟨by obtain rfl := Option.some.inj ho; rfl, ?_⟩
          · intro q hq
            obtain rfl := Option.some.inj ho
            have e42 := hq.tmp 42
            have e45 := hq.tmp 45
            have e48 := hq.tmp 48
            have e51 := hq.tmp 51
            simp at e42 e45 e48 e51
            simp [execOp, e42, e45, e48, e51, d42, d45, d48, d51, go_sem]
        | 15, ho, hc => exact absurd hc (by simp)
        | 16, ho, hc => exact absurd hc (by simp)
        | 17, ho, hc =>
          obtain rfl := Option.some.inj hc
          refine ⟨by obtain rfl := Option.some.inj ho; rfl, ?_⟩
          · intro q hq
            obtain rfl := Option.some.inj ho
            have e1 := hq.tmp 1
            simp at e1
            simp [execOp, e1, go_sem]
        | 18, ho, hc => exact absurd hc (by simp)
        | (_ + 19), ho, hc => exact absurd hc (by simp)
      · intro listed f i o u W ho hc hna hnm' hdep hB hV hVV
        have hi' : i = 0 ∨ i = 1 ∨ i = 2 ∨ i = 3 ∨ i = 4 ∨ i = 5 ∨ i = 6 ∨ i = 7 ∨ i = 8 ∨ i = 9 ∨ i = 10 ∨ i = 11 ∨ i = 12 ∨ i = 13 ∨ i = 14 ∨ i = 15 ∨ i = 16 ∨ i = 17 ∨ i = 18 := by
          have : i < 19 := (Array.getElem?_eq_some_iff.1 ho).1
          omega
        rcases hi' with rfl | rfl | rfl | rfl | rfl | rfl | rfl | rfl | rfl | rfl | rfl | rfl | rfl | rfl | rfl | rfl | rfl | rfl | rfl
        · cases hc
        · cases hc
        · cases hc
        · cases hc
        · cases hc
        · cases hc
        · cases hc
        · cases hc
        · cases hc
        · cases hc
        · cases hc
        · cases hc
        · cases hc
        · cases hc
        · cases hc
        · have d52 : f 52 = .agg #[.string x1, .string x2, .int .i64 ni, .int .i64 nj] := hV 14 _ (by decide) (hdep ⟨14, .data⟩ (by obtain rfl := Option.some.inj ho; simp) rfl) rfl
          refine iv_val ho (by obtain rfl := Option.some.inj ho; rfl) (.slice (some ⟨W.heap.size, 0, none⟩) 1 1) (W.alloc (.cells #[.string x1, .string x2, .int .i64 ni, .int .i64 nj] 66)) ?_ (Bl.alloc hB _) (Bl.alloc (Below.refl _ _) _) ⟨W.heap.size, rfl, blk_new W _, hB.size⟩
          · intro q hq
            obtain rfl := Option.some.inj ho
            have e52 := hq.tmp 52
            simp at e52
            simp [execOp, e52, d52, go_sem]
        · exact absurd rfl hna
        · cases hc
        · exact absurd rfl hnm'
      · intro listed f o u W ho hdep hB hV hVV
        have d39 : f 39 = .slice pa pn pc := hV 1 _ (by decide) (hdep ⟨1, .data⟩ (by obtain rfl := Option.some.inj ho; simp) rfl) rfl
        have x53 := hVV 15 (by decide) (hdep ⟨15, .data⟩ (by obtain rfl := Option.some.inj ho; simp) rfl) rfl (by decide) (by decide)
        obtain rfl := Option.some.inj ho
        refine ⟨rfl, fun K hK => ?_⟩
        have x53 : VSl (w3.heap.size) #[.string x1, .string x2, .int .i64 ni, .int .i64 nj] 66 (f 53) W := x53
        obtain ⟨g1, hv1, hg1, hl1'⟩ := x53
        obtain ⟨v', w', hr, h2, h3, _⟩ := (HV.out W hB).app TPt.ok 26 g1 1 (x1, x2, ni, nj) hg1 rfl HLN.out (by have := hB.size; omega)
        refine oper_append (.tmp 39) (.tmp 53) 26 rfl (.slice pa pn pc) (.slice (some ⟨g1, 0, none⟩) 1 1) v' (by rw [← d39]; simp [putsA_eval]) (by rw [← hv1]; simp [putsA_eval]) hr (hK v' w' ?_)
        have hBw : Below (b + 1) W w' := app_belowR (HV.out W hB) h3 (by have := hB.size; omega)
        obtain ⟨a4, c4, e4, _, _⟩ := h2.form
        exact ⟨a4, _, c4, e4, (hBw.block b (Nat.lt_succ_self b)).trans (HU.out W hB), h2, ownR_off (HO2.out W hB) (HV.out W hB) (by decide) h3, Below.trans (Below.trans HBB3.out (hB.mono (Nat.le_of_lt lb))) (hBw.mono (Nat.le_succ b))⟩
      · intro listed f o W ho hdep hMid hV
        have d55 : f 55 = .pointer (some ⟨b, 0, none⟩) := hV 17 _ (by decide) (hdep ⟨17, .data⟩ (by obtain rfl := Option.some.inj ho; simp) rfl) rfl
        obtain rfl := Option.some.inj ho
        obtain ⟨a4, n4, c4, hv4, hx4, hO4, hA4, hb4⟩ := hMid
        have y0 := blk_cell hx4 0
        have g0 := blk_free hx4 0
        simp at y0
        refine ⟨rfl, W.setCell ⟨b, 0, none⟩ (f 54), fun q hq => ?_, ?_⟩
        · have e55 := hq.tmp 55
          have e54 := hq.tmp 54
          simp at e55 e54
          simp [execOp, e55, e54, d55, hv4, go_sem, y0, g0]
        · have hS := blk_set hx4 0 (f 54)
          refine ⟨⟨_, _, by simpa using hS, hO4.far (Nat.lt_succ_self b) 0 _, hA4.far (Nat.lt_succ_self b) 0 _⟩, Bl.set hb4 b 0 (Nat.le_refl _) _⟩
      intro f0 w5 hp5 _
      have HQ5 := Lib.hid hp5
      clear hp5
      unfold putsA
      simp only [List.mapIdx_toArray, List.mapIdx_cons, List.mapIdx_nil, List.contains_cons]
      simp
      go_wp2
      go_ret
      exact ClR.any HOK.out (fun d hd => HRW.out d hd ▸ HQ5.out.1) HQ5.out.2
    · have HR : Hid (R = none) := Lib.hid (by rw [HR5.out]; unfold rdPt; rw [if_neg fun q => ha q.2])
      have han1 : ¬ an = 0 := by rw [HAN.out]; exact fun h => ha (List.length_eq_zero_iff.1 h)
      have han2 : ((an : Int) == 0) = false := by simpa using han1
      have HF := Lib.hid (NO.out HR.out)
      clear ha NO HR5 HNM
      go_wp2
      go_ret
      exact HF.out
  · have HR : Hid (R = none) := Lib.hid (by rw [HR5.out]; unfold rdPt; rw [if_neg fun q => hk (by rw [← baOf_bs x0, q.1]; rfl)])
    have f1 : (x0.toList == [112, 97, 114, 116]) = false := by rw [beq_eq_false_iff_ne]; exact fun e => hk (ba_inj (e.trans (by rw [ByteArray.toList_eq])))
    have f2 : ¬ x0.toList = [112, 97, 114, 116] := by simpa using f1
    have HF := Lib.hid (NO.out HR.out)
    clear hk NO HR5 HNM
    go_wp2
    go_ret
    exact HF.out
end Go.Proofs.YtihgnpobkpnipaaGreatDoor
