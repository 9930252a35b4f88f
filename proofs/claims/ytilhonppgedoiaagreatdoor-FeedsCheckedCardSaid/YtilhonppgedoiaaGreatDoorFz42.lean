/- Texts of the proof of a law, put together, part 42 of 46. Conditions: none beyond those that each theorem names. -/
import Derived.Test.YtilhonppgedoiaaGreatDoorFz22
import Derived.Test.YtilhonppgedoiaaGreatDoorFz31
import Derived.Test.YtilhonppgedoiaaGreatDoorFz40
import Derived.Test.YtilhonppgedoiaaGreatDoorFz41
namespace Go.Proofs.YtilhonppgedoiaaGreatDoor
open Go.RowKit Go.Sort Go.Maps
theorem bsG_inj {a b : ByteArray} (h : bsOf a = bsOf b) : a = b := by rw [← baOf_bsOf a, h, baOf_bsOf]
theorem HasBF_any (l : List ByteArray) (v : Value) (x : ByteArray) (w : World) (hlen : l.length ≤ 10000000) (rl : RecR TS w 0 v l) :
    Calls Tryz.prog 106 #[v, .string x] w fun e w' => e = .returned (.bool (Lib.containsS l x)) ∧ w = w' := by
  obtain ⟨a, cap, rfl, hc1, hc2⟩ := rl.form
  by_cases h0 : l = []
  · subst h0
    exact (Tryz.slices_Contains_string_empty a cap x w).mono fun e w' ⟨h1, h2⟩ => ⟨by rw [h1]; rfl, h2.symm⟩
  · obtain ⟨y, hy⟩ : ∃ y, l[0]? = some y := ⟨_, List.getElem?_eq_getElem (List.length_pos_iff.2 h0)⟩
    obtain ⟨b, o, rfl, _, _, _⟩ := str_at rl hy
    have := Tryz.slices_Contains_string b o l.length cap l x w (Nat.le_refl _) (by omega) (str_cells rl)
    rw [List.take_length] at this
    exact this.mono fun e w' ⟨h1, h2⟩ => ⟨h1, h2.symm⟩
theorem has_emptyF (l : List ByteArray) : (!Lib.containsS l ⟨#[]⟩) = decide ([] ∉ l.map bsOf) := by
  have h : Lib.containsS l ⟨#[]⟩ = true ↔ [] ∈ l.map bsOf := by
    rw [Lib.containsS_iff, List.mem_map]
    constructor
    · intro hm; exact ⟨_, hm, rfl⟩
    · rintro ⟨x, hx, e⟩
      have hx0 : x = ⟨#[]⟩ := bsG_inj (e.trans rfl)
      rw [← hx0]; exact hx
  by_cases hm : [] ∈ l.map bsOf
  · rw [h.2 hm, decide_eq_false (fun hn => hn hm)]; rfl
  · have h2 : Lib.containsS l ⟨#[]⟩ = false := by
      cases hc : Lib.containsS l ⟨#[]⟩ with
      | false => rfl
      | true => exact absurd (h.1 hc) hm
    rw [h2, decide_eq_true hm]; rfl
set_option maxHeartbeats 4000000 in
theorem RFWords_any (s : ByteArray) (w : World) (hT : TxW w) (hs : s.size ≤ 1000000) :
    Calls Tryz.prog 63 #[.string s] w fun e w' => ∃ v l, e = .returned (.tuple #[v, .bool (decide ([] ∉ splitL 32 (bsOf s)))]) ∧ OwnR TS w' w.heap.size v l ∧ l.map bsOf = splitL 32 (bsOf s) ∧ l.length ≤ 1000001 ∧ Below w.heap.size w w' := by
  have HSP := Lib.hid (Split_any s 32 w hT hs)
  clear hT hs
  go_enter Tryz.func63, Tryz.ntmps63
  go_wp2_with fail
  refine HSP.out.mono ?_
  rintro e w1 ⟨v, l, rfl, hO, hm, hl1, hb⟩
  have hm' : l.map bsOf = splitL 32 (bsOf s) := hm
  obtain ⟨q, hq⟩ : ∃ q, q = Lib.containsS l ⟨#[]⟩ := ⟨_, rfl⟩
  have HHB0 := HasBF_any l v ⟨#[]⟩ w1 (by omega) hO.rec0
  rw [← hq] at HHB0
  have HHB := Lib.hid HHB0
  have HQ : Hid ((!q) = decide ([] ∉ splitL 32 (bsOf s))) := Lib.hid (by rw [hq, has_emptyF, hm'])
  obtain ⟨a1, n1, c1, hv⟩ : ∃ a n c, v = .slice a n c := (by obtain ⟨a, c, h, _, _⟩ := hO.form; exact ⟨a, _, c, h⟩)
  subst hv
  have HO := Lib.hid (And.intro hO (And.intro hm' (And.intro hl1 hb)))
  clear hO hm hm' hl1 hb hq HHB0 HSP
  go_wp2_with fail
  refine HHB.out.mono ?_
  rintro e w2 ⟨rfl, rfl⟩
  go_wp2
  go_ret2
  exact ⟨_, l, by rw [← HQ.out] <;> rfl, HO.out⟩
def BoxF (B Bo : Nat) (ss : List Fed) (W : World) : Prop := ∃ v, W.heap[Bo]? = some (.cells #[v] 27 (0, 0)) ∧ OwnR TFe W B v ss
theorem BoxF.below {B Bo : Nat} {ss : List Fed} {W W' : World} (h : BoxF B Bo ss W) (hb : Below W.heap.size W W') : BoxF B Bo ss W' := by
  obtain ⟨v, h1, h2⟩ := h
  exact ⟨v, blk_below h1 hb, h2.below hb⟩
set_option maxHeartbeats 4000000 in
set_option maxRecDepth 100000 in
theorem Rfl_any (B Bo : Nat) (x : ByteArray) (ss : List Fed) (W : World) (hT : TxW W) (hx : x.size ≤ 1000000) (hI : BoxF B Bo ss W) (hp : ss.length ≤ 900000) (hBo : Bo < B) (hBW : B ≤ W.heap.size) :
    Calls Tryz.prog 62 #[.string x, .pointer (some ⟨Bo, 0, none⟩)] W fun e W' => e = .returned (.bool (rdF (bsOf x)).isSome) ∧ ∃ ss', BoxF B Bo ss' W' ∧ (∀ p, rdF (bsOf x) = some p → ss' = ss ++ [p]) ∧ ss'.length ≤ ss.length + 1 ∧ Below Bo W W' := by
  have HKW := Lib.hid (RFWords_any x W hT hx)
  obtain ⟨Ls, hLs⟩ : ∃ Ls, Ls = splitL 32 (bsOf x) := ⟨_, rfl⟩
  have HRD : Hid (rdF (bsOf x) = rdWF Ls) := Lib.hid (by rw [hLs]; rfl)
  have HLE : Hid (∀ z ∈ Ls, z.length ≤ 1000000) := Lib.hid fun z hz => by
    have h1 := splitS_le 32 (bsOf x) z (by rw [← hLs]; exact hz)
    have h2 := bsOf_len x
    omega
  have HNE : Hid (Ls ≠ []) := Lib.hid fun h => by
    have := splitL_len 32 (bsOf x)
    rw [← hLs, h] at this
    simp at this
  rw [← hLs] at HKW
  have HT := Lib.hid hT
  have HI := Lib.hid hI
  have hsz : Bo < W.heap.size := by omega
  clear hLs hT hI
  go_enter Tryz.func62, Tryz.ntmps62
  go_wp2_with fail
  refine HKW.out.mono ?_
  rintro e w2 ⟨v, l, rfl, hO, hml, hl1, hb2⟩
  by_cases hm : [] ∈ Ls
  · have hd : decide ([] ∉ Ls) = false := by simp [hm]
    rw [hd]
    have HR : Hid (rdF (bsOf x) = none) := Lib.hid (by rw [HRD.out]; unfold rdWF; rw [if_pos hm])
    have HF := Lib.hid (And.intro (HI.out.below hb2) (hb2.mono (Nat.le_of_lt hsz)))
    obtain ⟨a1, n1, c1, rfl⟩ : ∃ a n c, v = .slice a n c := (by obtain ⟨a, c, h, _, _⟩ := hO.form; exact ⟨a, _, c, h⟩)
    clear hO hml hl1 hb2 hm hd HKW
    go_wp2
    go_ret
    exact ⟨by rw [HR.out] <;> rfl, ss, HF.out.1, (fun p hp => by rw [HR.out] at hp; cases hp), by omega, HF.out.2⟩
  · have hd : decide ([] ∉ Ls) = true := by simp [hm]
    rw [hd]
    obtain ⟨z, r, rfl⟩ : ∃ z r, l = z :: r := by
      cases l with
      | nil => exact absurd hml.symm HNE.out
      | cons z r => exact ⟨z, r, rfl⟩
    subst hml
    have HM := Lib.hid hm
    have hzs : z.size ≤ 1000000 := by
      have h1 := HLE.out (bsOf z) (by simp)
      rw [bsOf_len] at h1
      exact h1
    obtain ⟨g, c, cur, rfl, _, hgb, hc1, hc2, _⟩ := hO.blk (by simp)
    obtain ⟨n, hn⟩ : ∃ n, n = (z :: r).length := ⟨_, rfl⟩
    rw [← hn] at hc1 hl1 hO
    have HNR : Hid (n = r.length + 1) := Lib.hid hn
    have hnp : (0 : Int) < (n : Int) := by rw [HNR.out]; omega
    have hnp1 : (1 : Int) ≤ (n : Int) := by rw [HNR.out]; omega
    have hcm : c ≤ 9223372036854775807 := by unfold maxLen at hc2; omega
    obtain ⟨_, _, e0, _, hgl, c0⟩ := str_at hO.rec (k := 0) (x := z) rfl
    injection e0 with e0
    injection e0 with e1 e2
    subst e1; subst e2
    have HOR := Lib.hid hO.rec0
    have HB2 := Lib.hid hb2
    have HNU := Lib.hid (RNumber_any z 15 w2 (HT.out.below hb2) hzs (by decide))
    have HRS : Hid (∀ y ∈ r, 0 < y.size ∧ y.size ≤ 1000000) := Lib.hid fun y hy => by
      have h1 := HLE.out (bsOf y) (List.mem_map.2 ⟨y, List.mem_cons_of_mem _ hy, rfl⟩)
      rw [bsOf_len] at h1
      refine ⟨?_, h1⟩
      cases hz : y.size with
      | zero =>
        exfalso
        have h2 : bsOf y = [] := List.eq_nil_of_length_eq_zero (by rw [bsOf_len]; exact hz)
        exact HM.out (List.mem_map.2 ⟨y, List.mem_cons_of_mem _ hy, h2⟩)
      | succ k => omega
    obtain ⟨fs, hfs⟩ : ∃ fs, fs = (frF (r.map bsOf)).isSome := ⟨_, rfl⟩
    have HFW : Hid (∀ (a : Option Addr) (c' : Nat), (r ≠ [] → a = some ⟨g, 0 + 1, none⟩) → r.length ≤ c' → c' ≤ 9223372036854775807 → ∀ U, Below w2.heap.size w2 U → Calls Tryz.prog 65 #[.slice a (n - 1) c', .int .i64 (15 : Nat)] U fun e w' => ∃ (fa fk : Int) (fd fr : ByteArray) (fm : Int) (fb : ByteArray), e = .returned (.tuple #[.agg #[.int .i64 fa, .int .i64 fk, .string fd, .string fr, .int .i64 fm, .string fb], .bool fs]) ∧ Hid (∀ p, frF (r.map bsOf) = some p → p = (fk, fd, fr, fm, fb)) ∧ Below U.heap.size U w') := Lib.hid fun a c' h1 h2 h3 U hU => by
      have h4 : n - 1 = r.length := by rw [HNR.out]; rfl
      rw [h4, hfs]
      refine (feedOf_any 15 (.slice a r.length c') r U ((HT.out.below HB2.out).below hU) (by decide) (by decide) (strs_tail (HOR.out.below hU) a h1 c' h2 h3) (by have := HNR.out; omega) HRS.out).mono ?_
      rintro e w' ⟨⟨fa, fk, fd, fr, fm, fb⟩, rfl, hf, hb⟩
      refine ⟨fa, fk, fd, fr, fm, fb, rfl, Lib.hid fun p hp => ?_, hb⟩
      have := hf p hp
      injection this with _ this
      exact this.symm
    have HFQ := Lib.hid hfs
    clear hb2 hm hd hO hgb hc2 HKW hfs
    rw [← hn]
    clear hn
    go_wp2_with fail
    refine HNU.out.mono ?_
    rintro e w3 ⟨nv, rfl, hnq, hb3⟩
    obtain ⟨ok, hok⟩ : ∃ ok, ok = (numT 15 z.data.toList).isSome := ⟨_, rfl⟩
    rw [← hok]
    have HP : Hid ((rdF (bsOf x)).isSome = (fs && ok) ∧ ∀ (fk : Int) (fd fr : ByteArray) (fm : Int) (fb : ByteArray), (∀ p, frF (r.map bsOf) = some p → p = (fk, fd, fr, fm, fb)) → ∀ p, rdF (bsOf x) = some p → p = (nv, fk, fd, fr, fm, fb)) := Lib.hid (by
      have h1 := rdWF_parts HM.out
      rw [HRD.out, hok, HFQ.out]
      refine ⟨by rw [List.map_cons, h1.1, Bool.and_comm]; rfl, fun fk fd fr fm fb hq p hp => ?_⟩
      obtain ⟨q, h2, h3⟩ := h1.2 p hp
      have hpz : numT 15 z.data.toList = some ((numT 15 (bsOf z)).getD 0) := by
        cases hz : numT 15 (bsOf z) with
        | some v => exact hz
        | none =>
          exfalso
          have h5 := h1.1
          rw [show rdWF (bsOf z :: r.map bsOf) = some p from hp, hz] at h5
          cases h5
      rw [h3, hq q h2, hnq _ hpz])
    have HB3 := Lib.hid hb3
    clear hb3 hnq hok
    go_wp2_with fail
    case' inl =>
      have HC4 := HFW.out (some ⟨g, 0, none⟩) 0 (by intro h; exfalso; have h1 := HNR.out; have h2 := List.length_pos_iff.2 h; omega) (by have h1 := HNR.out; omega) (by omega) w3 HB3.out
    case' inr =>
      have HC4 := HFW.out (some ⟨g, 1, none⟩) (c - 1) (fun _ => rfl) (by have h1 := HNR.out; omega) (by omega) w3 HB3.out
    all_goals (
      refine HC4.mono ?_
      rintro e w4 ⟨fa, fk, fd, fr, fm, fb, rfl, HQ4, hb4⟩
      have hB4 := Bl.trans HB2.out (Bl.trans HB3.out hb4)
      obtain ⟨bv, hbb, hbo⟩ := HI.out.below hB4
      obtain ⟨pa, pcap, rfl, _, _⟩ := hbo.form
      have hz4 := hB4.size
      have lbo : Bo < w4.heap.size := by omega
      have p0 : w4.cell? ⟨Bo, 0, none⟩ = some (.slice pa ss.length pcap) := blk_cell hbb 0
      have HBO := Lib.hid (And.intro hbo (And.intro hbb hB4))
      clear hbo hbb hB4 hb4 HC4
      go_wp2_with (at_builtin; refine wp_app_rec TFe.ok rfl _ _ rfl B _ ss rfl ((HBO.out.1.alloc _).alloc _) (w4.heap.size + 1) 1 (nv, fk, fd, fr, fm, fb) rfl (blk_new' _ _ (by simp)) rfl (by omega) (by simp; omega) ?_)
      intro v5 w5 hO5 hg5 hb5
      obtain ⟨a5, n5, c5, rfl⟩ : ∃ a n c, v5 = .slice a n c := (by obtain ⟨a, c, h, _, _⟩ := hO5.form; exact ⟨a, _, c, h⟩)
      have hbb5 : w5.heap[Bo]? = some (.cells #[.slice pa ss.length pcap] 27 (0, 0)) := (hb5.block Bo hBo).trans (blk_old (blk_old HBO.out.2.1 _) _)
      have u0 := blk_cell hbb5 0
      have u1 := blk_free hbb5 0
      simp at u0
      have HFI : Hid (BoxF B Bo (ss ++ [(nv, fk, fd, fr, fm, fb)]) (w5.setCell ⟨Bo, 0, none⟩ (.slice a5 n5 c5)) ∧ Below Bo W (w5.setCell ⟨Bo, 0, none⟩ (.slice a5 n5 c5))) := Lib.hid ⟨⟨_, blk_set hbb5 0 (.slice a5 n5 c5), hO5.far hBo 0 _⟩, Bl.set (((HBO.out.2.2.mono (Nat.le_of_lt hsz)).trans ((Bl.alloc (Bl.alloc (Below.refl w4.heap.size w4) _) _).mono (Nat.le_of_lt lbo))).trans (hb5.mono (Nat.le_of_lt hBo))) Bo 0 (Nat.le_refl _) (.slice a5 n5 c5)⟩
      have HPP : Hid (∀ p, rdF (bsOf x) = some p → ss ++ [(nv, fk, fd, fr, fm, fb)] = ss ++ [p]) := Lib.hid fun p hp => by rw [HP.out.2 fk fd fr fm fb HQ4.out p hp]
      clear hO5 hg5 hb5 hbb5
      cases fs
      all_goals (
        go_wp2
        go_ret
        exact ⟨by rw [HP.out.1] <;> rfl, _, HFI.out.1, HPP.out, by simp, HFI.out.2⟩))
end Go.Proofs.YtilhonppgedoiaaGreatDoor
namespace Go.Proofs.YtilhonppgedoiaaGreatDoor
open Go.RowKit Go.Sort Go.Maps
theorem Rfl2_any (B Bo : Nat) (x : ByteArray) (ss : List Fed) (W : World) (hT : TxW W) (hx : x.size ≤ 1000000) (hI : BoxF B Bo ss W) (hp : ss.length ≤ 900000) (hBo : Bo < B) (hBW : B ≤ W.heap.size) :
    Calls Tryz.prog 62 #[.string x, .pointer (some ⟨Bo, 0, none⟩)] W fun e W' => e = .returned (.bool (rdF x.data.toList).isSome) ∧ ∃ ss', BoxF B Bo ss' W' ∧ (∀ p, rdF x.data.toList = some p → ss' = ss ++ [p]) ∧ ss'.length ≤ ss.length + 1 ∧ Below Bo W W' := Rfl_any B Bo x ss W hT hx hI hp hBo hBW
theorem cut_one_f (t : List UInt8) : ((10 : UInt8) ∉ t ∧ Lib.cut t [10] = (t, [], false)) ∨ ∃ a b, t = a ++ 10 :: b ∧ (10 : UInt8) ∉ a ∧ Lib.cut t [10] = (a, b, true) := by
  rcases index_one 10 t with ⟨h1, h2⟩ | ⟨i, h1, h2, h3, h4⟩
  · refine .inl ⟨h2, ?_⟩
    unfold Lib.cut
    rw [h1]
    simp
  · refine .inr ⟨t.take i, t.drop (i + 1), ?_, h3, ?_⟩
    · rw [← h4, List.take_append_drop]
    · unfold Lib.cut
      rw [h1]
      simp
theorem readS_open_f {t : List UInt8} (h : (10 : UInt8) ∉ t) (h0 : t ≠ []) (i : Nat) : readS rdF i (splitL 10 t) = .error i := by
  rw [splitL_no h]; unfold readS; rw [if_neg h0]
theorem readS_line_f {a : List UInt8} (h : (10 : UInt8) ∉ a) (b : List UInt8) (i : Nat) : readS rdF i (splitL 10 (a ++ 10 :: b)) = match rdF a with
    | none => .error i
    | some p => match readS rdF (i + 1) (splitL 10 b) with
      | .error e => .error e
      | .ok l => .ok (p :: l) := by
  rw [splitL_sep b h]
  cases hs : splitL 10 b with
  | nil => exact absurd hs (splitL_ne 10 b)
  | cons y r =>
    conv => lhs; rw [readS]
    cases rdF a with
    | none => rfl
    | some p => cases readS rdF (i + 1) (y :: r) <;> rfl
theorem ontoF_cons (pts : List Fed) (p : Fed) (r : Except Nat (List Fed)) : ontoF pts (match r with
    | .error e => .error e
    | .ok l => .ok (p :: l)) = ontoF (pts ++ [p]) r := by
  cases r with
  | error e => rfl
  | ok l => simp [ontoF]
/-- how Lines ends. -/
def LnEndF (B Bo : Nat) (r : Except Nat (List Fed)) (e : Ending) (W : World) : Prop := match r with
  | .error i => e = .returned (.tuple #[.int .i64 i, .bool false]) ∧ i ≤ 200000
  | .ok l => e = .returned (.tuple #[.int .i64 0, .bool true]) ∧ BoxF B Bo l W ∧ l.length ≤ 200000
set_option maxHeartbeats 4000000 in
set_option maxRecDepth 100000 in
theorem RLinesF_any (B Bo : Nat) (s : ByteArray) (W : World) (hT : TxW W) (hg1 : 0 < Bo) (hg2 : 1 < Bo) (hs : s.size ≤ 200000) (hI : BoxF B Bo [] W) (hBo : Bo < B) (hBW : B ≤ W.heap.size) :
    Calls Tryz.prog 61 #[.string s, .func (.func 62) #[] #[.pointer (some ⟨Bo, 0, none⟩)]] W fun e W' => LnEndF B Bo (readS rdF 0 (splitL 10 s.data.toList)) e W' ∧ Below Bo W W' := by
  obtain ⟨R, hR⟩ : ∃ R, R = readS rdF 0 (splitL 10 s.data.toList) := ⟨_, rfl⟩
  rw [← hR]
  have HT := Lib.hid hT
  have HR0 := Lib.hid hR
  clear hT hR
  go_enter Tryz.func61, Tryz.ntmps61
  go_wp2_with fail
  go_loopg [0, 6] s.size (fun gk sv iv wr => ∃ (t : ByteArray) (i : Nat) (pts : List Fed), gk = t.size ∧ sv = .string t ∧ iv = .int .i64 i ∧ Hid (R = ontoF pts (readS rdF i (splitL 10 t.data.toList))) ∧ i + t.size ≤ 200000 ∧ pts.length ≤ i ∧ BoxF B Bo pts wr ∧ Below Bo W wr ∧ B ≤ wr.heap.size)
  case atStart =>
    refine ⟨s, 0, [], rfl, rfl, rfl, Lib.hid ?_, by omega, by simp, hI, Below.refl _ _, hBW⟩
    rw [HR0.out]
    cases readS rdF 0 (splitL 10 s.data.toList) <;> simp [ontoF]
  case round =>
    obtain ⟨t, i, pts, rfl, rfl, rfl, hP, hit, hpl, hBx, hB, hBw⟩ := hrel
    have hts : t.data.toList.length = t.size := Array.length_toList
    by_cases h0 : t.size = 0
    · obtain rfl : t = ⟨#[]⟩ := by
        apply ByteArray.ext
        exact Array.eq_empty_of_size_eq_zero h0
      have HR : Hid (R = .ok pts) := Lib.hid (by rw [hP.out]; simp [splitL, readS, ontoF])
      clear hP h0 hts
      go_wp2
      go_ret2
      refine ⟨?_, hB⟩
      unfold LnEndF
      rw [HR.out]
      exact ⟨rfl, hBx, by omega⟩
    · have hne : t.data.toList ≠ [] := fun e => by rw [e] at hts; exact h0 hts.symm
      have e1 : t.toList.isEmpty = false := by
        rw [ByteArray.toList_eq]; cases h : t.data.toList with | nil => exact absurd h hne | cons => rfl
      have e2 : ¬ t.toList = [] := by rw [ByteArray.toList_eq]; exact hne
      have hTk : TxW wr := HT.out.belowB hB hg1 hg2
      have HCT : Hid (∀ (U : World), TxW U → Calls Tryz.prog 105 #[.string t, .string ⟨#[10]⟩] U fun e w' => e = .returned (.tuple #[.string ⟨(Lib.cut t.data.toList [10]).1.toArray⟩, .string ⟨(Lib.cut t.data.toList [10]).2.1.toArray⟩, .bool (Lib.cut t.data.toList [10]).2.2]) ∧ Below U.heap.size U w') := Lib.hid fun U hU => by
        obtain ⟨m, hm⟩ := hU.max
        refine (Tryz.strings_Cut t ⟨#[10]⟩ m U (by omega) hm).mono ?_
        rintro e w' ⟨rfl, n, rfl⟩
        exact ⟨rfl, drewN_below U n⟩
      rcases cut_one_f t.data.toList with ⟨h1, h2⟩ | ⟨a, b, h1, h2, h3⟩
      · have HR : Hid (R = .error i) := Lib.hid (by rw [hP.out, readS_open_f h1 hne]; rfl)
        rw [h2] at HCT
        clear hP h1 h2 hne hts
        go_wp2_with fail
        refine (HCT.out _ hTk).mono ?_
        rintro e w1 ⟨rfl, hb1⟩
        go_wp2
        go_ret2
        refine ⟨?_, hB.trans (hb1.mono (by omega))⟩
        unfold LnEndF
        rw [HR.out]
        exact ⟨rfl, by omega⟩
      · have hlen : a.length + b.length + 1 = t.size := by rw [← hts, h1]; simp; omega
        have hRS := hP.out
        rw [h1, readS_line_f h2] at hRS
        rw [h3] at HCT
        obtain ⟨ax, has⟩ : ∃ x : ByteArray, x = ⟨a.toArray⟩ := ⟨_, rfl⟩
        obtain ⟨bs, hbs⟩ : ∃ x : ByteArray, x = ⟨b.toArray⟩ := ⟨_, rfl⟩
        have ha : ax.data.toList = a := by rw [has]
        have hb : bs.data.toList = b := by rw [hbs]
        have haz : ax.size = a.length := by rw [← ha]; exact (Array.length_toList).symm
        have hbz : bs.size = b.length := by rw [← hb]; exact (Array.length_toList).symm
        simp only at HCT
        rw [← has, ← hbs] at HCT
        rw [← ha, ← hb] at hRS
        have HRS := Lib.hid hRS
        have HRP := Lib.hid fun (U : World) (hT : TxW U) (hI : BoxF B Bo pts U) (hBW : B ≤ U.heap.size) => Rfl2_any B Bo ax pts U hT (by omega) hI (by omega) hBo hBW
        have hsb : bs.size < t.size := by omega
        have hw1 : IntKind.i64.wrap ((i : Int) + 1) = ((i + 1 : Nat) : Int) := by rw [IntWalk.i64_in _ (by omega)]; omega
        have hib : i + 1 + bs.size ≤ 200000 := by omega
        clear hP h1 h2 h3 hne hts hRS has hbs ha hb haz hbz hlen
        go_wp2_with fail
        refine (HCT.out _ hTk).mono ?_
        rintro e w1 ⟨rfl, hb1⟩
        have hB1 := hB.trans (hb1.mono (show Bo ≤ wr.heap.size by omega))
        have hz1 := hb1.size
        have hTk1 := hTk.below hb1
        have hBx1 := hBx.below hb1
        have hBw1 : B ≤ w1.heap.size := by omega
        clear hTk hBx hb1 hB
        cases hr : rdF ax.data.toList with
        | none =>
          have HR : Hid (R = .error i) := Lib.hid (by rw [HRS.out, hr]; rfl)
          rw [hr] at HRP
          clear hr
          go_wp2_with fail
          refine (HRP.out _ hTk1 hBx1 hBw1).mono ?_
          rintro e w2 ⟨rfl, pts', hBx2, hp2, hl2, hb2⟩
          go_wp2
          go_ret2
          refine ⟨?_, hB1.trans hb2⟩
          unfold LnEndF
          rw [HR.out]
          exact ⟨rfl, by omega⟩
        | some p =>
          have HR : Hid (R = ontoF (pts ++ [p]) (readS rdF (i + 1) (splitL 10 bs.data.toList))) := Lib.hid (by rw [HRS.out, hr]; exact ontoF_cons _ _ _)
          rw [hr] at HRP
          clear hr
          go_wp2_with fail
          refine (HRP.out _ hTk1 hBx1 hBw1).mono ?_
          rintro e w2 ⟨rfl, pts', hBx2, hp2, hl2, hb2⟩
          obtain rfl := hp2 p rfl
          have hz2 := hb2.size
          have hpl2 : (pts ++ [p]).length ≤ i + 1 := by rw [List.length_append, List.length_singleton]; omega
          have HPL := Lib.hid hpl2
          clear hp2 hl2 hpl2
          go_wp2
          go_roundg bs.size
          case rel => exact ⟨bs, i + 1, pts ++ [p], rfl, rfl, by go_num, HR, hib, HPL.out, hBx2, hB1.trans hb2, by omega⟩
          all_goals (first | exact hsb | omega)
set_option maxHeartbeats 4000000 in
set_option maxRecDepth 100000 in
theorem RFdRead_any (s : ByteArray) (w : World) (hT : TxW w) (hs : s.size ≤ 1000000) :
    Calls Tryz.prog 23 #[.string s] w fun e w' => ∃ v, e = .returned (.tuple #[v, .int .i64 (feedsRead (bsOf s)).2.1, .int .i64 (feedsRead (bsOf s)).2.2]) ∧ OwnR TFe w' w.heap.size v (feedsRead (bsOf s)).1 ∧ Below w.heap.size w w' := by
  have hsz : (bsOf s).length = s.size := bsOf_len s
  by_cases hbig : 200000 < s.size
  · have HV : Hid (feedsRead (bsOf s) = ([], 0, 2)) := Lib.hid (by unfold feedsRead; rw [if_pos (by omega)])
    have hb1 : (200000 : Int) < (s.size : Int) := by omega
    clear hsz
    go_enter Tryz.func23, Tryz.ntmps23
    go_wp2
    go_ret3
    exact ⟨_, by rw [HV.out] <;> rfl, by rw [HV.out]; exact OwnR.nil _ _, Below.refl _ _⟩
  · obtain ⟨R, hR⟩ : ∃ R, R = readS rdF 0 (splitL 10 s.data.toList) := ⟨_, rfl⟩
    have HV : Hid (feedsRead (bsOf s) = rdEndF R) := Lib.hid (by unfold feedsRead; rw [if_neg (by omega), hR]; rfl)
    have hb1 : ¬ (200000 : Int) < (s.size : Int) := by omega
    obtain ⟨g1, g2⟩ := hT.size
    have hA := Bl.alloc (Below.refl w.heap.size w) (.cells #[.slice none 0 0] 27)
    have HL := Lib.hid (RLinesF_any (w.heap.size + 1) w.heap.size s (w.alloc (.cells #[.slice none 0 0] 27)) (hT.below hA) g1 g2 (by omega) ⟨_, blk_new w _, OwnR.nil _ _⟩ (Nat.lt_succ_self _) (by simp))
    rw [← hR] at HL
    have HA := Lib.hid hA
    clear hsz hR hT hA
    go_enter Tryz.func23, Tryz.ntmps23
    go_wp2_with fail
    refine HL.out.mono ?_
    rintro e w1 ⟨hE, hb⟩
    have hB := HA.out.trans hb
    have hz1 := hB.size
    clear hb HL HA
    cases R with
    | error i =>
      have HV : Hid (feedsRead (bsOf s) = ([], (i : Int), 9)) := Lib.hid HV.out
      obtain ⟨rfl, hi⟩ := hE
      go_wp2
      go_ret3
      exact ⟨_, by rw [HV.out] <;> rfl, by rw [HV.out]; exact OwnR.nil _ _, hB⟩
    | ok l =>
      obtain ⟨rfl, ⟨v, hbx, hO⟩, hl⟩ := hE
      have hP : OwnR TFe w1 (w.heap.size + 1) v l := hO
      have c0 : w1.cell? ⟨w.heap.size, 0, none⟩ = some v := blk_cell hbx 0
      have hlt := blk_lt hbx
      have HP := Lib.hid hP
      obtain ⟨a, cap, rfl, hc1, hc2⟩ := hP.form
      clear hbx hO hP
      have HV : Hid (feedsRead (bsOf s) = if 5000 < l.length then ([], 0, 2) else (l, 0, 0)) := Lib.hid HV.out
      by_cases h0 : 5000 < l.length
      · have HV0 : Hid (feedsRead (bsOf s) = ([], 0, 2)) := Lib.hid (by rw [HV.out, if_pos h0])
        have h1 : (5000 : Int) < (l.length : Int) := by omega
        clear HV h0
        go_wp2
        go_ret3
        exact ⟨_, by rw [HV0.out] <;> rfl, by rw [HV0.out]; exact OwnR.nil _ _, hB⟩
      · have HV0 : Hid (feedsRead (bsOf s) = (l, 0, 0)) := Lib.hid (by rw [HV.out, if_neg h0])
        have h1 : ¬ (5000 : Int) < (l.length : Int) := by omega
        clear HV h0
        go_wp2
        go_ret3
        exact ⟨_, by rw [HV0.out] <;> rfl, by rw [HV0.out]; exact OwnR.base HP.out (Nat.le_succ _), hB⟩
set_option maxHeartbeats 4000000 in
theorem RefusedFeeds_any (rs : List Rel) (l : List Fed) (vr vl : Value) (w : World) (rr : RecR TRe w 0 vr rs) (rl : RecR TFe w 0 vl l) (hn : l.length ≤ 900) (h : feedsF rs l = 0) :
    Calls Tryz.prog 18 #[vr, vl] w fun e w' => ∃ ov wv, e = .returned (.tuple #[ov, wv]) ∧ OwnR TNq w' w.heap.size ov ((refsM 345686400000 (newM rs) 0 l).map (·.1)) ∧ OwnR TEq w' w.heap.size wv ((refsM 345686400000 (newM rs) 0 l).map (·.2)) ∧ Below w.heap.size w w' := by
  have hk := feedsF_right h
  have HC := Lib.hid (stored_any rs l 345686400000 vr vl w rr rl hk.rn hk.rz hn hk.lz)
  obtain ⟨ra, rc, rfl, _, _⟩ := rr.form
  obtain ⟨la, lc, rfl, _, _⟩ := rl.form
  clear rr rl hk h
  go_enter Tryz.func18, Tryz.ntmps18
  go_wp2_with fail
  refine HC.out.mono ?_
  rintro e w2 ⟨L, ov, wv, rfl, _, _, ho, hw, hb⟩
  have HF := Lib.hid (And.intro ho (And.intro hw hb))
  clear ho hw hb
  go_wp2
  go_ret2
  exact ⟨ov, wv, rfl, HF.out.1, HF.out.2.1, HF.out.2.2⟩
end Go.Proofs.YtilhonppgedoiaaGreatDoor
