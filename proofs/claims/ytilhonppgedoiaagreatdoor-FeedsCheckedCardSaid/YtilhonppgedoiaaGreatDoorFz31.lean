/- Texts of the proof of a law, put together, part 31 of 46. Conditions: none beyond those that each theorem names. -/
import Derived.Test.YtilhonppgedoiaaGreatDoorFz13
import Derived.Test.YtilhonppgedoiaaGreatDoorFz30
namespace Go.Proofs.YtilhonppgedoiaaGreatDoor
open Go.RowKit Go.Sort
def askF (E : Int) (has mom : Bool) (e : Int) : Int := if E = 0 then (if has = false then e else if mom = false then 1 else 0) else E
set_option maxHeartbeats 4000000 in
theorem feederFault_any (rs : List Rel) (l : List Fed) (f : ByteArray) (t : Int) (vr vl : Value) (w : World) (hlr : rs.length ≤ 1000000) (hl : l.length ≤ 1000000) (rr : RecR TRe w 0 vr rs) (rl : RecR TFe w 0 vl l) (hzr : RelZ rs) (hz : FedZ l) (hk : f.size ≤ 140737488355328) :
    Calls Tryz.prog 109 #[vr, vl, .string f, .int .i64 t] w fun e w' => e = .returned (.int .i64 (askF (feedsF rs l) (keyB f) (inB 0 t 345686399999) 5)) ∧ Below w.heap.size w w' := by
  have HC := Lib.hid (CheckFeeds_any rs l vr vl w hlr hl rr rl hzr hz)
  have RR := Lib.hid rr
  obtain ⟨ra, rcap, rfl, _, _⟩ := rr.form
  obtain ⟨fa, fcap, rfl, _, _⟩ := rl.form
  obtain ⟨E, hE⟩ : ∃ E, E = feedsF rs l := ⟨_, rfl⟩
  obtain ⟨bh, hbh⟩ : ∃ q, q = (keyB f) := ⟨_, rfl⟩
  obtain ⟨bm, hbm⟩ : ∃ q, q = inB 0 t 345686399999 := ⟨_, rfl⟩
  have HM := Lib.hid (fun W => IsMoment_any t W)
  have HK : Hid (∀ W, Calls Tryz.prog 53 #[.string f] W fun e w' => e = .returned (.bool bh) ∧ Below W.heap.size W w') := Lib.hid (fun W => by rw [hbh]; exact IsKey_any f W hk)
  rw [← hE, ← hbh, ← hbm]
  rw [← hE] at HC
  rw [← hbm] at HM
  obtain ⟨R, hR⟩ : ∃ R, R = askF E bh bm 5 := ⟨_, rfl⟩
  rw [← hR]
  have HR := Lib.hid hR
  clear hE hbh hbm rr rl hR hk
  by_cases h0 : E = 0
  case neg =>
    have HRR : Hid (R = E) := Lib.hid (by rw [HR.out]; unfold askF; rw [if_neg h0])
    go_enter Tryz.func109, Tryz.ntmps109
    go_wp2_with fail
    refine HC.out.mono ?_
    rintro e w2 ⟨rfl, hb2⟩
    have HB2 := Lib.hid hb2
    clear hb2
    go_wp2
    go_ret
    exact ⟨ret_int HRR.out.symm, HB2.out⟩
  subst h0
  have HK2 := HK
  clear HK
  cases bh
  case false =>
    have HRR : Hid (R = 5) := Lib.hid HR.out
    go_enter Tryz.func109, Tryz.ntmps109
    go_wp2_with fail
    refine HC.out.mono ?_
    rintro e w2 ⟨rfl, hb2⟩
    have HB2 := Lib.hid hb2
    clear hb2
    go_wp2_with fail
    refine (HK2.out w2).mono ?_
    rintro e w3 ⟨rfl, hb3⟩
    have HB3 := Lib.hid (Bl.trans HB2.out hb3)
    clear hb3
    go_wp2
    go_ret
    exact ⟨ret_int HRR.out.symm, HB3.out⟩
  cases bm
  case false =>
    have HRR : Hid (R = 1) := Lib.hid HR.out
    go_enter Tryz.func109, Tryz.ntmps109
    go_wp2_with fail
    refine HC.out.mono ?_
    rintro e w2 ⟨rfl, hb2⟩
    have HB2 := Lib.hid hb2
    clear hb2
    go_wp2_with fail
    refine (HK2.out w2).mono ?_
    rintro e w3 ⟨rfl, hb3⟩
    have HB3 := Lib.hid (Bl.trans HB2.out hb3)
    clear hb3
    go_wp2_with fail
    refine (HM.out w3).mono ?_
    rintro e w' ⟨rfl, rfl⟩
    go_wp2
    go_ret
    exact ⟨ret_int HRR.out.symm, HB3.out⟩
  have HRR : Hid (R = 0) := Lib.hid HR.out
  go_enter Tryz.func109, Tryz.ntmps109
  go_wp2_with fail
  refine HC.out.mono ?_
  rintro e w2 ⟨rfl, hb2⟩
  have HB2 := Lib.hid hb2
  clear hb2
  go_wp2_with fail
  refine (HK2.out w2).mono ?_
  rintro e w3 ⟨rfl, hb3⟩
  have HB3 := Lib.hid (Bl.trans HB2.out hb3)
  clear hb3
  go_wp2_with fail
  refine (HM.out w3).mono ?_
  rintro e w' ⟨rfl, rfl⟩
  go_wp2
  go_ret
  exact ⟨ret_int HRR.out.symm, HB3.out⟩
end Go.Proofs.YtilhonppgedoiaaGreatDoor
namespace Go.Proofs.YtilhonppgedoiaaGreatDoor
open Go.RowKit Go.Sort Go.Maps
theorem keyB_few {s : ByteArray} (h : keyB s = true) : 0 < s.size ∧ s.size ≤ 40 := by
  unfold keyB at h
  simp only [Bool.and_eq_true, decide_eq_true_eq] at h
  exact ⟨h.1.1.1, h.1.1.2⟩
theorem inB_of {a n b : Int} (h : inB a n b ≠ false) : a ≤ n ∧ n ≤ b := by
  unfold inB at h
  simp only [ne_eq, Bool.not_eq_false, Bool.and_eq_true, decide_eq_true_eq] at h
  exact h
theorem empty_of {s : ByteArray} (h : s.toList.isEmpty = true) : s.size = 0 := by
  have h1 := List.isEmpty_iff.1 h
  rw [ByteArray.toList_eq] at h1
  show s.data.size = 0
  rw [← Array.length_toList, h1]; rfl
theorem reelF_right {p : Option ByteArray} {x : Rel} (h : reelF p x = 0) : x.1.size ≤ 40 ∧ 0 < x.1.size ∧ 0 ≤ x.2.2 ∧ x.2.2 ≤ 100000 := by
  unfold reelF at h
  split at h
  · cases h
  rename_i h1
  split at h
  · cases h
  split at h
  · cases h
  rename_i h3
  have h4 := keyB_few (by simpa using h1)
  have h5 := inB_of h3
  exact ⟨h4.2, h4.1, h5.1, h5.2⟩
theorem reelsF1_right : ∀ (l : List Rel) (p : Option ByteArray), reelsF1 p l = 0 → ∀ x ∈ l, x.1.size ≤ 40 ∧ 0 < x.1.size ∧ 0 ≤ x.2.2 ∧ x.2.2 ≤ 100000
  | [], _, _, x, hx => by simp at hx
  | y :: l, p, h, x, hx => by
    rw [reelsF1] at h
    split at h
    · rename_i h0
      rcases List.mem_cons.1 hx with rfl | hx
      · exact reelF_right h0
      · exact reelsF1_right l _ h x hx
    · rename_i h0; exact absurd h h0
theorem reelsF_right {rs : List Rel} (h : reelsF rs = 0) : rs.length ≤ 1000 ∧ ∀ x ∈ rs, x.1.size ≤ 40 ∧ 0 < x.1.size ∧ 0 ≤ x.2.2 ∧ x.2.2 ≤ 100000 := by
  unfold reelsF at h
  split at h
  · cases h
  · rename_i h1; exact ⟨by omega, reelsF1_right rs none h⟩
theorem hasB_mem {rs : List Rel} {k : ByteArray} (h : hasB rs k = true) : ∃ x ∈ rs, x.1 = k := by
  unfold hasB at h
  obtain ⟨x, hx, h1⟩ := List.any_eq_true.1 h
  exact ⟨x, hx, (ba_eq_iff _ _).1 (by simpa using h1)⟩
theorem feedF_right {rs : List Rel} (hrs : ∀ x ∈ rs, x.1.size ≤ 40 ∧ 0 < x.1.size ∧ 0 ≤ x.2.2 ∧ x.2.2 ≤ 100000) {p : Option Int} {e : Fed} (h : feedF rs p e = 0) : FedR e ∧ (0 ≤ e.at ∧ e.at ≤ 345686399999) ∧ ordT p e.at = 0 := by
  obtain ⟨t, kd, fd, rk, mn, bd⟩ := e
  unfold feedF at h
  split at h
  · cases h
  rename_i h1
  split at h
  · cases h
  rename_i h2
  split at h
  · cases h
  rename_i h3
  split at h
  · cases h
  rename_i h4
  split at h
  · cases h
  rename_i h5
  split at h
  · cases h
  rename_i h6
  have e1 := inB_of h1
  have e2 := inB_of h2
  refine ⟨?_, e1, h⟩
  simp only [Bool.not_eq_false, formB, Bool.and_eq_true, Bool.or_eq_true, decide_eq_true_eq] at h3
  obtain ⟨⟨⟨f1, f2⟩, f3⟩, f4⟩ := h3
  simp only [kbB, Bool.or_eq_true, Bool.and_eq_true, Bool.not_eq_true', not_or, not_and, Bool.not_eq_false] at h4
  simp only [Bool.and_eq_true, Bool.not_eq_true', not_and, Bool.not_eq_false] at h5
  have k : kd = 1 ∨ kd = 2 ∨ kd = 3 ∨ kd = 4 ∨ kd = 5 := by simp only at e2; omega
  have g1 : fd.size ≤ 40 := by
    by_cases hu : uF kd = true
    · exact (keyB_few (h4.1 hu)).2
    · rw [empty_of (f1.resolve_left hu)]; omega
  have g2 : rk.size ≤ 40 := by
    by_cases hu : uR kd = true
    · obtain ⟨x, hx, rfl⟩ := hasB_mem (h5 hu)
      exact (hrs x hx).1
    · rw [empty_of (f2.resolve_left hu)]; omega
  have g3 : bd.size ≤ 40 := by
    by_cases hu : uB kd = true
    · exact (keyB_few (h4.2 hu)).2
    · rw [empty_of (f4.resolve_left hu)]; omega
  have g4 : 0 ≤ mn ∧ mn ≤ 100000 ∧ (kd = 4 → 1 ≤ mn) := by
    by_cases hu : uM kd = true
    · unfold manyP at h6
      rw [hu, Bool.true_and] at h6
      split at h6
      · exact absurd rfl h6
      rename_i h7
      have h8 : inB (lowM kd) mn 100000 ≠ false := by simpa using h7
      have h9 := inB_of h8
      unfold lowM at h9
      split at h9
      · exact ⟨by omega, h9.2, fun _ => h9.1⟩
      · rename_i h10; exact ⟨h9.1, h9.2, fun e => absurd e h10⟩
    · have h7 : mn = 0 := f3.resolve_left hu
      refine ⟨by omega, by omega, fun e => ?_⟩
      subst e
      exact absurd rfl hu
  refine ⟨e2.1, e2.2, by show fd.size ≤ 1000; omega, by show rk.size ≤ 1000; omega, by show bd.size ≤ 1000; omega, g4.1, g4.2.1, g4.2.2, fun h5' e => ?_⟩
  have hu : uF kd = true := by
    have h9 : kd ≠ 5 := h5'
    have : kd = 1 ∨ kd = 2 ∨ kd = 3 ∨ kd = 4 := by omega
    rcases this with rfl | rfl | rfl | rfl <;> rfl
  have h8 := (keyB_few (h4.1 hu)).1
  have h9 : fd = ByteArray.empty := e
  rw [h9] at h8
  exact absurd h8 (by decide)
theorem feedsF1_right {rs : List Rel} (hrs : ∀ x ∈ rs, x.1.size ≤ 40 ∧ 0 < x.1.size ∧ 0 ≤ x.2.2 ∧ x.2.2 ≤ 100000) : ∀ (l : List Fed) (p : Option Int), feedsF1 rs p l = 0 → (∀ e ∈ l, FedR e ∧ (0 ≤ e.at ∧ e.at ≤ 345686399999) ∧ ∀ q, p = some q → q ≤ e.at) ∧ FedS l
  | [], _, _ => ⟨fun e he => by simp at he, List.Pairwise.nil⟩
  | y :: l, p, h => by
    rw [feedsF1] at h
    split at h
    · rename_i h0
      obtain ⟨h1, h2, h3⟩ := feedF_right hrs h0
      obtain ⟨h4, h5⟩ := feedsF1_right hrs l _ h
      have hp : ∀ q, p = some q → q ≤ y.at := fun q hq => by
        subst hq
        unfold ordT at h3
        simp only at h3
        split at h3
        · cases h3
        · rename_i h6; omega
      refine ⟨fun e he => ?_, List.pairwise_cons.2 ⟨fun e he => (h4 e he).2.2 _ rfl, h5⟩⟩
      rcases List.mem_cons.1 he with rfl | he
      · exact ⟨h1, h2, hp⟩
      · exact ⟨(h4 e he).1, (h4 e he).2.1, fun q hq => Int.le_trans (hp q hq) ((h4 e he).2.2 _ rfl)⟩
    · rename_i h0; exact absurd h h0
/-- reels and events as the checks let them through. -/
structure OkF (rs : List Rel) (l : List Fed) : Prop where
  rn : rs.length ≤ 1000
  rz : ∀ x ∈ rs, x.1.size ≤ 1000 ∧ 0 ≤ x.2.2 ∧ x.2.2 ≤ 100000
  ne : ∀ x ∈ rs, 0 < x.1.size
  lz : ∀ e ∈ l, FedR e
  t : ∀ e ∈ l, e.at ≤ 345686399999
  s : FedS l
theorem feedsF_right {rs : List Rel} {l : List Fed} (h : feedsF rs l = 0) : OkF rs l := by
  unfold feedsF at h
  split at h
  · rename_i h0
    split at h
    · cases h
    · obtain ⟨h1, h2⟩ := reelsF_right h0
      obtain ⟨h3, h4⟩ := feedsF1_right h2 l none h
      exact ⟨h1, fun x hx => by have := h2 x hx; omega, fun x hx => (h2 x hx).2.1, fun e he => (h3 e he).1, fun e he => (h3 e he).2.1.2, h4⟩
  · rename_i h0; exact absurd h h0
theorem storeAt1_any (a b : Value) (W : World) : Calls Tryz.prog 151 #[a, b] W fun e w' => e = .returned (.tuple #[]) ∧ W = w' := by
  go_enter Tryz.func151, Tryz.ntmps151
  go_wp2
  go_end0
  exact ⟨rfl, rfl⟩
/-- what is there at a moment. -/
structure AtM (rs : List Rel) (l : List Fed) (at' : Int) (w : World) (L : Loc) (w' : World) : Prop where
  st : ∃ s N, StM w' L s N ∧ RelP s (runM at' (newM rs) 0 l)
  inv : InvM (runM at' (newM rs) 0 l) l.length
  bel : Below w.heap.size w w'
set_option maxHeartbeats 4000000 in
theorem storeAt_any (rs : List Rel) (l : List Fed) (at' : Int) (vr vl : Value) (w : World) (rr : RecR TRe w 0 vr rs) (rl : RecR TFe w 0 vl l) (h : OkF rs l) (hln : l.length ≤ 900) :
    Calls Tryz.prog 110 #[vr, vl, .int .i64 at'] w fun e w' => ∃ L : Loc, e = .returned (.pointer (some ⟨L.S, 0, none⟩)) ∧ AtM rs l at' w L w' := by
  have C : ClD 151 (fun a b => #[a, b]) l w.heap.size w (fun _ _ _ => True) := ⟨fun _ _ _ _ _ _ _ => trivial, fun k A e W _ _ _ => (storeAt1_any _ _ W).mono fun r W' h => ⟨h.1, trivial, by rw [← h.2]; exact Kf.of_below (Below.refl _ _)⟩⟩
  have HF := Lib.hid (followR_any 151 #[] (fun a b => #[a, b]) (.int .i64 0) (.int .i64 0) (by first | exact .inl ⟨rfl, rfl, rfl⟩ | exact .inr (.inl ⟨rfl, rfl, rfl⟩)) rs l at' vr vl w w.heap.size (fun _ _ _ => True) (Nat.le_refl _) C (fun W hW => rr.below hW) (fun W hW => rl.below hW) h.rn h.rz hln h.lz h.s (fun _ _ => trivial))
  obtain ⟨ra, rc, rfl, _, _⟩ := rr.form
  obtain ⟨la, lc, rfl, _, _⟩ := rl.form
  clear rr rl h hln C
  go_enter Tryz.func110, Tryz.ntmps110
  go_wp2_with fail
  refine HF.out.mono ?_
  rintro e w2 ⟨L, rfl, h2⟩
  have H2 := Lib.hid h2
  clear h2
  go_wp2
  go_ret
  exact ⟨L, rfl, H2.out.st, H2.out.inv, H2.out.bel⟩
end Go.Proofs.YtilhonppgedoiaaGreatDoor
namespace Go.Proofs.YtilhonppgedoiaaGreatDoor
open Go.RowKit Go.Sort Go.Maps
theorem askF_zero {E : Int} {has mom : Bool} {e : Int} (h : askF E has mom e = 0) (he : e ≠ 0) : E = 0 ∧ has = true ∧ mom = true := by
  unfold askF at h
  split at h
  · rename_i h0
    split at h
    · exact absurd h he
    · rename_i h1
      split at h
      · cases h
      · rename_i h2; exact ⟨h0, by simpa using h1, by simpa using h2⟩
  · rename_i h0; exact absurd h h0
theorem StM.parts {w : World} {L : Loc} {s : Sts} {N : Nat} (h : StM w L s N) : w.heap[L.S]? = some (.cells #[.map (some L.m0), .map (some L.m1), .map (some L.m2), .map (some L.m3), .map (some L.m4)] 183 (0, 0)) ∧ MapS TMr w L.m0 s.R ∧ MapS TMh w L.m2 (Fds.hd s.F) ∧ ∀ p ∈ s.F, OwnO w L.B (hdrV p.2.1) p.2.2 := ⟨h.sb.blk, h.sb.mR, h.sb.mF, h.rf.own⟩
/-- what a feeder has, as the model tells. -/
def feederM (rs : List Rel) (l : List Fed) (t : Int) (f : ByteArray) : List Ldd := loadL (runM t (newM rs) 0 l).left ((runM t (newM rs) 0 l).row f)
set_option maxHeartbeats 4000000 in
set_option maxRecDepth 100000 in
theorem Feeder_any (rs : List Rel) (l : List Fed) (f : ByteArray) (t : Int) (vr vl : Value) (w : World) (hlr : rs.length ≤ 1000000) (hl : l.length ≤ 900) (rr : RecR TRe w 0 vr rs) (rl : RecR TFe w 0 vl l) (hzr : RelZ rs) (hz : FedZ l) (hk : f.size ≤ 140737488355328) :
    Calls Tryz.prog 66 #[vr, vl, .string f, .int .i64 t] w fun e w' => (∃ v, e = .returned (.tuple #[v, .int .i64 (askF (feedsF rs l) (keyB f) (inB 0 t 345686399999) 5)]) ∧ OwnR TLo w' w.heap.size v (if askF (feedsF rs l) (keyB f) (inB 0 t 345686399999) 5 = 0 then feederM rs l t f else [])) ∧ Below w.heap.size w w' := by
  have HFA := Lib.hid (feederFault_any rs l f t vr vl w hlr (by omega) rr rl hzr hz hk)
  have RR := Lib.hid rr
  have RL := Lib.hid rl
  obtain ⟨ra, rc, rfl, _, _⟩ := rr.form
  obtain ⟨la, lc, rfl, _, _⟩ := rl.form
  obtain ⟨E, hE⟩ : ∃ E, E = askF (feedsF rs l) (keyB f) (inB 0 t 345686399999) 5 := ⟨_, rfl⟩
  rw [← hE] at HFA ⊢
  by_cases h0 : E = 0
  case neg =>
    have hb : (E == 0) = false := by simp [h0]
    have HV : Hid (∀ W, OwnR TLo W w.heap.size (.slice none 0 0) (if E = 0 then feederM rs l t f else [])) := Lib.hid fun W => by rw [if_neg h0]; exact OwnR.nil _ _
    clear rr rl hE
    go_enter Tryz.func66, Tryz.ntmps66
    go_wp2_with fail
    refine HFA.out.mono ?_
    rintro e w2 ⟨rfl, hb2⟩
    have HB := Lib.hid hb2
    clear hb2
    go_wp2
    go_ret2
    exact ⟨⟨_, rfl, (by first | exact HV.out _ | exact OwnR.nil _ _)⟩, HB.out⟩
  case pos =>
    rw [hE] at h0
    have hok := feedsF_right (askF_zero h0 (by decide)).1
    rw [← hE] at h0
    have hkf := keyB_few (askF_zero (hE ▸ h0) (by decide)).2.1
    have HOK := Lib.hid hok
    have HKF := Lib.hid hkf
    have HLN := Lib.hid hl
    subst h0
    have HV : Hid (∀ W v, OwnR TLo W w.heap.size v (feederM rs l t f) → OwnR TLo W w.heap.size v (if (0 : Int) = 0 then feederM rs l t f else [])) := Lib.hid fun W v h => by rw [if_pos rfl]; exact h
    clear rr rl hE hok hkf
    go_enter Tryz.func66, Tryz.ntmps66
    go_wp2_with fail
    refine HFA.out.mono ?_
    rintro e w2 ⟨rfl, hb2⟩
    have HB2 := Lib.hid hb2
    have HAT := Lib.hid (storeAt_any rs l t _ _ w2 (RR.out.below hb2) (RL.out.below hb2) HOK.out HLN.out)
    clear hb2
    go_wp2_with fail
    refine HAT.out.mono ?_
    rintro e w3 ⟨L, rfl, h3⟩
    obtain ⟨s, N, hS, hR⟩ := h3.st
    obtain ⟨p1, p2, p3, p4⟩ := hS.parts
    have HLO := Lib.hid (Loaded_any L.S L.m0 L.m1 L.m2 L.m3 L.m4 L.B f w3 s.R s.F p1 p2 p3 p4 (Nat.le_trans HKF.out.2 (by unfold maxLen; omega)) (fun x hx => Nat.le_trans (h3.inv.sz f x (by rw [← hR.row]; exact hx)) (by unfold maxLen; omega)) (by rw [hR.row]; have := h3.inv.ln f; have := HLN.out; omega))
    rw [hR.left, hR.row] at HLO
    have HB3 := Lib.hid (Bl.trans HB2.out h3.bel)
    clear h3 hS hR p1 p2 p3 p4 HAT
    go_wp2_with fail
    refine HLO.out.mono ?_
    rintro e w4 ⟨⟨v, rfl, hO⟩, hb4⟩
    have HF := Lib.hid (And.intro (HV.out _ v (hO.base HB3.out.size)) (Bl.trans HB3.out hb4))
    clear hO hb4 HLO
    go_wp2
    go_ret2
    exact ⟨⟨_, rfl, HF.out.1⟩, HF.out.2⟩
end Go.Proofs.YtilhonppgedoiaaGreatDoor
namespace Go.Proofs.YtilhonppgedoiaaGreatDoor
open Go.RowKit Go.Sort Go.Maps
def TNq : Rty Int := { e := 3, S := 22, k := 1, b := 8, z := .int .i64 0, f := fun n => [.int .i64 n] }
theorem TNq.ok : TNq.Ok := ⟨by kernel_rfl, Tryz.underlying22, rfl, by decide, fun _ => rfl, fun x u hu => by simp [TNq] at hu; subst hu; rfl, by decide⟩
def TEq : Rty Int := { e := 30, S := 45, k := 1, b := 8, z := .int .i64 0, f := fun n => [.int .i64 n] }
theorem TEq.ok : TEq.Ok := ⟨by kernel_rfl, Tryz.underlying45, rfl, by decide, fun _ => rfl, fun x u hu => by simp [TEq] at hu; subst hu; rfl, by decide⟩
/-- which events are refused, and why. -/
def refsM (at' : Int) : Mdl → Nat → List Fed → List (Int × Int)
  | _, _, [] => []
  | A, i, e :: l => if at' < e.at then refsM at' A (i + 1) l else if refM A e = 0 then refsM at' (stepM A i e) (i + 1) l else ((i : Int), refM A e) :: refsM at' (stepM A i e) (i + 1) l
theorem refsM_skip {at' : Int} {l : List Fed} {k : Nat} {e : Fed} {A : Mdl} (hs : l[k]? = some e) (h : at' < e.at) : refsM at' A k (l.drop k) = refsM at' A (k + 1) (l.drop (k + 1)) := by
  obtain ⟨hk, he⟩ := List.getElem?_eq_some_iff.1 hs
  rw [List.drop_eq_getElem_cons hk, he, refsM, if_pos h]
theorem refsM_ok {at' : Int} {l : List Fed} {k : Nat} {e : Fed} {A : Mdl} (hs : l[k]? = some e) (h : ¬ at' < e.at) (h0 : refM A e = 0) : refsM at' A k (l.drop k) = refsM at' (stepM A k e) (k + 1) (l.drop (k + 1)) := by
  obtain ⟨hk, he⟩ := List.getElem?_eq_some_iff.1 hs
  rw [List.drop_eq_getElem_cons hk, he, refsM, if_neg h, if_pos h0]
theorem refsM_no {at' : Int} {l : List Fed} {k : Nat} {e : Fed} {A : Mdl} (hs : l[k]? = some e) (h : ¬ at' < e.at) (h0 : refM A e ≠ 0) : refsM at' A k (l.drop k) = ((k : Int), refM A e) :: refsM at' (stepM A k e) (k + 1) (l.drop (k + 1)) := by
  obtain ⟨hk, he⟩ := List.getElem?_eq_some_iff.1 hs
  rw [List.drop_eq_getElem_cons hk, he, refsM, if_neg h, if_neg h0]
theorem OwnR.kt {α : Type} {T : Rty α} {w w' : World} {B B' : Nat} {v : Value} {l : List α} (h : OwnR T w B v l) (hK : Kt B' w w') (ht : T.e ≠ 9 ∧ T.e ≠ 219 ∧ T.e ≠ 188 ∧ T.e ≠ 223 ∧ T.e ≠ 183) : OwnR T w' B v l :=
  (ownR_k T B).keep h fun k e => by
    obtain ⟨_, cur, hc⟩ := (ownR_k T B).blk h e
    exact hK.block k (blk_lt hc) (.inr ⟨cur, _, hc, ht⟩)
theorem own_fix {α : Type} {T : Rty α} {w : World} {B : Nat} {v : Value} {l : List α} (h : OwnR T w B v l) (ht : T.e ≠ 9 ∧ T.e ≠ 219 ∧ T.e ≠ 188 ∧ T.e ≠ 223 ∧ T.e ≠ 183) : ∀ g, v.ownBlock = some g → Fix w g := fun g e => by
  obtain ⟨_, cur, hc⟩ := (ownR_k T B).blk h e
  exact ⟨cur, _, hc, ht⟩
theorem own_apart {α β : Type} {T : Rty α} {U : Rty β} {w w' : World} {B C : Nat} {v u : Value} {l : List α} {m : List β} (h : OwnR T w B v l) (hu : OwnR U w C u m) (hg : w.grownBy w' u.ownBlock) (hne : T.e ≠ U.e) : OwnR T w' B v l :=
  (ownR_k T B).keep h fun k e => by
    obtain ⟨_, cur, hc⟩ := (ownR_k T B).blk h e
    refine hg.block k (blk_lt hc) fun e1 => ?_
    obtain ⟨_, cur', hc'⟩ := (ownR_k U C).blk hu e1.symm
    rw [hc] at hc'
    injection hc' with hc'
    injection hc' with _ hc' _
    exact hne hc'
end Go.Proofs.YtilhonppgedoiaaGreatDoor
