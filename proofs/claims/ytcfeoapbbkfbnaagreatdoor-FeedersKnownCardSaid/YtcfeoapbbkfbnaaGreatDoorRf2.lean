/- What the checks say of reels and events; the program's store at a moment. Conditions: reels and events that the checks let through, at most 900 events. · The program's answers: Feeder, Left, Where, Lasts. Conditions: at most 900 events, 10^6 reels, strings of at most 2^47 bytes. · The reference's answers: FeederOf, LeftOn, WhereIs, LastsFor; the program's Lasts. Conditions: right reels and events, at most 900 events. -/
import Derived.Test.YtcfeoapbbkfbnaaGreatDoorReR
import Derived.Test.YtcfeoapbbkfbnaaGreatDoorReG
import Derived.Test.YtcfeoapbbkfbnaaGreatDoorReY
namespace Go.Proofs.YtcfeoapbbkfbnaaGreatDoor
open Go.RowKit Go.Sort Go.Maps

theorem keyB_few {s : ByteArray} (h : keyB s = true) : 0 < s.size ∧ s.size ≤ 40 := by
  unfold keyB at h
  simp only [Bool.and_eq_true, decide_eq_true_eq] at h
  exact ⟨h.1.1.1, h.1.1.2⟩
theorem inB_of {a n b : Int} (h : inB a n b ≠ false) : a ≤ n ∧ n ≤ b := by
  unfold inB at h
  simp only [ne_eq, Bool.not_eq_false, Bool.and_eq_true, decide_eq_true_eq] at h
  exact h
theorem empty_of {s : ByteArray} (h : s.toList.isEmpty = true) : s.size = 0 := by
  have h1 := List.isEmpty_iff.1 h
  rw [ByteArray.toList_eq] at h1
  show s.data.size = 0
  rw [← Array.length_toList, h1]; rfl
theorem reelF_right {p : Option ByteArray} {x : Rel} (h : reelF p x = 0) : x.1.size ≤ 40 ∧ 0 < x.1.size ∧ 0 ≤ x.2.2 ∧ x.2.2 ≤ 100000 := by
  unfold reelF at h
  split at h
  · cases h
  rename_i h1
  split at h
  · cases h
  split at h
  · cases h
  rename_i h3
  have h4 := keyB_few (by simpa using h1)
  have h5 := inB_of h3
  exact ⟨h4.2, h4.1, h5.1, h5.2⟩
theorem reelsF1_right : ∀ (l : List Rel) (p : Option ByteArray), reelsF1 p l = 0 → ∀ x ∈ l, x.1.size ≤ 40 ∧ 0 < x.1.size ∧ 0 ≤ x.2.2 ∧ x.2.2 ≤ 100000
  | [], _, _, x, hx => by simp at hx
  | y :: l, p, h, x, hx => by
    rw [reelsF1] at h
    split at h
    · rename_i h0
      rcases List.mem_cons.1 hx with rfl | hx
      · exact reelF_right h0
      · exact reelsF1_right l _ h x hx
    · rename_i h0; exact absurd h h0
theorem reelsF_right {rs : List Rel} (h : reelsF rs = 0) : rs.length ≤ 1000 ∧ ∀ x ∈ rs, x.1.size ≤ 40 ∧ 0 < x.1.size ∧ 0 ≤ x.2.2 ∧ x.2.2 ≤ 100000 := by
  unfold reelsF at h
  split at h
  · cases h
  · rename_i h1; exact ⟨by omega, reelsF1_right rs none h⟩
theorem hasB_mem {rs : List Rel} {k : ByteArray} (h : hasB rs k = true) : ∃ x ∈ rs, x.1 = k := by
  unfold hasB at h
  obtain ⟨x, hx, h1⟩ := List.any_eq_true.1 h
  exact ⟨x, hx, (ba_eq_iff _ _).1 (by simpa using h1)⟩
theorem feedF_right {rs : List Rel} (hrs : ∀ x ∈ rs, x.1.size ≤ 40 ∧ 0 < x.1.size ∧ 0 ≤ x.2.2 ∧ x.2.2 ≤ 100000) {p : Option Int} {e : Fed} (h : feedF rs p e = 0) : FedR e ∧ (0 ≤ e.at ∧ e.at ≤ 345686399999) ∧ ordT p e.at = 0 := by
  obtain ⟨t, kd, fd, rk, mn, bd⟩ := e
  unfold feedF at h
  split at h
  · cases h
  rename_i h1
  split at h
  · cases h
  rename_i h2
  split at h
  · cases h
  rename_i h3
  split at h
  · cases h
  rename_i h4
  split at h
  · cases h
  rename_i h5
  split at h
  · cases h
  rename_i h6
  have e1 := inB_of h1
  have e2 := inB_of h2
  refine ⟨?_, e1, h⟩
  simp only [Bool.not_eq_false, formB, Bool.and_eq_true, Bool.or_eq_true, decide_eq_true_eq] at h3
  obtain ⟨⟨⟨f1, f2⟩, f3⟩, f4⟩ := h3
  simp only [kbB, Bool.or_eq_true, Bool.and_eq_true, Bool.not_eq_true', not_or, not_and, Bool.not_eq_false] at h4
  simp only [Bool.and_eq_true, Bool.not_eq_true', not_and, Bool.not_eq_false] at h5
  have k : kd = 1 ∨ kd = 2 ∨ kd = 3 ∨ kd = 4 ∨ kd = 5 := by simp only at e2; omega
  have g1 : fd.size ≤ 40 := by
    by_cases hu : uF kd = true
    · exact (keyB_few (h4.1 hu)).2
    · rw [empty_of (f1.resolve_left hu)]; omega
  have g2 : rk.size ≤ 40 := by
    by_cases hu : uR kd = true
    · obtain ⟨x, hx, rfl⟩ := hasB_mem (h5 hu)
      exact (hrs x hx).1
    · rw [empty_of (f2.resolve_left hu)]; omega
  have g3 : bd.size ≤ 40 := by
    by_cases hu : uB kd = true
    · exact (keyB_few (h4.2 hu)).2
    · rw [empty_of (f4.resolve_left hu)]; omega
  have g4 : 0 ≤ mn ∧ mn ≤ 100000 ∧ (kd = 4 → 1 ≤ mn) := by
    by_cases hu : uM kd = true
    · unfold manyP at h6
      rw [hu, Bool.true_and] at h6
      split at h6
      · exact absurd rfl h6
      rename_i h7
      have h8 : inB (lowM kd) mn 100000 ≠ false := by simpa using h7
      have h9 := inB_of h8
      unfold lowM at h9
      split at h9
      · exact ⟨by omega, h9.2, fun _ => h9.1⟩
      · rename_i h10; exact ⟨h9.1, h9.2, fun e => absurd e h10⟩
    · have h7 : mn = 0 := f3.resolve_left hu
      refine ⟨by omega, by omega, fun e => ?_⟩
      subst e
      exact absurd rfl hu
  refine ⟨e2.1, e2.2, by show fd.size ≤ 1000; omega, by show rk.size ≤ 1000; omega, by show bd.size ≤ 1000; omega, g4.1, g4.2.1, g4.2.2, fun h5' e => ?_⟩
  have hu : uF kd = true := by
    have h9 : kd ≠ 5 := h5'
    have : kd = 1 ∨ kd = 2 ∨ kd = 3 ∨ kd = 4 := by omega
    rcases this with rfl | rfl | rfl | rfl <;> rfl
  have h8 := (keyB_few (h4.1 hu)).1
  have h9 : fd = ByteArray.empty := e
  rw [h9] at h8
  exact absurd h8 (by decide)
theorem feedsF1_right {rs : List Rel} (hrs : ∀ x ∈ rs, x.1.size ≤ 40 ∧ 0 < x.1.size ∧ 0 ≤ x.2.2 ∧ x.2.2 ≤ 100000) : ∀ (l : List Fed) (p : Option Int), feedsF1 rs p l = 0 → (∀ e ∈ l, FedR e ∧ (0 ≤ e.at ∧ e.at ≤ 345686399999) ∧ ∀ q, p = some q → q ≤ e.at) ∧ FedS l
  | [], _, _ => ⟨fun e he => by simp at he, List.Pairwise.nil⟩
  | y :: l, p, h => by
    rw [feedsF1] at h
    split at h
    · rename_i h0
      obtain ⟨h1, h2, h3⟩ := feedF_right hrs h0
      obtain ⟨h4, h5⟩ := feedsF1_right hrs l _ h
      have hp : ∀ q, p = some q → q ≤ y.at := fun q hq => by
        subst hq
        unfold ordT at h3
        simp only at h3
        split at h3
        · cases h3
        · rename_i h6; omega
      refine ⟨fun e he => ?_, List.pairwise_cons.2 ⟨fun e he => (h4 e he).2.2 _ rfl, h5⟩⟩
      rcases List.mem_cons.1 he with rfl | he
      · exact ⟨h1, h2, hp⟩
      · exact ⟨(h4 e he).1, (h4 e he).2.1, fun q hq => Int.le_trans (hp q hq) ((h4 e he).2.2 _ rfl)⟩
    · rename_i h0; exact absurd h h0
/-- reels and events as the checks let them through. -/
structure OkF (rs : List Rel) (l : List Fed) : Prop where
  rn : rs.length ≤ 1000
  rz : ∀ x ∈ rs, x.1.size ≤ 1000 ∧ 0 ≤ x.2.2 ∧ x.2.2 ≤ 100000
  ne : ∀ x ∈ rs, 0 < x.1.size
  lz : ∀ e ∈ l, FedR e
  t : ∀ e ∈ l, e.at ≤ 345686399999
  s : FedS l
theorem feedsF_right {rs : List Rel} {l : List Fed} (h : feedsF rs l = 0) : OkF rs l := by
  unfold feedsF at h
  split at h
  · rename_i h0
    split at h
    · cases h
    · obtain ⟨h1, h2⟩ := reelsF_right h0
      obtain ⟨h3, h4⟩ := feedsF1_right h2 l none h
      exact ⟨h1, fun x hx => by have := h2 x hx; omega, fun x hx => (h2 x hx).2.1, fun e he => (h3 e he).1, fun e he => (h3 e he).2.1.2, h4⟩
  · rename_i h0; exact absurd h h0
theorem storeAt1_any (a b : Value) (W : World) : Calls Tryz.prog 115 #[a, b] W fun e w' => e = .returned (.tuple #[]) ∧ W = w' := by
  go_enter Tryz.func115, Tryz.ntmps115
  go_wp2
  go_end0
  exact ⟨rfl, rfl⟩
/-- what is there at a moment. -/
structure AtM (rs : List Rel) (l : List Fed) (at' : Int) (w : World) (L : Loc) (w' : World) : Prop where
  st : ∃ s N, StM w' L s N ∧ RelP s (runM at' (newM rs) 0 l)
  inv : InvM (runM at' (newM rs) 0 l) l.length
  bel : Below w.heap.size w w'
set_option maxHeartbeats 4000000 in
theorem storeAt_any (rs : List Rel) (l : List Fed) (at' : Int) (vr vl : Value) (w : World) (rr : RecR TRe w 0 vr rs) (rl : RecR TFe w 0 vl l) (h : OkF rs l) (hln : l.length ≤ 900) :
    Calls Tryz.prog 73 #[vr, vl, .int .i64 at'] w fun e w' => ∃ L : Loc, e = .returned (.pointer (some ⟨L.S, 0, none⟩)) ∧ AtM rs l at' w L w' := by
  have C : ClD 115 (fun a b => #[a, b]) l w.heap.size w (fun _ _ _ => True) := ⟨fun _ _ _ _ _ _ _ => trivial, fun k A e W _ _ _ => (storeAt1_any _ _ W).mono fun r W' h => ⟨h.1, trivial, by rw [← h.2]; exact Kf.of_below (Below.refl _ _)⟩⟩
  have HF := Lib.hid (followR_any 115 #[] (fun a b => #[a, b]) (.int .i64 0) (.int .i64 0) (by first | exact .inl ⟨rfl, rfl, rfl⟩ | exact .inr (.inl ⟨rfl, rfl, rfl⟩)) rs l at' vr vl w w.heap.size (fun _ _ _ => True) (Nat.le_refl _) C (fun W hW => rr.below hW) (fun W hW => rl.below hW) h.rn h.rz hln h.lz h.s (fun _ _ => trivial))
  obtain ⟨ra, rc, rfl, _, _⟩ := rr.form
  obtain ⟨la, lc, rfl, _, _⟩ := rl.form
  clear rr rl h hln C
  go_enter Tryz.func73, Tryz.ntmps73
  go_wp2_with fail
  refine HF.out.mono ?_
  rintro e w2 ⟨L, rfl, h2⟩
  have H2 := Lib.hid h2
  clear h2
  go_wp2
  go_ret
  exact ⟨L, rfl, H2.out.st, H2.out.inv, H2.out.bel⟩
end Go.Proofs.YtcfeoapbbkfbnaaGreatDoor
namespace Go.Proofs.YtcfeoapbbkfbnaaGreatDoor
open Go.RowKit Go.Sort Go.Maps

theorem askF_zero {E : Int} {has mom : Bool} {e : Int} (h : askF E has mom e = 0) (he : e ≠ 0) : E = 0 ∧ has = true ∧ mom = true := by
  unfold askF at h
  split at h
  · rename_i h0
    split at h
    · exact absurd h he
    · rename_i h1
      split at h
      · cases h
      · rename_i h2; exact ⟨h0, by simpa using h1, by simpa using h2⟩
  · rename_i h0; exact absurd h h0
theorem StM.parts {w : World} {L : Loc} {s : Sts} {N : Nat} (h : StM w L s N) : w.heap[L.S]? = some (.cells #[.map (some L.m0), .map (some L.m1), .map (some L.m2), .map (some L.m3), .map (some L.m4)] 130 (0, 0)) ∧ MapS TMr w L.m0 s.R ∧ MapS TMh w L.m2 (Fds.hd s.F) ∧ ∀ p ∈ s.F, OwnO w L.B (hdrV p.2.1) p.2.2 := ⟨h.sb.blk, h.sb.mR, h.sb.mF, h.rf.own⟩
/-- what a feeder has, as the model tells. -/
def feederM (rs : List Rel) (l : List Fed) (t : Int) (f : ByteArray) : List Ldd := loadL (runM t (newM rs) 0 l).left ((runM t (newM rs) 0 l).row f)
set_option maxHeartbeats 4000000 in
set_option maxRecDepth 100000 in
theorem Feeder_any (rs : List Rel) (l : List Fed) (f : ByteArray) (t : Int) (vr vl : Value) (w : World) (hlr : rs.length ≤ 1000000) (hl : l.length ≤ 900) (rr : RecR TRe w 0 vr rs) (rl : RecR TFe w 0 vl l) (hzr : RelZ rs) (hz : FedZ l) (hk : f.size ≤ 140737488355328) :
    Calls Tryz.prog 15 #[vr, vl, .string f, .int .i64 t] w fun e w' => (∃ v, e = .returned (.tuple #[v, .int .i64 (askF (feedsF rs l) (keyB f) (inB 0 t 345686399999) 5)]) ∧ OwnR TLo w' w.heap.size v (if askF (feedsF rs l) (keyB f) (inB 0 t 345686399999) 5 = 0 then feederM rs l t f else [])) ∧ Below w.heap.size w w' := by
  have HFA := Lib.hid (feederFault_any rs l f t vr vl w hlr (by omega) rr rl hzr hz hk)
  have RR := Lib.hid rr
  have RL := Lib.hid rl
  obtain ⟨ra, rc, rfl, _, _⟩ := rr.form
  obtain ⟨la, lc, rfl, _, _⟩ := rl.form
  obtain ⟨E, hE⟩ : ∃ E, E = askF (feedsF rs l) (keyB f) (inB 0 t 345686399999) 5 := ⟨_, rfl⟩
  rw [← hE] at HFA ⊢
  by_cases h0 : E = 0
  case neg =>
    have hb : (E == 0) = false := by simp [h0]
    have HV : Hid (∀ W, OwnR TLo W w.heap.size (.slice none 0 0) (if E = 0 then feederM rs l t f else [])) := Lib.hid fun W => by rw [if_neg h0]; exact OwnR.nil _ _
    clear rr rl hE
    go_enter Tryz.func15, Tryz.ntmps15
    go_wp2_with fail
    refine HFA.out.mono ?_
    rintro e w2 ⟨rfl, hb2⟩
    have HB := Lib.hid hb2
    clear hb2
    go_wp2
    go_ret2
    exact ⟨⟨_, rfl, (by first | exact HV.out _ | exact OwnR.nil _ _)⟩, HB.out⟩
  case pos =>
    rw [hE] at h0
    have hok := feedsF_right (askF_zero h0 (by decide)).1
    rw [← hE] at h0
    have hkf := keyB_few (askF_zero (hE ▸ h0) (by decide)).2.1
    have HOK := Lib.hid hok
    have HKF := Lib.hid hkf
    have HLN := Lib.hid hl
    subst h0
    have HV : Hid (∀ W v, OwnR TLo W w.heap.size v (feederM rs l t f) → OwnR TLo W w.heap.size v (if (0 : Int) = 0 then feederM rs l t f else [])) := Lib.hid fun W v h => by rw [if_pos rfl]; exact h
    clear rr rl hE hok hkf
    go_enter Tryz.func15, Tryz.ntmps15
    go_wp2_with fail
    refine HFA.out.mono ?_
    rintro e w2 ⟨rfl, hb2⟩
    have HB2 := Lib.hid hb2
    have HAT := Lib.hid (storeAt_any rs l t _ _ w2 (RR.out.below hb2) (RL.out.below hb2) HOK.out HLN.out)
    clear hb2
    go_wp2_with fail
    refine HAT.out.mono ?_
    rintro e w3 ⟨L, rfl, h3⟩
    obtain ⟨s, N, hS, hR⟩ := h3.st
    obtain ⟨p1, p2, p3, p4⟩ := hS.parts
    have HLO := Lib.hid (Loaded_any L.S L.m0 L.m1 L.m2 L.m3 L.m4 L.B f w3 s.R s.F p1 p2 p3 p4 (Nat.le_trans HKF.out.2 (by unfold maxLen; omega)) (fun x hx => Nat.le_trans (h3.inv.sz f x (by rw [← hR.row]; exact hx)) (by unfold maxLen; omega)) (by rw [hR.row]; have := h3.inv.ln f; have := HLN.out; omega))
    rw [hR.left, hR.row] at HLO
    have HB3 := Lib.hid (Bl.trans HB2.out h3.bel)
    clear h3 hS hR p1 p2 p3 p4 HAT
    go_wp2_with fail
    refine HLO.out.mono ?_
    rintro e w4 ⟨⟨v, rfl, hO⟩, hb4⟩
    have HF := Lib.hid (And.intro (HV.out _ v (hO.base HB3.out.size)) (Bl.trans HB3.out hb4))
    clear hO hb4 HLO
    go_wp2
    go_ret2
    exact ⟨⟨_, rfl, HF.out.1⟩, HF.out.2⟩
set_option maxHeartbeats 4000000 in
set_option maxRecDepth 100000 in
theorem LeftR_any (rs : List Rel) (l : List Fed) (f : ByteArray) (t : Int) (vr vl : Value) (w : World) (hlr : rs.length ≤ 1000000) (hl : l.length ≤ 900) (rr : RecR TRe w 0 vr rs) (rl : RecR TFe w 0 vl l) (hzr : RelZ rs) (hz : FedZ l) :
    Calls Tryz.prog 16 #[vr, vl, .string f, .int .i64 t] w fun e w' => e = .returned (.tuple #[.int .i64 (if askF (feedsF rs l) (hasB rs f) (inB 0 t 345686399999) 8 = 0 then (runM t (newM rs) 0 l).left f else 0), .int .i64 (askF (feedsF rs l) (hasB rs f) (inB 0 t 345686399999) 8)]) ∧ Below w.heap.size w w' := by
  have HFA := Lib.hid (reelFault_any rs l f t vr vl w hlr (by omega) rr rl hzr hz)
  have RR := Lib.hid rr
  have RL := Lib.hid rl
  obtain ⟨ra, rc, rfl, _, _⟩ := rr.form
  obtain ⟨la, lc, rfl, _, _⟩ := rl.form
  obtain ⟨E, hE⟩ : ∃ E, E = askF (feedsF rs l) (hasB rs f) (inB 0 t 345686399999) 8 := ⟨_, rfl⟩
  rw [← hE] at HFA ⊢
  obtain ⟨G, hG⟩ : ∃ G, G = if E = 0 then (runM t (newM rs) 0 l).left f else 0 := ⟨_, rfl⟩
  rw [← hG]
  by_cases h0 : E = 0
  case neg =>
    have hb : (E == 0) = false := by simp [h0]
    have HG : Hid (G = 0) := Lib.hid (by rw [hG, if_neg h0])
    clear rr rl hE hG
    go_enter Tryz.func16, Tryz.ntmps16
    go_wp2_with fail
    refine HFA.out.mono ?_
    rintro e w2 ⟨rfl, hb2⟩
    have HB := Lib.hid hb2
    clear hb2
    go_wp2
    go_ret2
    exact ⟨by rw [HG.out] <;> rfl, HB.out⟩
  case pos =>
    have HG : Hid (G = (runM t (newM rs) 0 l).left f) := Lib.hid (by rw [hG, if_pos h0])
    rw [hE] at h0
    have hok := feedsF_right (askF_zero h0 (by decide)).1
    obtain ⟨x, hx, hxk⟩ := hasB_mem (askF_zero h0 (by decide)).2.1
    have HKF : Hid (f.size ≤ maxLen) := Lib.hid (by rw [← hxk]; exact Nat.le_trans (hok.rz x hx).1 (by unfold maxLen; omega))
    rw [← hE] at h0
    have HOK := Lib.hid hok
    have HLN := Lib.hid hl
    subst h0
    clear rr rl hE hok hG hx hxk
    go_enter Tryz.func16, Tryz.ntmps16
    go_wp2_with fail
    refine HFA.out.mono ?_
    rintro e w2 ⟨rfl, hb2⟩
    have HB2 := Lib.hid hb2
    have HAT := Lib.hid (storeAt_any rs l t _ _ w2 (RR.out.below hb2) (RL.out.below hb2) HOK.out HLN.out)
    clear hb2
    go_wp2_with fail
    refine HAT.out.mono ?_
    rintro e w3 ⟨L, rfl, h3⟩
    obtain ⟨s, N, hS, hR⟩ := h3.st
    obtain ⟨qk, hq⟩ := hS.reelB f HKF.out
    obtain ⟨qp, hqp⟩ : ∃ qp, qp = ptO s.R f := ⟨_, rfl⟩
    have hq0 := hq w3 (Below.refl _ _)
    rw [hR.left, ← HG.out, ← hqp] at hq0
    have hfi : ∀ W, (Instr.field 73 (.agg #[.string qk, .string qp, .int .i64 G]) 2).run Tryz.prog W = .ok (.int .i64 G) W := fun _ => rfl
    have c0 : w3.cell? ⟨L.S, 0, none⟩ = some (.map (some L.m0)) := hS.cells.1
    have lS := hS.lt.1
    have HB3 := Lib.hid (Bl.trans HB2.out h3.bel)
    clear h3 hS hR hq hqp HAT
    go_wp2
    go_ret2
    exact ⟨rfl, HB3.out⟩
set_option maxHeartbeats 4000000 in
set_option maxRecDepth 100000 in
theorem Where_any (rs : List Rel) (l : List Fed) (f : ByteArray) (t : Int) (vr vl : Value) (w : World) (hlr : rs.length ≤ 1000000) (hl : l.length ≤ 900) (rr : RecR TRe w 0 vr rs) (rl : RecR TFe w 0 vl l) (hzr : RelZ rs) (hz : FedZ l) :
    Calls Tryz.prog 17 #[vr, vl, .string f, .int .i64 t] w fun e w' => (∃ (q : ByteArray) (b : Bool), e = .returned (.tuple #[.string q, .bool b, .int .i64 (askF (feedsF rs l) (hasB rs f) (inB 0 t 345686399999) 8)]) ∧
      (askF (feedsF rs l) (hasB rs f) (inB 0 t 345686399999) 8 = 0 → q = (runM t (newM rs) 0 l).pos f ∧ b = decide ((runM t (newM rs) 0 l).pos f ≠ ByteArray.empty)) ∧ (askF (feedsF rs l) (hasB rs f) (inB 0 t 345686399999) 8 ≠ 0 → q = ByteArray.empty ∧ b = false)) ∧ Below w.heap.size w w' := by
  have HFA := Lib.hid (reelFault_any rs l f t vr vl w hlr (by omega) rr rl hzr hz)
  have RR := Lib.hid rr
  have RL := Lib.hid rl
  obtain ⟨ra, rc, rfl, _, _⟩ := rr.form
  obtain ⟨la, lc, rfl, _, _⟩ := rl.form
  obtain ⟨E, hE⟩ : ∃ E, E = askF (feedsF rs l) (hasB rs f) (inB 0 t 345686399999) 8 := ⟨_, rfl⟩
  rw [← hE] at HFA ⊢
  by_cases h0 : E = 0
  case neg =>
    have hb : (E == 0) = false := by simp [h0]
    have H0 := Lib.hid h0
    clear rr rl hE
    go_enter Tryz.func17, Tryz.ntmps17
    go_wp2_with fail
    refine HFA.out.mono ?_
    rintro e w2 ⟨rfl, hb2⟩
    have HB := Lib.hid hb2
    clear hb2
    go_wp2
    go_ret3
    exact ⟨⟨_, _, rfl, fun h => absurd h H0.out, fun _ => ⟨rfl, rfl⟩⟩, HB.out⟩
  case pos =>
    rw [hE] at h0
    have hok := feedsF_right (askF_zero h0 (by decide)).1
    obtain ⟨x, hx, hxk⟩ := hasB_mem (askF_zero h0 (by decide)).2.1
    have HKF : Hid (f.size ≤ maxLen) := Lib.hid (by rw [← hxk]; exact Nat.le_trans (hok.rz x hx).1 (by unfold maxLen; omega))
    rw [← hE] at h0
    have HOK := Lib.hid hok
    have HLN := Lib.hid hl
    subst h0
    clear rr rl hE hok hx hxk
    go_enter Tryz.func17, Tryz.ntmps17
    go_wp2_with fail
    refine HFA.out.mono ?_
    rintro e w2 ⟨rfl, hb2⟩
    have HB2 := Lib.hid hb2
    have HAT := Lib.hid (storeAt_any rs l t _ _ w2 (RR.out.below hb2) (RL.out.below hb2) HOK.out HLN.out)
    clear hb2
    go_wp2_with fail
    refine HAT.out.mono ?_
    rintro e w3 ⟨L, rfl, h3⟩
    obtain ⟨s, N, hS, hR⟩ := h3.st
    obtain ⟨q, b, hlk, hqb⟩ : ∃ (q : ByteArray) (b : Bool), (Instr.lookup 125 (.map (some L.m1)) (.string f) true).run Tryz.prog w3 = .ok (.tuple #[.string q, .bool b]) w3 ∧ (q = (runM t (newM rs) 0 l).pos f ∧ b = decide ((runM t (newM rs) 0 l).pos f ≠ ByteArray.empty)) := by
      refine ⟨(s.P.get f.data.toList).getD ByteArray.empty, s.P.has f.data.toList, hS.sb.mP.look_ok TMs.ok f HKF.out, ?_⟩
      unfold Sm.has
      rw [hR.pos]
      by_cases h0 : (runM t (newM rs) 0 l).pos f = ByteArray.empty
      · rw [if_pos h0, h0]; exact ⟨rfl, rfl⟩
      · rw [if_neg h0]; exact ⟨rfl, by simp [h0]⟩
    have HQB := Lib.hid hqb
    have c1 : w3.cell? ⟨L.S, 1, none⟩ = some (.map (some L.m1)) := hS.cells.2.1
    have lS := hS.lt.1
    have HB3 := Lib.hid (Bl.trans HB2.out h3.bel)
    clear h3 hS hR hqb HAT
    go_wp2
    go_ret3
    exact ⟨⟨_, _, rfl, fun _ => HQB.out, fun h => absurd rfl h⟩, HB3.out⟩
end Go.Proofs.YtcfeoapbbkfbnaaGreatDoor
namespace Go.Proofs.YtcfeoapbbkfbnaaGreatDoor
open Go.RowKit Go.Sort Go.Maps

set_option maxHeartbeats 4000000 in
set_option maxRecDepth 100000 in
theorem FeederOf_any (rs : List Rel) (l : List Fed) (f : ByteArray) (t : Int) (vr vl : Value) (w : World) (rr : RecR TRe w 0 vr rs) (rl : RecR TFe w 0 vl l) (h : OkF rs l) (hln : l.length ≤ 900) (hf : f.size ≤ maxLen) :
    Calls Tryz.prog 28 #[vr, vl, .string f, .int .i64 t] w fun e w' => (∃ v, e = .returned v ∧ OwnR TLo w' w.heap.size v (feederM rs l t f)) ∧ Below w.heap.size w w' := by
  have HST := Lib.hid (stored_any rs l t vr vl w rr rl h.rn h.rz hln h.lz)
  have HLN := Lib.hid hln
  have HF := Lib.hid hf
  obtain ⟨ra, rc, rfl, _, _⟩ := rr.form
  obtain ⟨la, lc, rfl, _, _⟩ := rl.form
  clear rr rl h hln hf
  go_enter Tryz.func28, Tryz.ntmps28
  go_wp2_with fail
  refine HST.out.mono ?_
  rintro e w3 ⟨L, ov, wv, rfl, ⟨r, N, hS, hR⟩, hI, -, -, hb3⟩
  have HLO := Lib.hid (rloaded_any L.S L.m1 L.m2 L.B f w3 r.V r.F hS.lt.1 hS.cells.2.1 hS.cells.2.2 hS.mV hS.mF hS.rf HF.out (fun x hx => Nat.le_trans (hI.sz f x (by rw [← hR.row]; exact hx)) (by unfold maxLen; omega)) (by rw [hR.row]; have := hI.ln f; have := HLN.out; omega))
  rw [hR.left, hR.row] at HLO
  have HB3 := Lib.hid hb3
  clear hS hR hI hb3 HST
  go_wp2_with fail
  refine HLO.out.mono ?_
  rintro e w4 ⟨⟨v, rfl, hO⟩, hb4⟩
  have HFF := Lib.hid (And.intro (hO.base HB3.out.size) (Bl.trans HB3.out hb4))
  clear hO hb4 HLO
  go_wp2
  go_ret
  exact ⟨⟨_, rfl, HFF.out.1⟩, HFF.out.2⟩
set_option maxHeartbeats 4000000 in
set_option maxRecDepth 100000 in
theorem LeftOn_any (rs : List Rel) (l : List Fed) (f : ByteArray) (t : Int) (vr vl : Value) (w : World) (rr : RecR TRe w 0 vr rs) (rl : RecR TFe w 0 vl l) (h : OkF rs l) (hln : l.length ≤ 900) (hf : f.size ≤ maxLen) :
    Calls Tryz.prog 29 #[vr, vl, .string f, .int .i64 t] w fun e w' => e = .returned (.int .i64 ((runM t (newM rs) 0 l).left f)) ∧ Below w.heap.size w w' := by
  have HST := Lib.hid (stored_any rs l t vr vl w rr rl h.rn h.rz hln h.lz)
  have HF := Lib.hid hf
  obtain ⟨ra, rc, rfl, _, _⟩ := rr.form
  obtain ⟨la, lc, rfl, _, _⟩ := rl.form
  obtain ⟨G, hG⟩ : ∃ G, G = (runM t (newM rs) 0 l).left f := ⟨_, rfl⟩
  rw [← hG]
  have HG := Lib.hid hG
  clear rr rl h hln hf hG
  go_enter Tryz.func29, Tryz.ntmps29
  go_wp2_with fail
  refine HST.out.mono ?_
  rintro e w3 ⟨L, ov, wv, rfl, ⟨r, N, hS, hR⟩, hI, -, -, hb3⟩
  have hq := hS.leftB f HF.out w3 (Below.refl _ _)
  rw [hR.left, ← HG.out] at hq
  have c1 : w3.cell? ⟨L.S, 1, none⟩ = some (.map (some L.m1)) := hS.cells.2.1
  have lS := hS.lt.1
  have HB3 := Lib.hid hb3
  clear hS hR hI hb3 HST
  go_wp2
  go_ret
  exact ⟨rfl, HB3.out⟩
set_option maxHeartbeats 4000000 in
set_option maxRecDepth 100000 in
theorem WhereIs_any (rs : List Rel) (l : List Fed) (f : ByteArray) (t : Int) (vr vl : Value) (w : World) (rr : RecR TRe w 0 vr rs) (rl : RecR TFe w 0 vl l) (h : OkF rs l) (hln : l.length ≤ 900) :
    Calls Tryz.prog 30 #[vr, vl, .string f, .int .i64 t] w fun e w' => e = .returned (.tuple #[.string ((runM t (newM rs) 0 l).pos f), .bool (decide ((runM t (newM rs) 0 l).pos f ≠ ByteArray.empty))]) ∧ Below w.heap.size w w' := by
  have HST := Lib.hid (stored_any rs l t vr vl w rr rl h.rn h.rz hln h.lz)
  have HLN := Lib.hid hln
  obtain ⟨ra, rc, rfl, _, _⟩ := rr.form
  obtain ⟨la, lc, rfl, _, _⟩ := rl.form
  obtain ⟨G, hG⟩ : ∃ G, G = (runM t (newM rs) 0 l).pos f := ⟨_, rfl⟩
  obtain ⟨b, hb⟩ : ∃ b, b = decide (G ≠ ByteArray.empty) := ⟨_, rfl⟩
  rw [← hG, ← hb]
  have HG := Lib.hid hG
  have hbe : (!G.toList.isEmpty) = b := by
    rw [hb]
    by_cases h0 : G = ByteArray.empty
    · have h1 := (ba_nil _).1 h0
      rw [h1]
      simp [h0]
    · have h1 : ¬ G.toList = [] := fun e => h0 ((ba_nil _).2 e)
      cases hq : G.toList with
      | nil => exact absurd hq h1
      | cons x y => simp [h0]
  clear rr rl h hln hG hb
  go_enter Tryz.func30, Tryz.ntmps30
  go_wp2_with fail
  refine HST.out.mono ?_
  rintro e w3 ⟨L, ov, wv, rfl, ⟨r, N, hS, hR⟩, hI, -, -, hb3⟩
  have HWH := Lib.hid (where_any L r N l.length _ f w3 hS hR hI HLN.out)
  rw [← HG.out] at HWH
  have HB3 := Lib.hid hb3
  clear hS hR hI hb3 HST
  go_wp2_with fail
  refine HWH.out.mono ?_
  rintro e w4 ⟨rfl, hb4⟩
  have HFF := Lib.hid (Bl.trans HB3.out hb4)
  clear hb4 HWH
  go_wp2
  go_ret2
  exact ⟨rfl, HFF.out⟩
/-- how many boards can still be made. -/
def lastsM (rs : List Rel) (l : List Fed) (t : Int) (f : ByteArray) (each : Int) : Int := Int.tdiv (sumL (runM t (newM rs) 0 l).left ((runM t (newM rs) 0 l).row f)) each
theorem lastsM_few {rs : List Rel} {l : List Fed} {t : Int} {f : ByteArray} (hI : InvM (runM t (newM rs) 0 l) l.length) (hln : l.length ≤ 900) {each : Int} (h1 : 1 ≤ each) : -9223372036854775808 ≤ lastsM rs l t f each ∧ lastsM rs l t f each ≤ 9223372036854775807 := by
  have h2 := sumL_bound hI.lf ((runM t (newM rs) 0 l).row f)
  have h3 := hI.ln f
  unfold lastsM
  rw [Int.tdiv_eq_ediv_of_nonneg h2.1]
  have h4 := Int.ediv_le_self each h2.1
  have h5 := Int.ediv_nonneg h2.1 (show 0 ≤ each by omega)
  constructor <;> omega
set_option maxHeartbeats 4000000 in
set_option maxRecDepth 100000 in
theorem LastsFor_any (rs : List Rel) (l : List Fed) (f : ByteArray) (t each : Int) (vr vl : Value) (w : World) (rr : RecR TRe w 0 vr rs) (rl : RecR TFe w 0 vl l) (h : OkF rs l) (hln : l.length ≤ 900) (hf : f.size ≤ maxLen) (h1 : 1 ≤ each) :
    Calls Tryz.prog 31 #[vr, vl, .string f, .int .i64 t, .int .i64 each] w fun e w' => e = .returned (.int .i64 (lastsM rs l t f each)) ∧ Below w.heap.size w w' := by
  have HST := Lib.hid (stored_any rs l t vr vl w rr rl h.rn h.rz hln h.lz)
  have HLN := Lib.hid hln
  have HF := Lib.hid hf
  obtain ⟨ra, rc, rfl, _, _⟩ := rr.form
  obtain ⟨la, lc, rfl, _, _⟩ := rl.form
  obtain ⟨G, hG⟩ : ∃ G, G = lastsM rs l t f each := ⟨_, rfl⟩
  rw [← hG]
  have HG := Lib.hid hG
  have hz : ¬ each = 0 := by omega
  have hzb : (each == 0) = false := by simp [hz]
  have H1 := Lib.hid h1
  clear rr rl h hln hf hG h1
  go_enter Tryz.func31, Tryz.ntmps31
  go_wp2_with fail
  refine HST.out.mono ?_
  rintro e w3 ⟨L, ov, wv, rfl, ⟨r, N, hS, hR⟩, hI, -, -, hb3⟩
  have HSU := Lib.hid (rsum_any L.S L.m1 L.m2 L.B f w3 r.V r.F hS.cells.2.1 hS.cells.2.2 hS.mV hS.mF hS.rf HF.out (fun x hx => Nat.le_trans (hI.sz f x (by rw [← hR.row]; exact hx)) (by unfold maxLen; omega)) (by rw [hR.row]; have := hI.ln f; have := HLN.out; omega) (fun x => by rw [hR.left]; exact hI.lf x))
  rw [hR.left, hR.row] at HSU
  obtain ⟨sm, hsm⟩ : ∃ sm, sm = sumL (runM t (newM rs) 0 l).left ((runM t (newM rs) 0 l).row f) := ⟨_, rfl⟩
  rw [← hsm] at HSU
  have hq1 : Int.tdiv sm each = G := by rw [HG.out, hsm]; rfl
  have hgf := lastsM_few hI HLN.out (f := f) H1.out
  rw [← HG.out] at hgf
  have hw1 : IntKind.i64.wrap G = G := IntWalk.i64_in _ (by omega)
  have HB3 := Lib.hid hb3
  clear hS hR hI hb3 HST hsm hgf
  go_wp2_with fail
  refine HSU.out.mono ?_
  rintro e w4 ⟨rfl, rfl⟩
  go_wp2
  go_ret
  exact ⟨rfl, HB3.out⟩
set_option maxHeartbeats 4000000 in
set_option maxRecDepth 100000 in
theorem Lasts_any (rs : List Rel) (l : List Fed) (f : ByteArray) (t each : Int) (vr vl : Value) (w : World) (hlr : rs.length ≤ 1000000) (hl : l.length ≤ 900) (rr : RecR TRe w 0 vr rs) (rl : RecR TFe w 0 vl l) (hzr : RelZ rs) (hz : FedZ l) (hk : f.size ≤ 140737488355328) :
    Calls Tryz.prog 18 #[vr, vl, .string f, .int .i64 t, .int .i64 each] w fun e w' => e = .returned (.tuple #[.int .i64 (if askF (feedsF rs l) (keyB f) (inB 0 t 345686399999) 5 = 0 ∧ inB 1 each 100000 = true then lastsM rs l t f each else 0), .int .i64 (if askF (feedsF rs l) (keyB f) (inB 0 t 345686399999) 5 = 0 then (if inB 1 each 100000 = true then 0 else 1) else askF (feedsF rs l) (keyB f) (inB 0 t 345686399999) 5)]) ∧ Below w.heap.size w w' := by
  have HFA := Lib.hid (feederFault_any rs l f t vr vl w hlr (by omega) rr rl hzr hz hk)
  have RR := Lib.hid rr
  have RL := Lib.hid rl
  obtain ⟨ra, rc, rfl, _, _⟩ := rr.form
  obtain ⟨la, lc, rfl, _, _⟩ := rl.form
  obtain ⟨E, hE⟩ : ∃ E, E = askF (feedsF rs l) (keyB f) (inB 0 t 345686399999) 5 := ⟨_, rfl⟩
  rw [← hE] at HFA ⊢
  obtain ⟨bo, hbo⟩ : ∃ bo, bo = inB 1 each 100000 := ⟨_, rfl⟩
  rw [← hbo]
  have HOU := Lib.hid (fun W => Outside_any each 1 100000 W)
  rw [← hbo] at HOU
  obtain ⟨G, hG⟩ : ∃ G, G = if E = 0 ∧ bo = true then lastsM rs l t f each else 0 := ⟨_, rfl⟩
  obtain ⟨R, hR⟩ : ∃ R, R = if E = 0 then (if bo = true then (0 : Int) else 1) else E := ⟨_, rfl⟩
  rw [← hG, ← hR]
  by_cases h0 : E = 0
  case neg =>
    have hb : (E == 0) = false := by simp [h0]
    have HG : Hid (G = 0 ∧ R = E) := Lib.hid ⟨by rw [hG, if_neg (fun h => h0 h.1)], by rw [hR, if_neg h0]⟩
    clear rr rl hE hG hR
    go_enter Tryz.func18, Tryz.ntmps18
    go_wp2_with fail
    refine HFA.out.mono ?_
    rintro e w2 ⟨rfl, hb2⟩
    have HB := Lib.hid hb2
    clear hb2
    go_wp2
    go_ret2
    exact ⟨by rw [HG.out.1, HG.out.2] <;> rfl, HB.out⟩
  case pos =>
    have h0' := h0
    rw [hE] at h0
    have hok := feedsF_right (askF_zero h0 (by decide)).1
    have hkf := keyB_few (askF_zero h0 (by decide)).2.1
    have HKF : Hid (f.size ≤ maxLen) := Lib.hid (Nat.le_trans hkf.2 (by unfold maxLen; omega))
    have HOK := Lib.hid hok
    have HLN := Lib.hid hl
    subst h0'
    cases bo
    case false =>
      have HG : Hid (G = 0 ∧ R = 1) := Lib.hid ⟨by rw [hG, if_neg (fun h => by cases h.2)], by rw [hR, if_pos rfl]; rfl⟩
      clear rr rl hE hok hkf hG hR h0 hbo
      go_enter Tryz.func18, Tryz.ntmps18
      go_wp2_with fail
      refine HFA.out.mono ?_
      rintro e w2 ⟨rfl, hb2⟩
      have HB := Lib.hid hb2
      clear hb2
      go_wp2_with fail
      refine (HOU.out w2).mono ?_
      rintro e w3 ⟨rfl, rfl⟩
      go_wp2
      go_ret2
      exact ⟨by rw [HG.out.1, HG.out.2] <;> rfl, HB.out⟩
    case true =>
      have HG : Hid (G = lastsM rs l t f each ∧ R = 0) := Lib.hid ⟨by rw [hG, if_pos ⟨rfl, rfl⟩], by rw [hR, if_pos rfl]; rfl⟩
      have hin : 1 ≤ each := (inB_of (by rw [← hbo]; exact Bool.noConfusion)).1
      have hz0 : ¬ each = 0 := by omega
      have hzb : (each == 0) = false := by simp [hz0]
      have H1 := Lib.hid hin
      clear rr rl hE hok hkf hG hR h0 hbo hin
      go_enter Tryz.func18, Tryz.ntmps18
      go_wp2_with fail
      refine HFA.out.mono ?_
      rintro e w2 ⟨rfl, hb2⟩
      have HB2 := Lib.hid hb2
      clear hb2
      go_wp2_with fail
      refine (HOU.out w2).mono ?_
      rintro e w3 ⟨rfl, rfl⟩
      have HAT := Lib.hid (storeAt_any rs l t _ _ w2 (RR.out.below HB2.out) (RL.out.below HB2.out) HOK.out HLN.out)
      go_wp2_with fail
      refine HAT.out.mono ?_
      rintro e w3 ⟨L, rfl, h3⟩
      obtain ⟨s, N, hS, hR⟩ := h3.st
      obtain ⟨p1, p2, p3, p4⟩ := hS.parts
      have HSU := Lib.hid (left_any L.S L.m0 L.m1 L.m2 L.m3 L.m4 L.B f w3 s.R s.F p1 p2 p3 p4 HKF.out (fun x hx => Nat.le_trans (h3.inv.sz f x (by rw [← hR.row]; exact hx)) (by unfold maxLen; omega)) (by rw [hR.row]; have := h3.inv.ln f; have := HLN.out; omega) (fun x => by rw [hR.left]; exact h3.inv.lf x))
      rw [sumO_L, hR.left, hR.row] at HSU
      obtain ⟨sm, hsm⟩ : ∃ sm, sm = sumL (runM t (newM rs) 0 l).left ((runM t (newM rs) 0 l).row f) := ⟨_, rfl⟩
      rw [← hsm] at HSU
      have hq1 : Int.tdiv sm each = G := by rw [HG.out.1, hsm]; rfl
      have hgf := lastsM_few h3.inv HLN.out (f := f) H1.out
      rw [← HG.out.1] at hgf
      have hw1 : IntKind.i64.wrap G = G := IntWalk.i64_in _ (by omega)
      have HB3 := Lib.hid (Bl.trans HB2.out h3.bel)
      clear h3 hS hR p1 p2 p3 p4 HAT hsm hgf
      go_wp2_with fail
      refine HSU.out.mono ?_
      rintro e w4 ⟨rfl, rfl⟩
      go_wp2
      go_ret2
      exact ⟨by rw [HG.out.2] <;> rfl, HB3.out⟩
end Go.Proofs.YtcfeoapbbkfbnaaGreatDoor
