/- RightSteps, RightRules of the random stream; faults of rules and steps. Conditions: the stream's count below 8*10^5. · Faults of rules, steps, boards and moments of package rework. Conditions: at most 10^6 steps, strings of at most 2^47 bytes. · How long a board was in each state: the plain law. -/
import Derived.Test.YtbkglhakhahfpaaGreatDoorStc
import Derived.Test.YtbkglhakhahfpaaGreatDoorShp2
namespace Go.Proofs.YtbkglhakhahfpaaGreatDoor
open Go.RowKit Go.Sort

theorem StpOk.z {l : List Stp} (h : ∀ x ∈ l, StpOk x) : StpZ l := fun s hs => ⟨Nat.le_trans (h s hs).1 (by decide), Nat.le_trans (h s hs).2.1 (by decide)⟩
/-- what is wrong with rules. -/
def rulesF (rh rr : Int) : Int := if inB 0 rh 100 = true ∧ inB 0 rr 100 = true then 0 else 1
set_option maxHeartbeats 1000000 in
theorem CheckRules_any (rh rr : Int) (w : World) : Calls Tryz.prog 174 #[.agg #[.int .i64 rh, .int .i64 rr]] w fun e w' => e = .returned (.int .i64 (rulesF rh rr)) ∧ Below w.heap.size w w' := by
  have HO1 := Lib.hid (Outside_any rh 0 100)
  have HO2 := Lib.hid (Outside_any rr 0 100)
  have hb := Bl.alloc (Below.refl w.heap.size w) (.cells #[.int .i64 rh, .int .i64 rr] 27)
  cases h1 : inB 0 rh 100
  · have HR : Hid (rulesF rh rr = 1) := Lib.hid (by unfold rulesF; rw [h1]; rfl)
    rw [h1] at HO1
    go_enter Tryz.func174, Tryz.ntmps174
    go_wp2_with fail
    refine (HO1.out _).mono ?_
    rintro e w' ⟨rfl, rfl⟩
    go_wp2
    go_ret
    exact ⟨ret_int HR.out.symm, hb⟩
  · rw [h1] at HO1
    cases h2 : inB 0 rr 100
    all_goals
      have HR : Hid (rulesF rh rr = if inB 0 rr 100 = true then 0 else 1) := Lib.hid (by unfold rulesF; rw [h1]; simp)
      rw [h2] at HO2 HR
      go_enter Tryz.func174, Tryz.ntmps174
      go_wp2_with fail
      refine (HO1.out _).mono ?_
      rintro e w' ⟨rfl, rfl⟩
      go_wp2_with fail
      refine (HO2.out _).mono ?_
      rintro e w' ⟨rfl, rfl⟩
      go_wp2
      go_ret
      exact ⟨ret_int (by rw [HR.out]; rfl), hb⟩
end Go.Proofs.YtbkglhakhahfpaaGreatDoor
namespace Go.Proofs.YtbkglhakhahfpaaGreatDoor
open Go.RowKit Go.Sort

def fltF (rh rr : Int) (l : List Stp) : Int := if rulesF rh rr = 0 then stepsF l else rulesF rh rr
def mfltF (rh rr : Int) (l : List Stp) (at' : Int) : Int := if fltF rh rr l = 0 then (if momB at' = true then 0 else 1) else fltF rh rr l
def bfltF (rh rr : Int) (l : List Stp) (b : ByteArray) (at' : Int) : Int := if fltF rh rr l = 0 then (if keyB b = true then (if momB at' = true then 0 else 1) else 5) else fltF rh rr l
set_option maxHeartbeats 1000000 in
theorem fault_any (rh rr : Int) (l : List Stp) (v : Value) (w : World) (hl : l.length ≤ 1000000) (rl : RecR TSt w 0 v l) (hz : StpZ l) :
    Calls Tryz.prog 90 #[.agg #[.int .i64 rh, .int .i64 rr], v] w fun e w' => e = .returned (.int .i64 (fltF rh rr l)) ∧ Below w.heap.size w w' := by
  have HCR := Lib.hid (CheckRules_any rh rr)
  have HCS := Lib.hid fun W (hW : Below w.heap.size w W) => CheckSteps_any l v W hl (rl.below hW) hz
  have hA := Bl.alloc (Below.refl w.heap.size w) (.cells #[.int .i64 rh, .int .i64 rr] 27)
  have hX := blk_new w (.cells #[.int .i64 rh, .int .i64 rr] 27)
  obtain ⟨R, hR⟩ : ∃ R, R = rulesF rh rr := ⟨_, rfl⟩
  have HV : Hid (fltF rh rr l = if R = 0 then stepsF l else R) := Lib.hid (by rw [hR]; rfl)
  rw [← hR] at HCR
  clear hR rl
  by_cases h0 : R = 0
  · have HV0 : Hid (fltF rh rr l = stepsF l) := Lib.hid (by rw [HV.out, if_pos h0])
    subst h0
    go_enter Tryz.func90, Tryz.ntmps90
    go_wp2_with fail
    refine (HCR.out _).mono ?_
    rintro e w1 ⟨rfl, hb1⟩
    have hB1 := Bl.trans hA hb1
    clear hb1
    go_wp2_with fail
    refine (HCS.out _ hB1).mono ?_
    rintro e w2 ⟨rfl, hb2⟩
    go_wp2
    go_ret
    exact ⟨ret_int HV0.out.symm, Bl.trans hB1 hb2⟩
  · have HV0 : Hid (fltF rh rr l = R) := Lib.hid (by rw [HV.out, if_neg h0])
    go_enter Tryz.func90, Tryz.ntmps90
    go_wp2_with fail
    refine (HCR.out _).mono ?_
    rintro e w1 ⟨rfl, hb1⟩
    go_wp2
    go_ret
    exact ⟨ret_int HV0.out.symm, Bl.trans hA hb1⟩
set_option maxHeartbeats 1000000 in
theorem boardFault_any (rh rr : Int) (l : List Stp) (b : ByteArray) (at' : Int) (v : Value) (w : World) (hl : l.length ≤ 1000000) (rl : RecR TSt w 0 v l) (hz : StpZ l) (hb : b.size ≤ 140737488355328) :
    Calls Tryz.prog 200 #[.agg #[.int .i64 rh, .int .i64 rr], v, .string b, .int .i64 at'] w fun e w' => e = .returned (.int .i64 (bfltF rh rr l b at')) ∧ Below w.heap.size w w' := by
  have HF := Lib.hid fun W (hW : Below w.heap.size w W) => fault_any rh rr l v W hl (rl.below hW) hz
  have HK := Lib.hid fun W => IsKey_any b W hb
  have HM : Hid (∀ W, Calls Tryz.prog 225 #[.int .i64 at'] W fun e w' => e = .returned (.bool (momB at')) ∧ W = w') := Lib.hid (IsMoment_any at')
  have hA := Bl.alloc (Below.refl w.heap.size w) (.cells #[.int .i64 rh, .int .i64 rr] 27)
  have hX := blk_new w (.cells #[.int .i64 rh, .int .i64 rr] 27)
  obtain ⟨R, hR⟩ : ∃ R, R = fltF rh rr l := ⟨_, rfl⟩
  have HV : Hid (bfltF rh rr l b at' = if R = 0 then (if keyB b = true then (if momB at' = true then 0 else 1) else 5) else R) := Lib.hid (by rw [hR]; rfl)
  rw [← hR] at HF
  clear hR rl
  by_cases h0 : R = 0
  · subst h0
    go_enter Tryz.func200, Tryz.ntmps200
    go_wp2_with fail
    refine (HF.out _ hA).mono ?_
    rintro e w1 ⟨rfl, hb1⟩
    have hB1 := Bl.trans hA hb1
    clear hb1
    go_wp2_with fail
    refine (HK.out _).mono ?_
    rintro e w2 ⟨rfl, hb2⟩
    have hB2 := Bl.trans hB1 hb2
    clear hb2
    cases hk : keyB b
    · have HR : Hid (bfltF rh rr l b at' = 5) := Lib.hid (by rw [HV.out, hk]; rfl)
      go_wp2
      go_ret
      exact ⟨ret_int HR.out.symm, hB2⟩
    · go_wp2_with fail
      refine (HM.out _).mono ?_
      rintro e w' ⟨rfl, rfl⟩
      cases hm : momB at'
      · have HR : Hid (bfltF rh rr l b at' = 1) := Lib.hid (by rw [HV.out, hk, hm]; rfl)
        go_wp2
        go_ret
        exact ⟨ret_int HR.out.symm, hB2⟩
      · have HR : Hid (bfltF rh rr l b at' = 0) := Lib.hid (by rw [HV.out, hk, hm]; rfl)
        go_wp2
        go_ret
        exact ⟨ret_int HR.out.symm, hB2⟩
  · have HR : Hid (bfltF rh rr l b at' = R) := Lib.hid (by rw [HV.out, if_neg h0])
    go_enter Tryz.func200, Tryz.ntmps200
    go_wp2_with fail
    refine (HF.out _ hA).mono ?_
    rintro e w1 ⟨rfl, hb1⟩
    go_wp2
    go_ret
    exact ⟨ret_int HR.out.symm, Bl.trans hA hb1⟩
end Go.Proofs.YtbkglhakhahfpaaGreatDoor
namespace Go.Proofs.YtbkglhakhahfpaaGreatDoor
open Go.RowKit Go.Sort Go.Maps

def bump (o : List Int) (i : Nat) (d : Int) : List Int := o.set i (o.getD i 0 + d)
theorem bump_len (o : List Int) (i : Nat) (d : Int) : (bump o i d).length = o.length := List.length_set
theorem bump_sum : ∀ (o : List Int) (i : Nat) (d : Int), i < o.length → (bump o i d).sum = o.sum + d
  | [], i, d, h => by simp at h
  | x :: o, 0, d, _ => by simp only [bump, List.set_cons_zero, List.sum_cons, List.getD_cons_zero]; omega
  | x :: o, i + 1, d, h => by
    have ih := bump_sum o i d (by simpa using h)
    simp only [bump] at ih
    simp only [bump, List.set_cons_succ, List.sum_cons, List.getD_cons_succ, ih]; omega
theorem bump_get (o : List Int) (i : Nat) (d : Int) (k : Nat) (hi : i < o.length) : (bump o i d).getD k 0 = if k = i then o.getD i 0 + d else o.getD k 0 := by
  unfold bump
  by_cases h : k = i
  · subst h
    rw [if_pos rfl]
    simp [List.getD_eq_getElem?_getD, hi]
  · rw [if_neg h]
    simp [List.getD_eq_getElem?_getD, Ne.symm h]
theorem getD_le_sum : ∀ (o : List Int) (k : Nat), (∀ x ∈ o, 0 ≤ x) → o.getD k 0 ≤ o.sum ∧ 0 ≤ o.sum
  | [], k, h => by simp
  | x :: o, 0, h => by
    have ih := getD_le_sum o 0 fun y hy => h y (List.mem_cons_of_mem _ hy)
    have := h x (List.mem_cons_self ..)
    simp only [List.getD_cons_zero, List.sum_cons]; omega
  | x :: o, k + 1, h => by
    have ih := getD_le_sum o k fun y hy => h y (List.mem_cons_of_mem _ hy)
    have := h x (List.mem_cons_self ..)
    simp only [List.getD_cons_succ, List.sum_cons]; omega
theorem getD_nonneg (o : List Int) (k : Nat) (h : ∀ x ∈ o, 0 ≤ x) : 0 ≤ o.getD k 0 := by
  rw [List.getD_eq_getElem?_getD]
  cases hk : o[k]? with
  | none => simp
  | some x => exact h x (List.mem_of_getElem? hk)
theorem bump_nonneg (o : List Int) (i : Nat) (d : Int) (h : ∀ x ∈ o, 0 ≤ x) (hd : 0 ≤ d) : ∀ x ∈ bump o i d, 0 ≤ x := fun x hx => by
  unfold bump at hx
  rcases List.mem_or_eq_of_mem_set hx with hx | rfl
  · exact h x hx
  · have := getD_nonneg o i h; omega
/-- what Times keeps: the boards, the moment of the last step, the times. -/
structure Tm where
  m : Sm Bd0
  last : Int
  o : List Int
def stO (m : Sm Bd0) (bd : ByteArray) : Nat := (((m.get bd.data.toList).getD newB).st - 1).toNat
def tm0 : Tm := ⟨[], -1, List.replicate 6 0⟩
def tmS (rh rr : Int) (t : Tm) (s : Stp) : Tm := ⟨(doS rh rr t.m s).1, s.at, if 0 ≤ t.last then bump t.o (stO t.m s.bd) (s.at - t.last) else t.o⟩
def tmG (rh rr : Int) (bd : ByteArray) (at' : Int) : Tm → List Stp → Tm
  | t, [] => t
  | t, s :: l => if at' < s.at then t else if s.bd = bd then tmG rh rr bd at' (tmS rh rr t s) l else tmG rh rr bd at' t l
def tmF (bd : ByteArray) (at' : Int) (t : Tm) : List Int := bump t.o (stO t.m bd) (at' - t.last)
/-- what is so of all that Times keeps. -/
structure TmOk (t : Tm) (f : Int) : Prop where
  st : ∀ p ∈ t.m, 1 ≤ p.2.st ∧ p.2.st ≤ 6
  len : t.o.length = 6
  pos : ∀ x ∈ t.o, 0 ≤ x
  sum : (t.last = -1 ∧ t.o.sum = 0) ∨ (0 ≤ f ∧ f ≤ t.last ∧ t.o.sum = t.last - f)
theorem TmOk.zero : TmOk tm0 0 := ⟨fun p hp => by simp [tm0] at hp, by simp [tm0], fun x hx => by simp [tm0] at hx; omega, .inl ⟨rfl, by decide⟩⟩
theorem doB_st {b : Bd0} (s : Stp) (h : 1 ≤ b.st ∧ b.st ≤ 6) : 1 ≤ (doB b s).st ∧ (doB b s).st ≤ 6 := by
  unfold doB
  (repeat' split) <;> first | exact h | (simp only [Bd0.become]; omega)
theorem doS_st {rh rr : Int} {m : Sm Bd0} (s : Stp) (h : ∀ p ∈ m, 1 ≤ p.2.st ∧ p.2.st ≤ 6) : ∀ p ∈ (doS rh rr m s).1, 1 ≤ p.2.st ∧ p.2.st ≤ 6 := by
  have hg : 1 ≤ ((m.get s.bd.data.toList).getD newB).st ∧ ((m.get s.bd.data.toList).getD newB).st ≤ 6 := by
    cases hm : m.get s.bd.data.toList with
    | none => decide
    | some b => exact h _ (Sm.get_mem hm)
  unfold doS
  split
  all_goals (
    intro p hp
    rcases Sm.put_mem.1 hp with rfl | ⟨hp, _⟩
    · first | exact doB_st s hg | exact hg
    · exact h p hp)
theorem TmOk.stO {t : Tm} {f : Int} (h : TmOk t f) (bd : ByteArray) : stO t.m bd < 6 := by
  have hg : 1 ≤ ((t.m.get bd.data.toList).getD newB).st ∧ ((t.m.get bd.data.toList).getD newB).st ≤ 6 := by
    cases hm : t.m.get bd.data.toList with
    | none => decide
    | some b => exact h.st _ (Sm.get_mem hm)
  unfold Go.Proofs.YtbkglhakhahfpaaGreatDoor.stO; omega
theorem TmOk.step {rh rr : Int} {t : Tm} {f : Int} (h : TmOk t f) (s : Stp) (h0 : 0 ≤ s.at) (hl : t.last ≤ s.at) : TmOk (tmS rh rr t s) (if 0 ≤ t.last then f else s.at) := by
  have hst := h.stO s.bd
  rcases h.sum with ⟨hn, hz⟩ | ⟨hf, hfl, hsum⟩
  · have hneg : ¬ 0 ≤ t.last := by omega
    refine ⟨doS_st s h.st, ?_, ?_, .inr ?_⟩
    · simp only [tmS, if_neg hneg]; exact h.len
    · simp only [tmS, if_neg hneg]; exact h.pos
    · simp only [tmS, if_neg hneg]; exact ⟨h0, Int.le_refl _, by omega⟩
  · have hneg : 0 ≤ t.last := by omega
    refine ⟨doS_st s h.st, ?_, ?_, .inr ?_⟩
    · simp only [tmS, if_pos hneg, bump_len]; exact h.len
    · simp only [tmS, if_pos hneg]; exact bump_nonneg _ _ _ h.pos (by omega)
    · simp only [tmS, if_pos hneg]; rw [bump_sum _ _ _ (by rw [h.len]; exact hst)]; omega
/-- right steps: few, in order, small. -/
structure StR (s : Stp) : Prop where
  a0 : 0 ≤ s.at
  a1 : s.at ≤ 345686399999
  bd : s.bd.size ≤ 40
  co : s.co.size ≤ 40
theorem keyB_size {b : ByteArray} (h : keyB b = true) : b.size ≤ 40 := by
  unfold keyB at h
  simp only [Bool.and_eq_true, decide_eq_true_eq] at h
  exact h.1.1.2
theorem stepF_right {p : Option Int} {s : Stp} (h : stepF p s = 0) : StR s ∧ ∀ q, p = some q → q ≤ s.at := by
  unfold stepF at h
  split at h
  · exact absurd h (by decide)
  rename_i h1
  split at h
  · exact absurd h (by decide)
  rename_i h2
  split at h
  · exact absurd h (by decide)
  split at h
  · exact absurd h (by decide)
  rename_i h4
  split at h
  · exact absurd h (by decide)
  rename_i h5
  have hm : 0 ≤ s.at ∧ s.at ≤ 345686399999 := by
    simp only [Bool.not_eq_false, momB, inB, Bool.and_eq_true, decide_eq_true_eq] at h1; exact h1
  have hk : s.co.size ≤ 40 := by
    cases hn : namB s.kd with
    | true =>
      cases hc : keyB s.co with
      | true => exact keyB_size hc
      | false => exact absurd ⟨hn, hc⟩ h5
    | false =>
      rcases Nat.eq_zero_or_pos s.co.size with h0 | h0
      · omega
      · exact absurd ⟨hn, by omega⟩ h4
  refine ⟨⟨hm.1, hm.2, keyB_size (by simpa using h2), hk⟩, fun q hq => ?_⟩
  subst hq
  simp only at h
  split at h
  · exact absurd h (by decide)
  · omega
theorem stepsF1_right : ∀ (l : List Stp) (p : Option Int), stepsF1 p l = 0 → (∀ s ∈ l, StR s ∧ ∀ q, p = some q → q ≤ s.at) ∧ l.Pairwise fun a b => a.at ≤ b.at
  | [], p, _ => ⟨fun s hs => by simp at hs, List.Pairwise.nil⟩
  | s :: l, p, h => by
    rw [stepsF1] at h
    split at h
    · rename_i h0
      have h1 := stepF_right h0
      have ih := stepsF1_right l _ h
      refine ⟨fun x hx => ?_, List.pairwise_cons.2 ⟨fun x hx => (ih.1 x hx).2 _ rfl, ih.2⟩⟩
      rcases List.mem_cons.1 hx with rfl | hx
      · exact h1
      · exact ⟨(ih.1 x hx).1, fun q hq => Int.le_trans (h1.2 q hq) ((ih.1 x hx).2 _ rfl)⟩
    · rename_i h0; exact absurd h h0
theorem stepsF_right {l : List Stp} (h : stepsF l = 0) : l.length ≤ 5000 ∧ (∀ s ∈ l, StR s) ∧ l.Pairwise fun a b => a.at ≤ b.at := by
  unfold stepsF at h
  split at h
  · exact absurd h (by decide)
  · exact ⟨by omega, fun s hs => ((stepsF1_right l none h).1 s hs).1, (stepsF1_right l none h).2⟩
theorem tmG_ok {rh rr : Int} {bd : ByteArray} {at' : Int} : ∀ (l : List Stp) (t : Tm) (f : Int), TmOk t f → (∀ s ∈ l, StR s ∧ t.last ≤ s.at) → (l.Pairwise fun a b => a.at ≤ b.at) → t.last ≤ at' →
    (∃ f', TmOk (tmG rh rr bd at' t l) f' ∧ (0 ≤ t.last → f' = f)) ∧ t.last ≤ (tmG rh rr bd at' t l).last ∧ (tmG rh rr bd at' t l).last ≤ at' ∧ ∀ k, t.o.getD k 0 ≤ (tmG rh rr bd at' t l).o.getD k 0
  | [], t, f, h, _, _, hle => ⟨⟨f, h, fun _ => rfl⟩, Int.le_refl _, hle, fun _ => Int.le_refl _⟩
  | s :: l, t, f, h, hs, hp, hle => by
    obtain ⟨hs1, hsl⟩ := hs s (List.mem_cons_self ..)
    obtain ⟨hp1, hp2⟩ := List.pairwise_cons.1 hp
    rw [tmG]
    split
    · exact ⟨⟨f, h, fun _ => rfl⟩, Int.le_refl _, hle, fun _ => Int.le_refl _⟩
    rename_i hat
    split
    · have h1 := h.step (rh := rh) (rr := rr) s hs1.a0 hsl
      obtain ⟨⟨f', hf, hff⟩, h2, h3, h4⟩ := tmG_ok l (tmS rh rr t s) _ h1 (fun x hx => ⟨(hs x (List.mem_cons_of_mem _ hx)).1, hp1 x hx⟩) hp2 (by show s.at ≤ at'; omega)
      refine ⟨⟨f', hf, fun h0 => ?_⟩, Int.le_trans hsl h2, h3, fun k => Int.le_trans ?_ (h4 k)⟩
      · rw [hff hs1.a0, if_pos h0]
      · show _ ≤ (if 0 ≤ t.last then bump t.o (stO t.m s.bd) (s.at - t.last) else t.o).getD k 0
        split
        · rw [bump_get _ _ _ _ (by rw [h.len]; exact h.stO _)]
          split
          · rename_i hk; subst hk; omega
          · exact Int.le_refl _
        · exact Int.le_refl _
    · exact tmG_ok l t f h (fun x hx => hs x (List.mem_cons_of_mem _ hx)) hp2 hle
theorem tmG_two {rh rr : Int} {bd : ByteArray} {a1 a2 : Int} (ha : a1 ≤ a2) : ∀ (l : List Stp) (t : Tm), (l.Pairwise fun a b => a.at ≤ b.at) → ∃ l', (∀ s ∈ l', s ∈ l ∧ a1 < s.at) ∧ (l'.Pairwise fun a b => a.at ≤ b.at) ∧ tmG rh rr bd a2 t l = tmG rh rr bd a2 (tmG rh rr bd a1 t l) l'
  | [], t, _ => ⟨[], by simp, List.Pairwise.nil, rfl⟩
  | s :: l, t, hp => by
    obtain ⟨hp1, hp2⟩ := List.pairwise_cons.1 hp
    by_cases h : a1 < s.at
    · refine ⟨s :: l, fun x hx => ⟨hx, ?_⟩, hp, by rw [show tmG rh rr bd a1 t (s :: l) = t from by rw [tmG, if_pos h]]⟩
      rcases List.mem_cons.1 hx with rfl | hx
      · exact h
      · have := hp1 x hx; omega
    · rw [tmG, if_neg (show ¬ a2 < s.at by omega), tmG, if_neg h]
      split
      · obtain ⟨l', h1, h2, h3⟩ := tmG_two ha l (tmS rh rr t s) hp2
        exact ⟨l', fun x hx => ⟨List.mem_cons_of_mem _ (h1 x hx).1, (h1 x hx).2⟩, h2, h3⟩
      · obtain ⟨l', h1, h2, h3⟩ := tmG_two ha l t hp2
        exact ⟨l', fun x hx => ⟨List.mem_cons_of_mem _ (h1 x hx).1, (h1 x hx).2⟩, h2, h3⟩
theorem tmF_get {bd : ByteArray} {t : Tm} {f : Int} (h : TmOk t f) (a : Int) (k : Nat) : (tmF bd a t).getD k 0 = if k = stO t.m bd then t.o.getD k 0 + (a - t.last) else t.o.getD k 0 := by
  unfold tmF
  rw [bump_get _ _ _ _ (by rw [h.len]; exact h.stO bd)]
  split
  · rename_i hk; rw [hk]
  · rfl
theorem tmF_mono {rh rr : Int} {bd : ByteArray} {a1 a2 : Int} (ha : a1 ≤ a2) : ∀ (l : List Stp) (t : Tm) (f : Int), TmOk t f → 0 ≤ t.last → t.last ≤ a1 → (∀ s ∈ l, StR s ∧ a1 < s.at) → (l.Pairwise fun a b => a.at ≤ b.at) → ∀ k, (tmF bd a1 t).getD k 0 ≤ (tmF bd a2 (tmG rh rr bd a2 t l)).getD k 0
  | [], t, f, h, h0, hl, _, _, k => by
    rw [tmG, tmF_get h, tmF_get h]; split <;> omega
  | s :: l, t, f, h, h0, hl, hs, hp, k => by
    obtain ⟨hs1, hsl⟩ := hs s (List.mem_cons_self ..)
    obtain ⟨hp1, hp2⟩ := List.pairwise_cons.1 hp
    rw [tmG]
    split
    · rw [tmF_get h, tmF_get h]; split <;> omega
    split
    · rename_i hat hbd
      have h1 := h.step (rh := rh) (rr := rr) s hs1.a0 (by omega)
      obtain ⟨⟨f', hf, hff⟩, h2, h3, h4⟩ := tmG_ok (rh := rh) (rr := rr) (bd := bd) (at' := a2) l (tmS rh rr t s) _ h1 (fun x hx => ⟨(hs x (List.mem_cons_of_mem _ hx)).1, hp1 x hx⟩) hp2 (by show s.at ≤ a2; omega)
      refine Int.le_trans (Int.le_trans ?_ (h4 k)) ?_
      · show _ ≤ (if 0 ≤ t.last then bump t.o (stO t.m s.bd) (s.at - t.last) else t.o).getD k 0
        rw [if_pos h0, hbd, tmF_get h, bump_get _ _ _ _ (by rw [h.len]; exact h.stO _)]
        split
        · rename_i hk; subst hk; omega
        · exact Int.le_refl _
      · rw [tmF_get hf]; split <;> omega
    · exact tmF_mono ha l t f h h0 hl (fun x hx => hs x (List.mem_cons_of_mem _ hx)) hp2 k
/-- the first step of a board up to a moment. -/
def fstS (bd : ByteArray) (at' : Int) (s : Stp) : Bool := decide (s.bd = bd) && decide (s.at ≤ at')
theorem tmG_first {rh rr : Int} {bd : ByteArray} {at' : Int} (ha : 0 ≤ at') : ∀ (l : List Stp) (t : Tm) (f : Int), TmOk t f → t.last = -1 → (∀ s ∈ l, StR s) → (l.Pairwise fun a b => a.at ≤ b.at) →
    match l.find? (fstS bd at') with
    | none => (tmG rh rr bd at' t l).last = -1
    | some s => TmOk (tmG rh rr bd at' t l) s.at ∧ 0 ≤ (tmG rh rr bd at' t l).last
  | [], t, f, _, hl, _, _ => hl
  | s :: l, t, f, h, hl, hs, hp => by
    obtain ⟨hp1, hp2⟩ := List.pairwise_cons.1 hp
    have hs1 := hs s (List.mem_cons_self ..)
    rw [tmG]
    by_cases hat : at' < s.at
    · have hn : (s :: l).find? (fstS bd at') = none := by
        rw [List.find?_eq_none]
        intro x hx
        have : at' < x.at := by
          rcases List.mem_cons.1 hx with rfl | hx
          · exact hat
          · have := hp1 x hx; omega
        simp only [fstS, Bool.and_eq_true, decide_eq_true_eq]; omega
      rw [hn, if_pos hat]; exact hl
    rw [if_neg hat]
    by_cases hbd : s.bd = bd
    · have hy : fstS bd at' s = true := by simp only [fstS, Bool.and_eq_true, decide_eq_true_eq]; exact ⟨hbd, by omega⟩
      rw [List.find?_cons_of_pos hy, if_pos hbd]
      have h1 := h.step (rh := rh) (rr := rr) s hs1.a0 (by have := hs1.a0; omega)
      obtain ⟨⟨f', hf, hff⟩, h2, h3, h4⟩ := tmG_ok (rh := rh) (rr := rr) (bd := bd) (at' := at') l (tmS rh rr t s) _ h1 (fun x hx => ⟨hs x (List.mem_cons_of_mem _ hx), hp1 x hx⟩) hp2 (by show s.at ≤ at'; omega)
      have hf2 := hff hs1.a0
      rw [if_neg (by omega)] at hf2
      subst hf2
      exact ⟨hf, Int.le_trans hs1.a0 h2⟩
    · have hy : ¬ fstS bd at' s = true := by simp only [fstS, Bool.and_eq_true, decide_eq_true_eq]; exact fun h => hbd h.1
      rw [List.find?_cons_of_neg hy, if_neg hbd]
      exact tmG_first ha l t f h hl (fun x hx => hs x (List.mem_cons_of_mem _ hx)) hp2
theorem bfltF_zero {rh rr : Int} {l : List Stp} {b : ByteArray} {at' : Int} (h : bfltF rh rr l b at' = 0) : rulesF rh rr = 0 ∧ stepsF l = 0 ∧ keyB b = true ∧ 0 ≤ at' ∧ at' ≤ 345686399999 := by
  unfold bfltF fltF at h
  by_cases h2 : rulesF rh rr = 0
  · rw [if_pos h2] at h
    by_cases h1 : stepsF l = 0
    · rw [if_pos h1] at h
      by_cases h3 : keyB b = true
      · rw [if_pos h3] at h
        by_cases h4 : momB at' = true
        · simp only [momB, inB, Bool.and_eq_true, decide_eq_true_eq] at h4
          exact ⟨h2, h1, h3, h4⟩
        · rw [if_neg h4] at h; exact absurd h (by decide)
      · rw [if_neg h3] at h; exact absurd h (by decide)
    · rw [if_neg h1] at h; exact absurd h h1
  · rw [if_neg h2, if_neg h2] at h; exact absurd h h2
end Go.Proofs.YtbkglhakhahfpaaGreatDoor
