/- Texts of the proof of a law, put together, part 32 of 46. Conditions: none beyond those that each theorem names. -/
import Derived.Test.YtilhonppgedoiaaGreatDoorFz25
import Derived.Test.YtilhonppgedoiaaGreatDoorFz31
namespace Go.Proofs.YtilhonppgedoiaaGreatDoor
open Go.RowKit Go.Sort
theorem feedsF_nil {rs : List Rel} (h : reelsF rs = 0) : feedsF rs [] = 0 := by
  unfold feedsF
  rw [if_pos h]
  rfl
/-- the same but for the numbers of the events in the log. -/
structure SimM (A A' : Mdl) : Prop where
  left : A.left = A'.left
  part : A.part = A'.part
  row : A.row = A'.row
  pos : A.pos = A'.pos
  log : A.log.map (·.2) = A'.log.map (·.2)
theorem SimM.refl (A : Mdl) : SimM A A := ⟨rfl, rfl, rfl, rfl, rfl⟩
theorem SimM.ref {A A' : Mdl} (h : SimM A A') (e : Fed) : refM A e = refM A' e := by
  unfold refM
  rw [h.left, h.part, h.row, h.pos]
theorem SimM.use {A A' : Mdl} (h : SimM A A') (e : Fed) : useT A e = useT A' e := by
  unfold useT
  rw [h.left, h.row]
theorem logU_sim (i j : Int) (e : Fed) (lg : List (ByteArray × Int)) : (logU i e lg).map (·.2) = (logU j e lg).map (·.2) := by
  unfold logU
  rw [List.map_map, List.map_map]
  rfl
theorem SimM.do {A A' : Mdl} (h : SimM A A') (e : Fed) (i j : Int) : SimM (doM A i e) (doM A' j e) := by
  unfold doM
  rw [h.use e]
  split
  · exact ⟨h.left, h.part, by rw [h.row], by rw [h.pos], h.log⟩
  split
  · exact ⟨h.left, h.part, by rw [h.row], by rw [h.row, h.pos], h.log⟩
  split
  · exact ⟨rfl, h.part, by rw [h.row], by rw [h.row, h.pos], by rw [List.map_append, List.map_append, h.log, logU_sim i j]⟩
  · exact ⟨by rw [h.left], h.part, h.row, h.pos, h.log⟩
theorem SimM.step {A A' : Mdl} (h : SimM A A') (e : Fed) (i j : Int) : SimM (stepM A i e) (stepM A' j e) := by
  unfold stepM
  rw [h.ref e]
  split
  · exact h.do e i j
  · exact h
end Go.Proofs.YtilhonppgedoiaaGreatDoor
namespace Go.Proofs.YtilhonppgedoiaaGreatDoor
open Go.RowKit Go.Sort
abbrev keysR (rs : List Rel) : List ByteArray := rs.map (·.1)
def lgS : List (ByteArray × Int) → Int
  | [] => 0
  | p :: l => p.2 + lgS l
def logS : List Tkn → Int
  | [] => 0
  | t :: l => t.2.2.2.2.2 + logS l
theorem addT_cons (x : ByteArray) (m : Int) (r : List (ByteArray × Int)) (k : ByteArray) : addT ((x, m) :: r) k = if x = k then (x, m + 1) :: r else (k, 1) :: (x, m) :: r := rfl
theorem takeO_stop {n : Nat} {left : Lf} {l : List ByteArray} {log : List (ByteArray × Int)} (h : dropE left l = []) : takeO (n + 1) left l log = (left, [], log) := by
  rw [takeO.eq_def]; simp only [h]
theorem takeO_next {n : Nat} {left : Lf} {l r : List ByteArray} {k : ByteArray} {log : List (ByteArray × Int)} (h : dropE left l = k :: r) : takeO (n + 1) left l log = takeO n (updL left k (left k - 1)) (k :: r) (addT log k) := by
  rw [takeO.eq_def]; simp only [h]
theorem lgS_addT : ∀ (l : List (ByteArray × Int)) (k : ByteArray), lgS (addT l k) = lgS l + 1
  | [], k => rfl
  | (x, m) :: r, k => by
    rw [addT_cons]
    split
    · show m + 1 + lgS r = m + lgS r + 1; omega
    · show 1 + (m + lgS r) = m + lgS r + 1; omega
theorem addT_mem {l : List (ByteArray × Int)} {k : ByteArray} {p : ByteArray × Int} (h : p ∈ addT l k) : (p ∈ l) ∨ (p.1 = k ∧ (p.2 = 1 ∨ ∃ m, (k, m) ∈ l ∧ p.2 = m + 1)) := by
  cases l with
  | nil =>
    have : p = (k, 1) := List.mem_singleton.1 h
    subst this
    exact .inr ⟨rfl, .inl rfl⟩
  | cons q r =>
    obtain ⟨x, m⟩ := q
    rw [addT_cons] at h
    split at h
    · rename_i e
      subst e
      rcases List.mem_cons.1 h with rfl | h
      · exact .inr ⟨rfl, .inr ⟨m, List.mem_cons_self .., rfl⟩⟩
      · exact .inl (List.mem_cons_of_mem _ h)
    · rcases List.mem_cons.1 h with rfl | h
      · exact .inr ⟨rfl, .inl rfl⟩
      · exact .inl h
theorem sumL_low {left : Lf} {k : ByteArray} : ∀ {l : List ByteArray}, l.Nodup → k ∈ l → sumL (updL left k (left k - 1)) l = sumL left l - 1
  | [], _, h => by simp at h
  | x :: l, hn, h => by
    obtain ⟨h1, h2⟩ := List.nodup_cons.1 hn
    show updL left k (left k - 1) x + sumL (updL left k (left k - 1)) l = left x + sumL left l - 1
    by_cases e : x = k
    · subst e
      rw [updL_at, sumL_upd left x _ l h1]
      omega
    · rw [updL_ne _ _ e, sumL_low h2 (List.mem_of_ne_of_mem (Ne.symm e) h)]
      omega
theorem takeO_cons {keys : List ByteArray} (hk : keys.Nodup) : ∀ (n : Nat) (left : Lf) (l : List ByteArray) (log : List (ByteArray × Int)), (∀ x ∈ l, x ∈ keys) → (∀ p ∈ log, 1 ≤ p.2 ∧ p.1 ∈ keys) →
    sumL (takeO n left l log).1 keys + lgS (takeO n left l log).2.2 = sumL left keys + lgS log ∧ (∀ x, (takeO n left l log).1 x ≤ left x) ∧ (∀ p ∈ (takeO n left l log).2.2, 1 ≤ p.2 ∧ p.1 ∈ keys) ∧ (∀ x ∈ (takeO n left l log).2.1, x ∈ keys)
  | 0, left, l, log, hl, hp => ⟨rfl, fun _ => Int.le_refl _, hp, fun x hx => hl x ((dropE_suffix left l).subset hx)⟩
  | n + 1, left, l, log, hl, hp => by
    cases hd : dropE left l with
    | nil =>
      rw [takeO_stop hd]
      exact ⟨rfl, fun _ => Int.le_refl _, hp, fun x hx => by simp at hx⟩
    | cons k r =>
      rw [takeO_next hd]
      have hs := (dropE_suffix left l).subset
      rw [hd] at hs
      have hk0 : k ∈ keys := hl k (hs (List.mem_cons_self ..))
      obtain ⟨h1, h2, h3, h4⟩ := takeO_cons hk n (updL left k (left k - 1)) (k :: r) (addT log k) (fun x hx => hl x (hs hx)) (fun p hp' => by
        rcases addT_mem hp' with h | ⟨e1, e2⟩
        · exact hp p h
        · rw [e1]
          refine ⟨?_, hk0⟩
          rcases e2 with e2 | ⟨m, hm, e2⟩
          · omega
          · have := (hp _ hm).1
            simp only at this
            omega)
      rw [sumL_low hk hk0, lgS_addT] at h1
      refine ⟨by omega, fun x => Int.le_trans (h2 x) ?_, h3, h4⟩
      by_cases e : x = k
      · subst e; rw [updL_at]; omega
      · rw [updL_ne _ _ e]; exact Int.le_refl _
theorem lgS_app : ∀ (a b : List (ByteArray × Int)), lgS (a ++ b) = lgS a + lgS b
  | [], b => by show lgS b = 0 + lgS b; omega
  | p :: a, b => by
    have := lgS_app a b
    show p.2 + lgS (a ++ b) = p.2 + lgS a + lgS b
    omega
theorem lgS_rev : ∀ (a : List (ByteArray × Int)), lgS a.reverse = lgS a
  | [] => rfl
  | p :: a => by
    rw [List.reverse_cons, lgS_app, lgS_rev a]
    show lgS a + (p.2 + 0) = p.2 + lgS a
    omega
theorem logS_app : ∀ (a b : List Tkn), logS (a ++ b) = logS a + logS b
  | [], b => by show logS b = 0 + logS b; omega
  | p :: a, b => by
    have := logS_app a b
    show p.2.2.2.2.2 + logS (a ++ b) = p.2.2.2.2.2 + logS a + logS b
    omega
theorem logS_map (i : Int) (e : Fed) : ∀ lg : List (ByteArray × Int), logS (lg.map fun p => (i, e.at, e.bd, e.fd, p.1, p.2)) = lgS lg
  | [] => rfl
  | p :: l => by
    have := logS_map i e l
    show p.2 + logS _ = p.2 + lgS l
    rw [this]
theorem logS_U (i : Int) (e : Fed) (lg : List (ByteArray × Int)) : logS (logU i e lg) = lgS lg := by
  unfold logU
  rw [logS_map, lgS_rev]
/-- boards are among some. -/
structure InvC (U : List ByteArray) (rs : List Rel) (A : Mdl) : Prop where
  rowk : ∀ f x, x ∈ A.row f → x ∈ keysR rs
  cons : sumL A.left (keysR rs) + logS A.log = sumL (newM rs).left (keysR rs)
  one : ∀ t ∈ A.log, 1 ≤ t.2.2.2.2.2 ∧ t.2.2.2.2.1 ∈ keysR rs ∧ t.2.2.1 ∈ U
  le : ∀ x, A.left x ≤ (newM rs).left x
theorem InvC.new (U : List ByteArray) (rs : List Rel) : InvC U rs (newM rs) :=
  ⟨fun f x hx => by simp [newM] at hx, by show sumL (newM rs).left (keysR rs) + 0 = _; omega, fun t ht => by simp [newM] at ht, fun _ => Int.le_refl _⟩
theorem InvC.step {U : List ByteArray} {rs : List Rel} {A : Mdl} (h : InvC U rs A) (hk : (keysR rs).Nodup) (i : Int) {e : Fed} (h5 : e.kd ≠ 5) (h15 : 1 ≤ e.kd ∧ e.kd ≤ 5) (hr : e.kd = 1 ∨ e.kd = 2 → e.rl ∈ keysR rs) (hb : e.kd = 4 → e.bd ∈ U) : InvC U rs (stepM A i e) := by
  unfold stepM
  split
  case isFalse => exact h
  unfold doM
  split
  · rename_i hk12
    refine ⟨fun f x hx => ?_, h.cons, h.one, h.le⟩
    have hx2 : x ∈ updR A.row e.fd (A.row e.fd ++ [e.rl]) f := hx
    by_cases hf : f = e.fd
    · rw [hf, updR_at, List.mem_append, List.mem_singleton] at hx2
      rcases hx2 with hx2 | rfl
      · exact h.rowk _ x hx2
      · exact hr hk12
    · rw [updR_ne _ _ hf] at hx2; exact h.rowk f x hx2
  split
  · refine ⟨fun f x hx => ?_, h.cons, h.one, h.le⟩
    have hx2 : x ∈ updR A.row e.fd [] f := hx
    by_cases hf : f = e.fd
    · rw [hf, updR_at] at hx2; simp at hx2
    · rw [updR_ne _ _ hf] at hx2; exact h.rowk f x hx2
  split
  · rename_i h4
    obtain ⟨c1, c2, c3, c4⟩ := takeO_cons hk e.mn.toNat A.left (A.row e.fd) [] (fun x hx => h.rowk _ x hx) (fun p hp => by simp at hp)
    refine ⟨fun f x hx => ?_, ?_, fun t ht => ?_, fun x => Int.le_trans (c2 x) (h.le x)⟩
    · have hx2 : x ∈ updR A.row e.fd (useT A e).2.1 f := hx
      by_cases hf : f = e.fd
      · rw [hf, updR_at] at hx2; exact c4 x hx2
      · rw [updR_ne _ _ hf] at hx2; exact h.rowk f x hx2
    · show sumL (useT A e).1 (keysR rs) + logS (A.log ++ logU i e (useT A e).2.2) = _
      rw [logS_app, logS_U]
      have hc := h.cons
      have c1' : sumL (useT A e).1 (keysR rs) + lgS (useT A e).2.2 = sumL A.left (keysR rs) + 0 := c1
      omega
    · rcases List.mem_append.1 ht with ht | ht
      · exact h.one t ht
      · unfold logU at ht
        obtain ⟨p, hp, rfl⟩ := List.mem_map.1 ht
        have := c3 p (List.mem_reverse.1 hp)
        exact ⟨this.1, this.2, hb h4⟩
  · exact absurd (by omega : e.kd = 5) h5
theorem InvC.run {U : List ByteArray} {rs : List Rel} {at' : Int} (hk : (keysR rs).Nodup) : ∀ (l : List Fed) (A : Mdl) (i : Nat), InvC U rs A → (∀ e ∈ l, e.kd ≠ 5 ∧ (1 ≤ e.kd ∧ e.kd ≤ 5) ∧ (e.kd = 1 ∨ e.kd = 2 → e.rl ∈ keysR rs) ∧ (e.kd = 4 → e.bd ∈ U)) → InvC U rs (runM at' A i l)
  | [], _, _, h, _ => h
  | e :: l, A, i, h, hl => by
    have hr := fun x hx => hl x (List.mem_cons_of_mem e hx)
    obtain ⟨h1, h2, h3, h4⟩ := hl e (List.mem_cons_self ..)
    rw [runM]
    split
    · exact InvC.run hk l A (i + 1) h hr
    · exact InvC.run hk l _ (i + 1) (h.step hk i h1 h2 h3 h4) hr
theorem newM_left {rs : List Rel} (hk : (keysR rs).Nodup) {x : Rel} (hx : x ∈ rs) : (newM rs).left x.1 = x.2.2 := by
  show ((rs.reverse.find? fun r => decide (r.1 = x.1)).map (·.2.2)).getD 0 = x.2.2
  cases hf : rs.reverse.find? fun r => decide (r.1 = x.1) with
  | none =>
    have := List.find?_eq_none.1 hf x (List.mem_reverse.2 hx)
    simp at this
  | some r =>
    have h1 := List.find?_some hf
    have h2 : r ∈ rs := List.mem_reverse.1 (List.mem_of_find?_eq_some hf)
    have h3 : r.1 = x.1 := of_decide_eq_true h1
    have : r = x := by
      obtain ⟨i, hi, e1⟩ := List.mem_iff_getElem.1 h2
      obtain ⟨j, hj, e2⟩ := List.mem_iff_getElem.1 hx
      by_cases hij : i = j
      · subst hij; rw [← e1, ← e2]
      · exfalso
        have hp := List.pairwise_iff_getElem.1 hk
        rcases Nat.lt_or_gt_of_ne hij with hlt | hlt
        · have := hp i j (by simpa using hi) (by simpa using hj) hlt
          rw [List.getElem_map, List.getElem_map, e1, e2] at this
          exact this h3
        · have := hp j i (by simpa using hj) (by simpa using hi) hlt
          rw [List.getElem_map, List.getElem_map, e1, e2] at this
          exact this h3.symm
    subst this
    rfl
def orgS : List Org → Int
  | [] => 0
  | x :: l => x.2.2 + orgS l
end Go.Proofs.YtilhonppgedoiaaGreatDoor
namespace Go.Proofs.YtilhonppgedoiaaGreatDoor
open Go.RowKit Go.Sort
set_option maxHeartbeats 4000000 in
theorem RightReels_any (s : Nat) (c : Int) (w : World) (h : Str w s c) (hc : c ≤ 800000) :
    Calls Tryz.prog 25 #[.pointer (some ⟨s, 0, none⟩)] w fun e w' => ∃ v l, e = .returned v ∧ OwnR TRe w' w.heap.size v l ∧ l.length ≤ 4 ∧ (∀ x ∈ l, RelOk x) ∧ reelsF l = 0 ∧ Str w' s (c + 40000) ∧ w.grownBy w' (some s) := by
  have ls := h.lt
  go_enter Tryz.func25, Tryz.ntmps25
  go_wp2_with fail
  go_loopw [4] (fun i wr => ∃ k : Nat, k ≤ 6 ∧ i = .int .i64 k ∧ Str wr s (c + 6000 * k) ∧ w.grownBy wr (some s)) (fun i _ => 6 - (intOf i).toNat)
  case atStart => exact ⟨0, by omega, rfl, h.mono (by omega), Gr.refl _ _⟩
  case round =>
    obtain ⟨k, hk, rfl, hS, hG⟩ := hrel
    have hz := hG.size
    by_cases hlt : k < 6
    · have hwk : IntKind.i64.wrap ((k : Int) + 1) = ((k + 1 : Nat) : Int) := by rw [IntWalk.i64_in _ (by omega)]; omega
      go_wp2_with fail
      refine (ReelList_any s _ wr hS (by omega)).mono ?_
      rintro e w2 ⟨v, l, rfl, hO, hl, hok, hS2, hG2⟩
      have HSF := Lib.hid (ReelsFault_any l v w2 (by omega) hO.rec0 (RelOk.z hok))
      obtain ⟨F, hF⟩ : ∃ F, F = reelsF l := ⟨_, rfl⟩
      rw [← hF] at HSF
      have HO := Lib.hid (And.intro (OwnR.base hO hz) (And.intro hl.1 (And.intro hok hF)))
      have hG2' := Gr.trans hG hG2
      clear hO hok hF hG2 hG hl
      by_cases h0 : F = 0
      · subst h0
        go_wp2_with fail
        refine HSF.out.mono ?_
        rintro e w3 ⟨rfl, hb3⟩
        have HF := Lib.hid (And.intro (HO.out.1.below hb3) (And.intro ((hS2.below hb3).mono (d := c + 40000) (by omega)) (Gr.trans hG2' (Gr.of_below hb3 (some s)))))
        clear hb3 hS2 hG2' hS
        go_wp2
        go_ret
        exact ⟨_, l, rfl, HF.out.1, HO.out.2.1, HO.out.2.2.1, HO.out.2.2.2.symm, HF.out.2.1, HF.out.2.2⟩
      · go_wp2_with fail
        refine HSF.out.mono ?_
        rintro e w3 ⟨rfl, hb3⟩
        have HF := Lib.hid (And.intro ((hS2.below hb3).mono (d := c + 6000 * ((k + 1 : Nat) : Int)) (by omega)) (Gr.trans hG2' (Gr.of_below hb3 (some s))))
        clear hb3 hS2 hG2' hS
        go_wp2
        go_roundw
        case rel => exact ⟨k + 1, by omega, by go_num, HF.out.1, HF.out.2⟩
        case measure => simp [intOf]; omega
    · obtain rfl : k = 6 := by omega
      have HF := Lib.hid (And.intro (hS.mono (d := c + 40000) (by omega)) hG)
      clear hS hG
      go_wp2
      go_ret
      exact ⟨_, [], rfl, OwnR.nil _ _, by simp, by simp, rfl, HF.out.1, HF.out.2⟩
set_option maxHeartbeats 4000000 in
theorem RightFeeds_any (s : Nat) (c : Int) (w : World) (h : Str w s c) (hc : c ≤ 700000) :
    Calls Tryz.prog 5 #[.pointer (some ⟨s, 0, none⟩)] w fun e w' => ∃ vr rs vl l, e = .returned (.tuple #[vr, vl]) ∧ OwnR TRe w' w.heap.size vr rs ∧ OwnR TFe w' w.heap.size vl l ∧ rs.length ≤ 4 ∧ l.length ≤ 15 ∧ (∀ x ∈ rs, RelOk x) ∧ (∀ x ∈ l, FedOk x) ∧ feedsF rs l = 0 ∧ Str w' s (c + 80000) ∧ w.grownBy w' (some s) := by
  have ls := h.lt
  go_enter Tryz.func5, Tryz.ntmps5
  go_wp2_with fail
  refine (RightReels_any s c w h (by omega)).mono ?_
  rintro e w1 ⟨vr, rs, rfl, hR1, hr4, hrk, hr0, hs1, hg1⟩
  obtain ⟨ra, rc, rfl, _, _⟩ := hR1.form
  have HRK := Lib.hid (And.intro hrk hr0)
  have HR4 := Lib.hid hr4
  clear h hrk hr0 hr4
  go_wp2_with fail
  go_loopw [8] (fun i wr => ∃ k : Nat, k ≤ 6 ∧ i = .int .i64 k ∧ Str wr s (c + 40000 + 6000 * k) ∧ w.grownBy wr (some s) ∧ Hid (OwnR TRe wr w.heap.size (.slice ra rs.length rc) rs)) (fun i _ => 6 - (intOf i).toNat)
  case atStart => exact ⟨0, by omega, rfl, hs1.mono (by omega), hg1, Lib.hid hR1⟩
  case round =>
    obtain ⟨k, hk, rfl, hS, hG, HR⟩ := hrel
    have hz := hG.size
    by_cases hlt : k < 6
    · have hwk : IntKind.i64.wrap ((k : Int) + 1) = ((k + 1 : Nat) : Int) := by rw [IntWalk.i64_in _ (by omega)]; omega
      go_wp2_with fail
      refine (FeedList_any s _ wr w.heap.size _ rs hS (by omega) HR.out ls (by have := HR4.out; omega) HRK.out.1).mono ?_
      rintro e w2 ⟨v, l, rfl, hO, hl, hok, hS2, hG2⟩
      have hR2 := HR.out.grown hG2 ls
      have HSF := Lib.hid (FeedsFault_any rs l (.slice ra rs.length rc) v w2 (by have := HR4.out; omega) (by omega) hR2.rec0 hO.rec0 (RelOk.z HRK.out.1) (FedOk.z hok))
      obtain ⟨F, hF⟩ : ∃ F, F = feedsF rs l := ⟨_, rfl⟩
      rw [← hF] at HSF
      have HO := Lib.hid (And.intro (OwnR.base hO hz) (And.intro hl (And.intro hok hF)))
      have HR2 := Lib.hid hR2
      have hG2' := Gr.trans hG hG2
      clear hO hok hF hG2 hG hl hR2
      by_cases h0 : F = 0
      · subst h0
        go_wp2_with fail
        refine HSF.out.mono ?_
        rintro e w3 ⟨rfl, hb3⟩
        have HF := Lib.hid (And.intro (HO.out.1.below hb3) (And.intro ((hS2.below hb3).mono (d := c + 80000) (by omega)) (And.intro (Gr.trans hG2' (Gr.of_below hb3 (some s))) (HR2.out.below hb3))))
        clear hb3 hS2 hG2' hS
        go_wp2
        go_ret2
        exact ⟨_, rs, _, l, rfl, HF.out.2.2.2, HF.out.1, HR4.out, HO.out.2.1, HRK.out.1, HO.out.2.2.1, HO.out.2.2.2.symm, HF.out.2.1, HF.out.2.2.1⟩
      · go_wp2_with fail
        refine HSF.out.mono ?_
        rintro e w3 ⟨rfl, hb3⟩
        have HF := Lib.hid (And.intro ((hS2.below hb3).mono (d := c + 40000 + 6000 * ((k + 1 : Nat) : Int)) (by omega)) (And.intro (Gr.trans hG2' (Gr.of_below hb3 (some s))) (HR2.out.below hb3)))
        clear hb3 hS2 hG2' hS
        go_wp2
        go_roundw
        case rel => exact ⟨k + 1, by omega, by go_num, HF.out.1, HF.out.2.1, Lib.hid HF.out.2.2⟩
        case measure => simp [intOf]; omega
    · obtain rfl : k = 6 := by omega
      have HF := Lib.hid (And.intro (hS.mono (d := c + 80000) (by omega)) (And.intro hG HR.out))
      clear hS hG
      go_wp2
      go_ret2
      exact ⟨_, rs, _, [], rfl, HF.out.2.2, OwnR.nil _ _, HR4.out, by simp, HRK.out.1, by simp, feedsF_nil HRK.out.2, HF.out.1, HF.out.2.1⟩
end Go.Proofs.YtilhonppgedoiaaGreatDoor
