/- Plain law: right events stay right when some are left out; without the refused ones the same happens, and none is refused. No conditions. · Plain law: without counts, what the reels have at first is what they have left and what was taken. No conditions. -/
import Derived.Test.YtcfeoapbbkfbnaaGreatDoorRp1
namespace Go.Proofs.YtcfeoapbbkfbnaaGreatDoor
open Go.RowKit Go.Sort

theorem feedF_iff (rs : List Rel) (p : Option Int) (x : Fed) : feedF rs p x = 0 ↔ feedF rs none x = 0 ∧ ∀ q, p = some q → q ≤ x.1 := by
  have ho : ordT p x.1 = 0 ↔ ∀ q, p = some q → q ≤ x.1 := by
    cases p with
    | none => simp [ordT]
    | some q =>
      unfold ordT
      simp only
      constructor
      · intro h r hr
        injection hr with hr
        subst hr
        by_cases hlt : x.1 < q
        · rw [if_pos hlt] at h; cases h
        · omega
      · intro h
        have := h q rfl
        rw [if_neg (by omega)]
  unfold feedF
  (repeat' split) <;> first
    | (constructor <;> intro h <;> first | exact absurd h (by decide) | exact absurd h.1 (by decide))
    | (rw [ho]; exact ⟨fun h => ⟨rfl, h⟩, fun h => h.2⟩)
theorem feedsF1_iff (rs : List Rel) : ∀ (l : List Fed) (p : Option Int), feedsF1 rs p l = 0 ↔ (∀ e ∈ l, feedF rs none e = 0 ∧ ∀ q, p = some q → q ≤ e.1) ∧ FedS l
  | [], p => ⟨fun _ => ⟨fun e he => by simp at he, List.Pairwise.nil⟩, fun _ => rfl⟩
  | x :: l, p => by
    have ih := feedsF1_iff rs l (some x.1)
    rw [feedsF1]
    constructor
    · intro h
      by_cases h0 : feedF rs p x = 0
      · rw [if_pos h0] at h
        obtain ⟨h1, h2⟩ := ih.1 h
        have hx := (feedF_iff rs p x).1 h0
        refine ⟨fun e he => ?_, List.pairwise_cons.2 ⟨fun e he => (h1 e he).2 _ rfl, h2⟩⟩
        rcases List.mem_cons.1 he with rfl | he
        · exact hx
        · exact ⟨(h1 e he).1, fun q hq => Int.le_trans (hx.2 q hq) ((h1 e he).2 _ rfl)⟩
      · rw [if_neg h0] at h; exact absurd h h0
    · rintro ⟨h1, h2⟩
      have hx := (feedF_iff rs p x).2 (h1 x (List.mem_cons_self ..))
      rw [if_pos hx]
      obtain ⟨h3, h4⟩ := List.pairwise_cons.1 h2
      exact ih.2 ⟨fun e he => ⟨(h1 e (List.mem_cons_of_mem _ he)).1, fun q hq => by injection hq with hq; subst hq; exact h3 e he⟩, h4⟩
theorem feedsF_reels {rs : List Rel} {l : List Fed} (h : feedsF rs l = 0) : reelsF rs = 0 := by
  unfold feedsF at h
  split at h
  · assumption
  · rename_i h0; exact absurd h h0
theorem feedsF_sub {rs : List Rel} {l l' : List Fed} (hs : l'.Sublist l) (h : feedsF rs l = 0) : feedsF rs l' = 0 := by
  have h0 := feedsF_reels h
  unfold feedsF at h ⊢
  rw [if_pos h0] at h ⊢
  have hl := hs.length_le
  by_cases h5 : 5000 < l.length
  · rw [if_pos h5] at h; cases h
  · rw [if_neg h5] at h
    rw [if_neg (by omega)]
    obtain ⟨h1, h2⟩ := (feedsF1_iff rs l none).1 h
    exact (feedsF1_iff rs l' none).2 ⟨fun e he => h1 e (hs.subset he), h2.sublist hs⟩
theorem feedsF_nil {rs : List Rel} (h : reelsF rs = 0) : feedsF rs [] = 0 := by
  unfold feedsF
  rw [if_pos h]
  rfl
/-- events whose place is not among some numbers. -/
def goodI (bad : List Int) : Nat → List Fed → List Fed
  | _, [] => []
  | k, e :: l => if (k : Int) ∈ bad then goodI bad (k + 1) l else e :: goodI bad (k + 1) l
theorem goodI_sub (bad : List Int) : ∀ (l : List Fed) (k : Nat), (goodI bad k l).Sublist l
  | [], _ => List.Sublist.slnil
  | e :: l, k => by
    rw [goodI]
    split
    · exact (goodI_sub bad l (k + 1)).cons _
    · exact (goodI_sub bad l (k + 1)).cons_cons _
theorem goodI_low {x : Int} {bad : List Int} : ∀ (l : List Fed) (k : Nat), x < (k : Int) → goodI (x :: bad) k l = goodI bad k l
  | [], _, _ => rfl
  | e :: l, k, h => by
    have ih := goodI_low (bad := bad) l (k + 1) (x := x) (by omega)
    rw [goodI, goodI, ih]
    have : ((k : Int) ∈ x :: bad) ↔ (k : Int) ∈ bad := by
      rw [List.mem_cons]
      exact ⟨fun h1 => h1.resolve_left (by omega), .inr⟩
    by_cases h2 : (k : Int) ∈ bad
    · rw [if_pos h2, if_pos (this.2 h2)]
    · rw [if_neg h2, if_neg fun h3 => h2 (this.1 h3)]
theorem goodI_snoc (bad : List Int) (e : Fed) : ∀ (l : List Fed) (k : Nat), goodI bad k (l ++ [e]) = goodI bad k l ++ (if ((k + l.length : Nat) : Int) ∈ bad then [] else [e])
  | [], k => by
    rw [List.nil_append, goodI, goodI, goodI]
    simp
  | x :: l, k => by
    rw [List.cons_append, goodI, goodI, goodI_snoc bad e l (k + 1)]
    rw [show k + 1 + l.length = k + (x :: l).length by simp; omega]
    split <;> rfl
def goodM : Mdl → Nat → List Fed → List Fed
  | _, _, [] => []
  | A, i, e :: l => if refM A e = 0 then e :: goodM (stepM A i e) (i + 1) l else goodM (stepM A i e) (i + 1) l
theorem refsM_from (at' : Int) : ∀ (l : List Fed) (A : Mdl) (k : Nat), ∀ p ∈ refsM at' A k l, (k : Int) ≤ p.1
  | [], _, _, p, hp => by simp [refsM] at hp
  | e :: l, A, k, p, hp => by
    rw [refsM] at hp
    split at hp
    · have := refsM_from at' l _ _ p hp; omega
    · split at hp
      · have := refsM_from at' l _ _ p hp; omega
      · rcases List.mem_cons.1 hp with rfl | hp
        · exact Int.le_refl _
        · have := refsM_from at' l _ _ p hp; omega
theorem goodI_refs {at' : Int} : ∀ (l : List Fed) (A : Mdl) (k : Nat), (∀ e ∈ l, ¬ at' < e.at) → goodI ((refsM at' A k l).map (·.1)) k l = goodM A k l
  | [], _, _, _ => rfl
  | e :: l, A, k, h => by
    have ih := fun B => goodI_refs (at' := at') l B (k + 1) fun x hx => h x (List.mem_cons_of_mem _ hx)
    rw [refsM, goodM, if_neg (h e (List.mem_cons_self ..))]
    by_cases h0 : refM A e = 0
    · rw [if_pos h0, if_pos h0, goodI, if_neg, ih]
      intro hm
      obtain ⟨p, hp, e1⟩ := List.mem_map.1 hm
      have := refsM_from at' l _ _ p hp
      omega
    · rw [if_neg h0, if_neg h0, List.map_cons, goodI, if_pos (List.mem_cons_self ..), goodI_low _ _ (by show (k : Int) < _; omega), ih]
/-- the same but for the numbers of the events in the log. -/
structure SimM (A A' : Mdl) : Prop where
  left : A.left = A'.left
  part : A.part = A'.part
  row : A.row = A'.row
  pos : A.pos = A'.pos
  log : A.log.map (·.2) = A'.log.map (·.2)
theorem SimM.refl (A : Mdl) : SimM A A := ⟨rfl, rfl, rfl, rfl, rfl⟩
theorem SimM.ref {A A' : Mdl} (h : SimM A A') (e : Fed) : refM A e = refM A' e := by
  unfold refM
  rw [h.left, h.part, h.row, h.pos]
theorem SimM.use {A A' : Mdl} (h : SimM A A') (e : Fed) : useT A e = useT A' e := by
  unfold useT
  rw [h.left, h.row]
theorem logU_sim (i j : Int) (e : Fed) (lg : List (ByteArray × Int)) : (logU i e lg).map (·.2) = (logU j e lg).map (·.2) := by
  unfold logU
  rw [List.map_map, List.map_map]
  rfl
theorem SimM.do {A A' : Mdl} (h : SimM A A') (e : Fed) (i j : Int) : SimM (doM A i e) (doM A' j e) := by
  unfold doM
  rw [h.use e]
  split
  · exact ⟨h.left, h.part, by rw [h.row], by rw [h.pos], h.log⟩
  split
  · exact ⟨h.left, h.part, by rw [h.row], by rw [h.row, h.pos], h.log⟩
  split
  · exact ⟨rfl, h.part, by rw [h.row], by rw [h.row, h.pos], by rw [List.map_append, List.map_append, h.log, logU_sim i j]⟩
  · exact ⟨by rw [h.left], h.part, h.row, h.pos, h.log⟩
theorem SimM.step {A A' : Mdl} (h : SimM A A') (e : Fed) (i j : Int) : SimM (stepM A i e) (stepM A' j e) := by
  unfold stepM
  rw [h.ref e]
  split
  · exact h.do e i j
  · exact h
theorem run_good {at' : Int} : ∀ (l : List Fed) (A A' : Mdl) (i j : Nat), SimM A A' → (∀ e ∈ l, ¬ at' < e.at) → SimM (runM at' A i l) (runM at' A' j (goodM A i l)) ∧ refsM at' A' j (goodM A i l) = []
  | [], _, _, _, _, h, _ => ⟨h, rfl⟩
  | e :: l, A, A', i, j, h, hl => by
    have he := hl e (List.mem_cons_self ..)
    have hr : ∀ x ∈ l, ¬ at' < x.at := fun x hx => hl x (List.mem_cons_of_mem _ hx)
    rw [runM, if_neg he, goodM]
    by_cases h0 : refM A e = 0
    · rw [if_pos h0, runM, if_neg he, refsM, if_neg he, if_pos (by rw [← h.ref e]; exact h0)]
      exact run_good l _ _ (i + 1) (j + 1) (h.step e i j) hr
    · rw [if_neg h0]
      have hs : stepM A i e = A := by unfold stepM; rw [if_neg h0]
      rw [hs]
      exact run_good l A A' (i + 1) j h hr
theorem orgL_sim {a b : List Tkn} (h : a.map (·.2) = b.map (·.2)) (k : ByteArray) : orgL a k = orgL b k := by
  have q : ∀ l : List Tkn, orgL l k = ((l.map (·.2)).filter fun t => decide (t.2.1 = k)).map fun t => (t.2.2.1, t.2.2.2.1, t.2.2.2.2) := fun l => by
    unfold orgL
    rw [List.filter_map, List.map_map]
    rfl
  rw [q, q, h]
theorem runM_same {a b : Int} : ∀ (l : List Fed) (A : Mdl) (i : Nat), (∀ e ∈ l, ¬ a < e.at) → (∀ e ∈ l, ¬ b < e.at) → runM a A i l = runM b A i l
  | [], _, _, _, _ => rfl
  | e :: l, A, i, h, k => by
    rw [runM, runM, if_neg (h e (List.mem_cons_self ..)), if_neg (k e (List.mem_cons_self ..))]
    exact runM_same l _ _ (fun x hx => h x (List.mem_cons_of_mem _ hx)) fun x hx => k x (List.mem_cons_of_mem _ hx)
/-- without the events that are refused: the same, and none is refused. -/
theorem refused_same {rs : List Rel} {l : List Fed} {at' : Int} (h : ∀ e ∈ l, ¬ at' < e.at) {g : List Fed} (hg : g = goodI ((refsM at' (newM rs) 0 l).map (·.1)) 0 l) : SimM (runM at' (newM rs) 0 l) (runM at' (newM rs) 0 g) ∧ refsM at' (newM rs) 0 g = [] := by
  rw [hg, goodI_refs l (newM rs) 0 h]
  exact run_good l _ _ 0 0 (SimM.refl _) h
end Go.Proofs.YtcfeoapbbkfbnaaGreatDoor
namespace Go.Proofs.YtcfeoapbbkfbnaaGreatDoor
open Go.RowKit Go.Sort

abbrev keysR (rs : List Rel) : List ByteArray := rs.map (·.1)
def lgS : List (ByteArray × Int) → Int
  | [] => 0
  | p :: l => p.2 + lgS l
def logS : List Tkn → Int
  | [] => 0
  | t :: l => t.2.2.2.2.2 + logS l
theorem addT_cons (x : ByteArray) (m : Int) (r : List (ByteArray × Int)) (k : ByteArray) : addT ((x, m) :: r) k = if x = k then (x, m + 1) :: r else (k, 1) :: (x, m) :: r := rfl
theorem takeO_stop {n : Nat} {left : Lf} {l : List ByteArray} {log : List (ByteArray × Int)} (h : dropE left l = []) : takeO (n + 1) left l log = (left, [], log) := by
  rw [takeO.eq_def]; simp only [h]
theorem takeO_next {n : Nat} {left : Lf} {l r : List ByteArray} {k : ByteArray} {log : List (ByteArray × Int)} (h : dropE left l = k :: r) : takeO (n + 1) left l log = takeO n (updL left k (left k - 1)) (k :: r) (addT log k) := by
  rw [takeO.eq_def]; simp only [h]
theorem lgS_addT : ∀ (l : List (ByteArray × Int)) (k : ByteArray), lgS (addT l k) = lgS l + 1
  | [], k => rfl
  | (x, m) :: r, k => by
    rw [addT_cons]
    split
    · show m + 1 + lgS r = m + lgS r + 1; omega
    · show 1 + (m + lgS r) = m + lgS r + 1; omega
theorem addT_mem {l : List (ByteArray × Int)} {k : ByteArray} {p : ByteArray × Int} (h : p ∈ addT l k) : (p ∈ l) ∨ (p.1 = k ∧ (p.2 = 1 ∨ ∃ m, (k, m) ∈ l ∧ p.2 = m + 1)) := by
  cases l with
  | nil =>
    have : p = (k, 1) := List.mem_singleton.1 h
    subst this
    exact .inr ⟨rfl, .inl rfl⟩
  | cons q r =>
    obtain ⟨x, m⟩ := q
    rw [addT_cons] at h
    split at h
    · rename_i e
      subst e
      rcases List.mem_cons.1 h with rfl | h
      · exact .inr ⟨rfl, .inr ⟨m, List.mem_cons_self .., rfl⟩⟩
      · exact .inl (List.mem_cons_of_mem _ h)
    · rcases List.mem_cons.1 h with rfl | h
      · exact .inr ⟨rfl, .inl rfl⟩
      · exact .inl h
theorem sumL_low {left : Lf} {k : ByteArray} : ∀ {l : List ByteArray}, l.Nodup → k ∈ l → sumL (updL left k (left k - 1)) l = sumL left l - 1
  | [], _, h => by simp at h
  | x :: l, hn, h => by
    obtain ⟨h1, h2⟩ := List.nodup_cons.1 hn
    show updL left k (left k - 1) x + sumL (updL left k (left k - 1)) l = left x + sumL left l - 1
    by_cases e : x = k
    · subst e
      rw [updL_at, sumL_upd left x _ l h1]
      omega
    · rw [updL_ne _ _ e, sumL_low h2 (List.mem_of_ne_of_mem (Ne.symm e) h)]
      omega
theorem takeO_cons {keys : List ByteArray} (hk : keys.Nodup) : ∀ (n : Nat) (left : Lf) (l : List ByteArray) (log : List (ByteArray × Int)), (∀ x ∈ l, x ∈ keys) → (∀ p ∈ log, 1 ≤ p.2 ∧ p.1 ∈ keys) →
    sumL (takeO n left l log).1 keys + lgS (takeO n left l log).2.2 = sumL left keys + lgS log ∧ (∀ x, (takeO n left l log).1 x ≤ left x) ∧ (∀ p ∈ (takeO n left l log).2.2, 1 ≤ p.2 ∧ p.1 ∈ keys) ∧ (∀ x ∈ (takeO n left l log).2.1, x ∈ keys)
  | 0, left, l, log, hl, hp => ⟨rfl, fun _ => Int.le_refl _, hp, fun x hx => hl x ((dropE_suffix left l).subset hx)⟩
  | n + 1, left, l, log, hl, hp => by
    cases hd : dropE left l with
    | nil =>
      rw [takeO_stop hd]
      exact ⟨rfl, fun _ => Int.le_refl _, hp, fun x hx => by simp at hx⟩
    | cons k r =>
      rw [takeO_next hd]
      have hs := (dropE_suffix left l).subset
      rw [hd] at hs
      have hk0 : k ∈ keys := hl k (hs (List.mem_cons_self ..))
      obtain ⟨h1, h2, h3, h4⟩ := takeO_cons hk n (updL left k (left k - 1)) (k :: r) (addT log k) (fun x hx => hl x (hs hx)) (fun p hp' => by
        rcases addT_mem hp' with h | ⟨e1, e2⟩
        · exact hp p h
        · rw [e1]
          refine ⟨?_, hk0⟩
          rcases e2 with e2 | ⟨m, hm, e2⟩
          · omega
          · have := (hp _ hm).1
            simp only at this
            omega)
      rw [sumL_low hk hk0, lgS_addT] at h1
      refine ⟨by omega, fun x => Int.le_trans (h2 x) ?_, h3, h4⟩
      by_cases e : x = k
      · subst e; rw [updL_at]; omega
      · rw [updL_ne _ _ e]; exact Int.le_refl _
theorem lgS_app : ∀ (a b : List (ByteArray × Int)), lgS (a ++ b) = lgS a + lgS b
  | [], b => by show lgS b = 0 + lgS b; omega
  | p :: a, b => by
    have := lgS_app a b
    show p.2 + lgS (a ++ b) = p.2 + lgS a + lgS b
    omega
theorem lgS_rev : ∀ (a : List (ByteArray × Int)), lgS a.reverse = lgS a
  | [] => rfl
  | p :: a => by
    rw [List.reverse_cons, lgS_app, lgS_rev a]
    show lgS a + (p.2 + 0) = p.2 + lgS a
    omega
theorem logS_app : ∀ (a b : List Tkn), logS (a ++ b) = logS a + logS b
  | [], b => by show logS b = 0 + logS b; omega
  | p :: a, b => by
    have := logS_app a b
    show p.2.2.2.2.2 + logS (a ++ b) = p.2.2.2.2.2 + logS a + logS b
    omega
theorem logS_map (i : Int) (e : Fed) : ∀ lg : List (ByteArray × Int), logS (lg.map fun p => (i, e.at, e.bd, e.fd, p.1, p.2)) = lgS lg
  | [] => rfl
  | p :: l => by
    have := logS_map i e l
    show p.2 + logS _ = p.2 + lgS l
    rw [this]
theorem logS_U (i : Int) (e : Fed) (lg : List (ByteArray × Int)) : logS (logU i e lg) = lgS lg := by
  unfold logU
  rw [logS_map, lgS_rev]
/-- boards are among some. -/
structure InvC (U : List ByteArray) (rs : List Rel) (A : Mdl) : Prop where
  rowk : ∀ f x, x ∈ A.row f → x ∈ keysR rs
  cons : sumL A.left (keysR rs) + logS A.log = sumL (newM rs).left (keysR rs)
  one : ∀ t ∈ A.log, 1 ≤ t.2.2.2.2.2 ∧ t.2.2.2.2.1 ∈ keysR rs ∧ t.2.2.1 ∈ U
  le : ∀ x, A.left x ≤ (newM rs).left x
theorem InvC.new (U : List ByteArray) (rs : List Rel) : InvC U rs (newM rs) :=
  ⟨fun f x hx => by simp [newM] at hx, by show sumL (newM rs).left (keysR rs) + 0 = _; omega, fun t ht => by simp [newM] at ht, fun _ => Int.le_refl _⟩
theorem InvC.step {U : List ByteArray} {rs : List Rel} {A : Mdl} (h : InvC U rs A) (hk : (keysR rs).Nodup) (i : Int) {e : Fed} (h5 : e.kd ≠ 5) (h15 : 1 ≤ e.kd ∧ e.kd ≤ 5) (hr : e.kd = 1 ∨ e.kd = 2 → e.rl ∈ keysR rs) (hb : e.kd = 4 → e.bd ∈ U) : InvC U rs (stepM A i e) := by
  unfold stepM
  split
  case isFalse => exact h
  unfold doM
  split
  · rename_i hk12
    refine ⟨fun f x hx => ?_, h.cons, h.one, h.le⟩
    have hx2 : x ∈ updR A.row e.fd (A.row e.fd ++ [e.rl]) f := hx
    by_cases hf : f = e.fd
    · rw [hf, updR_at, List.mem_append, List.mem_singleton] at hx2
      rcases hx2 with hx2 | rfl
      · exact h.rowk _ x hx2
      · exact hr hk12
    · rw [updR_ne _ _ hf] at hx2; exact h.rowk f x hx2
  split
  · refine ⟨fun f x hx => ?_, h.cons, h.one, h.le⟩
    have hx2 : x ∈ updR A.row e.fd [] f := hx
    by_cases hf : f = e.fd
    · rw [hf, updR_at] at hx2; simp at hx2
    · rw [updR_ne _ _ hf] at hx2; exact h.rowk f x hx2
  split
  · rename_i h4
    obtain ⟨c1, c2, c3, c4⟩ := takeO_cons hk e.mn.toNat A.left (A.row e.fd) [] (fun x hx => h.rowk _ x hx) (fun p hp => by simp at hp)
    refine ⟨fun f x hx => ?_, ?_, fun t ht => ?_, fun x => Int.le_trans (c2 x) (h.le x)⟩
    · have hx2 : x ∈ updR A.row e.fd (useT A e).2.1 f := hx
      by_cases hf : f = e.fd
      · rw [hf, updR_at] at hx2; exact c4 x hx2
      · rw [updR_ne _ _ hf] at hx2; exact h.rowk f x hx2
    · show sumL (useT A e).1 (keysR rs) + logS (A.log ++ logU i e (useT A e).2.2) = _
      rw [logS_app, logS_U]
      have hc := h.cons
      have c1' : sumL (useT A e).1 (keysR rs) + lgS (useT A e).2.2 = sumL A.left (keysR rs) + 0 := c1
      omega
    · rcases List.mem_append.1 ht with ht | ht
      · exact h.one t ht
      · unfold logU at ht
        obtain ⟨p, hp, rfl⟩ := List.mem_map.1 ht
        have := c3 p (List.mem_reverse.1 hp)
        exact ⟨this.1, this.2, hb h4⟩
  · exact absurd (by omega : e.kd = 5) h5
theorem InvC.run {U : List ByteArray} {rs : List Rel} {at' : Int} (hk : (keysR rs).Nodup) : ∀ (l : List Fed) (A : Mdl) (i : Nat), InvC U rs A → (∀ e ∈ l, e.kd ≠ 5 ∧ (1 ≤ e.kd ∧ e.kd ≤ 5) ∧ (e.kd = 1 ∨ e.kd = 2 → e.rl ∈ keysR rs) ∧ (e.kd = 4 → e.bd ∈ U)) → InvC U rs (runM at' A i l)
  | [], _, _, h, _ => h
  | e :: l, A, i, h, hl => by
    have hr := fun x hx => hl x (List.mem_cons_of_mem e hx)
    obtain ⟨h1, h2, h3, h4⟩ := hl e (List.mem_cons_self ..)
    rw [runM]
    split
    · exact InvC.run hk l A (i + 1) h hr
    · exact InvC.run hk l _ (i + 1) (h.step hk i h1 h2 h3 h4) hr
theorem newM_left {rs : List Rel} (hk : (keysR rs).Nodup) {x : Rel} (hx : x ∈ rs) : (newM rs).left x.1 = x.2.2 := by
  show ((rs.reverse.find? fun r => decide (r.1 = x.1)).map (·.2.2)).getD 0 = x.2.2
  cases hf : rs.reverse.find? fun r => decide (r.1 = x.1) with
  | none =>
    have := List.find?_eq_none.1 hf x (List.mem_reverse.2 hx)
    simp at this
  | some r =>
    have h1 := List.find?_some hf
    have h2 : r ∈ rs := List.mem_reverse.1 (List.mem_of_find?_eq_some hf)
    have h3 : r.1 = x.1 := of_decide_eq_true h1
    have : r = x := by
      obtain ⟨i, hi, e1⟩ := List.mem_iff_getElem.1 h2
      obtain ⟨j, hj, e2⟩ := List.mem_iff_getElem.1 hx
      by_cases hij : i = j
      · subst hij; rw [← e1, ← e2]
      · exfalso
        have hp := List.pairwise_iff_getElem.1 hk
        rcases Nat.lt_or_gt_of_ne hij with hlt | hlt
        · have := hp i j (by simpa using hi) (by simpa using hj) hlt
          rw [List.getElem_map, List.getElem_map, e1, e2] at this
          exact this h3
        · have := hp j i (by simpa using hj) (by simpa using hi) hlt
          rw [List.getElem_map, List.getElem_map, e1, e2] at this
          exact this h3.symm
    subst this
    rfl
def manyS : List Rel → Int
  | [] => 0
  | x :: l => x.2.2 + manyS l
theorem manyS_left {rs : List Rel} (left : Lf) : ∀ l : List Rel, (∀ x ∈ l, left x.1 = x.2.2) → sumL left (l.map (·.1)) = manyS l
  | [], _ => rfl
  | x :: l, h => by
    show left x.1 + sumL left (l.map (·.1)) = x.2.2 + manyS l
    rw [h x (List.mem_cons_self ..), manyS_left left (rs := rs) l fun y hy => h y (List.mem_cons_of_mem _ hy)]
def orgS : List Org → Int
  | [] => 0
  | x :: l => x.2.2 + orgS l
/-- what was taken for one of some boards. -/
def tookU (log : List Tkn) : List ByteArray → Int
  | [] => 0
  | b :: U => orgS (orgL log b) + tookU log U
theorem orgL_cons (t : Tkn) (log : List Tkn) (b : ByteArray) : orgL (t :: log) b = if t.2.2.1 = b then (t.2.2.2.1, t.2.2.2.2.1, t.2.2.2.2.2) :: orgL log b else orgL log b := by
  unfold orgL
  by_cases h : t.2.2.1 = b
  · rw [if_pos h, List.filter_cons_of_pos (by simp [h])]; rfl
  · rw [if_neg h, List.filter_cons_of_neg (by simp [h])]
theorem tookU_cons {t : Tkn} {log : List Tkn} : ∀ {U : List ByteArray}, U.Nodup → tookU (t :: log) U = tookU log U + (if memR t.2.2.1 U = true then t.2.2.2.2.2 else 0)
  | [], _ => by simp [tookU, memR]
  | b :: U, h => by
    obtain ⟨h1, h2⟩ := List.nodup_cons.1 h
    have ih := tookU_cons (t := t) (log := log) h2
    rw [tookU, tookU, orgL_cons, ih]
    by_cases e : t.2.2.1 = b
    · subst e
      rw [if_pos rfl, if_neg (fun q => h1 (memR_iff.1 q)), if_pos (memR_iff.2 (List.mem_cons_self ..))]
      show t.2.2.2.2.2 + orgS (orgL log t.2.2.1) + (tookU log U + 0) = _
      omega
    · rw [if_neg e]
      by_cases e2 : t.2.2.1 ∈ U
      · rw [if_pos (memR_iff.2 e2), if_pos (memR_iff.2 (List.mem_cons_of_mem _ e2))]; omega
      · rw [if_neg (fun q => e2 (memR_iff.1 q)), if_neg (fun h3 => (List.mem_cons.1 (memR_iff.1 h3)).elim e e2)]; omega
theorem tookU_all {U : List ByteArray} (hU : U.Nodup) : ∀ {log : List Tkn}, (∀ t ∈ log, t.2.2.1 ∈ U) → tookU log U = logS log
  | [], _ => by
    have : ∀ V : List ByteArray, tookU [] V = 0 := fun V => by
      induction V with
      | nil => rfl
      | cons b V ih => rw [tookU, ih]; rfl
    rw [this]; rfl
  | t :: log, h => by
    rw [tookU_cons hU, tookU_all hU fun x hx => h x (List.mem_cons_of_mem _ hx), if_pos (memR_iff.2 (h t (List.mem_cons_self ..)))]
    show logS log + t.2.2.2.2.2 = t.2.2.2.2.2 + logS log
    omega
theorem sortR_nodup {rs : List Rel} (h : SortR rs) : (keysR rs).Nodup := by
  unfold SortR at h
  refine List.pairwise_map.2 (h.imp fun {a b} hab e => ?_)
  rw [e] at hab
  exact absurd hab (by rw [bl_irr]; decide)
/-- what all reels have at first is what they have left and what boards took. -/
theorem adds_up {U : List ByteArray} {rs : List Rel} {A : Mdl} (hU : U.Nodup) (hk : (keysR rs).Nodup) (h : InvC U rs A) : manyS rs = sumL A.left (keysR rs) + tookU A.log U := by
  rw [tookU_all hU fun t ht => (h.one t ht).2.2, h.cons, manyS_left (rs := rs) _ rs fun x hx => newM_left hk hx]
end Go.Proofs.YtcfeoapbbkfbnaaGreatDoor
