/- Hopeless boards: the plain law of HopelessOnesWait. No conditions. -/
import Derived.Test.YtnmimagninhkkaaGreatDoorRun
namespace Go.Proofs.YtnmimagninhkkaaGreatDoor
open Go.RowKit Go.Sort Go.Maps

def isHopB (rh rr : Int) (b : Bd0) : Bool := decide (rh - b.he < b.op.length) || b.op.any fun p => decide (rr ≤ (b.rp.get p.1).getD 0)
/-- a step of one board. -/
def stepB (rh rr : Int) (b : Bd0) (s : Stp) : Bd0 := if refB rh rr b s = 0 then doB b s else b
theorem doS_get {rh rr : Int} {m : Sm Bd0} {s : Stp} {b : Bd0} (h : m.get s.bd.data.toList = some b) : (doS rh rr m s).1.get s.bd.data.toList = some (stepB rh rr b s) := by
  unfold doS stepB
  rw [h]
  show (if refB rh rr b s = 0 then _ else _ : Sm Bd0 × Int).1.get _ = _
  split <;> exact Sm.get_put_same _ _ _
theorem runS_append {rh rr at' : Int} : ∀ (l l' : List Stp) (m : Sm Bd0), (∀ s ∈ l, s.at ≤ at') → runS rh rr at' m (l ++ l') = runS rh rr at' (runS rh rr at' m l) l'
  | [], l', m, _ => rfl
  | s :: l, l', m, h => by
    have h1 := h s (List.mem_cons_self ..)
    rw [List.cons_append, runS, if_neg (by omega), runS, if_neg (by omega)]
    exact runS_append l l' _ fun x hx => h x (List.mem_cons_of_mem _ hx)
theorem runS_board {rh rr at' : Int} {bd : ByteArray} : ∀ (l : List Stp) (m : Sm Bd0) (b : Bd0), (∀ s ∈ l, s.at ≤ at' ∧ s.bd = bd) → m.get bd.data.toList = some b → (runS rh rr at' m l).get bd.data.toList = some (l.foldl (stepB rh rr) b)
  | [], m, b, _, h => h
  | s :: l, m, b, h, hm => by
    obtain ⟨h1, h2⟩ := h s (List.mem_cons_self ..)
    rw [runS, if_neg (by omega), List.foldl_cons]
    refine runS_board l _ _ (fun x hx => h x (List.mem_cons_of_mem _ hx)) ?_
    rw [← h2] at hm ⊢
    exact doS_get hm
def repS (at' : Int) (bd : ByteArray) (k : ByteArray) : Stp := (at', bd, 4, k)
theorem rep_kd (at' : Int) (bd k : ByteArray) : (repS at' bd k).kd = 4 := rfl
theorem refB_rep {rh rr at' : Int} {bd : ByteArray} {b : Bd0} (h3 : b.st = 3) (k : ByteArray) : refB rh rr b (repS at' bd k) = if b.isOp k = false then 8 else if rr ≤ b.reps k ∨ rh ≤ b.he then 16 else 0 := by
  unfold refB
  rw [rep_kd, if_neg (show ¬ (4 : Int) = 1 by decide), if_neg (show ¬ (4 : Int) = 2 by decide), if_neg (show ¬ (4 : Int) = 3 by decide), if_pos (show (4 : Int) = 4 from rfl), if_neg (by rw [h3]; decide)]
  rfl
theorem doB_rep {at' : Int} {bd : ByteArray} (b : Bd0) (k : ByteArray) : doB b (repS at' bd k) = if (b.op.del (bsOf k)).length = 0 then Bd0.become { b with op := b.op.del (bsOf k), rp := b.rp.put (bsOf k) (b.reps k + 1), he := b.he + 1, lp := b.lp + 1 } 2 at' else { b with op := b.op.del (bsOf k), rp := b.rp.put (bsOf k) (b.reps k + 1), he := b.he + 1 } := by
  unfold doB
  rw [rep_kd, if_neg (show ¬ (4 : Int) = 1 by decide), if_neg (show ¬ (4 : Int) = 2 by decide), if_neg (show ¬ (4 : Int) = 3 by decide), if_pos (show (4 : Int) = 4 from rfl)]
  rfl
/-- what is open has the word true. -/
structure OpI (b : Bd0) : Prop where
  op : Sm.Ok b.op
  tr : ∀ p ∈ b.op, p.2 = true
theorem OpI.isOp {b : Bd0} (h : OpI b) (k : ByteArray) : b.isOp k = true ↔ bsOf k ∈ b.op.keys := by
  unfold Bd0.isOp
  rw [← Sm.has_iff, Sm.has, Option.isSome_iff_exists]
  constructor
  · intro hh
    cases hg : b.op.get k.data.toList with
    | none => rw [hg] at hh; cases hh
    | some v => exact ⟨v, hg⟩
  · rintro ⟨v, hg⟩
    have := h.tr _ (Sm.get_mem hg)
    rw [show b.op.get k.data.toList = some v from hg]
    exact this
theorem del_keys {α : Type} (m : Sm α) (k j : Bs) : j ∈ (m.del k).keys ↔ j ∈ m.keys ∧ j ≠ k := by
  unfold Sm.keys Sm.del
  simp only [List.mem_map, List.mem_filter, decide_eq_true_eq]
  constructor
  · rintro ⟨p, ⟨hp, hne⟩, rfl⟩; exact ⟨⟨p, hp, rfl⟩, hne⟩
  · rintro ⟨⟨p, hp, rfl⟩, hne⟩; exact ⟨p, ⟨hp, hne⟩, rfl⟩
theorem del_len {α : Type} : ∀ {m : Sm α}, Sm.Ok m → ∀ k : Bs, m.length ≤ (m.del k).length + 1
  | [], _, _ => Nat.zero_le _
  | p :: m, h, k => by
    obtain ⟨h1, h2⟩ := List.pairwise_cons.1 h
    unfold Sm.del
    rw [List.filter_cons]
    by_cases hp : p.1 = k
    · have : m.filter (fun q => decide (q.1 ≠ k)) = m := List.filter_eq_self.2 fun q hq => by
        have := Sm.bb_ne (h1 q hq)
        rw [hp] at this
        simpa using this.symm
      rw [if_neg (by simp [hp]), this]; simp
    · rw [if_pos (by simp [hp])]
      have := del_len h2 k
      unfold Sm.del at this
      simp only [List.length_cons]; omega
theorem keys_len {α : Type} (m : Sm α) : m.keys.length = m.length := List.length_map _
theorem OpI.del {b b' : Bd0} (h : OpI b) {k : Bs} (hb : b'.op = b.op.del k) : OpI b' := ⟨by rw [hb]; exact h.op.del k, fun p hp => by rw [hb] at hp; exact h.tr p (List.mem_filter.1 hp).1⟩
theorem reps_put {b : Bd0} {k j : ByteArray} (h : j ≠ k) (n : Int) : ((b.rp.put (bsOf k) n).get j.data.toList).getD 0 = b.reps j := by
  rw [Sm.get_put_other (j := j.data.toList) (fun e => h (bsOf_inj (show bsOf k = bsOf j from e)).symm)]; rfl
/-- not hopeless: all repairs are done. -/
theorem rep_all {rh rr at' : Int} {bd : ByteArray} : ∀ (ks : List ByteArray) (b : Bd0), ks.Nodup → ks ≠ [] → b.st = 3 → OpI b → (∀ j, j ∈ b.op.keys ↔ ∃ k ∈ ks, bsOf k = j) → (ks.length : Int) ≤ rh - b.he → (∀ k ∈ ks, b.reps k < rr) → ((ks.map (repS at' bd)).foldl (stepB rh rr) b).st = 2
  | [], b, _, hne, _, _, _, _, _ => absurd rfl hne
  | k :: ks, b, hnd, _, h3, hO, hk, hl, hr => by
    obtain ⟨hk1, hk2⟩ := List.nodup_cons.1 hnd
    have hop : b.isOp k = true := (hO.isOp k).2 ((hk _).2 ⟨k, List.mem_cons_self .., rfl⟩)
    have hrk := hr k (List.mem_cons_self ..)
    simp only [List.length_cons] at hl
    have hz : refB rh rr b (repS at' bd k) = 0 := by rw [refB_rep h3, if_neg (by rw [hop]; decide), if_neg (by omega)]
    rw [List.map_cons, List.foldl_cons, show stepB rh rr b (repS at' bd k) = doB b (repS at' bd k) from if_pos hz, doB_rep]
    have hdk : ∀ j, j ∈ (b.op.del (bsOf k)).keys ↔ ∃ x ∈ ks, bsOf x = j := fun j => by
      rw [del_keys, hk]
      constructor
      · rintro ⟨⟨x, hx, rfl⟩, hne⟩
        rcases List.mem_cons.1 hx with rfl | hx
        · exact absurd rfl hne
        · exact ⟨x, hx, rfl⟩
      · rintro ⟨x, hx, rfl⟩
        exact ⟨⟨x, List.mem_cons_of_mem _ hx, rfl⟩, fun e => hk1 (by rw [← bsOf_inj e]; exact hx)⟩
    have hdl : (b.op.del (bsOf k)).length = ks.length := by
      have hp : ((ks.map bsOf)).Perm (b.op.del (bsOf k)).keys := (List.perm_ext_iff_of_nodup (by
        unfold List.Nodup
        rw [List.pairwise_map]
        exact hk2.imp fun {a c} hac e => hac (bsOf_inj e)) (Sm.keys_nodup (hO.op.del _))).2 fun j => by rw [hdk, List.mem_map]
      have := hp.length_eq
      rw [List.length_map, keys_len] at this
      exact this.symm
    cases ks with
    | nil =>
      rw [if_pos (by rw [hdl]; rfl)]
      rfl
    | cons k2 ks =>
      rw [if_neg (by rw [hdl]; simp)]
      refine rep_all (k2 :: ks) _ hk2 (by simp) h3 (hO.del (k := bsOf k) rfl) hdk (by show _ ≤ rh - (b.he + 1); simp only [List.length_cons] at hl ⊢; omega) fun x hx => ?_
      have hne : x ≠ k := fun e => hk1 (by rw [← e]; exact hx)
      have := hr x (List.mem_cons_of_mem _ hx)
      show ((b.rp.put (bsOf k) (b.reps k + 1)).get x.data.toList).getD 0 < rr
      rw [reps_put hne]; exact this
/-- too few heats: it stays as it is. -/
theorem rep_few {rh rr at' : Int} {bd : ByteArray} : ∀ (ks : List ByteArray) (b : Bd0), b.st = 3 → OpI b → b.he ≤ rh → rh - b.he < b.op.length → ((ks.map (repS at' bd)).foldl (stepB rh rr) b).st = 3
  | [], b, h3, _, _, _ => h3
  | k :: ks, b, h3, hO, hh, hl => by
    rw [List.map_cons, List.foldl_cons]
    unfold stepB
    by_cases hz : refB rh rr b (repS at' bd k) = 0
    · rw [if_pos hz, doB_rep]
      have hlt : b.he < rh := by
        rw [refB_rep h3] at hz
        split at hz
        · cases hz
        split at hz
        · cases hz
        · omega
      have hd := del_len hO.op (bsOf k)
      rw [if_neg (by omega)]
      exact rep_few ks _ h3 (hO.del (k := bsOf k) rfl) (by show b.he + 1 ≤ rh; omega) (by show rh - (b.he + 1) < ((b.op.del (bsOf k)).length : Int); omega)
    · rw [if_neg hz]
      exact rep_few ks b h3 hO hh hl
/-- a component that was repaired too often: it stays as it is. -/
theorem rep_worn {rh rr at' : Int} {bd c : ByteArray} : ∀ (ks : List ByteArray) (b : Bd0), b.st = 3 → OpI b → bsOf c ∈ b.op.keys → rr ≤ b.reps c → ((ks.map (repS at' bd)).foldl (stepB rh rr) b).st = 3
  | [], b, h3, _, _, _ => h3
  | k :: ks, b, h3, hO, hc, hr => by
    rw [List.map_cons, List.foldl_cons]
    unfold stepB
    by_cases hz : refB rh rr b (repS at' bd k) = 0
    · rw [if_pos hz, doB_rep]
      have hne : c ≠ k := by
        rintro rfl
        rw [refB_rep h3, if_neg (by rw [(hO.isOp c).2 hc]; decide), if_pos (.inl hr)] at hz
        cases hz
      have hcm : bsOf c ∈ (b.op.del (bsOf k)).keys := (del_keys ..).2 ⟨hc, fun e => hne (bsOf_inj e)⟩
      have hpos : 0 < (b.op.del (bsOf k)).length := by rw [← keys_len]; exact List.length_pos_of_mem hcm
      rw [if_neg (by omega)]
      refine rep_worn ks _ h3 (hO.del (k := bsOf k) rfl) hcm ?_
      show rr ≤ ((b.rp.put (bsOf k) (b.reps k + 1)).get c.data.toList).getD 0
      rw [reps_put hne]; exact hr
    · rw [if_neg hz]
      exact rep_worn ks b h3 hO hc hr
def baOf (k : Bs) : ByteArray := ⟨k.toArray⟩
theorem bsOf_baOf (k : Bs) : bsOf (baOf k) = k := by simp [bsOf, baOf]
theorem baOf_inj {a b : Bs} (h : baOf a = baOf b) : a = b := by rw [← bsOf_baOf a, h, bsOf_baOf]
/-- a board that failed can be repaired just if it is not hopeless. -/
theorem hopeless_law {rh rr at' : Int} {bd : ByteArray} {b : Bd0} (h3 : b.st = 3) (hO : OpI b) (hh : b.he ≤ rh) (hp : 0 < b.op.length) : (((b.op.keys.map baOf).map (repS at' bd)).foldl (stepB rh rr) b).st = 2 ↔ isHopB rh rr b = false := by
  by_cases h1 : rh - b.he < b.op.length
  · have : isHopB rh rr b = true := by unfold isHopB; rw [decide_eq_true h1]; rfl
    rw [rep_few _ b h3 hO hh h1, this]
    decide
  · by_cases h2 : (b.op.any fun p => decide (rr ≤ (b.rp.get p.1).getD 0)) = true
    · have : isHopB rh rr b = true := by unfold isHopB; rw [h2]; simp
      obtain ⟨p, hp, hr⟩ := List.any_eq_true.1 h2
      rw [rep_worn (c := baOf p.1) _ b h3 hO (by rw [bsOf_baOf]; exact List.mem_map.2 ⟨p, hp, rfl⟩) (by have := of_decide_eq_true hr; unfold Bd0.reps; rw [show (baOf p.1).data.toList = p.1 from bsOf_baOf _]; exact this), this]
      decide
    · have hn : isHopB rh rr b = false := by unfold isHopB; rw [decide_eq_false h1, Bool.eq_false_iff.2 h2]; rfl
      rw [rep_all _ b ?_ ?_ h3 hO ?_ ?_ ?_, hn]
      · simp
      · unfold List.Nodup
        rw [List.pairwise_map]
        exact (Sm.keys_nodup hO.op).imp fun {a c} hac e => hac (baOf_inj e)
      · intro e
        have := congrArg List.length e
        simp [keys_len] at this
        rw [this] at hp; simp at hp
      · intro j
        constructor
        · exact fun hj => ⟨baOf j, List.mem_map.2 ⟨j, hj, rfl⟩, bsOf_baOf j⟩
        · rintro ⟨k, hk, rfl⟩
          obtain ⟨x, hx, rfl⟩ := List.mem_map.1 hk
          rw [bsOf_baOf]; exact hx
      · rw [List.length_map, keys_len]; omega
      · intro k hk
        obtain ⟨x, hx, rfl⟩ := List.mem_map.1 hk
        obtain ⟨p, hp, rfl⟩ := List.mem_map.1 hx
        have : ¬ rr ≤ (b.rp.get p.1).getD 0 := fun h => h2 (List.any_eq_true.2 ⟨p, hp, decide_eq_true h⟩)
        unfold Bd0.reps
        rw [show (baOf p.1).data.toList = p.1 from bsOf_baOf _]
        omega

/-! what is so of the boards of right steps -/
structure BdJ (b : Bd0) : Prop extends OpI b where
  ck : ∀ p ∈ b.op, keyB (baOf p.1) = true
theorem BdJ.new : BdJ newB := ⟨⟨Sm.Ok.nil, fun p hp => by simp [newB] at hp⟩, fun p hp => by simp [newB] at hp⟩
theorem BdJ.step {b : Bd0} (h : BdJ b) (s : Stp) (hs : s.kd = 2 → keyB s.co = true) : BdJ (doB b s) := by
  unfold doB
  split
  · exact ⟨⟨h.op, h.tr⟩, h.ck⟩
  split
  · rename_i h2
    refine ⟨⟨h.op.put _ _, fun p hp => ?_⟩, fun p hp => ?_⟩
    · rcases Sm.put_mem.1 hp with rfl | ⟨hp, _⟩
      · rfl
      · exact h.tr p hp
    · rcases Sm.put_mem.1 hp with rfl | ⟨hp, _⟩
      · have := hs h2
        rw [show baOf s.co.data.toList = s.co from bsOf_inj (bsOf_baOf _)]
        exact this
      · exact h.ck p hp
  split
  · exact ⟨⟨h.op, h.tr⟩, h.ck⟩
  split
  · split
    · exact ⟨⟨h.op.del _, fun p hp => h.tr p (List.mem_filter.1 hp).1⟩, fun p hp => h.ck p (List.mem_filter.1 hp).1⟩
    · exact ⟨⟨h.op.del _, fun p hp => h.tr p (List.mem_filter.1 hp).1⟩, fun p hp => h.ck p (List.mem_filter.1 hp).1⟩
  split
  · exact ⟨⟨h.op, h.tr⟩, h.ck⟩
  split
  · exact ⟨⟨h.op, h.tr⟩, h.ck⟩
  · exact h
theorem runS_in {rh rr at' : Int} {P : Sm Bd0 → Prop} : ∀ (l : List Stp) (m : Sm Bd0), (∀ m s, s ∈ l → P m → P (doS rh rr m s).1) → P m → P (runS rh rr at' m l)
  | [], m, _, h => h
  | s :: l, m, hs, h => by
    rw [runS]; split
    · exact h
    · exact runS_in l _ (fun m x hx => hs m x (List.mem_cons_of_mem _ hx)) (hs m s (List.mem_cons_self ..) h)
/-- right steps have right names. -/
theorem stepF_names {p : Option Int} {s : Stp} (h : stepF p s = 0) : keyB s.bd = true ∧ (s.kd = 2 → keyB s.co = true) := by
  unfold stepF at h
  split at h
  · exact absurd h (by decide)
  split at h
  · exact absurd h (by decide)
  rename_i h2
  split at h
  · exact absurd h (by decide)
  split at h
  · exact absurd h (by decide)
  split at h
  · exact absurd h (by decide)
  rename_i h5
  refine ⟨by simpa using h2, fun hk => ?_⟩
  cases hc : keyB s.co with
  | true => rfl
  | false => exact absurd ⟨by unfold namB; rw [hk]; rfl, hc⟩ h5
theorem stepsF1_names : ∀ (l : List Stp) (p : Option Int), stepsF1 p l = 0 → ∀ s ∈ l, keyB s.bd = true ∧ (s.kd = 2 → keyB s.co = true)
  | [], p, _ => fun s hs => by simp at hs
  | s :: l, p, h => by
    rw [stepsF1] at h
    split at h
    · rename_i h0
      intro x hx
      rcases List.mem_cons.1 hx with rfl | hx
      · exact stepF_names h0
      · exact stepsF1_names l _ h x hx
    · rename_i h0; exact absurd h h0
theorem stepsF_names {l : List Stp} (h : stepsF l = 0) : ∀ s ∈ l, keyB s.bd = true ∧ (s.kd = 2 → keyB s.co = true) := by
  unfold stepsF at h
  split at h
  · exact absurd h (by decide)
  · exact stepsF1_names l none h
theorem runS_J {rh rr at' : Int} {l : List Stp} (hl : stepsF l = 0) : ∀ p ∈ runS rh rr at' [] l, BdJ p.2 ∧ keyB (baOf p.1) = true := by
  refine runS_in (P := fun m => ∀ p ∈ m, BdJ p.2 ∧ keyB (baOf p.1) = true) l [] (fun m s hs h => ?_) fun p hp => by simp at hp
  obtain ⟨n1, n2⟩ := stepsF_names hl s hs
  have hg : BdJ ((m.get s.bd.data.toList).getD newB) := by
    cases hm : m.get s.bd.data.toList with
    | none => exact BdJ.new
    | some b => exact (h _ (Sm.get_mem hm)).1
  obtain ⟨b', hb', hc⟩ := doS_put rh rr m s
  rw [hb']
  intro p hp
  rcases Sm.put_mem.1 hp with rfl | ⟨hp, _⟩
  · refine ⟨?_, by rw [show baOf s.bd.data.toList = s.bd from bsOf_inj (bsOf_baOf _)]; exact n1⟩
    rcases hc with rfl | ⟨hr, rfl⟩
    · exact hg
    · exact hg.step s n2
  · exact h p hp
/-! few boards fail: each of them took two steps -/
def wgt (b : Bd0) : Nat := if b.st = 3 then 2 else if b.st = 2 then 1 else 0
def wsum (m : Sm Bd0) : Nat := (m.map fun p => wgt p.2).sum
theorem wsum_ins (k : Bs) (b : Bd0) : ∀ m : Sm Bd0, wsum (Sm.ins k b m) = wsum m + wgt b
  | [] => by simp [wsum, Sm.ins]
  | p :: m => by
    rw [Sm.ins]
    split
    · simp [wsum]; omega
    · have := wsum_ins k b m
      simp only [wsum, List.map_cons, List.sum_cons] at this ⊢
      omega
theorem wsum_del : ∀ {m : Sm Bd0}, Sm.Ok m → ∀ k : Bs, wsum (m.del k) + wgt ((m.get k).getD newB) = wsum m
  | [], _, _ => rfl
  | p :: m, h, k => by
    obtain ⟨h1, h2⟩ := List.pairwise_cons.1 h
    rw [Sm.get]
    by_cases hp : p.1 = k
    · have hn : Sm.get m k = none := Sm.get_none_of fun q hq e => Sm.bb_ne (h1 q hq) (hp.trans e.symm)
      have : Sm.del (p :: m) k = m := by
        have := Sm.del_id hn
        unfold Sm.del at this ⊢
        rw [List.filter_cons, if_neg (by simp [hp]), this]
      rw [this, if_pos hp]
      simp [wsum]; omega
    · have ih := wsum_del h2 k
      have : Sm.del (p :: m) k = p :: Sm.del m k := by unfold Sm.del; rw [List.filter_cons, if_pos (by simp [hp])]
      rw [this, if_neg hp]
      simp only [wsum, List.map_cons, List.sum_cons] at ih ⊢
      omega
theorem wsum_put {m : Sm Bd0} (h : Sm.Ok m) (k : Bs) (b : Bd0) : wsum (m.put k b) + wgt ((m.get k).getD newB) = wsum m + wgt b := by
  unfold Sm.put
  rw [wsum_ins]
  have := wsum_del h k
  omega
theorem wgt_step {rh rr : Int} {b : Bd0} {s : Stp} (h : refB rh rr b s = 0) : wgt (doB b s) ≤ wgt b + 1 := by
  unfold refB at h
  have w1 : ∀ x : Bd0, x.st = 1 → wgt x = 0 := fun x e => by unfold wgt; rw [if_neg (by omega), if_neg (by omega)]
  have w2 : ∀ x : Bd0, x.st = 2 → wgt x = 1 := fun x e => by unfold wgt; rw [if_neg (by omega), if_pos e]
  have w3 : ∀ x : Bd0, x.st = 3 → wgt x = 2 := fun x e => by unfold wgt; rw [if_pos e]
  have w4 : ∀ x : Bd0, 3 < x.st → wgt x = 0 := fun x e => by unfold wgt; rw [if_neg (by omega), if_neg (by omega)]
  unfold doB
  by_cases k1 : s.kd = 1
  · rw [if_pos k1, w2 _ rfl]; omega
  rw [if_neg k1] at h ⊢
  by_cases k2 : s.kd = 2
  · rw [if_pos k2] at h ⊢
    rw [w3 _ rfl]
    by_cases e : b.st = 2
    · rw [w2 b e]; omega
    · by_cases e3 : b.st = 3
      · rw [w3 b e3]; omega
      · rw [if_pos ⟨e, e3⟩] at h; cases h
  rw [if_neg k2] at h ⊢
  by_cases k3 : s.kd = 3
  · rw [if_pos k3, w4 _ (show (3 : Int) < 4 by decide)]; omega
  rw [if_neg k3] at h ⊢
  by_cases k4 : s.kd = 4
  · rw [if_pos k4] at h ⊢
    have e : b.st = 3 := by
      apply Classical.byContradiction
      intro e; rw [if_pos e] at h; cases h
    have hb := w3 b e
    split
    · rw [w2 _ rfl]; omega
    · rw [w3 { b with op := b.op.del s.co.data.toList, rp := b.rp.put s.co.data.toList (b.reps s.co + 1), he := b.he + 1 } e]; omega
  rw [if_neg k4] at h ⊢
  by_cases k5 : s.kd = 5
  · rw [if_pos k5, w4 _ (show (3 : Int) < 5 by decide)]; omega
  rw [if_neg k5] at h ⊢
  by_cases k6 : s.kd = 6
  · rw [if_pos k6, w4 _ (show (3 : Int) < 6 by decide)]; omega
  rw [if_neg k6]; omega
theorem wsum_run {rh rr at' : Int} : ∀ (l : List Stp) (m : Sm Bd0), Sm.Ok m → wsum (runS rh rr at' m l) ≤ wsum m + l.length
  | [], m, _ => Nat.le_refl _
  | s :: l, m, h => by
    rw [runS]; split
    · simp only [List.length_cons]; omega
    · have ih := wsum_run (rh := rh) (rr := rr) (at' := at') l _ (doS_ok (rh := rh) (rr := rr) h s)
      obtain ⟨b', hb', hc⟩ := doS_put rh rr m s
      have hp := wsum_put h s.bd.data.toList b'
      rw [← hb'] at hp
      have : wgt b' ≤ wgt ((m.get s.bd.data.toList).getD newB) + 1 := by
        rcases hc with rfl | ⟨hr, rfl⟩
        · omega
        · exact wgt_step hr
      simp only [List.length_cons]; omega
theorem wsum_fail : ∀ m : Sm Bd0, 2 * inN m 3 ≤ wsum m
  | [] => Nat.le_refl _
  | p :: m => by
    have ih := wsum_fail m
    rw [inN_cons]
    simp only [wsum, List.map_cons, List.sum_cons] at ih ⊢
    by_cases h : p.2.st = 3
    · rw [if_pos h, show wgt p.2 = 2 from if_pos h]; omega
    · rw [if_neg h]; omega
theorem fail_few {rh rr at' : Int} {l : List Stp} (h : l.length ≤ 24) : (inS (runS rh rr at' [] l) 3).length ≤ 12 := by
  have h1 := wsum_run (rh := rh) (rr := rr) (at' := at') l [] Sm.Ok.nil
  have h2 := wsum_fail (runS rh rr at' [] l)
  have h3 : wsum [] = 0 := rfl
  show inN _ 3 ≤ 12
  omega
end Go.Proofs.YtnmimagninhkkaaGreatDoor
