/- A shop of package rework over general maps: Do. Conditions: names of at most 1000 bytes, fewer than 10^5 boards and steps. · Shop.Do over general maps. Conditions: names of at most 1000 bytes, fewer than 10^5 boards and steps. -/
import Derived.Test.YtbkglhakhahfpaaGreatDoorBd2
namespace Go.Proofs.YtbkglhakhahfpaaGreatDoor
open Go.RowKit Go.Sort Go.Maps

def Sm.mapv {α β : Type} (f : α → β) (l : Sm α) : Sm β := l.map fun p => (p.1, f p.2)
theorem Sm.Ok.mapv {α β : Type} {f : α → β} {l : Sm α} (h : Sm.Ok l) : Sm.Ok (l.mapv f) := by
  unfold Sm.mapv Sm.Ok
  rw [List.pairwise_map]
  exact h
theorem Sm.get_mapv {α β : Type} (f : α → β) (k : Bs) : ∀ l : Sm α, (l.mapv f).get k = (l.get k).map f
  | [] => rfl
  | p :: l => by
    have ih := Sm.get_mapv f k l
    unfold Sm.mapv at ih ⊢
    rw [List.map_cons, Sm.get, Sm.get]
    split
    · rfl
    · exact ih
theorem Sm.ins_mapv {α β : Type} (f : α → β) (k : Bs) (v : α) : ∀ l : Sm α, (Sm.ins k v l).mapv f = Sm.ins k (f v) (l.mapv f)
  | [] => rfl
  | p :: l => by
    have ih := Sm.ins_mapv f k v l
    unfold Sm.mapv at ih ⊢
    rw [Sm.ins, List.map_cons, Sm.ins]
    split
    · rfl
    · rw [List.map_cons, ih]
theorem Sm.del_mapv {α β : Type} (f : α → β) (k : Bs) (l : Sm α) : (l.del k).mapv f = (l.mapv f).del k := by
  unfold Sm.mapv Sm.del
  rw [List.filter_map]
  rfl
theorem Sm.put_mapv {α β : Type} (f : α → β) (k : Bs) (v : α) (l : Sm α) : (l.put k v).mapv f = (l.mapv f).put k (f v) := by
  unfold Sm.put
  rw [Sm.ins_mapv, Sm.del_mapv]
theorem Sm.len_mapv {α β : Type} (f : α → β) (l : Sm α) : (l.mapv f).length = l.length := List.length_map _
theorem Sm.mapv_mapv {α β γ : Type} (f : α → β) (g : β → γ) (l : Sm α) : (l.mapv f).mapv g = l.mapv (fun x => g (f x)) := by
  unfold Sm.mapv; rw [List.map_map]; rfl
theorem Sm.put_mem {α : Type} {l : Sm α} {k : Bs} {v : α} {p : Bs × α} : p ∈ l.put k v ↔ p = (k, v) ∨ (p ∈ l ∧ p.1 ≠ k) := by
  unfold Sm.put
  rw [Sm.ins_mem]
  unfold Sm.del
  rw [List.mem_filter]
  simp

/-- pointers to boards, by names. -/
def TP : Mty (Option Nat) := { t := 154, e := 155, V := fun g => .pointer (g.map fun g => ⟨g, 0, none⟩), d := fun g => match g with | none => .nil | some g => .lit (.int .i64 g), R := ptrE, z := none }
theorem TP.ok : TP.Ok := ⟨Tryz.underlying154, fun w => zeroB w, fun g => by cases g <;> rfl, fun v a ps h => by
  cases a with
  | none => exact ptrE_nil h
  | some g => exact ptrE_at h⟩
/-- a board of the shop: where it lies, what it is. -/
abbrev BdM := Nat × Bd0
structure ShM (w : World) (S : Nat) (rh rr : Int) (L : Sm BdM) : Prop where
  two : 2 ≤ S
  blk : w.heap[S]? = some (.cells #[.int .i64 rh, .int .i64 rr, .map (some (S - 1))] 157 (0, 0))
  map : MapS TP w (S - 1) (L.mapv fun x => some x.1)
  ok : Sm.Ok L
  brd : ∀ p ∈ L, S + 3 ≤ p.2.1 ∧ BrdM w p.2.1 p.2.2
  sep : ∀ p ∈ L, ∀ q ∈ L, p.1 ≠ q.1 → p.2.1 + 3 ≤ q.2.1 ∨ q.2.1 + 3 ≤ p.2.1
theorem ShM.lt {w : World} {S : Nat} {rh rr : Int} {L : Sm BdM} (h : ShM w S rh rr L) : S < w.heap.size := blk_lt h.blk
theorem ShM.keep {w w' : World} {S : Nat} {rh rr : Int} {L : Sm BdM} {X : Nat → Prop} (h : ShM w S rh rr L) (hk : Kp w w' X) (hX : ∀ i, X i → i < S - 1) : ShM w' S rh rr L := by
  have h2 := h.two
  refine ⟨h.two, hk.blk h.blk fun hx => ?_, hk.ms h.map fun hx => ?_, h.ok, fun p hp => ⟨(h.brd p hp).1, (h.brd p hp).2.keep hk (fun hx => ?_) (fun hx => ?_) fun hx => ?_⟩, h.sep⟩
  · have := hX _ hx; omega
  · have := hX _ hx; omega
  all_goals (have := hX _ hx; have := (h.brd p hp).1; omega)
theorem ShM.below {w w' : World} {S : Nat} {rh rr : Int} {L : Sm BdM} (h : ShM w S rh rr L) (hb : Below w.heap.size w w') : ShM w' S rh rr L := h.keep (Kp.of_below (X := fun _ => False) hb) fun _ hx => hx.elim
/-- one board of a shop has turned. -/
theorem ShM.turn {w w' : World} {S g : Nat} {rh rr : Int} {L : Sm BdM} {k : Bs} {b b' : Bd0} (h : ShM w S rh rr L) (hg : L.get k = some (g, b)) (hk : Kp w w' (InB g)) (hb : BrdM w' g b') : ShM w' S rh rr (L.put k (g, b')) := by
  have h2 := h.two
  have hm := Sm.get_mem hg
  have hgS := (h.brd _ hm).1
  have hn1 : ¬ InB g S := fun hx => by have := hx.1; simp only at hgS; omega
  have hn2 : ¬ InB g (S - 1) := fun hx => by have := hx.1; simp only at hgS; omega
  refine ⟨h.two, hk.blk h.blk hn1, ?_, h.ok.put _ _, ?_, ?_⟩
  · rw [Sm.put_mapv]
    rw [Sm.put_same h.ok.mapv (by rw [Sm.get_mapv, hg]; rfl)]
    exact hk.ms h.map hn2
  · intro p hp
    rcases Sm.put_mem.1 hp with rfl | ⟨hp, hne⟩
    · exact ⟨hgS, hb⟩
    · have hs := h.sep p hp _ hm hne
      have h3 := (h.brd p hp).2.1
      refine ⟨(h.brd p hp).1, (h.brd p hp).2.keep hk (fun hx => ?_) (fun hx => ?_) fun hx => ?_⟩
      all_goals (have h1 := hx.1; have h2 := hx.2; simp only at hs; omega)
  · intro p hp q hq hne
    rcases Sm.put_mem.1 hp with rfl | ⟨hp, hpk⟩
    · rcases Sm.put_mem.1 hq with rfl | ⟨hq, hqk⟩
      · exact absurd rfl hne
      · have := h.sep (k, g, b) hm q hq hne
        exact this
    · rcases Sm.put_mem.1 hq with rfl | ⟨hq, hqk⟩
      · have := h.sep p hp (k, g, b) hm hne
        exact this
      · exact h.sep p hp q hq hne
/-- one step in the plain shop: what it is then, why the step is refused. -/
def doS (rh rr : Int) (m : Sm Bd0) (s : Stp) : Sm Bd0 × Int :=
  if refB rh rr ((m.get s.bd.data.toList).getD newB) s = 0 then (m.put s.bd.data.toList (doB ((m.get s.bd.data.toList).getD newB) s), 0)
  else (m.put s.bd.data.toList ((m.get s.bd.data.toList).getD newB), refB rh rr ((m.get s.bd.data.toList).getD newB) s)
theorem doS_ok {rh rr : Int} {m : Sm Bd0} (h : Sm.Ok m) (s : Stp) : Sm.Ok (doS rh rr m s).1 := by
  unfold doS
  split
  · exact h.put _ _
  · exact h.put _ _
theorem Bd0.Sm1.mono {b : Bd0} {n n' : Nat} (h : b.Sm1 n) (hn : n ≤ n') : b.Sm1 n' := by
  obtain ⟨h1, h2, h3, h4, h5, h6, h7⟩ := h
  exact ⟨h1, by omega, h3, by omega, by omega, by omega, fun p hp => by have := h7 p hp; omega⟩
theorem newB_small (n : Nat) : newB.Sm1 n := ⟨Int.le_refl _, Int.natCast_nonneg _, Int.le_refl _, Int.natCast_nonneg _, Nat.zero_le _, Nat.zero_le _, fun p hp => by simp [newB] at hp⟩
theorem del_le {α : Type} (l : Sm α) (k : Bs) : (l.del k).length ≤ l.length := List.length_filter_le _ _
theorem doB_small {b : Bd0} {n : Nat} (h : b.Sm1 n) (s : Stp) : (doB b s).Sm1 (n + 1) := by
  have hm := h.mono (Nat.le_succ n)
  obtain ⟨h1, h2, h3, h4, h5, h6, h7⟩ := h
  have hr : 0 ≤ b.reps s.co ∧ b.reps s.co ≤ n := Bd0.Sm1.reps ⟨h1, h2, h3, h4, h5, h6, h7⟩ s.co
  have hp : ∀ p ∈ b.rp.put s.co.data.toList (b.reps s.co + 1), 0 ≤ p.2 ∧ p.2 ≤ ((n + 1 : Nat) : Int) := fun p hp => by
    rcases Sm.put_mem.1 hp with rfl | ⟨hp, _⟩
    · show 0 ≤ b.reps s.co + 1 ∧ b.reps s.co + 1 ≤ _
      omega
    · have := h7 p hp; omega
  have hl := Sm.put_le b.rp s.co.data.toList (b.reps s.co + 1)
  have hl2 := Sm.put_le b.op s.co.data.toList true
  have hd := del_le b.op s.co.data.toList
  unfold doB
  split
  · exact ⟨by show 0 ≤ b.he + 1; omega, by show b.he + 1 ≤ _; omega, h3, by show b.lp ≤ _; omega, Nat.le_trans h5 (Nat.le_succ n), Nat.le_trans h6 (Nat.le_succ n), hm.2.2.2.2.2.2⟩
  split
  · exact ⟨h1, by show b.he ≤ _; omega, h3, by show b.lp ≤ _; omega, by show (b.op.put _ _).length ≤ _; omega, Nat.le_trans h6 (Nat.le_succ n), hm.2.2.2.2.2.2⟩
  split
  · exact hm
  split
  · split
    · exact ⟨by show 0 ≤ b.he + 1; omega, by show b.he + 1 ≤ _; omega, by show 0 ≤ b.lp + 1; omega, by show b.lp + 1 ≤ _; omega, by show (b.op.del _).length ≤ _; omega, by show (b.rp.put _ _).length ≤ _; omega, hp⟩
    · exact ⟨by show 0 ≤ b.he + 1; omega, by show b.he + 1 ≤ _; omega, h3, by show b.lp ≤ _; omega, by show (b.op.del _).length ≤ _; omega, by show (b.rp.put _ _).length ≤ _; omega, hp⟩
  split
  · exact hm
  split
  · exact hm
  · exact hm
def AllSm (m : Sm Bd0) (n : Nat) : Prop := m.length ≤ n ∧ ∀ p ∈ m, p.2.Sm1 n
theorem AllSm.get {m : Sm Bd0} {n : Nat} (h : AllSm m n) (k : Bs) : ((m.get k).getD newB).Sm1 n := by
  cases hg : m.get k with
  | none => exact newB_small n
  | some b => exact h.2 _ (Sm.get_mem hg)
theorem doS_small {rh rr : Int} {m : Sm Bd0} {n : Nat} (h : AllSm m n) (s : Stp) : AllSm (doS rh rr m s).1 (n + 1) := by
  have hg := h.get s.bd.data.toList
  have h1 := h.1
  have hput : ∀ b : Bd0, b.Sm1 (n + 1) → AllSm (m.put s.bd.data.toList b) (n + 1) := fun b hb => by
    have := Sm.put_le m s.bd.data.toList b
    refine ⟨by omega, fun p hp => ?_⟩
    rcases Sm.put_mem.1 hp with rfl | ⟨hp, _⟩
    · exact hb
    · exact (h.2 p hp).mono (Nat.le_succ n)
  unfold doS
  split
  · exact hput _ (doB_small hg s)
  · exact hput _ (hg.mono (Nat.le_succ n))
end Go.Proofs.YtbkglhakhahfpaaGreatDoor
namespace Go.Proofs.YtbkglhakhahfpaaGreatDoor
open Go.RowKit Go.Sort Go.Maps

theorem doS_zero {rh rr : Int} {m : Sm Bd0} {s : Stp} {b : Bd0} (hb : (m.get s.bd.data.toList).getD newB = b) (h : refB rh rr b s = 0) : doS rh rr m s = (m.put s.bd.data.toList (doB b s), 0) := by
  unfold doS; rw [hb, if_pos h]
theorem doS_ref {rh rr : Int} {m : Sm Bd0} {s : Stp} {b : Bd0} (hb : (m.get s.bd.data.toList).getD newB = b) (h : refB rh rr b s ≠ 0) : doS rh rr m s = (m.put s.bd.data.toList b, refB rh rr b s) := by
  unfold doS; rw [hb, if_neg h]
/-- a new board in a shop. -/
theorem ShM.new {w w' : World} {S g : Nat} {rh rr : Int} {L : Sm BdM} {k : Bs} (h : ShM w S rh rr L) (hg : L.get k = none) (hk : Kp w w' (fun i => i = S - 1)) (hmap : MapS TP w' (S - 1) ((L.mapv fun x => some x.1).put k (some g))) (hb : BrdM w' g newB) (hgw : w.heap.size + 2 ≤ g) : ShM w' S rh rr (L.put k (g, newB)) := by
  have h2 := h.two
  have hS := h.lt
  refine ⟨h.two, hk.blk h.blk (by omega), ?_, h.ok.put _ _, ?_, ?_⟩
  · rw [Sm.put_mapv]; exact hmap
  · intro p hp
    rcases Sm.put_mem.1 hp with rfl | ⟨hp, hne⟩
    · exact ⟨by show S + 3 ≤ g; omega, hb⟩
    · have h3 := (h.brd p hp).1
      exact ⟨h3, (h.brd p hp).2.keep hk (by omega) (by omega) (by omega)⟩
  · have hlt : ∀ p ∈ L, p.2.1 + 3 ≤ g := fun p hp => by have := (h.brd p hp).2.lt; omega
    intro p hp q hq hne
    rcases Sm.put_mem.1 hp with rfl | ⟨hp, hpk⟩
    · rcases Sm.put_mem.1 hq with rfl | ⟨hq, hqk⟩
      · exact absurd rfl hne
      · exact .inr (hlt q hq)
    · rcases Sm.put_mem.1 hq with rfl | ⟨hq, hqk⟩
      · exact .inl (hlt p hp)
      · exact h.sep p hp q hq hne
/-- the blocks that a step of a shop may change. -/
def DoX (S : Nat) (L : Sm BdM) (i : Nat) : Prop := i = S - 1 ∨ ∃ p ∈ L, InB p.2.1 i
theorem Kp.tr {a b c : World} {X Y : Nat → Prop} (h : Kp a b X) (k : Kp b c Y) (hy : ∀ i, i < a.heap.size → Y i → X i) : Kp a c X :=
  ⟨k.os.trans h.os, k.tape.trans h.tape, k.output.trans h.output, Nat.le_trans h.size k.size, fun i hi hx => (k.block i (Nat.lt_of_lt_of_le hi h.size) fun hh => hx (hy i hi hh)).trans (h.block i hi hx)⟩
theorem DoX.put {S n g : Nat} {L : Sm BdM} {L0 : Sm BdM} {k : Bs} {b : Bd0} (h : ∀ i, i < n → InB g i → DoX S L i) (h1 : ∀ i, i < n → DoX S L0 i → DoX S L i) : ∀ i, i < n → DoX S (L0.put k (g, b)) i → DoX S L i := by
  intro i hi hx
  rcases hx with rfl | ⟨p, hp, hx⟩
  · exact .inl rfl
  · rcases Sm.put_mem.1 hp with rfl | ⟨hp, _⟩
    · exact h i hi hx
    · exact h1 i hi (.inr ⟨p, hp, hx⟩)
theorem DoX.below {S : Nat} {rh rr : Int} {L : Sm BdM} {w w' : World} (h : ShM w S rh rr L) (hk : Kp w w' (DoX S L)) : Below (S - 1) w w' := by
  have := h.lt
  have h2 := h.two
  refine hk.below (fun i _ hx => ?_) (by omega)
  rcases hx with rfl | ⟨p, hp, hx⟩
  · exact Nat.le_refl _
  · have h1 := (h.brd p hp).1; have h3 := hx.1; omega
set_option maxHeartbeats 4000000 in
set_option maxRecDepth 100000 in
theorem Do_any (S : Nat) (rh rr : Int) (L : Sm BdM) (s : Stp) (w : World) (h : ShM w S rh rr L) (hs1 : s.bd.size ≤ 1000) (hs2 : s.co.size ≤ 1000) (hL : AllSm (L.mapv (·.2)) 100000) :
    Calls Tryz.prog 177 #[.pointer (some ⟨S, 0, none⟩), stpV s] w fun e w' => e = .returned (.int .i64 (doS rh rr (L.mapv (·.2)) s).2) ∧ ∃ L', ShM w' S rh rr L' ∧ L'.mapv (·.2) = (doS rh rr (L.mapv (·.2)) s).1 ∧ Kp w w' (DoX S L) ∧ ∀ i, i < w.heap.size → DoX S L' i → DoX S L i := by
  obtain ⟨at', bs, kd, cs⟩ := s
  have hbs : bs.size ≤ maxLen := Nat.le_trans hs1 (by unfold maxLen; omega)
  have hcs : cs.size ≤ maxLen := Nat.le_trans hs2 (by unfold maxLen; omega)
  obtain ⟨k, hk⟩ : ∃ k, k = bs.data.toList := ⟨_, rfl⟩
  have OkL := Lib.hid (h.ok.mapv (f := fun x : BdM => x.2))
  have lS := h.lt
  have h2 := h.two
  have c2 : w.cell? ⟨S, 2, none⟩ = some (.map (some (S - 1))) := blk_cell h.blk 2
  obtain ⟨w0, hw0⟩ : ∃ w0, w0 = w.alloc (.cells #[.int .i64 at', .string bs, .int .i64 kd, .string cs] 133) := ⟨_, rfl⟩
  have hA : Below w.heap.size w w0 := by rw [hw0]; exact Bl.alloc (Below.refl _ _) _
  have hX0 : w0.heap[w.heap.size]? = some (.cells #[.int .i64 at', .string bs, .int .i64 kd, .string cs] 133 (0, 0)) := by rw [hw0]; exact blk_new w _
  have h0 : ShM w0 S rh rr L := h.below hA
  have hz0 : w0.heap.size = w.heap.size + 1 := by rw [hw0]; simp
  have hLl : L.length ≤ 100000 := by have := hL.1; rwa [Sm.len_mapv] at this
  have hl1 : (Instr.lookup 154 (.map (some (S - 1))) (.string bs) false).run Tryz.prog w0.drew = .ok (TP.V (((L.get k).map fun x => some x.1).getD none)) w0.drew := by
    have := (h0.map.drew).look TP.ok bs hbs
    rw [← hk, Sm.get_mapv] at this
    exact this
  have HW0 := Lib.hid hw0
  have hm0 : ((L.mapv (·.2)).get k).getD newB = ((L.get k).map (·.2)).getD newB := by rw [Sm.get_mapv]
  have HMB : Hid (∀ b, ((L.get k).map (·.2)).getD newB = b → ((L.mapv (·.2)).get (Stp.bd (at', bs, kd, cs)).data.toList).getD newB = b) := Lib.hid fun b hb => by rw [← hb, ← hm0, hk]
  have HSM : Hid ((((L.get k).map (·.2)).getD newB).Sm1 100000) := Lib.hid (by rw [← hm0]; exact hL.get k)
  have HKK : Hid ((Stp.bd (at', bs, kd, cs)).data.toList = k) := Lib.hid hk.symm
  change Calls _ _ #[_, .agg #[.int .i64 at', .string bs, .int .i64 kd, .string cs]] _ _
  clear hk hm0 h hs1 hs2 hL
  subst hw0
  have HL0 : Hid (∀ L1 : Sm BdM, L1.mapv (·.2) = (L.mapv (·.2)).put k (((L.get k).map (·.2)).getD newB) → True) := Lib.hid fun _ _ => trivial
  clear HL0
  cases hg : L.get k
  case' some x =>
    obtain ⟨g, b⟩ := x
    rw [hg] at hl1 HMB HSM
    have hl1' : (Instr.lookup 154 (.map (some (S - 1))) (.string bs) false).run Tryz.prog (w.alloc (.cells #[.int .i64 at', .string bs, .int .i64 kd, .string cs] 133)).drew = .ok (.pointer (some ⟨g, 0, none⟩)) (w.alloc (.cells #[.int .i64 at', .string bs, .int .i64 kd, .string cs] 133)).drew := hl1
    have HMB2 := Lib.hid (HMB.out b rfl)
    have HBS : Hid (b.Sm1 100000) := Lib.hid HSM.out
    obtain ⟨L1, hL1⟩ : ∃ L1, L1 = L := ⟨_, rfl⟩
    have HLS : Hid (ShM (w.alloc (.cells #[.int .i64 at', .string bs, .int .i64 kd, .string cs] 133)).drew S rh rr L1 ∧ L1.get k = some (g, b) ∧ L1.mapv (·.2) = (L.mapv (·.2)).put k b) := Lib.hid ⟨by rw [hL1]; exact h0.below (Below.drew (Below.refl _ _)), by rw [hL1]; exact hg, by rw [hL1, Sm.put_same h0.ok.mapv (by rw [Sm.get_mapv, hg]; rfl)]⟩
    have hX1 : (w.alloc (.cells #[.int .i64 at', .string bs, .int .i64 kd, .string cs] 133)).drew.heap[w.heap.size]? = _ := hX0
    have hB1 : Kp w (w.alloc (.cells #[.int .i64 at', .string bs, .int .i64 kd, .string cs] 133)).drew (DoX S L) := Kp.of_below (Below.drew hA)
    have HGX : Hid (∀ i, i < w.heap.size → InB g i → DoX S L i) := Lib.hid fun i _ hx => .inr ⟨(k, (g, b)), Sm.get_mem hg, hx⟩
    have HL1X : Hid (∀ i, i < w.heap.size → DoX S L1 i → DoX S L i) := Lib.hid fun i _ hx => by rw [hL1] at hx; exact hx
    clear hl1 hg h0 hA hX0 HMB HSM HW0 hL1 hLl
    go_enter Tryz.func177, Tryz.ntmps177
    go_wp2
    go_region
    go_wp2_with fail
    clear hl1' c2
    generalize (w.alloc (.cells #[.int .i64 at', .string bs, .int .i64 kd, .string cs] 133)).drew = w3 at *
  case' none =>
    rw [hg] at hl1 HMB HSM
    have hl1' : (Instr.lookup 154 (.map (some (S - 1))) (.string bs) false).run Tryz.prog (w.alloc (.cells #[.int .i64 at', .string bs, .int .i64 kd, .string cs] 133)).drew = .ok (.pointer none) (w.alloc (.cells #[.int .i64 at', .string bs, .int .i64 kd, .string cs] 133)).drew := hl1
    have HMBn := Lib.hid (HMB.out newB rfl)
    have HBS : Hid (newB.Sm1 100000) := Lib.hid HSM.out
    have hX1 : (w.alloc (.cells #[.int .i64 at', .string bs, .int .i64 kd, .string cs] 133)).drew.heap[w.heap.size]? = _ := hX0
    have hB1 : Kp w (w.alloc (.cells #[.int .i64 at', .string bs, .int .i64 kd, .string cs] 133)).drew (DoX S L) := Kp.of_below (Below.drew hA)
    have h1 : ShM (w.alloc (.cells #[.int .i64 at', .string bs, .int .i64 kd, .string cs] 133)).drew S rh rr L := h0.below (Below.drew (Below.refl _ _))
    have hz1 : w.heap.size < (w.alloc (.cells #[.int .i64 at', .string bs, .int .i64 kd, .string cs] 133)).drew.heap.size := by show w.heap.size < (w.alloc (.cells #[.int .i64 at', .string bs, .int .i64 kd, .string cs] 133)).heap.size; simp
    clear hl1 h0 hA hX0 HMB HSM HW0 hz0
    have HG := Lib.hid hg
    clear hg
    go_enter Tryz.func177, Tryz.ntmps177
    go_wp2
    go_region
    go_wp2_with fail
    clear hl1' c2
    generalize (w.alloc (.cells #[.int .i64 at', .string bs, .int .i64 kd, .string cs] 133)).drew = w1 at *
    refine (newBoard_any w1).mono ?_
    rintro e w2 ⟨rfl, hb2a, hm2a, hm2b, hb2, hz2⟩
    have hX2 := blk_below hX1 hb2
    have h2s := h1.below hb2
    obtain ⟨w3, hrun3, hM3, ht3⟩ := MapS.put (h2s.map.drew) TP.ok bs hbs (some (w1.heap.size + 1 + 1)) (by rw [Sm.len_mapv]; unfold maxLen; omega)
    have hg3 := ht3.grown
    have hbr2 : BrdM w2 (w1.heap.size + 1 + 1) newB := ⟨by omega, hb2a, MapS.of_blk hm2a, MapS.of_blk hm2b⟩
    have hk3 : Kp w2 w3 (fun i => i = S - 1) := Kp.of_gr (a := w2) ⟨hg3.os, hg3.tape, hg3.output, hg3.size, hg3.block⟩ rfl
    have hbr3 : BrdM w3 (w1.heap.size + 1 + 1) newB := hbr2.keep hk3 (by have := h1.lt; omega) (by have := h1.lt; omega) (by have := h1.lt; omega)
    have hK3 : Kp w1 w3 (fun i => i = S - 1) := (Kp.of_below hb2).trans hk3
    rw [show (ByteArray.data bs).toList = k from HKK.out] at hM3
    have h3s : ShM w3 S rh rr (L.put k (w1.heap.size + 1 + 1, newB)) := h1.new HG.out hK3 hM3 hbr3 (by omega)
    have hX3 := hk3.blk hX2 (by omega)
    have hB3 : Kp w w3 (DoX S L) := hB1.tr hK3 (fun i _ hi => .inl hi)
    have HGX : Hid (∀ i, i < w.heap.size → InB (w1.heap.size + 1 + 1) i → DoX S L i) := Lib.hid fun i hi hx => by have := hx.1; omega
    have c32 : w2.cell? ⟨S, 2, none⟩ = some (.map (some (S - 1))) := blk_cell h2s.blk 2
    have x32 : w2.cell? ⟨w.heap.size, 1, none⟩ = some (.string bs) := blk_cell hX2 1
    have lS2 := h2s.lt
    simp only [TP, Option.map_some] at hrun3
    obtain ⟨L1, hL1⟩ : ∃ L1, L1 = L.put k (w1.heap.size + 1 + 1, newB) := ⟨_, rfl⟩
    obtain ⟨b, hb⟩ : ∃ b, b = newB := ⟨_, rfl⟩
    have HLS : Hid (ShM w3 S rh rr L1 ∧ L1.get k = some (w1.heap.size + 1 + 1, b) ∧ L1.mapv (·.2) = (L.mapv (·.2)).put k b) := Lib.hid ⟨by rw [hL1]; exact h3s, by rw [hL1, hb]; exact Sm.get_put_same _ _ _, by rw [hL1, hb, Sm.put_mapv]⟩
    have HMB2 := Lib.hid (HMBn.out.trans hb.symm)
    rw [← hb] at HBS
    have HL1X : Hid (∀ i, i < w.heap.size → DoX S L1 i → DoX S L i) := Lib.hid fun i hi hx => by rw [hL1] at hx; exact DoX.put HGX.out (fun _ _ h => h) i hi hx
    clear h1 h2s hM3 ht3 hg3 hbr2 hk3 hbr3 hK3 h3s hX2 hX1 hB1 hb2a hm2a hm2b hb2 hL1 hb HG
    go_wp2
    go_region
    go_wp2_with fail
    clear hrun3 c32 x32
    have hX1 := hX3
    have hB1 := hB3
    clear hX3 hB3
    generalize w1.heap.size + 1 + 1 = g at *
  all_goals (
    have hM3 := ((HLS.out.1).brd _ (Sm.get_mem HLS.out.2.1)).2
    have hS3 := (HLS.out.1).blk
    have r0 : w3.cell? ⟨S, 0, none⟩ = some (.int .i64 rh) := blk_cell hS3 0
    have r1 : w3.cell? ⟨S, 1, none⟩ = some (.int .i64 rr) := blk_cell hS3 1
    have s0 : w3.cell? ⟨w.heap.size, 0, none⟩ = some (.int .i64 at') := blk_cell hX1 0
    have s1 : w3.cell? ⟨w.heap.size, 1, none⟩ = some (.string bs) := blk_cell hX1 1
    have s2 : w3.cell? ⟨w.heap.size, 2, none⟩ = some (.int .i64 kd) := blk_cell hX1 2
    have s3 : w3.cell? ⟨w.heap.size, 3, none⟩ = some (.string cs) := blk_cell hX1 3
    have e1 := cell_regrown r0
    have e2 := cell_regrown r1
    have e3 := cell_regrown s0
    have e4 := cell_regrown s1
    have e5 := cell_regrown s2
    have e6 := cell_regrown s3
    have HREF0 := fun (d : Nat) (os : Array Obj) => Calls.regrown_of (w := w3) (d := d) (os := os) (refusal_any g b rh rr (at', bs, kd, cs) _ (hM3.below (below_regrown w3 d os)) hcs)
    obtain ⟨R, hR⟩ : ∃ R, R = refB rh rr b (at', bs, kd, cs) := ⟨_, rfl⟩
    rw [← hR] at HREF0
    have HREF := Lib.hid HREF0
    have HD : Hid ((R = 0 → doS rh rr (L.mapv (·.2)) (at', bs, kd, cs) = ((L.mapv (·.2)).put k (doB b (at', bs, kd, cs)), 0)) ∧ (R ≠ 0 → doS rh rr (L.mapv (·.2)) (at', bs, kd, cs) = ((L.mapv (·.2)).put k b, R))) := Lib.hid (by
      rw [hR]
      refine ⟨fun h => ?_, fun h => ?_⟩
      · rw [doS_zero HMB2.out h, HKK.out]
      · rw [doS_ref HMB2.out h, HKK.out])
    have hz3 : S < w3.heap.size := blk_lt hS3
    have lX1 := blk_lt hX1
    have lg3 := hM3.lt
    clear hM3 hS3 HREF0 hR
    go_wp2
    refine wp_region_quiet_below (by kernel_rfl) (by kernel_rfl) ?_
    repeat (go_big_quiet_step ((go_at_call 242; exact HREF.out _ _)))
    refine wpQuiet_nil ?_
    intro w4 hw'
    obtain ⟨⟨dq, osq⟩, hw''⟩ := hw'
    have hb4 : Below w3.heap.size w3 w4 := hw'' ▸ below_regrown w3 dq osq
    clear hw'' e1 e2 e3 e4 e5 e6 HREF r0 r1 s0 s1 s2 s3
    have hX4 := blk_below hX1 hb4
    have hB4 := hB1.tr (Kp.of_below (X := fun _ => False) hb4) (fun _ _ h => h.elim)
    have HL4 := Lib.hid ((HLS.out.1).below hb4)
    by_cases hR0 : R = 0
    case' pos =>
      subst hR0
      have HD1 := Lib.hid (HD.out.1 rfl)
      have HDO := Lib.hid (do_any g b (at', bs, kd, cs) w4 ((HL4.out.brd _ (Sm.get_mem HLS.out.2.1)).2) hcs (HBS.out.mono (by omega)))
      have hgS : S + 3 ≤ g := (HL4.out.brd _ (Sm.get_mem HLS.out.2.1)).1
      have s0 : w4.cell? ⟨w.heap.size, 0, none⟩ = some (.int .i64 at') := blk_cell hX4 0
      have s1 : w4.cell? ⟨w.heap.size, 1, none⟩ = some (.string bs) := blk_cell hX4 1
      have s2 : w4.cell? ⟨w.heap.size, 2, none⟩ = some (.int .i64 kd) := blk_cell hX4 2
      have s3 : w4.cell? ⟨w.heap.size, 3, none⟩ = some (.string cs) := blk_cell hX4 3
      have hz4 := hb4.size
      clear hX1 hX4 hb4 hB1
      go_wp2_with fail
      refine HDO.out.mono ?_
      rintro e w5 ⟨rfl, hM5, hK5⟩
      have HF := Lib.hid (And.intro (HL4.out.turn HLS.out.2.1 hK5 hM5) (hB4.tr hK5 HGX.out))
      clear hM5 hK5 hB4 s0 s1 s2 s3
      go_wp2
      go_ret
      refine ⟨by rw [HD1.out] <;> rfl, L1.put k (g, doB b (at', bs, kd, cs)), HF.out.1, ?_, HF.out.2, DoX.put HGX.out HL1X.out⟩
      rw [HD1.out, Sm.put_mapv, HLS.out.2.2, Sm.put_put OkL.out]
    case' neg =>
      clear hX1 hX4 hb4 hB1
      go_wp2
      go_ret
      exact ⟨by rw [HD.out.2 hR0] <;> rfl, L1, HL4.out, by rw [HD.out.2 hR0, HLS.out.2.2], hB4, HL1X.out⟩)
end Go.Proofs.YtbkglhakhahfpaaGreatDoor
