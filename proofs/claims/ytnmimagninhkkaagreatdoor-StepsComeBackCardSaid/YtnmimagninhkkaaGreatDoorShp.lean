/- A shop of package rework over general maps: Do. Conditions: names of at most 1000 bytes, fewer than 10^5 boards and steps. -/
import Derived.Test.YtnmimagninhkkaaGreatDoorBd2
namespace Go.Proofs.YtnmimagninhkkaaGreatDoor
open Go.RowKit Go.Sort Go.Maps

def Sm.mapv {α β : Type} (f : α → β) (l : Sm α) : Sm β := l.map fun p => (p.1, f p.2)
theorem Sm.Ok.mapv {α β : Type} {f : α → β} {l : Sm α} (h : Sm.Ok l) : Sm.Ok (l.mapv f) := by
  unfold Sm.mapv Sm.Ok
  rw [List.pairwise_map]
  exact h
theorem Sm.get_mapv {α β : Type} (f : α → β) (k : Bs) : ∀ l : Sm α, (l.mapv f).get k = (l.get k).map f
  | [] => rfl
  | p :: l => by
    have ih := Sm.get_mapv f k l
    unfold Sm.mapv at ih ⊢
    rw [List.map_cons, Sm.get, Sm.get]
    split
    · rfl
    · exact ih
theorem Sm.ins_mapv {α β : Type} (f : α → β) (k : Bs) (v : α) : ∀ l : Sm α, (Sm.ins k v l).mapv f = Sm.ins k (f v) (l.mapv f)
  | [] => rfl
  | p :: l => by
    have ih := Sm.ins_mapv f k v l
    unfold Sm.mapv at ih ⊢
    rw [Sm.ins, List.map_cons, Sm.ins]
    split
    · rfl
    · rw [List.map_cons, ih]
theorem Sm.del_mapv {α β : Type} (f : α → β) (k : Bs) (l : Sm α) : (l.del k).mapv f = (l.mapv f).del k := by
  unfold Sm.mapv Sm.del
  rw [List.filter_map]
  rfl
theorem Sm.put_mapv {α β : Type} (f : α → β) (k : Bs) (v : α) (l : Sm α) : (l.put k v).mapv f = (l.mapv f).put k (f v) := by
  unfold Sm.put
  rw [Sm.ins_mapv, Sm.del_mapv]
theorem Sm.len_mapv {α β : Type} (f : α → β) (l : Sm α) : (l.mapv f).length = l.length := List.length_map _
theorem Sm.mapv_mapv {α β γ : Type} (f : α → β) (g : β → γ) (l : Sm α) : (l.mapv f).mapv g = l.mapv (fun x => g (f x)) := by
  unfold Sm.mapv; rw [List.map_map]; rfl
theorem Sm.put_mem {α : Type} {l : Sm α} {k : Bs} {v : α} {p : Bs × α} : p ∈ l.put k v ↔ p = (k, v) ∨ (p ∈ l ∧ p.1 ≠ k) := by
  unfold Sm.put
  rw [Sm.ins_mem]
  unfold Sm.del
  rw [List.mem_filter]
  simp

/-- pointers to boards, by names. -/
def TP : Mty (Option Nat) := { t := 130, e := 129, V := fun g => .pointer (g.map fun g => ⟨g, 0, none⟩), d := fun g => match g with | none => .nil | some g => .lit (.int .i64 g), R := ptrE, z := none }
theorem TP.ok : TP.Ok := ⟨Tryz.underlying130, fun w => zeroB w, fun g => by cases g <;> rfl, fun v a ps h => by
  cases a with
  | none => exact ptrE_nil h
  | some g => exact ptrE_at h⟩
/-- a board of the shop: where it lies, what it is. -/
abbrev BdM := Nat × Bd0
structure ShM (w : World) (S : Nat) (rh rr : Int) (L : Sm BdM) : Prop where
  two : 2 ≤ S
  blk : w.heap[S]? = some (.cells #[.int .i64 rh, .int .i64 rr, .map (some (S - 1))] 132 (0, 0))
  map : MapS TP w (S - 1) (L.mapv fun x => some x.1)
  ok : Sm.Ok L
  brd : ∀ p ∈ L, S + 3 ≤ p.2.1 ∧ BrdM w p.2.1 p.2.2
  sep : ∀ p ∈ L, ∀ q ∈ L, p.1 ≠ q.1 → p.2.1 + 3 ≤ q.2.1 ∨ q.2.1 + 3 ≤ p.2.1
theorem ShM.lt {w : World} {S : Nat} {rh rr : Int} {L : Sm BdM} (h : ShM w S rh rr L) : S < w.heap.size := blk_lt h.blk
theorem ShM.keep {w w' : World} {S : Nat} {rh rr : Int} {L : Sm BdM} {X : Nat → Prop} (h : ShM w S rh rr L) (hk : Kp w w' X) (hX : ∀ i, X i → i < S - 1) : ShM w' S rh rr L := by
  have h2 := h.two
  refine ⟨h.two, hk.blk h.blk fun hx => ?_, hk.ms h.map fun hx => ?_, h.ok, fun p hp => ⟨(h.brd p hp).1, (h.brd p hp).2.keep hk (fun hx => ?_) (fun hx => ?_) fun hx => ?_⟩, h.sep⟩
  · have := hX _ hx; omega
  · have := hX _ hx; omega
  all_goals (have := hX _ hx; have := (h.brd p hp).1; omega)
theorem ShM.below {w w' : World} {S : Nat} {rh rr : Int} {L : Sm BdM} (h : ShM w S rh rr L) (hb : Below w.heap.size w w') : ShM w' S rh rr L := h.keep (Kp.of_below (X := fun _ => False) hb) fun _ hx => hx.elim
/-- one board of a shop has turned. -/
theorem ShM.turn {w w' : World} {S g : Nat} {rh rr : Int} {L : Sm BdM} {k : Bs} {b b' : Bd0} (h : ShM w S rh rr L) (hg : L.get k = some (g, b)) (hk : Kp w w' (InB g)) (hb : BrdM w' g b') : ShM w' S rh rr (L.put k (g, b')) := by
  have h2 := h.two
  have hm := Sm.get_mem hg
  have hgS := (h.brd _ hm).1
  have hn1 : ¬ InB g S := fun hx => by have := hx.1; simp only at hgS; omega
  have hn2 : ¬ InB g (S - 1) := fun hx => by have := hx.1; simp only at hgS; omega
  refine ⟨h.two, hk.blk h.blk hn1, ?_, h.ok.put _ _, ?_, ?_⟩
  · rw [Sm.put_mapv]
    rw [Sm.put_same h.ok.mapv (by rw [Sm.get_mapv, hg]; rfl)]
    exact hk.ms h.map hn2
  · intro p hp
    rcases Sm.put_mem.1 hp with rfl | ⟨hp, hne⟩
    · exact ⟨hgS, hb⟩
    · have hs := h.sep p hp _ hm hne
      have h3 := (h.brd p hp).2.1
      refine ⟨(h.brd p hp).1, (h.brd p hp).2.keep hk (fun hx => ?_) (fun hx => ?_) fun hx => ?_⟩
      all_goals (have h1 := hx.1; have h2 := hx.2; simp only at hs; omega)
  · intro p hp q hq hne
    rcases Sm.put_mem.1 hp with rfl | ⟨hp, hpk⟩
    · rcases Sm.put_mem.1 hq with rfl | ⟨hq, hqk⟩
      · exact absurd rfl hne
      · have := h.sep (k, g, b) hm q hq hne
        exact this
    · rcases Sm.put_mem.1 hq with rfl | ⟨hq, hqk⟩
      · have := h.sep p hp (k, g, b) hm hne
        exact this
      · exact h.sep p hp q hq hne
/-- one step in the plain shop: what it is then, why the step is refused. -/
def doS (rh rr : Int) (m : Sm Bd0) (s : Stp) : Sm Bd0 × Int :=
  if refB rh rr ((m.get s.bd.data.toList).getD newB) s = 0 then (m.put s.bd.data.toList (doB ((m.get s.bd.data.toList).getD newB) s), 0)
  else (m.put s.bd.data.toList ((m.get s.bd.data.toList).getD newB), refB rh rr ((m.get s.bd.data.toList).getD newB) s)
theorem doS_ok {rh rr : Int} {m : Sm Bd0} (h : Sm.Ok m) (s : Stp) : Sm.Ok (doS rh rr m s).1 := by
  unfold doS
  split
  · exact h.put _ _
  · exact h.put _ _
theorem Bd0.Sm1.mono {b : Bd0} {n n' : Nat} (h : b.Sm1 n) (hn : n ≤ n') : b.Sm1 n' := by
  obtain ⟨h1, h2, h3, h4, h5, h6, h7⟩ := h
  exact ⟨h1, by omega, h3, by omega, by omega, by omega, fun p hp => by have := h7 p hp; omega⟩
theorem newB_small (n : Nat) : newB.Sm1 n := ⟨Int.le_refl _, Int.natCast_nonneg _, Int.le_refl _, Int.natCast_nonneg _, Nat.zero_le _, Nat.zero_le _, fun p hp => by simp [newB] at hp⟩
theorem del_le {α : Type} (l : Sm α) (k : Bs) : (l.del k).length ≤ l.length := List.length_filter_le _ _
theorem doB_small {b : Bd0} {n : Nat} (h : b.Sm1 n) (s : Stp) : (doB b s).Sm1 (n + 1) := by
  have hm := h.mono (Nat.le_succ n)
  obtain ⟨h1, h2, h3, h4, h5, h6, h7⟩ := h
  have hr : 0 ≤ b.reps s.co ∧ b.reps s.co ≤ n := Bd0.Sm1.reps ⟨h1, h2, h3, h4, h5, h6, h7⟩ s.co
  have hp : ∀ p ∈ b.rp.put s.co.data.toList (b.reps s.co + 1), 0 ≤ p.2 ∧ p.2 ≤ ((n + 1 : Nat) : Int) := fun p hp => by
    rcases Sm.put_mem.1 hp with rfl | ⟨hp, _⟩
    · show 0 ≤ b.reps s.co + 1 ∧ b.reps s.co + 1 ≤ _
      omega
    · have := h7 p hp; omega
  have hl := Sm.put_le b.rp s.co.data.toList (b.reps s.co + 1)
  have hl2 := Sm.put_le b.op s.co.data.toList true
  have hd := del_le b.op s.co.data.toList
  unfold doB
  split
  · exact ⟨by show 0 ≤ b.he + 1; omega, by show b.he + 1 ≤ _; omega, h3, by show b.lp ≤ _; omega, Nat.le_trans h5 (Nat.le_succ n), Nat.le_trans h6 (Nat.le_succ n), hm.2.2.2.2.2.2⟩
  split
  · exact ⟨h1, by show b.he ≤ _; omega, h3, by show b.lp ≤ _; omega, by show (b.op.put _ _).length ≤ _; omega, Nat.le_trans h6 (Nat.le_succ n), hm.2.2.2.2.2.2⟩
  split
  · exact hm
  split
  · split
    · exact ⟨by show 0 ≤ b.he + 1; omega, by show b.he + 1 ≤ _; omega, by show 0 ≤ b.lp + 1; omega, by show b.lp + 1 ≤ _; omega, by show (b.op.del _).length ≤ _; omega, by show (b.rp.put _ _).length ≤ _; omega, hp⟩
    · exact ⟨by show 0 ≤ b.he + 1; omega, by show b.he + 1 ≤ _; omega, h3, by show b.lp ≤ _; omega, by show (b.op.del _).length ≤ _; omega, by show (b.rp.put _ _).length ≤ _; omega, hp⟩
  split
  · exact hm
  split
  · exact hm
  · exact hm
def AllSm (m : Sm Bd0) (n : Nat) : Prop := m.length ≤ n ∧ ∀ p ∈ m, p.2.Sm1 n
theorem AllSm.get {m : Sm Bd0} {n : Nat} (h : AllSm m n) (k : Bs) : ((m.get k).getD newB).Sm1 n := by
  cases hg : m.get k with
  | none => exact newB_small n
  | some b => exact h.2 _ (Sm.get_mem hg)
theorem doS_small {rh rr : Int} {m : Sm Bd0} {n : Nat} (h : AllSm m n) (s : Stp) : AllSm (doS rh rr m s).1 (n + 1) := by
  have hg := h.get s.bd.data.toList
  have h1 := h.1
  have hput : ∀ b : Bd0, b.Sm1 (n + 1) → AllSm (m.put s.bd.data.toList b) (n + 1) := fun b hb => by
    have := Sm.put_le m s.bd.data.toList b
    refine ⟨by omega, fun p hp => ?_⟩
    rcases Sm.put_mem.1 hp with rfl | ⟨hp, _⟩
    · exact hb
    · exact (h.2 p hp).mono (Nat.le_succ n)
  unfold doS
  split
  · exact hput _ (doB_small hg s)
  · exact hput _ (hg.mono (Nat.le_succ n))
end Go.Proofs.YtnmimagninhkkaaGreatDoor
