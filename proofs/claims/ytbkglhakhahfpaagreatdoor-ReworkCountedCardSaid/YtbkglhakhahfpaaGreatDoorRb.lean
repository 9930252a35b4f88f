/- The reference's own shop in memory: lives by their names. No conditions. · A literal map of rows by numbers: from which states a step goes. No conditions. · The reference's shop: its board by a name, which is there from now on. Conditions: names of at most 2^47 bytes, fewer than 10^5 boards. -/
import Derived.Test.YtbkglhakhahfpaaGreatDoorShp2
import Derived.Test.YtbkglhakhahfpaaGreatDoorRec
import Derived.Test.YtbkglhakhahfpaaGreatDoorStrs
import Derived.Test.YtbkglhakhahfpaaGreatDoorHop
import Derived.Test.YtbkglhakhahfpaaGreatDoorIn
namespace Go.Proofs.YtbkglhakhahfpaaGreatDoor
open Go.RowKit Go.Sort Go.Maps

/-- a life at block g, its repairs in the block ahead of it, its open components in a row of its own. -/
def LifeM (w : World) (g : Nat) (b : Bd0) : Prop :=
  1 ≤ g ∧ MapS TI w (g - 1) b.rp ∧ (Sm.Ok b.op ∧ ∀ p ∈ b.op, p.2 = true) ∧
  ∃ v, w.heap[g]? = some (.cells #[.int .i64 b.st, .int .i64 b.si, .int .i64 b.he, v, .map (some (g - 1))] 177 (0, 0)) ∧ OwnR TS w 0 v (b.op.keys.map baOf)
/-- blocks that hold strings are not changed. -/
def NoStr (w : World) (X : Nat → Prop) : Prop := ∀ i cur, w.heap[i]? = some (.cells cur 9 (0, 0)) → ¬ X i
theorem OwnR.keepS {w w' : World} {v : Value} {l : List ByteArray} {X : Nat → Prop} (h : OwnR TS w 0 v l) (hk : Kp w w' X) (hn : NoStr w X) : OwnR TS w' 0 v l := by
  rcases h with ⟨h1, ⟨h2, h3⟩ | ⟨g, cap, cur, hv, hB, hb, h4, h5, h6, h7⟩⟩
  · exact ⟨h1, .inl ⟨h2, h3⟩⟩
  · exact ⟨h1, .inr ⟨g, cap, cur, hv, hB, hk.blk hb (hn g cur hb), h4, h5, h6, h7⟩⟩
theorem LifeM.keep {w w' : World} {g : Nat} {b : Bd0} {X : Nat → Prop} (h : LifeM w g b) (hk : Kp w w' X) (hn : NoStr w X) (h1 : ¬ X (g - 1)) (h2 : ¬ X g) : LifeM w' g b := by
  obtain ⟨k1, k2, k3, v, k4, k5⟩ := h
  exact ⟨k1, hk.ms k2 h1, k3, v, hk.blk k4 h2, k5.keepS hk hn⟩
theorem LifeM.lt {w : World} {g : Nat} {b : Bd0} (h : LifeM w g b) : g < w.heap.size := by
  obtain ⟨_, _, _, v, h, _⟩ := h
  exact blk_lt h
theorem NoStr.none (w : World) : NoStr w (fun _ => False) := fun _ _ _ h => h
theorem LifeM.below {w w' : World} {g : Nat} {b : Bd0} (h : LifeM w g b) (hb : Below w.heap.size w w') : LifeM w' g b := h.keep (Kp.of_below (X := fun _ => False) hb) (NoStr.none w) id id
/-- a map's block is no row of strings. -/
theorem MapS.noStr {α : Type} {T : Mty α} {w : World} {b : Nat} {l : Sm α} (h : MapS T w b l) (cur : Array Value) : w.heap[b]? ≠ some (.cells cur 9 (0, 0)) := by
  obtain ⟨_, es, clock, hb, _⟩ := h
  intro e
  rw [hb] at e
  injection e with e
  cases e
theorem LifeM.noStr {w : World} {g : Nat} {b : Bd0} (h : LifeM w g b) (cur : Array Value) : w.heap[g]? ≠ some (.cells cur 9 (0, 0)) := by
  obtain ⟨_, _, _, v, hb, _⟩ := h
  intro e
  rw [hb] at e
  injection e with e
  injection e with _ e _
  exact absurd e (by decide)
/-- the blocks of a life that a step may change. -/
def InL (g i : Nat) : Prop := i = g ∨ i = g - 1
theorem LifeM.noIn {w : World} {g : Nat} {b : Bd0} (h : LifeM w g b) : NoStr w (InL g) := by
  rintro i cur hi (rfl | rfl)
  · exact h.noStr cur hi
  · exact h.2.1.noStr cur hi
/-- pointers to lives, by names. -/
def TPL : Mty (Option Nat) := { t := 269, e := 178, V := fun g => .pointer (g.map fun g => ⟨g, 0, none⟩), d := fun g => match g with | none => .nil | some g => .lit (.int .i64 g), R := ptrE, z := none }
theorem zeroLf (w : World) : (zeroValue 178).run Tryz.prog w = .ok (.pointer none) w := by kernel_rfl
theorem TPL.ok : TPL.Ok := ⟨Tryz.underlying269, fun w => zeroLf w, fun g => by cases g <;> rfl, fun v a ps h => by
  cases a with
  | none => exact ptrE_nil h
  | some g => exact ptrE_at h⟩
structure ShR (w : World) (S : Nat) (rh rr : Int) (L : Sm BdM) : Prop where
  two : 2 ≤ S
  blk : w.heap[S]? = some (.cells #[.int .i64 rh, .int .i64 rr, .map (some (S - 1))] 271 (0, 0))
  map : MapS TPL w (S - 1) (L.mapv fun x => some x.1)
  ok : Sm.Ok L
  brd : ∀ p ∈ L, S + 2 ≤ p.2.1 ∧ LifeM w p.2.1 p.2.2
  sep : ∀ p ∈ L, ∀ q ∈ L, p.1 ≠ q.1 → p.2.1 + 2 ≤ q.2.1 ∨ q.2.1 + 2 ≤ p.2.1
theorem ShR.lt {w : World} {S : Nat} {rh rr : Int} {L : Sm BdM} (h : ShR w S rh rr L) : S < w.heap.size := blk_lt h.blk
theorem ShR.keep {w w' : World} {S : Nat} {rh rr : Int} {L : Sm BdM} {X : Nat → Prop} (h : ShR w S rh rr L) (hk : Kp w w' X) (hn : NoStr w X) (hX : ∀ i, X i → i < S - 1) : ShR w' S rh rr L := by
  have h2 := h.two
  refine ⟨h.two, hk.blk h.blk fun hx => ?_, hk.ms h.map fun hx => ?_, h.ok, fun p hp => ⟨(h.brd p hp).1, (h.brd p hp).2.keep hk hn (fun hx => ?_) fun hx => ?_⟩, h.sep⟩
  · have := hX _ hx; omega
  · have := hX _ hx; omega
  all_goals (have := hX _ hx; have := (h.brd p hp).1; omega)
theorem ShR.below {w w' : World} {S : Nat} {rh rr : Int} {L : Sm BdM} (h : ShR w S rh rr L) (hb : Below w.heap.size w w') : ShR w' S rh rr L := h.keep (Kp.of_below (X := fun _ => False) hb) (NoStr.none w) fun _ hx => hx.elim
/-- one life of a shop has turned. -/
theorem ShR.turn {w w' : World} {S g : Nat} {rh rr : Int} {L : Sm BdM} {k : Bs} {b b' : Bd0} (h : ShR w S rh rr L) (hg : L.get k = some (g, b)) (hk : Kp w w' (InL g)) (hb : LifeM w' g b') : ShR w' S rh rr (L.put k (g, b')) := by
  have h2 := h.two
  have hm := Sm.get_mem hg
  have hgS := (h.brd _ hm).1
  have hno := (h.brd _ hm).2.noIn
  simp only at hgS hno
  have hn1 : ¬ InL g S := fun hx => by rcases hx with hx | hx <;> omega
  have hn2 : ¬ InL g (S - 1) := fun hx => by rcases hx with hx | hx <;> omega
  refine ⟨h.two, hk.blk h.blk hn1, ?_, h.ok.put _ _, ?_, ?_⟩
  · rw [Sm.put_mapv]
    rw [Sm.put_same h.ok.mapv (by rw [Sm.get_mapv, hg]; rfl)]
    exact hk.ms h.map hn2
  · intro p hp
    rcases Sm.put_mem.1 hp with rfl | ⟨hp, hne⟩
    · exact ⟨hgS, hb⟩
    · have hs := h.sep p hp _ hm hne
      simp only at hs
      have h3 := (h.brd p hp).1
      refine ⟨h3, (h.brd p hp).2.keep hk hno (fun hx => ?_) fun hx => ?_⟩
      all_goals (rcases hx with hx | hx <;> omega)
  · intro p hp q hq hne
    rcases Sm.put_mem.1 hp with rfl | ⟨hp, hpk⟩
    · rcases Sm.put_mem.1 hq with rfl | ⟨hq, hqk⟩
      · exact absurd rfl hne
      · have := h.sep (k, g, b) hm q hq hne
        exact this
    · rcases Sm.put_mem.1 hq with rfl | ⟨hq, hqk⟩
      · have := h.sep p hp (k, g, b) hm hne
        exact this
      · exact h.sep p hp q hq hne
/-- a new life in a shop. -/
theorem ShR.new {w w' : World} {S g : Nat} {rh rr : Int} {L : Sm BdM} {k : Bs} (h : ShR w S rh rr L) (hg : L.get k = none) (hk : Kp w w' (fun i => i = S - 1)) (hmap : MapS TPL w' (S - 1) ((L.mapv fun x => some x.1).put k (some g))) (hb : LifeM w' g newB) (hgw : w.heap.size + 1 ≤ g) : ShR w' S rh rr (L.put k (g, newB)) := by
  have h2 := h.two
  have hS := h.lt
  have hno : NoStr w (fun i => i = S - 1) := fun i cur hi e => by subst e; exact h.map.noStr cur hi
  refine ⟨h.two, hk.blk h.blk (by omega), ?_, h.ok.put _ _, ?_, ?_⟩
  · rw [Sm.put_mapv]; exact hmap
  · intro p hp
    rcases Sm.put_mem.1 hp with rfl | ⟨hp, hne⟩
    · exact ⟨by show S + 2 ≤ g; omega, hb⟩
    · have h3 := (h.brd p hp).1
      exact ⟨h3, (h.brd p hp).2.keep hk hno (by omega) (by omega)⟩
  · have hlt : ∀ p ∈ L, p.2.1 + 2 ≤ g := fun p hp => by have := (h.brd p hp).2.lt; omega
    intro p hp q hq hne
    rcases Sm.put_mem.1 hp with rfl | ⟨hp, hpk⟩
    · rcases Sm.put_mem.1 hq with rfl | ⟨hq, hqk⟩
      · exact absurd rfl hne
      · exact .inr (hlt q hq)
    · rcases Sm.put_mem.1 hq with rfl | ⟨hq, hqk⟩
      · exact .inl (hlt p hp)
      · exact h.sep p hp q hq hne
/-- the blocks that a step of the shop may change. -/
def DoR (S : Nat) (L : Sm BdM) (i : Nat) : Prop := i = S - 1 ∨ ∃ p ∈ L, InL p.2.1 i
theorem DoR.below {S : Nat} {rh rr : Int} {L : Sm BdM} {w w' : World} (h : ShR w S rh rr L) (hk : Kp w w' (DoR S L)) : Below (S - 1) w w' := by
  have := h.lt
  have h2 := h.two
  refine hk.below (fun i _ hx => ?_) (by omega)
  rcases hx with rfl | ⟨p, hp, hx⟩
  · exact Nat.le_refl _
  · have h1 := (h.brd p hp).1; rcases hx with hx | hx <;> omega
/-! the keys of a map as a sorted row -/
theorem keys_ok {α : Type} {l : Sm α} (h : Sm.Ok l) : (Sm.keys l).Pairwise fun a b => bytesBefore a b = true := by
  unfold Sm.keys
  rw [List.pairwise_map]
  exact h
theorem keys_put {α : Type} {l : Sm α} {k : Bs} (h : l.get k = none) (v : α) : (l.put k v).keys.Perm ((Sm.keys l) ++ [k]) := by
  unfold Sm.put
  rw [Sm.del_id h]
  clear h
  induction l with
  | nil => exact List.Perm.refl _
  | cons p l ih =>
    unfold Sm.ins
    split
    · show (k :: p.1 :: (Sm.keys l)).Perm (p.1 :: (Sm.keys l) ++ [k])
      exact (List.perm_append_singleton k (p.1 :: (Sm.keys l))).symm
    · show (p.1 :: (Sm.ins k v l).keys).Perm (p.1 :: ((Sm.keys l) ++ [k]))
      exact List.Perm.cons _ ih
theorem keys_del {α : Type} (l : Sm α) (k : Bs) : (l.del k).keys = (Sm.keys l).filter fun x => decide (x ≠ k) := by
  unfold Sm.del Sm.keys
  rw [List.filter_map]
  rfl
end Go.Proofs.YtbkglhakhahfpaaGreatDoor
namespace Go.Proofs.YtbkglhakhahfpaaGreatDoor
open Go.RowKit Go.Sort Go.Maps

def anyE : Value → Option (DataW Value × List MemPlace) := fun v => some (.held v, [])
def MapI (w : World) (b n : Nat) (D : DataW Value) : Prop := w.ownsMap Tryz.prog 3 anyE b n D
theorem MapI.made (w : World) : MapI (w.alloc (.map #[] 0)) w.heap.size 0 (.map []) := World.ownsMap_made w _ _ _
theorem MapI.put {w : World} {b n : Nat} {D : DataW Value} (h : MapI w b n D) (hn : n < maxLen) (k : Int) (hk : (Lit.int .i64 k).wf = true) (v : Value) :
    ∃ w', (Instr.mapUpdate 322 (.map (some b)) (.int .i64 k) v).run Tryz.prog w = .ok () w' ∧ MapI w' b (n + 1) (D.put (.int .i64 k) (.held v)) ∧ w.mapTurned w' b :=
  World.ownsMap.store h (int_keyed Tryz.underlying3) Tryz.underlying322 hn (keyOf_int_mk Tryz.underlying3 hk) rfl
set_option maxRecDepth 100000 in
theorem MapI.look {w : World} {b n : Nat} {D : DataW Value} (h : MapI w b n D) (k : Int) (hk : (Lit.int .i64 k).wf = true) {v : Value} (hv : D.atKey (.int .i64 k) (.held (.slice none 0 0)) = .held v) :
    (Instr.lookup 322 (.map (some b)) (.int .i64 k) false).run Tryz.prog w = .ok v w := by
  obtain ⟨u, ps, hrun, hu⟩ := World.ownsMap.lookup h (int_keyed Tryz.underlying3) Tryz.underlying322 (z := .slice none 0 0) (by kernel_rfl) (zd := .held (.slice none 0 0)) (zp := []) rfl (keyOf_int_mk Tryz.underlying3 hk)
  rw [hv] at hu
  unfold anyE at hu
  injection hu with hu
  injection hu with hu _
  injection hu with hu
  rw [hrun, hu]
theorem MapI.keep {w w' : World} {b n : Nat} {D : DataW Value} (h : MapI w b n D) (hk : w'.heap[b]? = w.heap[b]?) : MapI w' b n D := by
  obtain ⟨es, clock, hb, h2⟩ := h
  exact ⟨es, clock, hk.trans hb, h2⟩
theorem MapI.lt {w : World} {b n : Nat} {D : DataW Value} (h : MapI w b n D) : b < w.heap.size := World.ownsMap.lt h
/-- one entry of the literal: its row is laid, and it is put in. -/
theorem MapI.entry {w : World} {M n : Nat} {D : DataW Value} (h : MapI w M n D) (hn : n < maxLen) (k : Int) (hk : (Lit.int .i64 k).wf = true) (cs : Array Value) (m : Nat) :
    ∃ w', (Instr.mapUpdate 322 (.map (some M)) (.int .i64 k) (.slice (some ⟨w.heap.size, 0, none⟩) m m)).run Tryz.prog (w.alloc (.cells cs 3)) = .ok () w' ∧ MapI w' M (n + 1) (D.put (.int .i64 k) (.held (.slice (some ⟨w.heap.size, 0, none⟩) m m))) ∧ Kp w w' (fun i => i = M) ∧ w'.heap[w.heap.size]? = some (.cells cs 3 (0, 0)) ∧ w'.heap.size = w.heap.size + 1 := by
  have hM := h.lt
  have hA : MapI (w.alloc (.cells cs 3)) M n D := h.keep (heap_alloc_old w _ hM)
  obtain ⟨w', hrun, h1, ht⟩ := hA.put hn k hk (.slice (some ⟨w.heap.size, 0, none⟩) m m)
  have hg := ht.grown
  have hs : w'.heap.size = (w.alloc (.cells cs 3)).heap.size := by
    obtain ⟨es, clock, es', clock', _, e⟩ := ht
    rw [e]
    simp [Go.ChangeMaps.setBlock]
  refine ⟨w', hrun, h1, ?_, ?_, by rw [hs]; simp⟩
  · exact (Kp.of_below (X := fun i => i = M) (Bl.alloc (Below.refl _ _) (.cells cs 3))).trans (Kp.of_gr (s := M) ⟨hg.os, hg.tape, hg.output, hg.size, hg.block⟩ rfl)
  · exact (hg.block w.heap.size (by simp) (by intro e; injection e with e; omega)).trans (blk_new w _)
def fromD (v1 v2 v3 v4 v5 v6 : Value) : DataW Value := ((((((DataW.map []).put (.int .i64 1) (.held v1)).put (.int .i64 2) (.held v2)).put (.int .i64 3) (.held v3)).put (.int .i64 4) (.held v4)).put (.int .i64 5) (.held v5)).put (.int .i64 6) (.held v6)
theorem fromD_at (v1 v2 v3 v4 v5 v6 : Value) (z : DataW Value) : (fromD v1 v2 v3 v4 v5 v6).atKey (.int .i64 1) z = .held v1 ∧ (fromD v1 v2 v3 v4 v5 v6).atKey (.int .i64 2) z = .held v2 ∧ (fromD v1 v2 v3 v4 v5 v6).atKey (.int .i64 3) z = .held v3 ∧ (fromD v1 v2 v3 v4 v5 v6).atKey (.int .i64 4) z = .held v4 ∧ (fromD v1 v2 v3 v4 v5 v6).atKey (.int .i64 5) z = .held v5 ∧ (fromD v1 v2 v3 v4 v5 v6).atKey (.int .i64 6) z = .held v6 :=
  ⟨rfl, rfl, rfl, rfl, rfl, rfl⟩
/-- from which states a step goes, by its kind. -/
def fromS (k : Int) : List Int := if k = 1 then [1, 2] else if k = 2 then [2, 3] else if k = 3 then [2] else if k = 4 then [3] else if k = 5 then [1, 2, 3, 4] else [4]
/-- block M of w is the literal map. -/
structure FromM (w : World) (M : Nat) : Prop where
  at' : ∀ k : Int, 1 ≤ k ∧ k ≤ 6 → ∃ g n : Nat, (∀ W : World, Below w.heap.size w W → (Instr.lookup 322 (.map (some M)) (.int .i64 k) false).run Tryz.prog W = .ok (.slice (some ⟨g, 0, none⟩) n n) W) ∧ n = (fromS k).length ∧ w.heap[g]? = some (.cells ((fromS k).map (Value.int .i64)).toArray 3 (0, 0))
theorem FromM.below {w w' : World} {M : Nat} (h : FromM w M) (hb : Below w.heap.size w w') : FromM w' M := ⟨fun k hk => by
  obtain ⟨g, n, h1, h2, h3⟩ := h.at' k hk
  exact ⟨g, n, fun W hW => h1 W (Bl.trans hb hW), h2, blk_below h3 hb⟩⟩
set_option maxHeartbeats 4000000 in
set_option maxRecDepth 100000 in
theorem from_all (w : World) : ∃ W1 W2 W3 W4 W5 W6 : World,
    (Instr.mapUpdate 322 (.map (some w.heap.size)) (.int .i64 1) (.slice (some ⟨w.heap.size + 1, 0, none⟩) 2 2)).run Tryz.prog ((w.alloc (.map #[] 0)).alloc (.cells #[.int .i64 1, .int .i64 2] 3)) = .ok () W1 ∧
    (Instr.mapUpdate 322 (.map (some w.heap.size)) (.int .i64 2) (.slice (some ⟨W1.heap.size, 0, none⟩) 2 2)).run Tryz.prog (W1.alloc (.cells #[.int .i64 2, .int .i64 3] 3)) = .ok () W2 ∧
    (Instr.mapUpdate 322 (.map (some w.heap.size)) (.int .i64 3) (.slice (some ⟨W2.heap.size, 0, none⟩) 1 1)).run Tryz.prog (W2.alloc (.cells #[.int .i64 2] 3)) = .ok () W3 ∧
    (Instr.mapUpdate 322 (.map (some w.heap.size)) (.int .i64 4) (.slice (some ⟨W3.heap.size, 0, none⟩) 1 1)).run Tryz.prog (W3.alloc (.cells #[.int .i64 3] 3)) = .ok () W4 ∧
    (Instr.mapUpdate 322 (.map (some w.heap.size)) (.int .i64 5) (.slice (some ⟨W4.heap.size, 0, none⟩) 4 4)).run Tryz.prog (W4.alloc (.cells #[.int .i64 1, .int .i64 2, .int .i64 3, .int .i64 4] 3)) = .ok () W5 ∧
    (Instr.mapUpdate 322 (.map (some w.heap.size)) (.int .i64 6) (.slice (some ⟨W5.heap.size, 0, none⟩) 1 1)).run Tryz.prog (W5.alloc (.cells #[.int .i64 4] 3)) = .ok () W6 ∧
    FromM W6 w.heap.size ∧ Below w.heap.size w W6 := by
  have h0 := MapI.made w
  have z0 : (w.alloc (.map #[] 0)).heap.size = w.heap.size + 1 := by simp
  obtain ⟨W1, r1, h1, k1, b1, z1⟩ := h0.entry (by decide) 1 (by decide) #[.int .i64 1, .int .i64 2] 2
  obtain ⟨W2, r2, h2, k2, b2, z2⟩ := h1.entry (by decide) 2 (by decide) #[.int .i64 2, .int .i64 3] 2
  obtain ⟨W3, r3, h3, k3, b3, z3⟩ := h2.entry (by decide) 3 (by decide) #[.int .i64 2] 1
  obtain ⟨W4, r4, h4, k4, b4, z4⟩ := h3.entry (by decide) 4 (by decide) #[.int .i64 3] 1
  obtain ⟨W5, r5, h5, k5, b5, z5⟩ := h4.entry (by decide) 5 (by decide) #[.int .i64 1, .int .i64 2, .int .i64 3, .int .i64 4] 4
  obtain ⟨W6, r6, h6, k6, b6, z6⟩ := h5.entry (by decide) 6 (by decide) #[.int .i64 4] 1
  rw [z0] at r1 h6 b1
  have z1' : W1.heap.size = w.heap.size + 2 := by omega
  have hne : ∀ i, w.heap.size < i → ¬ (i = w.heap.size) := fun i hi => by omega
  have c1 := (k6.blk (k5.blk (k4.blk (k3.blk (k2.blk b1 (by omega)) (by omega)) (by omega)) (by omega)) (by omega))
  have c2 := (k6.blk (k5.blk (k4.blk (k3.blk b2 (by omega)) (by omega)) (by omega)) (by omega))
  have c3 := (k6.blk (k5.blk (k4.blk b3 (by omega)) (by omega)) (by omega))
  have c4 := (k6.blk (k5.blk b4 (by omega)) (by omega))
  have c5 := (k6.blk b5 (by omega))
  have c6 := b6
  have hK : Kp (w.alloc (.map #[] 0)) W6 (fun i => i = w.heap.size) := ((((k1.trans k2).trans k3).trans k4).trans k5).trans k6
  have hB : Below w.heap.size w W6 := Below.trans (Bl.alloc (Below.refl _ _) (.map #[] 0)) (hK.below (fun i _ h => by rw [h]; exact Nat.le_refl _) (by omega))
  refine ⟨W1, W2, W3, W4, W5, W6, r1, r2, r3, r4, r5, r6, ⟨fun k hk => ?_⟩, hB⟩
  have hat := fromD_at (.slice (some ⟨w.heap.size + 1, 0, none⟩) 2 2) (.slice (some ⟨W1.heap.size, 0, none⟩) 2 2) (.slice (some ⟨W2.heap.size, 0, none⟩) 1 1) (.slice (some ⟨W3.heap.size, 0, none⟩) 1 1) (.slice (some ⟨W4.heap.size, 0, none⟩) 4 4) (.slice (some ⟨W5.heap.size, 0, none⟩) 1 1) (.held (.slice none 0 0))
  have hM : ∀ W : World, Below W6.heap.size W6 W → MapI W w.heap.size 6 (fromD (.slice (some ⟨w.heap.size + 1, 0, none⟩) 2 2) (.slice (some ⟨W1.heap.size, 0, none⟩) 2 2) (.slice (some ⟨W2.heap.size, 0, none⟩) 1 1) (.slice (some ⟨W3.heap.size, 0, none⟩) 1 1) (.slice (some ⟨W4.heap.size, 0, none⟩) 4 4) (.slice (some ⟨W5.heap.size, 0, none⟩) 1 1)) := fun W hW => MapI.keep h6 (hW.block _ h6.lt)
  have hcase : k = 1 ∨ k = 2 ∨ k = 3 ∨ k = 4 ∨ k = 5 ∨ k = 6 := by omega
  rcases hcase with rfl | rfl | rfl | rfl | rfl | rfl
  · exact ⟨_, 2, fun W hW => (hM W hW).look 1 (by decide) hat.1, rfl, c1⟩
  · exact ⟨_, 2, fun W hW => (hM W hW).look 2 (by decide) hat.2.1, rfl, c2⟩
  · exact ⟨_, 1, fun W hW => (hM W hW).look 3 (by decide) hat.2.2.1, rfl, c3⟩
  · exact ⟨_, 1, fun W hW => (hM W hW).look 4 (by decide) hat.2.2.2.1, rfl, c4⟩
  · exact ⟨_, 4, fun W hW => (hM W hW).look 5 (by decide) hat.2.2.2.2.1, rfl, c5⟩
  · exact ⟨_, 1, fun W hW => (hM W hW).look 6 (by decide) hat.2.2.2.2.2, rfl, c6⟩
end Go.Proofs.YtbkglhakhahfpaaGreatDoor
namespace Go.Proofs.YtbkglhakhahfpaaGreatDoor
open Go.RowKit Go.Sort Go.Maps

set_option maxHeartbeats 4000000 in
set_option maxRecDepth 100000 in
theorem RBoard_any (S : Nat) (rh rr : Int) (L : Sm BdM) (ky : ByteArray) (w : World) (h : ShR w S rh rr L) (hk : ky.size ≤ maxLen) (hl : L.length ≤ 200000) :
    Calls Tryz.prog 110 #[.pointer (some ⟨S, 0, none⟩), .string ky] w fun e w' => ∃ (g : Nat) (b : Bd0), e = .returned (.pointer (some ⟨g, 0, none⟩)) ∧ ShR w' S rh rr (L.put ky.data.toList (g, b)) ∧ (L.get ky.data.toList = some (g, b) ∧ w = w' ∨ L.get ky.data.toList = none ∧ b = newB ∧ w.heap.size + 1 ≤ g ∧ Kp w w' (fun i => i = S - 1)) := by
  obtain ⟨k, hkk⟩ : ∃ k, k = ky.data.toList := ⟨_, rfl⟩
  have h2 := h.two
  have hz := h.lt
  have c2 : w.cell? ⟨S, 2, none⟩ = some (.map (some (S - 1))) := blk_cell h.blk 2
  have hl1 := h.map.look TPL.ok ky hk
  rw [← hkk, Sm.get_mapv] at hl1
  have HKK := Lib.hid hkk
  rw [← hkk]
  cases hg : L.get k with
  | some x =>
    obtain ⟨g, b⟩ := x
    rw [hg] at hl1
    have hl2 : (Instr.lookup 269 (.map (some (S - 1))) (.string ky) false).run Tryz.prog w = .ok (.pointer (some ⟨g, 0, none⟩)) w := hl1
    have HF : Hid (ShR w S rh rr (L.put k (g, b))) := Lib.hid (by rw [Sm.put_same h.ok hg]; exact h)
    clear hl1 hkk h
    go_enter Tryz.func110, Tryz.ntmps110
    go_wp2
    go_ret
    exact ⟨g, b, rfl, HF.out, .inl ⟨rfl, rfl⟩⟩
  | none =>
    rw [hg] at hl1
    have hl2 : (Instr.lookup 269 (.map (some (S - 1))) (.string ky) false).run Tryz.prog w = .ok (.pointer none) w := hl1
    obtain ⟨w2, hw2⟩ : ∃ w2, w2 = (w.alloc (.map #[] 0)).alloc (.cells #[.int .i64 1, .int .i64 0, .int .i64 0, .slice none 0 0, .map (some w.heap.size)] 177) := ⟨_, rfl⟩
    have hb2 : Below w.heap.size w w2 := by rw [hw2]; exact Bl.alloc (Bl.alloc (Below.refl _ _) _) _
    have hz2 : w2.heap.size = w.heap.size + 2 := by rw [hw2]; simp
    have hX2 : w2.heap[w.heap.size + 1]? = some (.cells #[.int .i64 1, .int .i64 0, .int .i64 0, .slice none 0 0, .map (some w.heap.size)] 177 (0, 0)) := by rw [hw2]; exact blk_new' _ _ (by simp)
    have hM2 : w2.heap[w.heap.size]? = some (.map #[] 0) := by rw [hw2]; exact blk_old (blk_new w _) _
    have hL2 : LifeM w2 (w.heap.size + 1) newB := ⟨by omega, MapS.of_blk hM2, ⟨Sm.Ok.nil, fun p hp => by cases hp⟩, .slice none 0 0, hX2, OwnR.nil _ _⟩
    have h2s := h.below hb2
    obtain ⟨w3, hrun3, hM3, ht3⟩ := MapS.put h2s.map TPL.ok ky hk (some (w.heap.size + 1)) (by rw [Sm.len_mapv]; unfold maxLen; omega)
    have hg3 := ht3.grown
    have hk3 : Kp w2 w3 (fun i => i = S - 1) := Kp.of_gr (a := w2) ⟨hg3.os, hg3.tape, hg3.output, hg3.size, hg3.block⟩ rfl
    have hno : NoStr w2 (fun i => i = S - 1) := fun i cur hi e => by subst e; exact h2s.map.noStr cur hi
    have hL3 : LifeM w3 (w.heap.size + 1) newB := hL2.keep hk3 hno (by omega) (by omega)
    have hK3 : Kp w w3 (fun i => i = S - 1) := (Kp.of_below hb2).trans hk3
    have hlk := hM3.look TPL.ok ky hk
    rw [← hkk] at hM3 hlk
    rw [Sm.get_put_same] at hlk
    have hlk2 : (Instr.lookup 269 (.map (some (S - 1))) (.string ky) false).run Tryz.prog w3 = .ok (.pointer (some ⟨w.heap.size + 1, 0, none⟩)) w3 := hlk
    have h3s := h.new hg hK3 hM3 hL3 (Nat.le_refl _)
    have c33 : w3.cell? ⟨S, 2, none⟩ = some (.map (some (S - 1))) := blk_cell h3s.blk 2
    have HF := Lib.hid (And.intro h3s hK3)
    have hrun4 : (Instr.mapUpdate 269 (.map (some (S - 1))) (.string ky) (.pointer (some ⟨w.heap.size + 1, 0, none⟩))).run Tryz.prog ((w.alloc (.map #[] 0)).alloc (.cells #[.int .i64 1, .int .i64 0, .int .i64 0, .slice none 0 0, .map (some w.heap.size)] 177)) = .ok () w3 := by rw [← hw2]; exact hrun3
    clear hl1 hkk h hrun3 hw2 hb2 hz2 hX2 hM2 hL2 h2s hM3 ht3 hg3 hk3 hno hL3 hK3 hlk h3s hg
    have hmm := @run_makeMap Tryz.prog
    go_enter Tryz.func110, Tryz.ntmps110
    go_wp2
    go_ret
    exact ⟨w.heap.size + 1, newB, rfl, HF.out.1, .inr ⟨by first | trivial | rfl, by first | trivial | rfl, Nat.le_refl _, HF.out.2⟩⟩
end Go.Proofs.YtbkglhakhahfpaaGreatDoor
