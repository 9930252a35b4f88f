/- Texts of the proof of a law, put together, part 28 of 46. Conditions: none beyond those that each theorem names. -/
import Derived.Test.YtilhonppgedoiaaGreatDoorFz14
import Derived.Test.YtilhonppgedoiaaGreatDoorFz27
namespace Go.Proofs.YtilhonppgedoiaaGreatDoor
open Go.RowKit Go.Sort Go.Maps
/-- blocks of types that no store has. -/
def Fix (w : World) (i : Nat) : Prop := ∃ cur t, w.heap[i]? = some (.cells cur t (0, 0)) ∧ t ≠ 9 ∧ t ≠ 219 ∧ t ≠ 188 ∧ t ≠ 223 ∧ t ≠ 183
theorem Fix.keep {a b : World} {i : Nat} (h : Fix a i) (e : b.heap[i]? = a.heap[i]?) : Fix b i := by
  obtain ⟨cur, t, h1, h2⟩ := h
  exact ⟨cur, t, e.trans h1, h2⟩
/-- a store that lies from block B on has turned, and nothing else. -/
structure Kt (B : Nat) (w w' : World) : Prop where
  os : w'.os = w.os
  tape : w'.tape = w.tape
  output : w'.output = w.output
  size : w.heap.size ≤ w'.heap.size
  block : ∀ i, i < w.heap.size → (i < B ∨ Fix w i) → w'.heap[i]? = w.heap[i]?
theorem Kt.refl (B : Nat) (w : World) : Kt B w w := ⟨rfl, rfl, rfl, Nat.le_refl _, fun _ _ _ => rfl⟩
theorem Kt.trans {B : Nat} {a b c : World} (h : Kt B a b) (k : Kt B b c) : Kt B a c :=
  ⟨k.os.trans h.os, k.tape.trans h.tape, k.output.trans h.output, Nat.le_trans h.size k.size, fun i hi hx =>
    (k.block i (Nat.lt_of_lt_of_le hi h.size) (hx.imp id fun hf => hf.keep (h.block i hi hx))).trans (h.block i hi hx)⟩
theorem Kt.below {B : Nat} {a b : World} (h : Kt B a b) (hB : B ≤ a.heap.size) : Below B a b := ⟨h.os, h.tape, h.output, h.size, fun i hi => h.block i (Nat.lt_of_lt_of_le hi hB) (.inl hi)⟩
theorem Kt.of_below {B : Nat} {a b : World} (h : Below a.heap.size a b) : Kt B a b := ⟨h.os, h.tape, h.output, h.size, fun i hi _ => h.block i hi⟩
theorem Kt.of_gr {B g : Nat} {a b : World} (h : a.grownBy b (some g)) (hB : B ≤ g) (hf : ¬ Fix a g) : Kt B a b :=
  ⟨h.os, h.tape, h.output, h.size, fun i hi hx => h.block i hi fun e => by
    injection e with e
    subst e
    rcases hx with hx | hx
    · omega
    · exact hf hx⟩
theorem Kt.fix {B : Nat} {a b : World} (h : Kt B a b) {g : Nat} {cur : Array Value} {t : TypeId} (hg : a.heap[g]? = some (.cells cur t (0, 0))) (ht : t ≠ 9 ∧ t ≠ 219 ∧ t ≠ 188 ∧ t ≠ 223 ∧ t ≠ 183) : b.heap[g]? = some (.cells cur t (0, 0)) :=
  (h.block g (blk_lt hg) (.inr ⟨cur, t, hg, ht⟩)).trans hg
theorem MapS.obj {α : Type} {T : Mty α} {w : World} {b : Nat} {l : Sm α} (h : MapS T w b l) : ∃ es c, w.heap[b]? = some (.map es c) := by
  obtain ⟨_, es, clock, hb, _⟩ := h
  exact ⟨es, clock, hb⟩
theorem MapS.noFix {α : Type} {T : Mty α} {w : World} {b : Nat} {l : Sm α} (h : MapS T w b l) : ¬ Fix w b := by
  rintro ⟨cur, t, e, _⟩
  obtain ⟨es, c, hb⟩ := h.obj
  rw [hb] at e
  cases e
theorem MapS.noCells {α : Type} {T : Mty α} {w : World} {b : Nat} {l : Sm α} (h : MapS T w b l) (cur : Array Value) (t : TypeId) : w.heap[b]? ≠ some (.cells cur t (0, 0)) := by
  obtain ⟨es, c, hb⟩ := h.obj
  intro e
  rw [hb] at e
  cases e
/-! rows by names -/
structure OwnQ {β : Type} (Own : World → Value → List β → Prop) (B : Nat) (e : TypeId) : Prop where
  keep : ∀ {w w' : World} {v : Value} {l : List β}, Own w v l → (∀ k, v.ownBlock = some k → w'.heap[k]? = w.heap[k]?) → Own w' v l
  blk : ∀ {w : World} {v : Value} {l : List β} {k : Nat}, Own w v l → v.ownBlock = some k → B ≤ k ∧ ∃ cur, w.heap[k]? = some (.cells cur e (0, 0))
theorem ownO_k (B : Nat) : OwnQ (fun w v l => OwnO w B v l) B 9 := ⟨fun h hk => h.keep hk, fun {w v l k} h e => by
  rcases h with ⟨rfl, _⟩ | ⟨g, o, cap, cur, rfl, hb, hg, _⟩
  · cases e
  · injection e with e
    subst e
    exact ⟨hb, cur, hg⟩⟩
theorem ownR_k {β : Type} (T : Rty β) (B : Nat) : OwnQ (fun w v l => OwnR T w B v l) B T.e := ⟨fun {w w' v l} h hk => by
  refine ⟨h.1, h.2.imp id ?_⟩
  rintro ⟨b, cap, cur, rfl, hb, hc, rest⟩
  exact ⟨b, cap, cur, rfl, hb, (hk b rfl).trans hc, rest⟩, fun {w v l k} h e => by
  rcases h.2 with ⟨rfl, _⟩ | ⟨b, cap, cur, rfl, hb, hc, _⟩
  · cases e
  · injection e with e
    subst e
    exact ⟨hb, cur, hc⟩⟩
structure Rws {β : Type} (Own : World → Value → List β → Prop) (w : World) (F : Sm (Hdr × List β)) : Prop where
  own : ∀ p ∈ F, Own w (hdrV p.2.1) p.2.2
  sep : ∀ p ∈ F, ∀ q ∈ F, p.1 ≠ q.1 → ∀ b, (hdrV p.2.1).ownBlock = some b → (hdrV q.2.1).ownBlock ≠ some b
def hdS {β : Type} (F : Sm (Hdr × List β)) : Sm Hdr := F.map fun p => (p.1, p.2.1)
theorem hdS_get {β : Type} (k : Bs) : ∀ F : Sm (Hdr × List β), (hdS F).get k = (F.get k).map (·.1)
  | [] => rfl
  | p :: F => by
    show (if p.1 = k then _ else _) = _
    by_cases h : p.1 = k
    · rw [if_pos h, Sm.get, if_pos h]; rfl
    · rw [if_neg h, Sm.get, if_neg h]; exact hdS_get k F
theorem hdS_ins {β : Type} (k : Bs) (v : Hdr × List β) : ∀ F : Sm (Hdr × List β), hdS (Sm.ins k v F) = Sm.ins k v.1 (hdS F)
  | [] => rfl
  | p :: F => by
    have ih := hdS_ins k v F
    unfold hdS at ih ⊢
    rw [Sm.ins, List.map_cons, Sm.ins]
    split
    · rfl
    · rw [List.map_cons, ih]
theorem hdS_del {β : Type} (k : Bs) (F : Sm (Hdr × List β)) : hdS (F.del k) = (hdS F).del k := by
  unfold hdS Sm.del
  rw [List.filter_map]
  rfl
theorem hdS_put {β : Type} (k : Bs) (v : Hdr × List β) (F : Sm (Hdr × List β)) : hdS (F.put k v) = (hdS F).put k v.1 := by
  unfold Sm.put
  rw [hdS_ins, hdS_del]
theorem hdS_len {β : Type} (F : Sm (Hdr × List β)) : (hdS F).length = F.length := List.length_map _
section
variable {β : Type} {Own : World → Value → List β → Prop} {B : Nat} {e : TypeId} {w w' : World} {F : Sm (Hdr × List β)}
theorem Rws.low (h : Rws Own w F) (K : OwnQ Own B e) (hb : Below w.heap.size w w') : Rws Own w' F :=
  ⟨fun p hp => K.keep (h.own p hp) fun k hk => by obtain ⟨_, cur, hc⟩ := K.blk (h.own p hp) hk; exact hb.block k (blk_lt hc), h.sep⟩
theorem Rws.off (h : Rws Own w F) (K : OwnQ Own B e) {g : Nat} (hg : w.grownBy w' (some g)) (hn : ∀ cur, w.heap[g]? ≠ some (.cells cur e (0, 0))) : Rws Own w' F :=
  ⟨fun p hp => K.keep (h.own p hp) fun k hk => by
    obtain ⟨_, cur, hc⟩ := K.blk (h.own p hp) hk
    exact hg.block k (blk_lt hc) fun e1 => by injection e1 with e1; subst e1; exact hn cur hc, h.sep⟩
theorem Rws.gone (h : Rws Own w F) (k : Bs) : Rws Own w (F.del k) :=
  ⟨fun p hp => h.own p (List.mem_filter.1 hp).1, fun p hp q hq => h.sep p (List.mem_filter.1 hp).1 q (List.mem_filter.1 hq).1⟩
/-- apart from all other rows. -/
def Apart {β : Type} (F : Sm (Hdr × List β)) (k : Bs) (v : Value) : Prop := ∀ p ∈ F, p.1 ≠ k → ∀ b, (hdrV p.2.1).ownBlock = some b → v.ownBlock ≠ some b
theorem Rws.apart (h : Rws Own w F) {k : Bs} {x : Hdr × List β} (hx : F.get k = some x) : Apart F k (hdrV x.1) := fun p hp hne b hb => h.sep p hp (k, x) (Sm.get_mem hx) hne b hb
theorem Apart.nil (k : Bs) : Apart F k (.slice none 0 0) := fun p hp hne b hb e => by cases e
theorem Apart.same {k : Bs} {v v' : Value} (h : Apart F k v) (e : v'.ownBlock = v.ownBlock) : Apart F k v' := fun p hp hne b hb => by rw [e]; exact h p hp hne b hb
theorem Apart.new (h : Rws Own w F) (K : OwnQ Own B e) {k : Bs} {v : Value} {n : Nat} (hv : v.ownBlock = some n) (hn : w.heap.size ≤ n) : Apart F k v := fun p hp hne b hb => by
  rw [hv]
  intro e1
  injection e1 with e1
  subst e1
  obtain ⟨_, cur, hc⟩ := K.blk (h.own p hp) hb
  have := blk_lt hc
  omega
theorem Rws.turn (h : Rws Own w F) (K : OwnQ Own B e) {k : Bs} {v : Value} (hv : Apart F k v) (hg : w.grownBy w' v.ownBlock) : Rws Own w' (F.del k) :=
  ⟨fun p hp => K.keep (h.own p (List.mem_filter.1 hp).1) fun b hb => by
    obtain ⟨_, cur, hc⟩ := K.blk (h.own p (List.mem_filter.1 hp).1) hb
    exact hg.block b (blk_lt hc) fun e1 => hv p (List.mem_filter.1 hp).1 (Sm.del_ne p hp) b hb e1.symm, (h.gone k).sep⟩
theorem Rws.put {k : Bs} {hd : Hdr} {l : List β} (h : Rws Own w (F.del k)) (hn : Own w (hdrV hd) l) (ha : Apart F k (hdrV hd)) : Rws Own w (F.put k (hd, l)) := by
  refine ⟨fun p hp => ?_, fun p hp q hq hne b hb => ?_⟩
  · rcases (Sm.ins_mem p).1 hp with rfl | hp
    · exact hn
    · exact h.own p hp
  · rcases (Sm.ins_mem p).1 hp with rfl | hp
    · rcases (Sm.ins_mem q).1 hq with rfl | hq
      · exact absurd rfl hne
      · intro e1
        exact ha q (List.mem_filter.1 hq).1 (Sm.del_ne q hq) b e1 hb
    · rcases (Sm.ins_mem q).1 hq with rfl | hq
      · exact ha p (List.mem_filter.1 hp).1 (Sm.del_ne p hp) b hb
      · exact h.sep p hp q hq hne b hb
end
theorem hdr_ofO {w : World} {B : Nat} {v : Value} {l : List ByteArray} (h : OwnO w B v l) : ∃ hd, v = hdrV hd := by
  rcases h with ⟨rfl, _⟩ | ⟨g, o, cap, cur, rfl, _⟩
  · exact ⟨(none, 0, 0), rfl⟩
  · exact ⟨(some (g, o), l.length, cap), rfl⟩
theorem hdr_ofR {β : Type} {T : Rty β} {w : World} {B : Nat} {v : Value} {l : List β} (h : OwnR T w B v l) : ∃ hd, v = hdrV hd := by
  rcases h.2 with ⟨rfl, _⟩ | ⟨g, cap, cur, rfl, _⟩
  · exact ⟨(none, 0, 0), rfl⟩
  · exact ⟨(some (g, 0), l.length, cap), rfl⟩
/-! the store -/
/-- from where components are: feeder, reel, how many. -/
abbrev Org := ByteArray × ByteArray × Int
def TOr : Rty Org := { e := 219, S := 217, k := 3, b := 40, z := .agg #[.string ByteArray.empty, .string ByteArray.empty, .int .i64 0], f := fun x => [.string x.1, .string x.2.1, .int .i64 x.2.2] }
theorem TOr.ok : TOr.Ok := ⟨by kernel_rfl, Tryz.underlying217, rfl, by decide, fun _ => rfl, fun x u hu => by simp [TOr] at hu; rcases hu with rfl | rfl | rfl <;> rfl, by decide⟩
abbrev Ods := Sm (Hdr × List Org)
/-- where a store lies: itself, its maps; from where on all of it lies. -/
structure Loc where
  S : Nat
  m0 : Nat
  m1 : Nat
  m2 : Nat
  m3 : Nat
  m4 : Nat
  B : Nat
structure StB (w : World) (L : Loc) (R : Sm Rel) (P : Sm ByteArray) (Fh Oh : Sm Hdr) (X : Sm Int) : Prop where
  b : L.B ≤ L.S ∧ L.B ≤ L.m0 ∧ L.B ≤ L.m1 ∧ L.B ≤ L.m2 ∧ L.B ≤ L.m3 ∧ L.B ≤ L.m4
  ne : L.m0 ≠ L.m1 ∧ L.m0 ≠ L.m2 ∧ L.m0 ≠ L.m3 ∧ L.m0 ≠ L.m4 ∧ L.m1 ≠ L.m2 ∧ L.m1 ≠ L.m3 ∧ L.m1 ≠ L.m4 ∧ L.m2 ≠ L.m3 ∧ L.m2 ≠ L.m4 ∧ L.m3 ≠ L.m4
  blk : w.heap[L.S]? = some (.cells #[.map (some L.m0), .map (some L.m1), .map (some L.m2), .map (some L.m3), .map (some L.m4)] 183 (0, 0))
  mR : MapS TMr w L.m0 R
  mP : MapS TMs w L.m1 P
  mF : MapS TMh w L.m2 Fh
  mO : MapS TMo w L.m3 Oh
  mX : MapS TMi w L.m4 X
section
variable {w w' : World} {L : Loc} {R : Sm Rel} {P : Sm ByteArray} {Fh Oh : Sm Hdr} {X : Sm Int}
theorem StB.low (h : StB w L R P Fh Oh X) (hb : Below w.heap.size w w') : StB w' L R P Fh Oh X :=
  ⟨h.b, h.ne, blk_below h.blk hb, h.mR.below hb, h.mP.below hb, h.mF.below hb, h.mO.below hb, h.mX.below hb⟩
theorem StB.offRow (h : StB w L R P Fh Oh X) {row : Option Nat} (hg : w.grownBy w' row) (hn : ∀ g, row = some g → ∃ cur t, w.heap[g]? = some (.cells cur t (0, 0)) ∧ t ≠ 183) : StB w' L R P Fh Oh X := by
  have hm : ∀ {α : Type} {T : Mty α} {b : Nat} {l : Sm α}, MapS T w b l → MapS T w' b l := fun {α T b l} hM => hM.kept hg fun e => by
    obtain ⟨cur, t, hc, _⟩ := hn b e.symm
    exact hM.noCells cur t hc
  refine ⟨h.b, h.ne, ?_, hm h.mR, hm h.mP, hm h.mF, hm h.mO, hm h.mX⟩
  refine (hg.block L.S (blk_lt h.blk) fun e => ?_).trans h.blk
  obtain ⟨cur, t, hc, ht⟩ := hn L.S e.symm
  rw [h.blk] at hc
  injection hc with hc
  injection hc with _ hc _
  exact ht hc.symm
theorem StB.ownS (h : StB w L R P Fh Oh X) {α : Type} {T : Mty α} {g : Nat} {l : Sm α} (hM : MapS T w g l) (hg : w.grownBy w' (some g)) : w'.heap[L.S]? = some (.cells #[.map (some L.m0), .map (some L.m1), .map (some L.m2), .map (some L.m3), .map (some L.m4)] 183 (0, 0)) :=
  (hg.block L.S (blk_lt h.blk) fun e => by injection e with e; exact hM.noCells _ _ (e ▸ h.blk)).trans h.blk
theorem some_ne {a b : Nat} (h : a ≠ b) : some a ≠ some b := fun e => h (by injection e)
theorem StB.putR (h : StB w L R P Fh Oh X) (k : ByteArray) (hk : k.size ≤ maxLen) (x : Rel) (hl : R.length < maxLen) :
    ∃ w', (Instr.mapUpdate 178 (.map (some L.m0)) (.string k) (.agg #[.string x.1, .string x.2.1, .int .i64 x.2.2])).run Tryz.prog w = .ok () w' ∧ StB w' L (R.put k.data.toList x) P Fh Oh X ∧ w.grownBy w' (some L.m0) := by
  obtain ⟨w', hr, hm, ht⟩ := h.mR.put TMr.ok k hk x hl
  have hg := ht.grown
  obtain ⟨n1, n2, n3, n4, n5, n6, n7, n8, n9, n10⟩ := h.ne
  exact ⟨w', hr, ⟨h.b, h.ne, h.ownS h.mR hg, hm, h.mP.kept hg (some_ne n1.symm), h.mF.kept hg (some_ne n2.symm), h.mO.kept hg (some_ne n3.symm), h.mX.kept hg (some_ne n4.symm)⟩, hg⟩
theorem StB.putP (h : StB w L R P Fh Oh X) (k : ByteArray) (hk : k.size ≤ maxLen) (x : ByteArray) (hl : P.length < maxLen) :
    ∃ w', (Instr.mapUpdate 179 (.map (some L.m1)) (.string k) (.string x)).run Tryz.prog w = .ok () w' ∧ StB w' L R (P.put k.data.toList x) Fh Oh X ∧ w.grownBy w' (some L.m1) := by
  obtain ⟨w', hr, hm, ht⟩ := h.mP.put TMs.ok k hk x hl
  have hg := ht.grown
  obtain ⟨n1, n2, n3, n4, n5, n6, n7, n8, n9, n10⟩ := h.ne
  exact ⟨w', hr, ⟨h.b, h.ne, h.ownS h.mP hg, h.mR.kept hg (some_ne n1), hm, h.mF.kept hg (some_ne n5.symm), h.mO.kept hg (some_ne n6.symm), h.mX.kept hg (some_ne n7.symm)⟩, hg⟩
theorem StB.delP (h : StB w L R P Fh Oh X) (k : ByteArray) (hk : k.size ≤ maxLen) (ty : TypeId) :
    ∃ w', (Builtin.delete_ #[179, 9] ty #[.map (some L.m1), .string k]).run Tryz.prog w = .ok (.tuple #[]) w' ∧ StB w' L R (P.del k.data.toList) Fh Oh X ∧ w.grownBy w' (some L.m1) := by
  obtain ⟨w', hr, hm, ht⟩ := h.mP.del TMs.ok k hk ty
  have hg := ht.grown
  obtain ⟨n1, n2, n3, n4, n5, n6, n7, n8, n9, n10⟩ := h.ne
  exact ⟨w', hr, ⟨h.b, h.ne, h.ownS h.mP hg, h.mR.kept hg (some_ne n1), hm, h.mF.kept hg (some_ne n5.symm), h.mO.kept hg (some_ne n6.symm), h.mX.kept hg (some_ne n7.symm)⟩, hg⟩
theorem StB.putF (h : StB w L R P Fh Oh X) (k : ByteArray) (hk : k.size ≤ maxLen) (x : Hdr) (hl : Fh.length < maxLen) :
    ∃ w', (Instr.mapUpdate 180 (.map (some L.m2)) (.string k) (hdrV x)).run Tryz.prog w = .ok () w' ∧ StB w' L R P (Fh.put k.data.toList x) Oh X ∧ w.grownBy w' (some L.m2) := by
  obtain ⟨w', hr, hm, ht⟩ := h.mF.put TMh.ok k hk x hl
  have hg := ht.grown
  obtain ⟨n1, n2, n3, n4, n5, n6, n7, n8, n9, n10⟩ := h.ne
  exact ⟨w', hr, ⟨h.b, h.ne, h.ownS h.mF hg, h.mR.kept hg (some_ne n2), h.mP.kept hg (some_ne n5), hm, h.mO.kept hg (some_ne n8.symm), h.mX.kept hg (some_ne n9.symm)⟩, hg⟩
theorem StB.delF (h : StB w L R P Fh Oh X) (k : ByteArray) (hk : k.size ≤ maxLen) (ty : TypeId) :
    ∃ w', (Builtin.delete_ #[180, 9] ty #[.map (some L.m2), .string k]).run Tryz.prog w = .ok (.tuple #[]) w' ∧ StB w' L R P (Fh.del k.data.toList) Oh X ∧ w.grownBy w' (some L.m2) := by
  obtain ⟨w', hr, hm, ht⟩ := h.mF.del TMh.ok k hk ty
  have hg := ht.grown
  obtain ⟨n1, n2, n3, n4, n5, n6, n7, n8, n9, n10⟩ := h.ne
  exact ⟨w', hr, ⟨h.b, h.ne, h.ownS h.mF hg, h.mR.kept hg (some_ne n2), h.mP.kept hg (some_ne n5), hm, h.mO.kept hg (some_ne n8.symm), h.mX.kept hg (some_ne n9.symm)⟩, hg⟩
theorem StB.putO (h : StB w L R P Fh Oh X) (k : ByteArray) (hk : k.size ≤ maxLen) (x : Hdr) (hl : Oh.length < maxLen) :
    ∃ w', (Instr.mapUpdate 181 (.map (some L.m3)) (.string k) (hdrV x)).run Tryz.prog w = .ok () w' ∧ StB w' L R P Fh (Oh.put k.data.toList x) X ∧ w.grownBy w' (some L.m3) := by
  obtain ⟨w', hr, hm, ht⟩ := h.mO.put TMo.ok k hk x hl
  have hg := ht.grown
  obtain ⟨n1, n2, n3, n4, n5, n6, n7, n8, n9, n10⟩ := h.ne
  exact ⟨w', hr, ⟨h.b, h.ne, h.ownS h.mO hg, h.mR.kept hg (some_ne n3), h.mP.kept hg (some_ne n6), h.mF.kept hg (some_ne n8), hm, h.mX.kept hg (some_ne n10.symm)⟩, hg⟩
theorem StB.putX (h : StB w L R P Fh Oh X) (k : ByteArray) (hk : k.size ≤ maxLen) (x : Int) (hl : X.length < maxLen) :
    ∃ w', (Instr.mapUpdate 149 (.map (some L.m4)) (.string k) (.int .i64 x)).run Tryz.prog w = .ok () w' ∧ StB w' L R P Fh Oh (X.put k.data.toList x) ∧ w.grownBy w' (some L.m4) := by
  obtain ⟨w', hr, hm, ht⟩ := h.mX.put TMi.ok k hk x hl
  have hg := ht.grown
  obtain ⟨n1, n2, n3, n4, n5, n6, n7, n8, n9, n10⟩ := h.ne
  exact ⟨w', hr, ⟨h.b, h.ne, h.ownS h.mX hg, h.mR.kept hg (some_ne n4), h.mP.kept hg (some_ne n7), h.mF.kept hg (some_ne n9), h.mO.kept hg (some_ne n10), hm⟩, hg⟩
end
structure Sts where
  R : Sm Rel
  P : Sm ByteArray
  F : Fds
  O : Ods
  X : Sm Int
/-- the whole store; at most N entries a map. -/
structure StM (w : World) (L : Loc) (s : Sts) (N : Nat) : Prop where
  big : N ≤ 1000000000
  ln : s.R.length ≤ N ∧ s.P.length ≤ N ∧ s.F.length ≤ N ∧ s.O.length ≤ N ∧ s.X.length ≤ N
  sb : StB w L s.R s.P (hdS s.F) (hdS s.O) s.X
  rf : Rws (fun w v l => OwnO w L.B v l) w s.F
  ro : Rws (fun w v l => OwnR TOr w L.B v l) w s.O
section
variable {w w' : World} {L : Loc} {s : Sts} {N : Nat}
theorem StM.low (h : StM w L s N) (hb : Below w.heap.size w w') : StM w' L s N := ⟨h.big, h.ln, h.sb.low hb, h.rf.low (ownO_k _) hb, h.ro.low (ownR_k _ _) hb⟩
theorem StM.lt (h : StM w L s N) : L.S < w.heap.size ∧ L.B ≤ w.heap.size := ⟨blk_lt h.sb.blk, Nat.le_trans h.sb.b.1 (Nat.le_of_lt (blk_lt h.sb.blk))⟩
theorem StM.mono {M : Nat} (h : StM w L s N) (hN : N ≤ M) (hM : M ≤ 1000000000) : StM w L s M := by
  have := h.ln
  exact ⟨hM, ⟨by omega, by omega, by omega, by omega, by omega⟩, h.sb, h.rf, h.ro⟩
theorem StM.cells (h : StM w L s N) : w.cell? ⟨L.S, 0, none⟩ = some (.map (some L.m0)) ∧ w.cell? ⟨L.S, 1, none⟩ = some (.map (some L.m1)) ∧ w.cell? ⟨L.S, 2, none⟩ = some (.map (some L.m2)) ∧ w.cell? ⟨L.S, 3, none⟩ = some (.map (some L.m3)) ∧ w.cell? ⟨L.S, 4, none⟩ = some (.map (some L.m4)) :=
  ⟨blk_cell h.sb.blk 0, blk_cell h.sb.blk 1, blk_cell h.sb.blk 2, blk_cell h.sb.blk 3, blk_cell h.sb.blk 4⟩
theorem lt_max {n N : Nat} (h : n ≤ N) (hN : N ≤ 1000000000) : n < maxLen := by unfold maxLen; omega
theorem StM.putR (h : StM w L s N) (hN : N + 1 ≤ 1000000000) (k : ByteArray) (hk : k.size ≤ maxLen) (x : Rel) :
    ∃ w', (Instr.mapUpdate 178 (.map (some L.m0)) (.string k) (.agg #[.string x.1, .string x.2.1, .int .i64 x.2.2])).run Tryz.prog w = .ok () w' ∧ StM w' L { s with R := s.R.put k.data.toList x } (N + 1) ∧ Kt L.B w w' := by
  obtain ⟨n1, n2, n3, n4, n5⟩ := h.ln
  obtain ⟨w', hr, hs, hg⟩ := h.sb.putR k hk x (lt_max n1 h.big)
  have hp := Sm.put_le s.R k.data.toList x
  exact ⟨w', hr, ⟨hN, ⟨by show (s.R.put _ _).length ≤ _; omega, by show s.P.length ≤ _; omega, by show s.F.length ≤ _; omega, by show s.O.length ≤ _; omega, by show s.X.length ≤ _; omega⟩, hs, h.rf.off (ownO_k _) hg fun cur => h.sb.mR.noCells cur _, h.ro.off (ownR_k _ _) hg fun cur => h.sb.mR.noCells cur _⟩, Kt.of_gr hg h.sb.b.2.1 h.sb.mR.noFix⟩
theorem StM.putP (h : StM w L s N) (hN : N + 1 ≤ 1000000000) (k : ByteArray) (hk : k.size ≤ maxLen) (x : ByteArray) :
    ∃ w', (Instr.mapUpdate 179 (.map (some L.m1)) (.string k) (.string x)).run Tryz.prog w = .ok () w' ∧ StM w' L { s with P := s.P.put k.data.toList x } (N + 1) ∧ Kt L.B w w' := by
  obtain ⟨n1, n2, n3, n4, n5⟩ := h.ln
  obtain ⟨w', hr, hs, hg⟩ := h.sb.putP k hk x (lt_max n2 h.big)
  have hp := Sm.put_le s.P k.data.toList x
  exact ⟨w', hr, ⟨hN, ⟨by show s.R.length ≤ _; omega, by show (s.P.put _ _).length ≤ _; omega, by show s.F.length ≤ _; omega, by show s.O.length ≤ _; omega, by show s.X.length ≤ _; omega⟩, hs, h.rf.off (ownO_k _) hg fun cur => h.sb.mP.noCells cur _, h.ro.off (ownR_k _ _) hg fun cur => h.sb.mP.noCells cur _⟩, Kt.of_gr hg h.sb.b.2.2.1 h.sb.mP.noFix⟩
theorem StM.delP (h : StM w L s N) (k : ByteArray) (hk : k.size ≤ maxLen) (ty : TypeId) :
    ∃ w', (Builtin.delete_ #[179, 9] ty #[.map (some L.m1), .string k]).run Tryz.prog w = .ok (.tuple #[]) w' ∧ StM w' L { s with P := s.P.del k.data.toList } N ∧ Kt L.B w w' ∧ w.grownBy w' (some L.m1) := by
  obtain ⟨n1, n2, n3, n4, n5⟩ := h.ln
  obtain ⟨w', hr, hs, hg⟩ := h.sb.delP k hk ty
  have hp : (s.P.del k.data.toList).length ≤ s.P.length := List.length_filter_le _ _
  exact ⟨w', hr, ⟨h.big, ⟨n1, by show (s.P.del _).length ≤ _; omega, n3, n4, n5⟩, hs, h.rf.off (ownO_k _) hg fun cur => h.sb.mP.noCells cur _, h.ro.off (ownR_k _ _) hg fun cur => h.sb.mP.noCells cur _⟩, Kt.of_gr hg h.sb.b.2.2.1 h.sb.mP.noFix, hg⟩
theorem StM.putX (h : StM w L s N) (hN : N + 1 ≤ 1000000000) (k : ByteArray) (hk : k.size ≤ maxLen) (x : Int) :
    ∃ w', (Instr.mapUpdate 149 (.map (some L.m4)) (.string k) (.int .i64 x)).run Tryz.prog w = .ok () w' ∧ StM w' L { s with X := s.X.put k.data.toList x } (N + 1) ∧ Kt L.B w w' := by
  obtain ⟨n1, n2, n3, n4, n5⟩ := h.ln
  obtain ⟨w', hr, hs, hg⟩ := h.sb.putX k hk x (lt_max n5 h.big)
  have hp := Sm.put_le s.X k.data.toList x
  exact ⟨w', hr, ⟨hN, ⟨by show s.R.length ≤ _; omega, by show s.P.length ≤ _; omega, by show s.F.length ≤ _; omega, by show s.O.length ≤ _; omega, by show (s.X.put _ _).length ≤ _; omega⟩, hs, h.rf.off (ownO_k _) hg fun cur => h.sb.mX.noCells cur _, h.ro.off (ownR_k _ _) hg fun cur => h.sb.mX.noCells cur _⟩, Kt.of_gr hg h.sb.b.2.2.2.2.2 h.sb.mX.noFix⟩
theorem StM.delF (h : StM w L s N) (k : ByteArray) (hk : k.size ≤ maxLen) (ty : TypeId) :
    ∃ w', (Builtin.delete_ #[180, 9] ty #[.map (some L.m2), .string k]).run Tryz.prog w = .ok (.tuple #[]) w' ∧ StM w' L { s with F := s.F.del k.data.toList } N ∧ Kt L.B w w' := by
  obtain ⟨n1, n2, n3, n4, n5⟩ := h.ln
  obtain ⟨w', hr, hs, hg⟩ := h.sb.delF k hk ty
  have hp : (s.F.del k.data.toList).length ≤ s.F.length := List.length_filter_le _ _
  rw [← hdS_del] at hs
  exact ⟨w', hr, ⟨h.big, ⟨n1, n2, by show (s.F.del _).length ≤ _; omega, n4, n5⟩, hs, (h.rf.off (ownO_k _) hg fun cur => h.sb.mF.noCells cur _).gone _, h.ro.off (ownR_k _ _) hg fun cur => h.sb.mF.noCells cur _⟩, Kt.of_gr hg h.sb.b.2.2.2.1 h.sb.mF.noFix⟩
/-- a store one of whose rows of strings has turned: to be put back. -/
structure StF (w : World) (L : Loc) (s : Sts) (k : Bs) (v : Value) (l : List ByteArray) (N : Nat) : Prop where
  big : N ≤ 1000000000
  ln : s.R.length ≤ N ∧ s.P.length ≤ N ∧ s.F.length ≤ N ∧ s.O.length ≤ N ∧ s.X.length ≤ N
  sb : StB w L s.R s.P (hdS s.F) (hdS s.O) s.X
  rf : Rws (fun w v l => OwnO w L.B v l) w (s.F.del k)
  ro : Rws (fun w v l => OwnR TOr w L.B v l) w s.O
  own : OwnO w L.B v l
  ap : Apart s.F k v
theorem Kt.of_rowO {B : Nat} {v : Value} {l : List ByteArray} (hO : OwnO w B v l) (hg : w.grownBy w' v.ownBlock) : Kt B w w' := by
  cases e : v.ownBlock with
  | none => rw [e] at hg; exact Kt.of_below (Gr.below_none hg)
  | some g =>
    rw [e] at hg
    obtain ⟨h1, cur, h2⟩ := (ownO_k B).blk hO e
    refine Kt.of_gr hg h1 ?_
    rintro ⟨cur', t, h3, h4, _⟩
    rw [h2] at h3
    injection h3 with h3
    injection h3 with _ h3 _
    exact h4 h3.symm
theorem Kt.of_rowR {B : Nat} {v : Value} {l : List Org} (hO : OwnR TOr w B v l) (hg : w.grownBy w' v.ownBlock) : Kt B w w' := by
  cases e : v.ownBlock with
  | none => rw [e] at hg; exact Kt.of_below (Gr.below_none hg)
  | some g =>
    rw [e] at hg
    obtain ⟨h1, cur, h2⟩ := (ownR_k TOr B).blk hO e
    refine Kt.of_gr hg h1 ?_
    rintro ⟨cur', t, h3, _, h4, _⟩
    rw [h2] at h3
    injection h3 with h3
    injection h3 with _ h3 _
    exact h4 h3.symm
/-- a row of strings as it is looked up. -/
theorem StM.rowF (h : StM w L s N) (k : ByteArray) (hk : k.size ≤ maxLen) : ∃ hd, (Instr.lookup 180 (.map (some L.m2)) (.string k) false).run Tryz.prog w = .ok (hdrV hd) w ∧ OwnO w L.B (hdrV hd) (rowO s.F k) ∧ Apart s.F k.data.toList (hdrV hd) := by
  have hl := h.sb.mF.look TMh.ok k hk
  rw [hdS_get] at hl
  refine ⟨_, hl, ?_⟩
  unfold rowO
  cases hg : s.F.get k.data.toList with
  | none => exact ⟨.inl ⟨rfl, rfl⟩, Apart.nil _⟩
  | some p => exact ⟨h.rf.own _ (Sm.get_mem hg), h.rf.apart hg⟩
def rowOr (O : Ods) (k : ByteArray) : List Org := match O.get k.data.toList with
  | some p => p.2
  | none => []
theorem StM.rowOr (h : StM w L s N) (k : ByteArray) (hk : k.size ≤ maxLen) : ∃ hd, (Instr.lookup 181 (.map (some L.m3)) (.string k) false).run Tryz.prog w = .ok (hdrV hd) w ∧ OwnR TOr w L.B (hdrV hd) (rowOr s.O k) ∧ Apart s.O k.data.toList (hdrV hd) := by
  have hl := h.sb.mO.look TMo.ok k hk
  rw [hdS_get] at hl
  refine ⟨_, hl, ?_⟩
  unfold Go.Proofs.YtilhonppgedoiaaGreatDoor.rowOr
  cases hg : s.O.get k.data.toList with
  | none => exact ⟨OwnR.nil _ _, Apart.nil _⟩
  | some p => exact ⟨h.ro.own _ (Sm.get_mem hg), h.ro.apart hg⟩
/-- the row of a feeder has grown. -/
theorem StM.turnF (h : StM w L s N) {k : ByteArray} {v v' : Value} {l l' : List ByteArray} (hO : OwnO w L.B v l) (ha : Apart s.F k.data.toList v) (hO' : OwnO w' L.B v' l') (hg : w.grownBy w' v.ownBlock) (hb : v'.ownBlock = v.ownBlock ∨ v'.ownBlock = some w.heap.size) : StF w' L s k.data.toList v' l' N ∧ Kt L.B w w' := by
  refine ⟨⟨h.big, h.ln, h.sb.offRow hg fun g e => ?_, h.rf.turn (ownO_k _) ha hg, ?_, hO', ?_⟩, Kt.of_rowO hO hg⟩
  · obtain ⟨_, cur, hc⟩ := (ownO_k L.B).blk hO e
    exact ⟨cur, _, hc, by decide⟩
  · cases e : v.ownBlock with
    | none => rw [e] at hg; exact h.ro.low (ownR_k _ _) (Gr.below_none hg)
    | some g =>
      rw [e] at hg
      obtain ⟨_, cur, hc⟩ := (ownO_k L.B).blk hO e
      refine h.ro.off (ownR_k _ _) hg fun cur' hc' => ?_
      rw [hc] at hc'
      injection hc' with hc'
      injection hc' with _ hc' _
      exact absurd hc' (by decide)
  · rcases hb with hb | hb
    · exact ha.same hb
    · exact Apart.new h.rf (ownO_k _) hb (Nat.le_refl _)
/-- the row of a feeder lies as it lay, or cut. -/
theorem StM.openF (h : StM w L s N) {k : ByteArray} {v v' : Value} {l' : List ByteArray} (ha : Apart s.F k.data.toList v) (hO' : OwnO w L.B v' l') (hb : v'.ownBlock = v.ownBlock) : StF w L s k.data.toList v' l' N :=
  ⟨h.big, h.ln, h.sb, h.rf.gone _, h.ro, hO', ha.same hb⟩
theorem StF.put {k : ByteArray} {hd : Hdr} {l : List ByteArray} (h : StF w L s k.data.toList (hdrV hd) l N) (hN : N + 1 ≤ 1000000000) (hk : k.size ≤ maxLen) :
    ∃ w', (Instr.mapUpdate 180 (.map (some L.m2)) (.string k) (hdrV hd)).run Tryz.prog w = .ok () w' ∧ StM w' L { s with F := s.F.put k.data.toList (hd, l) } (N + 1) ∧ Kt L.B w w' := by
  obtain ⟨n1, n2, n3, n4, n5⟩ := h.ln
  obtain ⟨w', hr, hs, hg⟩ := h.sb.putF k hk hd (by rw [hdS_len]; exact lt_max n3 h.big)
  have hp := Sm.put_le s.F k.data.toList (hd, l)
  have hO : OwnO w' L.B (hdrV hd) l := h.own.keep fun g e => by
    obtain ⟨_, cur, hc⟩ := (ownO_k L.B).blk h.own e
    exact hg.block g (blk_lt hc) fun e1 => by injection e1 with e1; exact h.sb.mF.noCells _ _ (e1 ▸ hc)
  rw [← hdS_put (v := (hd, l))] at hs
  exact ⟨w', hr, ⟨hN, ⟨by show s.R.length ≤ _; omega, by show s.P.length ≤ _; omega, by show (s.F.put _ _).length ≤ _; omega, by show s.O.length ≤ _; omega, by show s.X.length ≤ _; omega⟩, hs, (h.rf.off (ownO_k _) hg fun cur => h.sb.mF.noCells cur _).put hO h.ap, h.ro.off (ownR_k _ _) hg fun cur => h.sb.mF.noCells cur _⟩, Kt.of_gr hg h.sb.b.2.2.2.1 h.sb.mF.noFix⟩
/-- the same of a board's row of origins. -/
structure StO (w : World) (L : Loc) (s : Sts) (k : Bs) (v : Value) (l : List Org) (N : Nat) : Prop where
  big : N ≤ 1000000000
  ln : s.R.length ≤ N ∧ s.P.length ≤ N ∧ s.F.length ≤ N ∧ s.O.length ≤ N ∧ s.X.length ≤ N
  sb : StB w L s.R s.P (hdS s.F) (hdS s.O) s.X
  rf : Rws (fun w v l => OwnO w L.B v l) w s.F
  ro : Rws (fun w v l => OwnR TOr w L.B v l) w (s.O.del k)
  own : OwnR TOr w L.B v l
  ap : Apart s.O k v
theorem StM.turnO (h : StM w L s N) {k : ByteArray} {v v' : Value} {l l' : List Org} (hO : OwnR TOr w L.B v l) (ha : Apart s.O k.data.toList v) (hO' : OwnR TOr w' L.B v' l') (hg : w.grownBy w' v.ownBlock) (hb : v'.ownBlock = v.ownBlock ∨ v'.ownBlock = some w.heap.size) : StO w' L s k.data.toList v' l' N ∧ Kt L.B w w' := by
  refine ⟨⟨h.big, h.ln, h.sb.offRow hg fun g e => ?_, ?_, h.ro.turn (ownR_k _ _) ha hg, hO', ?_⟩, Kt.of_rowR hO hg⟩
  · obtain ⟨_, cur, hc⟩ := (ownR_k TOr L.B).blk hO e
    exact ⟨cur, _, hc, by decide⟩
  · cases e : v.ownBlock with
    | none => rw [e] at hg; exact h.rf.low (ownO_k _) (Gr.below_none hg)
    | some g =>
      rw [e] at hg
      obtain ⟨_, cur, hc⟩ := (ownR_k TOr L.B).blk hO e
      refine h.rf.off (ownO_k _) hg fun cur' hc' => ?_
      rw [hc] at hc'
      injection hc' with hc'
      injection hc' with _ hc' _
      exact absurd hc' (by decide)
  · rcases hb with hb | hb
    · exact ha.same hb
    · exact Apart.new h.ro (ownR_k _ _) hb (Nat.le_refl _)
theorem StO.put {k : ByteArray} {hd : Hdr} {l : List Org} (h : StO w L s k.data.toList (hdrV hd) l N) (hN : N + 1 ≤ 1000000000) (hk : k.size ≤ maxLen) :
    ∃ w', (Instr.mapUpdate 181 (.map (some L.m3)) (.string k) (hdrV hd)).run Tryz.prog w = .ok () w' ∧ StM w' L { s with O := s.O.put k.data.toList (hd, l) } (N + 1) ∧ Kt L.B w w' := by
  obtain ⟨n1, n2, n3, n4, n5⟩ := h.ln
  obtain ⟨w', hr, hs, hg⟩ := h.sb.putO k hk hd (by rw [hdS_len]; exact lt_max n4 h.big)
  have hp := Sm.put_le s.O k.data.toList (hd, l)
  have hO : OwnR TOr w' L.B (hdrV hd) l := (ownR_k TOr L.B).keep h.own fun g e => by
    obtain ⟨_, cur, hc⟩ := (ownR_k TOr L.B).blk h.own e
    exact hg.block g (blk_lt hc) fun e1 => by injection e1 with e1; exact h.sb.mO.noCells _ _ (e1 ▸ hc)
  rw [← hdS_put (v := (hd, l))] at hs
  exact ⟨w', hr, ⟨hN, ⟨by show s.R.length ≤ _; omega, by show s.P.length ≤ _; omega, by show s.F.length ≤ _; omega, by show (s.O.put _ _).length ≤ _; omega, by show s.X.length ≤ _; omega⟩, hs, h.rf.off (ownO_k _) hg fun cur => h.sb.mO.noCells cur _, (h.ro.off (ownR_k _ _) hg fun cur => h.sb.mO.noCells cur _).put hO h.ap⟩, Kt.of_gr hg h.sb.b.2.2.2.2.1 h.sb.mO.noFix⟩
theorem StF.low {k : Bs} {v : Value} {l : List ByteArray} (h : StF w L s k v l N) (hb : Below w.heap.size w w') : StF w' L s k v l N := ⟨h.big, h.ln, h.sb.low hb, h.rf.low (ownO_k _) hb, h.ro.low (ownR_k _ _) hb, h.own.below hb, h.ap⟩
end
theorem rowO_put (F : Fds) (k g : ByteArray) (hd : Hdr) (l : List ByteArray) : rowO (F.put k.data.toList (hd, l)) g = if g = k then l else rowO F g := by
  unfold rowO
  by_cases h : g = k
  · subst h; rw [Sm.get_put_same, if_pos rfl]
  · rw [Sm.get_put_other (fun e => h (ba_ext e).symm), if_neg h]
theorem rowO_del (F : Fds) (k g : ByteArray) : rowO (F.del k.data.toList) g = if g = k then [] else rowO F g := by
  unfold rowO
  by_cases h : g = k
  · subst h; rw [Sm.get_del_same, if_pos rfl]
  · rw [Sm.get_del_other (fun e => h (ba_ext e).symm), if_neg h]
theorem rowOr_put (F : Ods) (k g : ByteArray) (hd : Hdr) (l : List Org) : rowOr (F.put k.data.toList (hd, l)) g = if g = k then l else rowOr F g := by
  unfold rowOr
  by_cases h : g = k
  · subst h; rw [Sm.get_put_same, if_pos rfl]
  · rw [Sm.get_put_other (fun e => h (ba_ext e).symm), if_neg h]
def delA : Sm ByteArray → List ByteArray → Sm ByteArray
  | P, [] => P
  | P, x :: l => delA (P.del x.data.toList) l
theorem delA_app : ∀ (l m : List ByteArray) (P : Sm ByteArray), delA P (l ++ m) = delA (delA P l) m
  | [], _, _ => rfl
  | x :: l, m, P => delA_app l m (P.del x.data.toList)
theorem delA_get (x : ByteArray) : ∀ (l : List ByteArray) (P : Sm ByteArray), (delA P l).get x.data.toList = if memR x l = true then none else P.get x.data.toList
  | [], P => rfl
  | y :: l, P => by
    rw [delA, delA_get x l]
    by_cases h : y = x
    · subst h
      rw [Sm.get_del_same, if_pos (memR_iff.2 (List.mem_cons_self ..))]
      split <;> rfl
    · rw [Sm.get_del_other (fun e => h (ba_ext e))]
      have e : memR x (y :: l) = memR x l := by
        show (decide (y = x) || memR x l) = _
        rw [decide_eq_false h, Bool.false_or]
      rw [e]
/-! append to a row of records, where its block is told -/
theorem OwnR.app {α : Type} {T : Rty α} (hT : T.Ok) {w : World} {B : Nat} {v : Value} {l : List α} (hown : OwnR T w B v l) (ty : TypeId) (g c : Nat) (y : α) {cs : Array Value} {t : TypeId} (hblk : w.heap[g]? = some (.cells cs t (0, 0))) (hcs : cs.toList = T.f y) (hlen : l.length ≤ 1000000) (hB : B ≤ w.heap.size) :
    ∃ v' w', (Builtin.append_ #[T.S, T.S] ty #[v, .slice (some ⟨g, 0, none⟩) 1 c]).run Tryz.prog w = .ok v' w' ∧ OwnR T w' B v' (l ++ [y]) ∧ w.grownBy w' v.ownBlock ∧ (v'.ownBlock = v.ownBlock ∨ v'.ownBlock = some w.heap.size) := by
  obtain ⟨i, hi, hz0, hz1, hz2⟩ := info_parts hT.info
  obtain ⟨v', w', hr, h2, h3, _, h5⟩ := run_append_own_at (P := Tryz.prog) (w := w) B T.S ty T.e i T.z T.k T.b hT.sl hi hz0 hz1 hz2 hT.zs hT.pos v l.length (l.flatMap T.f) hown ⟨g, 0, none⟩ 1 c (T.f y) (by rw [hT.len, Nat.one_mul]) (by
    intro j u hj
    rw [← hcs] at hj
    have : w.cell? ⟨g, j, none⟩ = some u := by rw [blk_cell hblk]; simpa using hj
    by_cases h0 : j = 0
    · subst h0; simpa [Addr.add] using this
    · simpa [Addr.add, h0] using this) (hT.one y) (by unfold maxLen; omega) (by have := Nat.mul_le_mul (show l.length + 1 ≤ 1000001 by omega) hT.small; omega) hB
  refine ⟨v', w', hr, ?_, h3, h5⟩
  unfold OwnR
  rw [List.length_append, List.flatMap_append, List.flatMap_singleton]
  exact h2
theorem wp_app_r {α : Type} {T : Rty α} (hT : T.Ok) {w : World} {ops : Array Oper} {rest : List Oper} {o : Oper} {a : Act} {Q : Exit → Act → World → Prop} (hgd : o.guard = none) (s x : Operand)
    (ho : o.op = .call { callee := .builtin .append, args := #[s, x], argTypes := #[T.S, T.S] }) (B : Nat) (v : Value) (l : List α) (hs : a.eval s = v) (hown : OwnR T w B v l)
    (g c : Nat) (y : α) (hx : a.eval x = .slice (some ⟨g, 0, none⟩) 1 c) {cs : Array Value} {t : TypeId} (hblk : w.heap[g]? = some (.cells cs t (0, 0))) (hcs : cs.toList = T.f y) (hlen : l.length ≤ 1000000) (hB : B ≤ w.heap.size)
    (h : ∀ v' w', OwnR T w' B v' (l ++ [y]) → w.grownBy w' v.ownBlock → (v'.ownBlock = v.ownBlock ∨ v'.ownBlock = some w.heap.size) → wpList Tryz.prog ops Q rest (a.put o.dst v') w') : wpList Tryz.prog ops Q (o :: rest) a w := by
  refine wpList_plain hgd fun K hK => ?_
  obtain ⟨v', w', hr, h2, h3, h4⟩ := hown.app hT o.type g c y hblk hcs hlen hB
  unfold Oper.wp execOp
  simp only [ho, resolve, invoke, builtin, Sem.run_bind, Sem.run_pure, Result.andThen_ok, List.map_toArray, List.map_cons, List.map_nil, hs, hx, hr]
  exact hK _ _ (h v' w' h2 h3 h4)
end Go.Proofs.YtilhonppgedoiaaGreatDoor
