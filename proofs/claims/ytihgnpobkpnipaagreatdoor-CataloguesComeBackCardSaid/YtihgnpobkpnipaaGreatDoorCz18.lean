/- Texts of the proof of a law, put together, part 18 of 35. Conditions: none beyond those that each theorem names. -/
import Derived.Test.YtihgnpobkpnipaaGreatDoorCz1
import Derived.Test.YtihgnpobkpnipaaGreatDoorCz5
import Derived.Test.YtihgnpobkpnipaaGreatDoorCz6
import Derived.Test.YtihgnpobkpnipaaGreatDoorCz16
import Derived.Test.YtihgnpobkpnipaaGreatDoorCz17
import Derived.Maps.RangeWalk
import Derived.Sort.Grow
import Derived.Sort.Row
namespace Go.Proofs.YtihgnpobkpnipaaGreatDoor
open Go.RowKit Go.Sort Go.Maps
theorem MapS.obj {α : Type} {T : Mty α} {w : World} {b : Nat} {l : Sm α} (h : MapS T w b l) : ∃ es c, w.heap[b]? = some (.map es c) := by
  obtain ⟨_, es, clock, hb, _⟩ := h
  exact ⟨es, clock, hb⟩
theorem MapS.noCells {α : Type} {T : Mty α} {w : World} {b : Nat} {l : Sm α} (h : MapS T w b l) (cur : Array Value) (t : TypeId) : w.heap[b]? ≠ some (.cells cur t (0, 0)) := by
  obtain ⟨es, c, hb⟩ := h.obj
  intro e
  rw [hb] at e
  cases e
/-! rows by names -/
structure OwnQ {β : Type} (Own : World → Value → List β → Prop) (B : Nat) (e : TypeId) : Prop where
  keep : ∀ {w w' : World} {v : Value} {l : List β}, Own w v l → (∀ k, v.ownBlock = some k → w'.heap[k]? = w.heap[k]?) → Own w' v l
  blk : ∀ {w : World} {v : Value} {l : List β} {k : Nat}, Own w v l → v.ownBlock = some k → B ≤ k ∧ ∃ cur, w.heap[k]? = some (.cells cur e (0, 0))
theorem ownR_k {β : Type} (T : Rty β) (B : Nat) : OwnQ (fun w v l => OwnR T w B v l) B T.e := ⟨fun {w w' v l} h hk => by
  refine ⟨h.1, h.2.imp id ?_⟩
  rintro ⟨b, cap, cur, rfl, hb, hc, rest⟩
  exact ⟨b, cap, cur, rfl, hb, (hk b rfl).trans hc, rest⟩, fun {w v l k} h e => by
  rcases h.2 with ⟨rfl, _⟩ | ⟨b, cap, cur, rfl, hb, hc, _⟩
  · cases e
  · injection e with e
    subst e
    exact ⟨hb, cur, hc⟩⟩
structure Rws {β : Type} (Own : World → Value → List β → Prop) (w : World) (F : Sm (Hdr × List β)) : Prop where
  own : ∀ p ∈ F, Own w (hdrV p.2.1) p.2.2
  sep : ∀ p ∈ F, ∀ q ∈ F, p.1 ≠ q.1 → ∀ b, (hdrV p.2.1).ownBlock = some b → (hdrV q.2.1).ownBlock ≠ some b
def hdS {β : Type} (F : Sm (Hdr × List β)) : Sm Hdr := F.map fun p => (p.1, p.2.1)
theorem hdS_get {β : Type} (k : Bs) : ∀ F : Sm (Hdr × List β), (hdS F).get k = (F.get k).map (·.1)
  | [] => rfl
  | p :: F => by
    show (if p.1 = k then _ else _) = _
    by_cases h : p.1 = k
    · rw [if_pos h, Sm.get, if_pos h]; rfl
    · rw [if_neg h, Sm.get, if_neg h]; exact hdS_get k F
theorem hdS_ins {β : Type} (k : Bs) (v : Hdr × List β) : ∀ F : Sm (Hdr × List β), hdS (Sm.ins k v F) = Sm.ins k v.1 (hdS F)
  | [] => rfl
  | p :: F => by
    have ih := hdS_ins k v F
    unfold hdS at ih ⊢
    rw [Sm.ins, List.map_cons, Sm.ins]
    split
    · rfl
    · rw [List.map_cons, ih]
theorem hdS_del {β : Type} (k : Bs) (F : Sm (Hdr × List β)) : hdS (F.del k) = (hdS F).del k := by
  unfold hdS Sm.del
  rw [List.filter_map]
  rfl
theorem hdS_put {β : Type} (k : Bs) (v : Hdr × List β) (F : Sm (Hdr × List β)) : hdS (F.put k v) = (hdS F).put k v.1 := by
  unfold Sm.put
  rw [hdS_ins, hdS_del]
theorem hdS_len {β : Type} (F : Sm (Hdr × List β)) : (hdS F).length = F.length := List.length_map _
section
variable {β : Type} {Own : World → Value → List β → Prop} {B : Nat} {e : TypeId} {w w' : World} {F : Sm (Hdr × List β)}
theorem Rws.low (h : Rws Own w F) (K : OwnQ Own B e) (hb : Below w.heap.size w w') : Rws Own w' F :=
  ⟨fun p hp => K.keep (h.own p hp) fun k hk => by obtain ⟨_, cur, hc⟩ := K.blk (h.own p hp) hk; exact hb.block k (blk_lt hc), h.sep⟩
theorem Rws.off (h : Rws Own w F) (K : OwnQ Own B e) {g : Nat} (hg : w.grownBy w' (some g)) (hn : ∀ cur, w.heap[g]? ≠ some (.cells cur e (0, 0))) : Rws Own w' F :=
  ⟨fun p hp => K.keep (h.own p hp) fun k hk => by
    obtain ⟨_, cur, hc⟩ := K.blk (h.own p hp) hk
    exact hg.block k (blk_lt hc) fun e1 => by injection e1 with e1; subst e1; exact hn cur hc, h.sep⟩
theorem Rws.gone (h : Rws Own w F) (k : Bs) : Rws Own w (F.del k) :=
  ⟨fun p hp => h.own p (List.mem_filter.1 hp).1, fun p hp q hq => h.sep p (List.mem_filter.1 hp).1 q (List.mem_filter.1 hq).1⟩
/-- apart from all other rows. -/
def Apart {β : Type} (F : Sm (Hdr × List β)) (k : Bs) (v : Value) : Prop := ∀ p ∈ F, p.1 ≠ k → ∀ b, (hdrV p.2.1).ownBlock = some b → v.ownBlock ≠ some b
theorem Rws.apart (h : Rws Own w F) {k : Bs} {x : Hdr × List β} (hx : F.get k = some x) : Apart F k (hdrV x.1) := fun p hp hne b hb => h.sep p hp (k, x) (Sm.get_mem hx) hne b hb
theorem Apart.nil (k : Bs) : Apart F k (.slice none 0 0) := fun p hp hne b hb e => by cases e
theorem Apart.same {k : Bs} {v v' : Value} (h : Apart F k v) (e : v'.ownBlock = v.ownBlock) : Apart F k v' := fun p hp hne b hb => by rw [e]; exact h p hp hne b hb
theorem Apart.new (h : Rws Own w F) (K : OwnQ Own B e) {k : Bs} {v : Value} {n : Nat} (hv : v.ownBlock = some n) (hn : w.heap.size ≤ n) : Apart F k v := fun p hp hne b hb => by
  rw [hv]
  intro e1
  injection e1 with e1
  subst e1
  obtain ⟨_, cur, hc⟩ := K.blk (h.own p hp) hb
  have := blk_lt hc
  omega
theorem Rws.put {k : Bs} {hd : Hdr} {l : List β} (h : Rws Own w (F.del k)) (hn : Own w (hdrV hd) l) (ha : Apart F k (hdrV hd)) : Rws Own w (F.put k (hd, l)) := by
  refine ⟨fun p hp => ?_, fun p hp q hq hne b hb => ?_⟩
  · rcases (Sm.ins_mem p).1 hp with rfl | hp
    · exact hn
    · exact h.own p hp
  · rcases (Sm.ins_mem p).1 hp with rfl | hp
    · rcases (Sm.ins_mem q).1 hq with rfl | hq
      · exact absurd rfl hne
      · intro e1
        exact ha q (List.mem_filter.1 hq).1 (Sm.del_ne q hq) b e1 hb
    · rcases (Sm.ins_mem q).1 hq with rfl | hq
      · exact ha p (List.mem_filter.1 hp).1 (Sm.del_ne p hp) b hb
      · exact h.sep p hp q hq hne b hb
end
/-! the store -/
/-! append to a row of records, where its block is told -/
theorem OwnR.app {α : Type} {T : Rty α} (hT : T.Ok) {w : World} {B : Nat} {v : Value} {l : List α} (hown : OwnR T w B v l) (ty : TypeId) (g c : Nat) (y : α) {cs : Array Value} {t : TypeId} (hblk : w.heap[g]? = some (.cells cs t (0, 0))) (hcs : cs.toList = T.f y) (hlen : l.length ≤ 1000000) (hB : B ≤ w.heap.size) :
    ∃ v' w', (Builtin.append_ #[T.S, T.S] ty #[v, .slice (some ⟨g, 0, none⟩) 1 c]).run Tryz.prog w = .ok v' w' ∧ OwnR T w' B v' (l ++ [y]) ∧ w.grownBy w' v.ownBlock ∧ (v'.ownBlock = v.ownBlock ∨ v'.ownBlock = some w.heap.size) := by
  obtain ⟨i, hi, hz0, hz1, hz2⟩ := info_parts hT.info
  obtain ⟨v', w', hr, h2, h3, _, h5⟩ := run_append_own_at (P := Tryz.prog) (w := w) B T.S ty T.e i T.z T.k T.b hT.sl hi hz0 hz1 hz2 hT.zs hT.pos v l.length (l.flatMap T.f) hown ⟨g, 0, none⟩ 1 c (T.f y) (by rw [hT.len, Nat.one_mul]) (by
    intro j u hj
    rw [← hcs] at hj
    have : w.cell? ⟨g, j, none⟩ = some u := by rw [blk_cell hblk]; simpa using hj
    by_cases h0 : j = 0
    · subst h0; simpa [Addr.add] using this
    · simpa [Addr.add, h0] using this) (hT.one y) (by unfold maxLen; omega) (by have := Nat.mul_le_mul (show l.length + 1 ≤ 1000001 by omega) hT.small; omega) hB
  refine ⟨v', w', hr, ?_, h3, h5⟩
  unfold OwnR
  rw [List.length_append, List.flatMap_append, List.flatMap_singleton]
  exact h2
theorem wp_app_r {α : Type} {T : Rty α} (hT : T.Ok) {w : World} {ops : Array Oper} {rest : List Oper} {o : Oper} {a : Act} {Q : Exit → Act → World → Prop} (hgd : o.guard = none) (s x : Operand)
    (ho : o.op = .call { callee := .builtin .append, args := #[s, x], argTypes := #[T.S, T.S] }) (B : Nat) (v : Value) (l : List α) (hs : a.eval s = v) (hown : OwnR T w B v l)
    (g c : Nat) (y : α) (hx : a.eval x = .slice (some ⟨g, 0, none⟩) 1 c) {cs : Array Value} {t : TypeId} (hblk : w.heap[g]? = some (.cells cs t (0, 0))) (hcs : cs.toList = T.f y) (hlen : l.length ≤ 1000000) (hB : B ≤ w.heap.size)
    (h : ∀ v' w', OwnR T w' B v' (l ++ [y]) → w.grownBy w' v.ownBlock → (v'.ownBlock = v.ownBlock ∨ v'.ownBlock = some w.heap.size) → wpList Tryz.prog ops Q rest (a.put o.dst v') w') : wpList Tryz.prog ops Q (o :: rest) a w := by
  refine wpList_plain hgd fun K hK => ?_
  obtain ⟨v', w', hr, h2, h3, h4⟩ := hown.app hT o.type g c y hblk hcs hlen hB
  unfold Oper.wp execOp
  simp only [ho, resolve, invoke, builtin, Sem.run_bind, Sem.run_pure, Result.andThen_ok, List.map_toArray, List.map_cons, List.map_nil, hs, hx, hr]
  exact hK _ _ (h v' w' h2 h3 h4)
end Go.Proofs.YtihgnpobkpnipaaGreatDoor
namespace Go.Proofs.YtihgnpobkpnipaaGreatDoor
open Go.RowKit Go.Sort Go.Maps
/-! rows -/
abbrev OwnB (B : Nat) : World → Value → List ByteArray → Prop := fun w v l => OwnR TS w B v l
def rowB (F : Fds) (k : Bs) : List ByteArray := ((F.get k).map (·.2)).getD []
structure ByM (w : World) (b B : Nat) (F : Fds) : Prop where
  map : MapS TMh w b (hdS F)
  rows : Rws (OwnB B) w F
section
variable {w w' : World} {b B : Nat} {F : Fds}
theorem ByM.made (w : World) (B : Nat) : ByM (w.alloc (.map #[] 0)) w.heap.size B [] := ⟨MapS.made w, fun _p hp => (List.not_mem_nil hp).elim, fun _p hp => (List.not_mem_nil hp).elim⟩
theorem ByM.low (h : ByM w b B F) (hb : Below w.heap.size w w') : ByM w' b B F := ⟨h.map.below hb, h.rows.low (ownR_k TS B) hb⟩
theorem ByM.ok (h : ByM w b B F) : Sm.Ok F := by
  have := h.map.1
  unfold Sm.Ok hdS at this
  rw [List.pairwise_map] at this
  exact this
theorem ByM.look (h : ByM w b B F) (k : ByteArray) (hk : k.size ≤ maxLen) : ∃ hd, (∀ W, Below w.heap.size w W → (Instr.lookup 129 (.map (some b)) (.string k) false).run Tryz.prog W = .ok (hdrV hd) W) ∧ (∀ W, Below w.heap.size w W → OwnR TS W B (hdrV hd) (rowB F (bsOf k))) ∧ Apart F (bsOf k) (hdrV hd) := by
  refine ⟨((hdS F).get k.data.toList).getD TMh.z, fun W hW => (h.low hW).map.look TMh.ok k hk, ?_⟩
  rw [hdS_get]
  unfold rowB
  show (∀ W, Below w.heap.size w W → OwnR TS W B (hdrV (((F.get (bsOf k)).map (·.1)).getD TMh.z)) _) ∧ Apart F (bsOf k) (hdrV (((F.get (bsOf k)).map (·.1)).getD TMh.z))
  cases hg : F.get (bsOf k) with
  | none => exact ⟨fun W _ => OwnR.nil _ _, Apart.nil _⟩
  | some p => exact ⟨fun W hW => (h.low hW).rows.own _ (Sm.get_mem hg), h.rows.apart hg⟩
/-- the row of k is in hand: it has turned, and the map has not been told. -/
structure ByT (w : World) (b B : Nat) (F : Fds) (k : Bs) (v : Value) (l : List ByteArray) : Prop where
  map : MapS TMh w b (hdS F)
  rows : Rws (OwnB B) w (F.del k)
  own : OwnR TS w B v l
  ap : Apart F k v
theorem map_off {α : Type} {T : Mty α} {w w' : World} {b B : Nat} {l : Sm α} {v : Value} {m : List ByteArray} (h : MapS T w b l) (hO : OwnR TS w B v m) (hg : w.grownBy w' v.ownBlock) : MapS T w' b l := by
  refine h.kept hg fun e => ?_
  obtain ⟨_, cur, hc⟩ := (ownR_k TS B).blk hO e.symm
  exact h.noCells cur _ hc
theorem ByT.put {k : ByteArray} {hd : Hdr} {l : List ByteArray} (h : ByT w b B F (bsOf k) (hdrV hd) l) (hk : k.size ≤ maxLen) (hl : F.length < maxLen) :
    ∃ w', (Instr.mapUpdate 129 (.map (some b)) (.string k) (hdrV hd)).run Tryz.prog w = .ok () w' ∧ ByM w' b B (F.put (bsOf k) (hd, l)) ∧ w.grownBy w' (some b) := by
  obtain ⟨w', hr, h1, h2⟩ := h.map.put TMh.ok k hk hd (by rw [hdS_len]; exact hl)
  have hn := h.map.noCells
  refine ⟨w', hr, ⟨by rw [hdS_put]; exact h1, (h.rows.off (ownR_k TS B) h2.grown fun cur => hn cur _).put ?_ h.ap⟩, h2.grown⟩
  exact (ownR_k TS B).keep h.own fun j hj => by
    obtain ⟨_, cur, hc⟩ := (ownR_k TS B).blk h.own hj
    exact h2.grown.block j (blk_lt hc) fun e => by injection e with e; subst e; exact hn cur _ hc
/-! a row in its place, by another order -/
def setRow (F : Fds) (k : Bs) (l : List ByteArray) : Fds := F.map fun p => if p.1 = k then (p.1, p.2.1, l) else p
theorem setRow_hd (F : Fds) (k : Bs) (l : List ByteArray) : hdS (setRow F k l) = hdS F := by
  unfold hdS setRow
  rw [List.map_map]
  refine List.map_congr_left fun p _ => ?_
  show (((if p.1 = k then (p.1, p.2.1, l) else p) : Bs × Hdr × List ByteArray).1, ((if p.1 = k then (p.1, p.2.1, l) else p) : Bs × Hdr × List ByteArray).2.1) = _
  split <;> rfl
theorem ByM.sorted (h : ByM w b B F) {k : Bs} {hd : Hdr} {l l' : List ByteArray} (hx : F.get k = some (hd, l)) (hO' : OwnR TS w' B (hdrV hd) l') (hg : w.grownBy w' (hdrV hd).ownBlock) : ByM w' b B (setRow F k l') := by
  have hO := h.rows.own _ (Sm.get_mem hx)
  refine ⟨by rw [setRow_hd]; exact map_off h.map hO hg, fun p hp => ?_, fun p hp q hq hne c hc => ?_⟩
  · obtain ⟨q, hq, rfl⟩ := List.mem_map.1 hp
    by_cases e : q.1 = k
    · have : q.2 = (hd, l) := by
        have h1 := Sm.get_of_mem h.ok (show (q.1, q.2) ∈ F from hq)
        rw [e, hx] at h1
        injection h1 with h1
        exact h1.symm
      simp only [if_pos e, this]
      exact hO'
    · simp only [if_neg e]
      refine (ownR_k TS B).keep (h.rows.own _ hq) fun j hj => ?_
      obtain ⟨_, cur, hcc⟩ := (ownR_k TS B).blk (h.rows.own _ hq) hj
      exact hg.block j (blk_lt hcc) fun e1 => h.rows.sep _ hq _ (Sm.get_mem hx) e j hj e1.symm
  · obtain ⟨p', hp', rfl⟩ := List.mem_map.1 hp
    obtain ⟨q', hq', rfl⟩ := List.mem_map.1 hq
    have e1 : ∀ r : Bs × Hdr × List ByteArray, ((if r.1 = k then (r.1, r.2.1, l') else r) : Bs × Hdr × List ByteArray).1 = r.1 ∧ ((if r.1 = k then (r.1, r.2.1, l') else r) : Bs × Hdr × List ByteArray).2.1 = r.2.1 := fun r => by split <;> exact ⟨rfl, rfl⟩
    rw [(e1 p').1, (e1 q').1] at hne
    rw [(e1 p').2] at hc
    rw [(e1 q').2]
    exact h.rows.sep _ hp' _ hq' hne c hc
end
/-- what later worlds tell of a map of rows. -/
structure ByG (w : World) (b : Nat) (g : Bs → List Bs) : Prop where
  look : ∀ k : ByteArray, k.size ≤ maxLen → ∃ v, ∀ W, Below w.heap.size w W → (Instr.lookup 129 (.map (some b)) (.string k) false).run Tryz.prog W = .ok v W ∧ RecR TS W 0 v ((g (bsOf k)).map baOf)
theorem ByG.low {w w' : World} {b : Nat} {g : Bs → List Bs} (h : ByG w b g) (hb : Below w.heap.size w w') : ByG w' b g := ⟨fun k hk => by
  obtain ⟨v, hv⟩ := h.look k hk
  exact ⟨v, fun W hW => hv W (Bl.trans hb hW)⟩⟩
/-! maps of maps -/
def mrefE : Value → Option (DataW Unit × List MemPlace)
  | .map none => some (.nil, [])
  | .map (some b) => some (.lit (.int .i64 b), [])
  | _ => none
def mrefD : Option Nat → DataW Unit
  | none => .nil
  | some b => .lit (.int .i64 b)
def TMm : Mty (Option Nat) := { t := 133, e := 126, V := .map, d := mrefD, R := mrefE, z := none }
theorem TMm.ok : TMm.Ok := ⟨Tryz.underlying133, fun w => by kernel_rfl, fun a => by cases a <;> rfl, fun v a ps h => by
  unfold TMm mrefE at h
  simp only at h
  split at h
  · cases a with
    | none => rfl
    | some b => simp [mrefD] at h
  · rename_i b
    cases a with
    | none => simp [mrefD] at h
    | some c =>
      simp [mrefD] at h
      obtain ⟨h, _⟩ := h
      obtain rfl : b = c := by omega
      rfl
  · cases h⟩
theorem baOf_bs (k : ByteArray) : baOf (bsOf k) = k := by unfold baOf bsOf; simp
end Go.Proofs.YtihgnpobkpnipaaGreatDoor
namespace Go.Proofs.YtihgnpobkpnipaaGreatDoor
open Go.RowKit Go.Sort Go.Maps
/-! what lies beside a row, or beside a map, stays when it turns -/
theorem blk_offR {U : Type} {T : Rty U} {w w' : World} {B g : Nat} {v : Value} {l : List U} {cs : Array Value} {t : TypeId} (h : w.heap[g]? = some (.cells cs t (0, 0))) (hO : OwnR T w B v l) (hne : t ≠ T.e) (hg : w.grownBy w' v.ownBlock) : w'.heap[g]? = some (.cells cs t (0, 0)) := by
  refine (hg.block g (blk_lt h) fun e => ?_).trans h
  obtain ⟨_, cur, hc⟩ := (ownR_k T B).blk hO e.symm
  rw [h] at hc
  injection hc with hc
  injection hc with _ h2 _
  exact hne h2
theorem ownR_off {α U : Type} {S : Rty α} {T : Rty U} {w w' : World} {B C : Nat} {v v' : Value} {l : List α} {m : List U} (h : OwnR S w C v l) (hO : OwnR T w B v' m) (hne : S.e ≠ T.e) (hg : w.grownBy w' v'.ownBlock) : OwnR S w' C v l :=
  (ownR_k S C).keep h fun k hk => by
    obtain ⟨_, cur, hc⟩ := (ownR_k S C).blk h hk
    exact (blk_offR hc hO hne hg).trans hc.symm
end Go.Proofs.YtihgnpobkpnipaaGreatDoor
namespace Go.Proofs.YtihgnpobkpnipaaGreatDoor
open Go.RowKit Go.Sort Go.Maps
end Go.Proofs.YtihgnpobkpnipaaGreatDoor
