/- Texts of the proof of a law, put together, part 15 of 35. Conditions: none beyond those that each theorem names. -/
import Derived.Test.YtihgnpobkpnipaaGreatDoorMz1
import Derived.Test.YtihgnpobkpnipaaGreatDoorMz13
import Derived.Test.YtihgnpobkpnipaaGreatDoorMz14
import Derived.Sort.Grow
import Derived.Sort.Row
namespace Go.Proofs.YtihgnpobkpnipaaGreatDoor
open Go.RowKit Go.Sort Go.Maps
theorem MapS.obj {α : Type} {T : Mty α} {w : World} {b : Nat} {l : Sm α} (h : MapS T w b l) : ∃ es c, w.heap[b]? = some (.map es c) := by
  obtain ⟨_, es, clock, hb, _⟩ := h
  exact ⟨es, clock, hb⟩
theorem MapS.noCells {α : Type} {T : Mty α} {w : World} {b : Nat} {l : Sm α} (h : MapS T w b l) (cur : Array Value) (t : TypeId) : w.heap[b]? ≠ some (.cells cur t (0, 0)) := by
  obtain ⟨es, c, hb⟩ := h.obj
  intro e
  rw [hb] at e
  cases e
/-! rows by names -/
structure OwnQ {β : Type} (Own : World → Value → List β → Prop) (B : Nat) (e : TypeId) : Prop where
  keep : ∀ {w w' : World} {v : Value} {l : List β}, Own w v l → (∀ k, v.ownBlock = some k → w'.heap[k]? = w.heap[k]?) → Own w' v l
  blk : ∀ {w : World} {v : Value} {l : List β} {k : Nat}, Own w v l → v.ownBlock = some k → B ≤ k ∧ ∃ cur, w.heap[k]? = some (.cells cur e (0, 0))
theorem ownR_k {β : Type} (T : Rty β) (B : Nat) : OwnQ (fun w v l => OwnR T w B v l) B T.e := ⟨fun {w w' v l} h hk => by
  refine ⟨h.1, h.2.imp id ?_⟩
  rintro ⟨b, cap, cur, rfl, hb, hc, rest⟩
  exact ⟨b, cap, cur, rfl, hb, (hk b rfl).trans hc, rest⟩, fun {w v l k} h e => by
  rcases h.2 with ⟨rfl, _⟩ | ⟨b, cap, cur, rfl, hb, hc, _⟩
  · cases e
  · injection e with e
    subst e
    exact ⟨hb, cur, hc⟩⟩
structure Rws {β : Type} (Own : World → Value → List β → Prop) (w : World) (F : Sm (Hdr × List β)) : Prop where
  own : ∀ p ∈ F, Own w (hdrV p.2.1) p.2.2
  sep : ∀ p ∈ F, ∀ q ∈ F, p.1 ≠ q.1 → ∀ b, (hdrV p.2.1).ownBlock = some b → (hdrV q.2.1).ownBlock ≠ some b
def hdS {β : Type} (F : Sm (Hdr × List β)) : Sm Hdr := F.map fun p => (p.1, p.2.1)
theorem hdS_get {β : Type} (k : Bs) : ∀ F : Sm (Hdr × List β), (hdS F).get k = (F.get k).map (·.1)
  | [] => rfl
  | p :: F => by
    show (if p.1 = k then _ else _) = _
    by_cases h : p.1 = k
    · rw [if_pos h, Sm.get, if_pos h]; rfl
    · rw [if_neg h, Sm.get, if_neg h]; exact hdS_get k F
theorem hdS_ins {β : Type} (k : Bs) (v : Hdr × List β) : ∀ F : Sm (Hdr × List β), hdS (Sm.ins k v F) = Sm.ins k v.1 (hdS F)
  | [] => rfl
  | p :: F => by
    have ih := hdS_ins k v F
    unfold hdS at ih ⊢
    rw [Sm.ins, List.map_cons, Sm.ins]
    split
    · rfl
    · rw [List.map_cons, ih]
theorem hdS_del {β : Type} (k : Bs) (F : Sm (Hdr × List β)) : hdS (F.del k) = (hdS F).del k := by
  unfold hdS Sm.del
  rw [List.filter_map]
  rfl
theorem hdS_put {β : Type} (k : Bs) (v : Hdr × List β) (F : Sm (Hdr × List β)) : hdS (F.put k v) = (hdS F).put k v.1 := by
  unfold Sm.put
  rw [hdS_ins, hdS_del]
theorem hdS_len {β : Type} (F : Sm (Hdr × List β)) : (hdS F).length = F.length := List.length_map _
section
variable {β : Type} {Own : World → Value → List β → Prop} {B : Nat} {e : TypeId} {w w' : World} {F : Sm (Hdr × List β)}
theorem Rws.low (h : Rws Own w F) (K : OwnQ Own B e) (hb : Below w.heap.size w w') : Rws Own w' F :=
  ⟨fun p hp => K.keep (h.own p hp) fun k hk => by obtain ⟨_, cur, hc⟩ := K.blk (h.own p hp) hk; exact hb.block k (blk_lt hc), h.sep⟩
theorem Rws.off (h : Rws Own w F) (K : OwnQ Own B e) {g : Nat} (hg : w.grownBy w' (some g)) (hn : ∀ cur, w.heap[g]? ≠ some (.cells cur e (0, 0))) : Rws Own w' F :=
  ⟨fun p hp => K.keep (h.own p hp) fun k hk => by
    obtain ⟨_, cur, hc⟩ := K.blk (h.own p hp) hk
    exact hg.block k (blk_lt hc) fun e1 => by injection e1 with e1; subst e1; exact hn cur hc, h.sep⟩
theorem Rws.gone (h : Rws Own w F) (k : Bs) : Rws Own w (F.del k) :=
  ⟨fun p hp => h.own p (List.mem_filter.1 hp).1, fun p hp q hq => h.sep p (List.mem_filter.1 hp).1 q (List.mem_filter.1 hq).1⟩
/-- apart from all other rows. -/
def Apart {β : Type} (F : Sm (Hdr × List β)) (k : Bs) (v : Value) : Prop := ∀ p ∈ F, p.1 ≠ k → ∀ b, (hdrV p.2.1).ownBlock = some b → v.ownBlock ≠ some b
theorem Rws.apart (h : Rws Own w F) {k : Bs} {x : Hdr × List β} (hx : F.get k = some x) : Apart F k (hdrV x.1) := fun p hp hne b hb => h.sep p hp (k, x) (Sm.get_mem hx) hne b hb
theorem Apart.nil (k : Bs) : Apart F k (.slice none 0 0) := fun p hp hne b hb e => by cases e
theorem Apart.same {k : Bs} {v v' : Value} (h : Apart F k v) (e : v'.ownBlock = v.ownBlock) : Apart F k v' := fun p hp hne b hb => by rw [e]; exact h p hp hne b hb
theorem Apart.new (h : Rws Own w F) (K : OwnQ Own B e) {k : Bs} {v : Value} {n : Nat} (hv : v.ownBlock = some n) (hn : w.heap.size ≤ n) : Apart F k v := fun p hp hne b hb => by
  rw [hv]
  intro e1
  injection e1 with e1
  subst e1
  obtain ⟨_, cur, hc⟩ := K.blk (h.own p hp) hb
  have := blk_lt hc
  omega
theorem Rws.turn (h : Rws Own w F) (K : OwnQ Own B e) {k : Bs} {v : Value} (hv : Apart F k v) (hg : w.grownBy w' v.ownBlock) : Rws Own w' (F.del k) :=
  ⟨fun p hp => K.keep (h.own p (List.mem_filter.1 hp).1) fun b hb => by
    obtain ⟨_, cur, hc⟩ := K.blk (h.own p (List.mem_filter.1 hp).1) hb
    exact hg.block b (blk_lt hc) fun e1 => hv p (List.mem_filter.1 hp).1 (Sm.del_ne p hp) b hb e1.symm, (h.gone k).sep⟩
theorem Rws.put {k : Bs} {hd : Hdr} {l : List β} (h : Rws Own w (F.del k)) (hn : Own w (hdrV hd) l) (ha : Apart F k (hdrV hd)) : Rws Own w (F.put k (hd, l)) := by
  refine ⟨fun p hp => ?_, fun p hp q hq hne b hb => ?_⟩
  · rcases (Sm.ins_mem p).1 hp with rfl | hp
    · exact hn
    · exact h.own p hp
  · rcases (Sm.ins_mem p).1 hp with rfl | hp
    · rcases (Sm.ins_mem q).1 hq with rfl | hq
      · exact absurd rfl hne
      · intro e1
        exact ha q (List.mem_filter.1 hq).1 (Sm.del_ne q hq) b e1 hb
    · rcases (Sm.ins_mem q).1 hq with rfl | hq
      · exact ha p (List.mem_filter.1 hp).1 (Sm.del_ne p hp) b hb
      · exact h.sep p hp q hq hne b hb
end
theorem hdr_ofR {β : Type} {T : Rty β} {w : World} {B : Nat} {v : Value} {l : List β} (h : OwnR T w B v l) : ∃ hd, v = hdrV hd := by
  rcases h.2 with ⟨rfl, _⟩ | ⟨g, cap, cur, rfl, _⟩
  · exact ⟨(none, 0, 0), rfl⟩
  · exact ⟨(some (g, 0), l.length, cap), rfl⟩
/-! the store -/
/-! append to a row of records, where its block is told -/
theorem OwnR.app {α : Type} {T : Rty α} (hT : T.Ok) {w : World} {B : Nat} {v : Value} {l : List α} (hown : OwnR T w B v l) (ty : TypeId) (g c : Nat) (y : α) {cs : Array Value} {t : TypeId} (hblk : w.heap[g]? = some (.cells cs t (0, 0))) (hcs : cs.toList = T.f y) (hlen : l.length ≤ 1000000) (hB : B ≤ w.heap.size) :
    ∃ v' w', (Builtin.append_ #[T.S, T.S] ty #[v, .slice (some ⟨g, 0, none⟩) 1 c]).run Tryz.prog w = .ok v' w' ∧ OwnR T w' B v' (l ++ [y]) ∧ w.grownBy w' v.ownBlock ∧ (v'.ownBlock = v.ownBlock ∨ v'.ownBlock = some w.heap.size) := by
  obtain ⟨i, hi, hz0, hz1, hz2⟩ := info_parts hT.info
  obtain ⟨v', w', hr, h2, h3, _, h5⟩ := run_append_own_at (P := Tryz.prog) (w := w) B T.S ty T.e i T.z T.k T.b hT.sl hi hz0 hz1 hz2 hT.zs hT.pos v l.length (l.flatMap T.f) hown ⟨g, 0, none⟩ 1 c (T.f y) (by rw [hT.len, Nat.one_mul]) (by
    intro j u hj
    rw [← hcs] at hj
    have : w.cell? ⟨g, j, none⟩ = some u := by rw [blk_cell hblk]; simpa using hj
    by_cases h0 : j = 0
    · subst h0; simpa [Addr.add] using this
    · simpa [Addr.add, h0] using this) (hT.one y) (by unfold maxLen; omega) (by have := Nat.mul_le_mul (show l.length + 1 ≤ 1000001 by omega) hT.small; omega) hB
  refine ⟨v', w', hr, ?_, h3, h5⟩
  unfold OwnR
  rw [List.length_append, List.flatMap_append, List.flatMap_singleton]
  exact h2
theorem wp_app_r {α : Type} {T : Rty α} (hT : T.Ok) {w : World} {ops : Array Oper} {rest : List Oper} {o : Oper} {a : Act} {Q : Exit → Act → World → Prop} (hgd : o.guard = none) (s x : Operand)
    (ho : o.op = .call { callee := .builtin .append, args := #[s, x], argTypes := #[T.S, T.S] }) (B : Nat) (v : Value) (l : List α) (hs : a.eval s = v) (hown : OwnR T w B v l)
    (g c : Nat) (y : α) (hx : a.eval x = .slice (some ⟨g, 0, none⟩) 1 c) {cs : Array Value} {t : TypeId} (hblk : w.heap[g]? = some (.cells cs t (0, 0))) (hcs : cs.toList = T.f y) (hlen : l.length ≤ 1000000) (hB : B ≤ w.heap.size)
    (h : ∀ v' w', OwnR T w' B v' (l ++ [y]) → w.grownBy w' v.ownBlock → (v'.ownBlock = v.ownBlock ∨ v'.ownBlock = some w.heap.size) → wpList Tryz.prog ops Q rest (a.put o.dst v') w') : wpList Tryz.prog ops Q (o :: rest) a w := by
  refine wpList_plain hgd fun K hK => ?_
  obtain ⟨v', w', hr, h2, h3, h4⟩ := hown.app hT o.type g c y hblk hcs hlen hB
  unfold Oper.wp execOp
  simp only [ho, resolve, invoke, builtin, Sem.run_bind, Sem.run_pure, Result.andThen_ok, List.map_toArray, List.map_cons, List.map_nil, hs, hx, hr]
  exact hK _ _ (h v' w' h2 h3 h4)
theorem step_app_r {α : Type} {T : Rty α} (hT : T.Ok) {ops : Array Oper} {o : Oper} {a : Act} {w : World} {K : Act → World → Prop} {Q : Exit → Act → World → Prop} {E : Prop}
    (hg : o.guard = none) (s x : Operand) (hop : o.op = Op.call { callee := Callee.builtin Builtin.append, args := #[s, x], argTypes := #[T.S, T.S] })
    (B : Nat) (v : Value) (l : List α) (hs : a.eval s = v) (hown : OwnR T w B v l)
    (g c : Nat) (y : α) (hx : a.eval x = .slice (some ⟨g, 0, none⟩) 1 c) {cs : Array Value} {t : TypeId} (hblk : w.heap[g]? = some (.cells cs t (0, 0))) (hcs : cs.toList = T.f y) (hlen : l.length ≤ 1000000) (hB : B ≤ w.heap.size)
    (hK : ∀ v' w', OwnR T w' B v' (l ++ [y]) → w.grownBy w' v.ownBlock → (v'.ownBlock = v.ownBlock ∨ v'.ownBlock = some w.heap.size) → K (a.put o.dst v') w') :
    if Region.wanted o (yielded ops a.tmps) = true then Oper.wp Tryz.prog o a w K Q else E := by
  have hw : Region.wanted o (yielded ops a.tmps) = true := by simp [Region.wanted, hg]
  rw [if_pos hw]
  obtain ⟨v', w', hrun, r1, r2, r3⟩ := hown.app hT o.type g c y hblk hcs hlen hB
  unfold Oper.wp
  simp [execOp, hop, resolve, invoke, builtin, hs, hx, hrun, Result.andThen]
  exact hK v' w' r1 r2 r3
end Go.Proofs.YtihgnpobkpnipaaGreatDoor
namespace Go.Proofs.YtihgnpobkpnipaaGreatDoor
open Go.RowKit Go.Sort
theorem holds_row {α : Type} [Inhabited α] (enc : α → Value) {w : World} {g : Nat} {cur : Array Value} {e : TypeId} {l : List α} (hb : w.heap[g]? = some (.cells cur e (0, 0))) (ht : cur.toList.take l.length = l.map enc) : Holds enc w g 0 l.toArray := by
  intro j hj
  have hj' : j < l.length := by simpa using hj
  refine ⟨?_, by simp [World.frozen?, hb]⟩
  have h1 : (cur.toList.take l.length)[j]? = (l.map enc)[j]? := by rw [ht]
  rw [List.getElem?_take_of_lt hj'] at h1
  simp only [World.cell?, hb, Nat.zero_add]
  simp only [Option.isSome_none, Bool.false_eq_true, if_false]
  rw [← Array.getElem?_toList, h1]
  simp [hj']
theorem heap_resorted {α : Type} [Inhabited α] (enc : α → Value) {w : World} {g n : Nat} {os : Array Obj} {cur : Array Value} {e : TypeId} {fr : Nat × Nat} (d : Array α) (hb : w.heap[g]? = some (.cells cur e fr)) :
    (grow (putRow enc (Sort.ahead w n) g 0 d) os).heap[g]? = some (.cells (putCells enc 0 d cur) e fr) := by
  have hg : g < w.heap.size := (Array.getElem?_eq_some_iff.1 hb).1
  rw [heap_grow_old _ _ (by simpa using hg)]
  simp [putRow, mapBlock, Sort.ahead, Array.getElem?_modify, hb, onCells]
theorem grownBy_resorted {α : Type} [Inhabited α] (enc : α → Value) {w : World} {g n : Nat} {os : Array Obj} (d : Array α) : w.grownBy (grow (putRow enc (Sort.ahead w n) g 0 d) os) (some g) := by
  refine ⟨rfl, rfl, rfl, by simp, fun k hk hne => ?_⟩
  rw [heap_grow_old _ _ (by simpa using hk)]
  have : g ≠ k := fun e => hne (by rw [e])
  simp [putRow, mapBlock, Sort.ahead, Array.getElem?_modify, this]
theorem take_putCells' {α : Type} [Inhabited α] (enc : α → Value) (cur : Array Value) (ts : List α) (h : ts.length ≤ cur.size) : (putCells enc 0 ts.toArray cur).toList.take ts.length = ts.map enc := by
  apply List.ext_getElem?
  intro j
  by_cases hj : j < ts.length
  · rw [List.getElem?_take_of_lt hj, Array.getElem?_toList]
    simp [putCells, hj, show j < cur.size by omega]
  · rw [List.getElem?_take_eq_none (by omega), List.getElem?_eq_none (by simp; omega)]
theorem own_resorted {α : Type} [Inhabited α] (enc : α → Value) {w : World} {base g cap n q : Nat} {e : TypeId} {os : Array Obj} {l m : List α} (h : w.ownsRow base e 1 (.slice (some ⟨g, 0, none⟩) n cap) n (l.map enc)) (hn : n = l.length) (hm : m.length = l.length) :
    (grow (putRow enc (Sort.ahead w q) g 0 m.toArray) os).ownsRow base e 1 (.slice (some ⟨g, 0, none⟩) n cap) n (m.map enc) := by
  subst hn
  rcases h.2 with ⟨h0, _⟩ | ⟨g', cap', cur, hv, hg, hb, h1, h2, h3, h4⟩
  · cases h0
  · obtain ⟨hv1, _, hv2⟩ := Value.slice.inj hv
    injection hv1 with hv1
    injection hv1 with hv1
    subst hv1 hv2
    exact ⟨by simp [hm], .inr ⟨g, cap, _, rfl, hg, heap_resorted enc _ hb, h1, h2, by simp [putCells, h3], by rw [Nat.mul_one, ← hm]; exact take_putCells' enc cur m (by omega)⟩⟩
theorem holds_own {α : Type} [Inhabited α] (enc : α → Value) {w : World} {base g cap n : Nat} {e : TypeId} {l : List α} (h : w.ownsRow base e 1 (.slice (some ⟨g, 0, none⟩) n cap) n (l.map enc)) (hn : n = l.length) : Holds enc w g 0 l.toArray ∧ g < w.heap.size ∧ base ≤ g := by
  subst hn
  rcases h.2 with ⟨h0, _⟩ | ⟨g', cap', cur, hv, hg, hb, h1, h2, h3, h4⟩
  · cases h0
  · obtain ⟨hv1, _, hv2⟩ := Value.slice.inj hv
    injection hv1 with hv1
    injection hv1 with hv1
    subst hv1
    exact ⟨holds_row enc hb (by simpa using h4), blk_lt hb, hg⟩
end Go.Proofs.YtihgnpobkpnipaaGreatDoor
