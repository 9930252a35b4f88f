/- Texts of the proof of a law, put together, part 18 of 46. Conditions: none beyond those that each theorem names. -/
import Derived.Test.YteojmljggoplkaaGreatDoorPz10
import Derived.Test.YteojmljggoplkaaGreatDoorPz15
import Derived.Test.YteojmljggoplkaaGreatDoorPz16
import Derived.Test.YteojmljggoplkaaGreatDoorPz17
namespace Go.Proofs.YteojmljggoplkaaGreatDoor
open Go.RowKit Go.Sort Go.Maps
theorem MapS.obj {α : Type} {T : Mty α} {w : World} {b : Nat} {l : Sm α} (h : MapS T w b l) : ∃ es c, w.heap[b]? = some (.map es c) := by
  obtain ⟨_, es, clock, hb, _⟩ := h
  exact ⟨es, clock, hb⟩
theorem MapS.noCells {α : Type} {T : Mty α} {w : World} {b : Nat} {l : Sm α} (h : MapS T w b l) (cur : Array Value) (t : TypeId) : w.heap[b]? ≠ some (.cells cur t (0, 0)) := by
  obtain ⟨es, c, hb⟩ := h.obj
  intro e
  rw [hb] at e
  cases e
/-! rows by names -/
structure OwnQ {β : Type} (Own : World → Value → List β → Prop) (B : Nat) (e : TypeId) : Prop where
  keep : ∀ {w w' : World} {v : Value} {l : List β}, Own w v l → (∀ k, v.ownBlock = some k → w'.heap[k]? = w.heap[k]?) → Own w' v l
  blk : ∀ {w : World} {v : Value} {l : List β} {k : Nat}, Own w v l → v.ownBlock = some k → B ≤ k ∧ ∃ cur, w.heap[k]? = some (.cells cur e (0, 0))
theorem ownR_k {β : Type} (T : Rty β) (B : Nat) : OwnQ (fun w v l => OwnR T w B v l) B T.e := ⟨fun {w w' v l} h hk => by
  refine ⟨h.1, h.2.imp id ?_⟩
  rintro ⟨b, cap, cur, rfl, hb, hc, rest⟩
  exact ⟨b, cap, cur, rfl, hb, (hk b rfl).trans hc, rest⟩, fun {w v l k} h e => by
  rcases h.2 with ⟨rfl, _⟩ | ⟨b, cap, cur, rfl, hb, hc, _⟩
  · cases e
  · injection e with e
    subst e
    exact ⟨hb, cur, hc⟩⟩
structure Rws {β : Type} (Own : World → Value → List β → Prop) (w : World) (F : Sm (Hdr × List β)) : Prop where
  own : ∀ p ∈ F, Own w (hdrV p.2.1) p.2.2
  sep : ∀ p ∈ F, ∀ q ∈ F, p.1 ≠ q.1 → ∀ b, (hdrV p.2.1).ownBlock = some b → (hdrV q.2.1).ownBlock ≠ some b
def hdS {β : Type} (F : Sm (Hdr × List β)) : Sm Hdr := F.map fun p => (p.1, p.2.1)
theorem hdS_get {β : Type} (k : Bs) : ∀ F : Sm (Hdr × List β), (hdS F).get k = (F.get k).map (·.1)
  | [] => rfl
  | p :: F => by
    show (if p.1 = k then _ else _) = _
    by_cases h : p.1 = k
    · rw [if_pos h, Sm.get, if_pos h]; rfl
    · rw [if_neg h, Sm.get, if_neg h]; exact hdS_get k F
theorem hdS_ins {β : Type} (k : Bs) (v : Hdr × List β) : ∀ F : Sm (Hdr × List β), hdS (Sm.ins k v F) = Sm.ins k v.1 (hdS F)
  | [] => rfl
  | p :: F => by
    have ih := hdS_ins k v F
    unfold hdS at ih ⊢
    rw [Sm.ins, List.map_cons, Sm.ins]
    split
    · rfl
    · rw [List.map_cons, ih]
theorem hdS_del {β : Type} (k : Bs) (F : Sm (Hdr × List β)) : hdS (F.del k) = (hdS F).del k := by
  unfold hdS Sm.del
  rw [List.filter_map]
  rfl
theorem hdS_put {β : Type} (k : Bs) (v : Hdr × List β) (F : Sm (Hdr × List β)) : hdS (F.put k v) = (hdS F).put k v.1 := by
  unfold Sm.put
  rw [hdS_ins, hdS_del]
theorem hdS_len {β : Type} (F : Sm (Hdr × List β)) : (hdS F).length = F.length := List.length_map _
section
variable {β : Type} {Own : World → Value → List β → Prop} {B : Nat} {e : TypeId} {w w' : World} {F : Sm (Hdr × List β)}
theorem Rws.low (h : Rws Own w F) (K : OwnQ Own B e) (hb : Below w.heap.size w w') : Rws Own w' F :=
  ⟨fun p hp => K.keep (h.own p hp) fun k hk => by obtain ⟨_, cur, hc⟩ := K.blk (h.own p hp) hk; exact hb.block k (blk_lt hc), h.sep⟩
theorem Rws.off (h : Rws Own w F) (K : OwnQ Own B e) {g : Nat} (hg : w.grownBy w' (some g)) (hn : ∀ cur, w.heap[g]? ≠ some (.cells cur e (0, 0))) : Rws Own w' F :=
  ⟨fun p hp => K.keep (h.own p hp) fun k hk => by
    obtain ⟨_, cur, hc⟩ := K.blk (h.own p hp) hk
    exact hg.block k (blk_lt hc) fun e1 => by injection e1 with e1; subst e1; exact hn cur hc, h.sep⟩
theorem Rws.gone (h : Rws Own w F) (k : Bs) : Rws Own w (F.del k) :=
  ⟨fun p hp => h.own p (List.mem_filter.1 hp).1, fun p hp q hq => h.sep p (List.mem_filter.1 hp).1 q (List.mem_filter.1 hq).1⟩
/-- apart from all other rows. -/
def Apart {β : Type} (F : Sm (Hdr × List β)) (k : Bs) (v : Value) : Prop := ∀ p ∈ F, p.1 ≠ k → ∀ b, (hdrV p.2.1).ownBlock = some b → v.ownBlock ≠ some b
theorem Rws.apart (h : Rws Own w F) {k : Bs} {x : Hdr × List β} (hx : F.get k = some x) : Apart F k (hdrV x.1) := fun p hp hne b hb => h.sep p hp (k, x) (Sm.get_mem hx) hne b hb
theorem Apart.nil (k : Bs) : Apart F k (.slice none 0 0) := fun p hp hne b hb e => by cases e
theorem Apart.same {k : Bs} {v v' : Value} (h : Apart F k v) (e : v'.ownBlock = v.ownBlock) : Apart F k v' := fun p hp hne b hb => by rw [e]; exact h p hp hne b hb
theorem Apart.new (h : Rws Own w F) (K : OwnQ Own B e) {k : Bs} {v : Value} {n : Nat} (hv : v.ownBlock = some n) (hn : w.heap.size ≤ n) : Apart F k v := fun p hp hne b hb => by
  rw [hv]
  intro e1
  injection e1 with e1
  subst e1
  obtain ⟨_, cur, hc⟩ := K.blk (h.own p hp) hb
  have := blk_lt hc
  omega
theorem Rws.turn (h : Rws Own w F) (K : OwnQ Own B e) {k : Bs} {v : Value} (hv : Apart F k v) (hg : w.grownBy w' v.ownBlock) : Rws Own w' (F.del k) :=
  ⟨fun p hp => K.keep (h.own p (List.mem_filter.1 hp).1) fun b hb => by
    obtain ⟨_, cur, hc⟩ := K.blk (h.own p (List.mem_filter.1 hp).1) hb
    exact hg.block b (blk_lt hc) fun e1 => hv p (List.mem_filter.1 hp).1 (Sm.del_ne p hp) b hb e1.symm, (h.gone k).sep⟩
theorem Rws.put {k : Bs} {hd : Hdr} {l : List β} (h : Rws Own w (F.del k)) (hn : Own w (hdrV hd) l) (ha : Apart F k (hdrV hd)) : Rws Own w (F.put k (hd, l)) := by
  refine ⟨fun p hp => ?_, fun p hp q hq hne b hb => ?_⟩
  · rcases (Sm.ins_mem p).1 hp with rfl | hp
    · exact hn
    · exact h.own p hp
  · rcases (Sm.ins_mem p).1 hp with rfl | hp
    · rcases (Sm.ins_mem q).1 hq with rfl | hq
      · exact absurd rfl hne
      · intro e1
        exact ha q (List.mem_filter.1 hq).1 (Sm.del_ne q hq) b e1 hb
    · rcases (Sm.ins_mem q).1 hq with rfl | hq
      · exact ha p (List.mem_filter.1 hp).1 (Sm.del_ne p hp) b hb
      · exact h.sep p hp q hq hne b hb
end
theorem hdr_ofR {β : Type} {T : Rty β} {w : World} {B : Nat} {v : Value} {l : List β} (h : OwnR T w B v l) : ∃ hd, v = hdrV hd := by
  rcases h.2 with ⟨rfl, _⟩ | ⟨g, cap, cur, rfl, _⟩
  · exact ⟨(none, 0, 0), rfl⟩
  · exact ⟨(some (g, 0), l.length, cap), rfl⟩
/-! the store -/
/-! append to a row of records, where its block is told -/
theorem OwnR.app {α : Type} {T : Rty α} (hT : T.Ok) {w : World} {B : Nat} {v : Value} {l : List α} (hown : OwnR T w B v l) (ty : TypeId) (g c : Nat) (y : α) {cs : Array Value} {t : TypeId} (hblk : w.heap[g]? = some (.cells cs t (0, 0))) (hcs : cs.toList = T.f y) (hlen : l.length ≤ 1000000) (hB : B ≤ w.heap.size) :
    ∃ v' w', (Builtin.append_ #[T.S, T.S] ty #[v, .slice (some ⟨g, 0, none⟩) 1 c]).run Tryz.prog w = .ok v' w' ∧ OwnR T w' B v' (l ++ [y]) ∧ w.grownBy w' v.ownBlock ∧ (v'.ownBlock = v.ownBlock ∨ v'.ownBlock = some w.heap.size) := by
  obtain ⟨i, hi, hz0, hz1, hz2⟩ := info_parts hT.info
  obtain ⟨v', w', hr, h2, h3, _, h5⟩ := run_append_own_at (P := Tryz.prog) (w := w) B T.S ty T.e i T.z T.k T.b hT.sl hi hz0 hz1 hz2 hT.zs hT.pos v l.length (l.flatMap T.f) hown ⟨g, 0, none⟩ 1 c (T.f y) (by rw [hT.len, Nat.one_mul]) (by
    intro j u hj
    rw [← hcs] at hj
    have : w.cell? ⟨g, j, none⟩ = some u := by rw [blk_cell hblk]; simpa using hj
    by_cases h0 : j = 0
    · subst h0; simpa [Addr.add] using this
    · simpa [Addr.add, h0] using this) (hT.one y) (by unfold maxLen; omega) (by have := Nat.mul_le_mul (show l.length + 1 ≤ 1000001 by omega) hT.small; omega) hB
  refine ⟨v', w', hr, ?_, h3, h5⟩
  unfold OwnR
  rw [List.length_append, List.flatMap_append, List.flatMap_singleton]
  exact h2
theorem wp_app_r {α : Type} {T : Rty α} (hT : T.Ok) {w : World} {ops : Array Oper} {rest : List Oper} {o : Oper} {a : Act} {Q : Exit → Act → World → Prop} (hgd : o.guard = none) (s x : Operand)
    (ho : o.op = .call { callee := .builtin .append, args := #[s, x], argTypes := #[T.S, T.S] }) (B : Nat) (v : Value) (l : List α) (hs : a.eval s = v) (hown : OwnR T w B v l)
    (g c : Nat) (y : α) (hx : a.eval x = .slice (some ⟨g, 0, none⟩) 1 c) {cs : Array Value} {t : TypeId} (hblk : w.heap[g]? = some (.cells cs t (0, 0))) (hcs : cs.toList = T.f y) (hlen : l.length ≤ 1000000) (hB : B ≤ w.heap.size)
    (h : ∀ v' w', OwnR T w' B v' (l ++ [y]) → w.grownBy w' v.ownBlock → (v'.ownBlock = v.ownBlock ∨ v'.ownBlock = some w.heap.size) → wpList Tryz.prog ops Q rest (a.put o.dst v') w') : wpList Tryz.prog ops Q (o :: rest) a w := by
  refine wpList_plain hgd fun K hK => ?_
  obtain ⟨v', w', hr, h2, h3, h4⟩ := hown.app hT o.type g c y hblk hcs hlen hB
  unfold Oper.wp execOp
  simp only [ho, resolve, invoke, builtin, Sem.run_bind, Sem.run_pure, Result.andThen_ok, List.map_toArray, List.map_cons, List.map_nil, hs, hx, hr]
  exact hK _ _ (h v' w' h2 h3 h4)
theorem step_app_r {α : Type} {T : Rty α} (hT : T.Ok) {ops : Array Oper} {o : Oper} {a : Act} {w : World} {K : Act → World → Prop} {Q : Exit → Act → World → Prop} {E : Prop}
    (hg : o.guard = none) (s x : Operand) (hop : o.op = Op.call { callee := Callee.builtin Builtin.append, args := #[s, x], argTypes := #[T.S, T.S] })
    (B : Nat) (v : Value) (l : List α) (hs : a.eval s = v) (hown : OwnR T w B v l)
    (g c : Nat) (y : α) (hx : a.eval x = .slice (some ⟨g, 0, none⟩) 1 c) {cs : Array Value} {t : TypeId} (hblk : w.heap[g]? = some (.cells cs t (0, 0))) (hcs : cs.toList = T.f y) (hlen : l.length ≤ 1000000) (hB : B ≤ w.heap.size)
    (hK : ∀ v' w', OwnR T w' B v' (l ++ [y]) → w.grownBy w' v.ownBlock → (v'.ownBlock = v.ownBlock ∨ v'.ownBlock = some w.heap.size) → K (a.put o.dst v') w') :
    if Region.wanted o (yielded ops a.tmps) = true then Oper.wp Tryz.prog o a w K Q else E := by
  have hw : Region.wanted o (yielded ops a.tmps) = true := by simp [Region.wanted, hg]
  rw [if_pos hw]
  obtain ⟨v', w', hrun, r1, r2, r3⟩ := hown.app hT o.type g c y hblk hcs hlen hB
  unfold Oper.wp
  simp [execOp, hop, resolve, invoke, builtin, hs, hx, hrun, Result.andThen]
  exact hK v' w' r1 r2 r3
end Go.Proofs.YteojmljggoplkaaGreatDoor
namespace Go.Proofs.YteojmljggoplkaaGreatDoor
open Go.RowKit Go.Sort
/-- whether an alternate lets a part be replaced by one. -/
def dirB (p q : ByteArray) (x : Alt) : Bool := decide ((bsOf p, bsOf q) ∈ (waysT x).map bsW)
set_option maxHeartbeats 4000000 in
set_option maxRecDepth 100000 in
theorem DirF_any (x : Alt) (kp kq : ByteArray) (P Q : Nat) (w : World) (hp : ∀ W, Below w.heap.size w W → W.cell? ⟨P, 0, none⟩ = some (.string kp) ∧ W.cell? ⟨Q, 0, none⟩ = some (.string kq)) :
    Calls Tryz.prog 61 #[.agg #[.string x.1, .string x.2.1, .bool x.2.2], .pointer (some ⟨P, 0, none⟩), .pointer (some ⟨Q, 0, none⟩)] w fun e w' => e = .returned (.bool (dirB kp kq x)) ∧ Below w.heap.size w w' := by
  obtain ⟨xf, xb, ab⟩ := x
  obtain ⟨w1, hw1⟩ : ∃ w1, w1 = w.alloc (.cells #[.string xf, .string xb, .bool ab] 77) := ⟨_, rfl⟩
  have hA1 : Below w.heap.size w w1 := by rw [hw1]; exact Bl.alloc (Below.refl _ _) _
  have HXC := Lib.hid (show ∀ W, Below w1.heap.size w1 W → W.cell? ⟨w.heap.size, 0, none⟩ = some (.string xf) ∧ W.cell? ⟨w.heap.size, 1, none⟩ = some (.string xb) ∧ W.cell? ⟨w.heap.size, 2, none⟩ = some (.bool ab) ∧ w.heap.size < W.heap.size from fun W hW => by
    have h3 : W.heap[w.heap.size]? = _ := blk_below (show w1.heap[w.heap.size]? = some (.cells #[.string xf, .string xb, .bool ab] 77 (0, 0)) by rw [hw1]; exact blk_new w _) hW
    exact ⟨blk_cell h3 0, blk_cell h3 1, blk_cell h3 2, blk_lt h3⟩)
  have HPQ := Lib.hid fun W (hW : Below w1.heap.size w1 W) => hp W (Bl.trans hA1 hW)
  obtain ⟨c, hc⟩ : ∃ c, c = dirB kp kq (xf, xb, ab) := ⟨_, rfl⟩
  rw [← hc]
  have HCT := Lib.hid (show ∀ W v, RecR TDr W 0 v (waysT (xf, xb, ab)) → Calls Tryz.prog 62 #[v, .agg #[.string kp, .string kq]] W fun e w' => e = .returned (.bool c) ∧ Below W.heap.size W w' from fun W v hr => by
    have h1 := Contains2_any (waysT (xf, xb, ab)) v kp kq W (by unfold waysT; split <;> simp) hr
    rw [hc]
    exact h1)
  have HW1 := Lib.hid hw1
  have HB1 := Lib.hid hA1
  clear hw1 hA1 hp hc
  go_enter Tryz.func61, Tryz.ntmps61
  go_wp2_with fail
  rw [← HW1.out]
  refine wp_region_inv (by kernel_rfl) [5, 6, 7, 8, 9, 10, 11, 4] (fun _ W => Below w1.heap.size w1 W) (fun W W' => Below W.heap.size W W') (fun i => [VE (.agg #[.string xf, .string xb, .bool ab]), VOf TDr (waysT (xf, xb, ab)), VE (.pointer (some ⟨P, 0, none⟩)), VE (.string kp), VE (.string kq), VE (.agg #[.string kp, .string kq]), VE (.bool c), VE (.bool c)].getD i VT) (by kernel_rfl) (by kernel_rfl) (fun u u' W hu h => h) (Below.drew (Below.refl _ _)) ?_ ?_ ?_ ?_
  · intro u W W' i v hB hR hV
    exact match i, hV with
      | 0, h => h
      | 1, h => VOf.low h hR
      | 2, h => h
      | 3, h => h
      | 4, h => h
      | 5, h => h
      | 6, h => h
      | 7, h => h
      | (_ + 8), _ => trivial
  · intro i o v W ho hd
    match i, ho with
      | 0, ho => (obtain rfl := Option.some.inj ho; cases hd)
      | 1, ho => (obtain rfl := Option.some.inj ho; cases hd)
      | 2, ho => (obtain rfl := Option.some.inj ho; cases hd)
      | 3, ho => (obtain rfl := Option.some.inj ho; cases hd)
      | 4, ho => (obtain rfl := Option.some.inj ho; cases hd)
      | 5, ho => (obtain rfl := Option.some.inj ho; cases hd)
      | 6, ho => (obtain rfl := Option.some.inj ho; cases hd)
      | 7, ho => (obtain rfl := Option.some.inj ho; cases hd)
      | (_ + 8), _ => trivial
  · intro i o u f W ho hi hB hdep
    have hi' : i = 0 ∨ i = 1 ∨ i = 2 ∨ i = 3 ∨ i = 4 ∨ i = 5 ∨ i = 6 ∨ i = 7 := by
      have : i < 8 := hi
      omega
    rcases hi' with rfl | rfl | rfl | rfl | rfl | rfl | rfl | rfl
    · obtain ⟨y0, y1, y2, _⟩ := HXC.out W hB
      refine iv_val ho (by obtain rfl := Option.some.inj ho; rfl) (.agg #[.string xf, .string xb, .bool ab]) W ?_ hB (Below.refl _ _) rfl
      · intro q hq
        obtain rfl := Option.some.inj ho
        have e3 := hq.tmp 3
        simp at e3
        simp [execOp, e3, go_sem, y0, y1, y2]
    · have d5 : f 5 = .agg #[.string xf, .string xb, .bool ab] := hdep ⟨0, .data⟩ (by obtain rfl := Option.some.inj ho; simp) rfl
      refine iv_call ho (by obtain rfl := Option.some.inj ho; rfl) 48 #[.tmp 5] _ (by obtain rfl := Option.some.inj ho; rfl) (enters_of Tryz.func48 (by kernel_rfl) rfl) #[.agg #[.string xf, .string xb, .bool ab]] (by intro q hq; have e5 := hq.tmp 5; simp at e5; simp [e5, d5, go_sem]) _ (directions_any (xf, xb, ab) W) ?_
      rintro e W' ⟨⟨v', rfl, hr'⟩, hb'⟩
      exact ⟨_, rfl, Below.trans hB (hb'.mono hB.size), hb', hr'.rec0⟩
    · refine iv_val ho (by obtain rfl := Option.some.inj ho; rfl) (.pointer (some ⟨P, 0, none⟩)) W ?_ hB (Below.refl _ _) rfl
      · intro q hq
        obtain rfl := Option.some.inj ho
        have e1 := hq.tmp 1
        simp at e1
        simp [execOp, e1, go_sem]
    · have d7 : f 7 = .pointer (some ⟨P, 0, none⟩) := hdep ⟨2, .data⟩ (by obtain rfl := Option.some.inj ho; simp) rfl
      obtain ⟨y0, _⟩ := HPQ.out W hB
      refine iv_val ho (by obtain rfl := Option.some.inj ho; rfl) (.string kp) W ?_ hB (Below.refl _ _) rfl
      · intro q hq
        obtain rfl := Option.some.inj ho
        have e7 := hq.tmp 7
        simp at e7
        simp [execOp, e7, d7, go_sem, y0]
    · obtain ⟨_, y0⟩ := HPQ.out W hB
      refine iv_val ho (by obtain rfl := Option.some.inj ho; rfl) (.string kq) W ?_ hB (Below.refl _ _) rfl
      · intro q hq
        obtain rfl := Option.some.inj ho
        have e2 := hq.tmp 2
        simp at e2
        simp [execOp, e2, go_sem, y0]
    · have d8 : f 8 = .string kp := hdep ⟨3, .data⟩ (by obtain rfl := Option.some.inj ho; simp) rfl
      have d9 : f 9 = .string kq := hdep ⟨4, .data⟩ (by obtain rfl := Option.some.inj ho; simp) rfl
      refine iv_val ho (by obtain rfl := Option.some.inj ho; rfl) (.agg #[.string kp, .string kq]) W ?_ hB (Below.refl _ _) rfl
      · intro q hq
        obtain rfl := Option.some.inj ho
        have e8 := hq.tmp 8
        have e9 := hq.tmp 9
        simp at e8 e9
        simp [execOp, e8, e9, d8, d9, go_sem]
    · have l6 : VOf TDr (waysT (xf, xb, ab)) (f 6) W := hdep ⟨1, .data⟩ (by obtain rfl := Option.some.inj ho; simp) rfl
      have d10 : f 10 = .agg #[.string kp, .string kq] := hdep ⟨5, .data⟩ (by obtain rfl := Option.some.inj ho; simp) rfl
      refine iv_call ho (by obtain rfl := Option.some.inj ho; rfl) 62 #[.tmp 6, .tmp 10] _ (by obtain rfl := Option.some.inj ho; rfl) (enters_of Tryz.func62 (by kernel_rfl) rfl) #[f 6, .agg #[.string kp, .string kq]] (by intro q hq; have e6 := hq.tmp 6; simp at e6; have e10 := hq.tmp 10; simp at e10; simp [e6, e10, d10, go_sem]) _ (HCT.out W (f 6) l6) ?_
      rintro e W' ⟨rfl, hb'⟩
      exact ⟨_, rfl, Below.trans hB (hb'.mono hB.size), hb', rfl⟩
    · have d11 : f 11 = .bool c := hdep ⟨6, .data⟩ (by obtain rfl := Option.some.inj ho; simp) rfl
      refine iv_val ho (by obtain rfl := Option.some.inj ho; rfl) (.bool c) W ?_ hB (Below.refl _ _) rfl
      · intro q hq
        obtain rfl := Option.some.inj ho
        have e11 := hq.tmp 11
        simp at e11
        simp [execOp, e11, d11, go_sem]
  intro f0 wz hbz hV
  have hf4 : f0 4 = .bool c := show VE _ (f0 4) wz from hV 7 (by decide)
  clear hV
  unfold putsA
  simp only [List.mapIdx_toArray, List.mapIdx_cons, List.mapIdx_nil, List.contains_cons]
  simp
  rw [hf4]
  have HBZ := Lib.hid (HB1.out.trans (hbz.mono HB1.out.size))
  clear hbz hf4
  go_wp2
  go_ret
  exact ⟨rfl, HBZ.out⟩
set_option maxHeartbeats 4000000 in
theorem IndexDir_any (l : List Alt) (p q : ByteArray) (P Q : Nat) (v : Value) (w : World) (hp : ∀ W, Below w.heap.size w W → W.cell? ⟨P, 0, none⟩ = some (.string p) ∧ W.cell? ⟨Q, 0, none⟩ = some (.string q)) (rl : RecR TAl w 0 v l) :
    Calls Tryz.prog 84 #[v, .func (.func 61) #[] #[.pointer (some ⟨P, 0, none⟩), .pointer (some ⟨Q, 0, none⟩)]] w fun e w' => (∃ r : Int, e = .returned (.int .i64 r) ∧ IdxB (l.any (dirB p q)) r) ∧ Below w.heap.size w w' := by
  obtain ⟨a, cap, rfl, hc1, hc2⟩ := rl.form
  have HCL := Lib.hid fun (x : Alt) W (hW : Below w.heap.size w W) => DirF_any x p q P Q W (fun W' h => hp W' (Bl.trans hW h))
  have RL := Lib.hid rl
  clear hp rl
  go_enter Tryz.func84, Tryz.ntmps84
  go_wp2
  go_loopw [8] (fun i wr => ∃ k : Nat, k ≤ l.length ∧ i = .int .i64 k ∧ Hid ((l.take k).any (dirB p q) = false) ∧ Below w.heap.size w wr) (fun i _ => l.length - (intOf i).toNat)
  case atStart => exact ⟨0, Nat.zero_le _, rfl, Lib.hid rfl, Below.refl _ _⟩
  case round =>
    obtain ⟨k, hk, rfl, HT, hb⟩ := hrel
    by_cases hlt : k < l.length
    · obtain ⟨t, ht⟩ : ∃ t, l[k]? = some t := ⟨_, List.getElem?_eq_getElem hlt⟩
      obtain ⟨c, hc⟩ : ∃ c, c = dirB p q t := ⟨_, rfl⟩
      have HC0 := HCL.out t wr hb
      rw [← hc] at HC0
      have HC := Lib.hid HC0
      have HTN : Hid (c = false → (l.take (k + 1)).any (dirB p q) = false) := Lib.hid fun h => by
        rw [List.take_add_one, ht, List.any_append, HT.out]
        simp [← hc, h]
      have HTM : Hid (c = true → l.any (dirB p q) = true) := Lib.hid fun h => List.any_eq_true.2 ⟨t, List.mem_of_getElem? ht, by rw [← hc, h]⟩
      obtain ⟨b2', o2, rfl, _, hl2, hx2⟩ := (RL.out.below hb).at TAl.ok.len ht TAl.ok.pos
      obtain ⟨f, b, ab⟩ := t
      have c0 : wr.cell? ⟨b2', o2 + k * 3, none⟩ = some (.string f) := hx2 0 _ rfl
      have c1 : wr.cell? ⟨b2', o2 + k * 3 + 1, none⟩ = some (.string b) := hx2 1 _ rfl
      have c2 : wr.cell? ⟨b2', o2 + k * 3 + 2, none⟩ = some (.bool ab) := hx2 2 _ rfl
      have hw1 : IntKind.i64.wrap ((k : Int) + 1) = ((k + 1 : Nat) : Int) := by rw [IntWalk.i64_in _ (by omega)]; omega
      clear ht hx2 hc HC0
      go_wp2_with fail
      refine HC.out.mono ?_
      rintro e w2 ⟨rfl, hb2⟩
      have hb02 := Bl.trans hb hb2
      clear hb2
      cases c
      · have HTK := Lib.hid (HTN.out rfl)
        go_wp2
        go_roundw
        case rel => exact ⟨k + 1, by omega, by go_num, HTK, hb02⟩
        case measure => simp [intOf]; omega
      · have HR : IdxB (l.any (dirB p q)) (k : Int) := ⟨fun _ => by omega, fun h => by rw [HTM.out rfl] at h; cases h⟩
        go_wp2
        go_ret
        exact ⟨⟨_, rfl, HR⟩, hb02⟩
    · obtain rfl : k = l.length := by omega
      have HR : IdxB (l.any (dirB p q)) (-1) := by
        have h1 := HT.out
        rw [List.take_length] at h1
        exact ⟨fun h => (by rw [h1] at h; cases h), fun _ => rfl⟩
      go_wp2
      go_ret
      exact ⟨⟨_, rfl, HR⟩, hb⟩
set_option maxHeartbeats 2000000 in
theorem ContDir_any (l : List Alt) (p q : ByteArray) (P Q : Nat) (v : Value) (w : World) (hp : ∀ W, Below w.heap.size w W → W.cell? ⟨P, 0, none⟩ = some (.string p) ∧ W.cell? ⟨Q, 0, none⟩ = some (.string q)) (rl : RecR TAl w 0 v l) :
    Calls Tryz.prog 40 #[v, .func (.func 61) #[] #[.pointer (some ⟨P, 0, none⟩), .pointer (some ⟨Q, 0, none⟩)]] w fun e w' => e = .returned (.bool (l.any (dirB p q))) ∧ Below w.heap.size w w' := by
  have HI0 := IndexDir_any l p q P Q v w hp rl
  unfold IdxB at HI0
  obtain ⟨a, cap, rfl, _, _⟩ := rl.form
  generalize l.any (dirB p q) = z at *
  have HI := Lib.hid HI0
  clear hp rl HI0
  go_enter Tryz.func40, Tryz.ntmps40
  go_wp2_with fail
  refine HI.out.mono ?_
  rintro e w2 ⟨⟨r, rfl, h1, h2⟩, hb2⟩
  have HB2 := Lib.hid hb2
  clear hb2
  cases z
  · have h3 := h2 rfl
    subst h3
    clear h1 h2
    go_wp2
    go_ret
    exact ⟨rfl, HB2.out⟩
  · have h3 := h1 rfl
    clear h1 h2
    go_wp2
    go_ret
    exact ⟨by simp, HB2.out⟩
end Go.Proofs.YteojmljggoplkaaGreatDoor
namespace Go.Proofs.YteojmljggoplkaaGreatDoor
open Go.RowKit Go.Sort Go.Maps
/-- what is directly replaced lies among the parts. -/
theorem next_in {ps : List Prt} {l : List Alt} (h : catsF ps l = 0) {p s : Bs} (hs : s ∈ nextL l p) : p ∈ keysP ps ∧ s ∈ keysP ps ∧ p ≠ s :=
  ways_in (catsF_ok h).2.2.2 (nextL_mem.1 hs)
def allB (ps : List Prt) (l : List Alt) (a : Bs) : List Bs := ((bfsR (nextL l) a (keysP ps)).st.del a).keys
theorem allB_mem {ps : List Prt} {l : List Alt} (h : catsF ps l = 0) {a : Bs} (ha : a ∈ keysP ps) (s : Bs) : s ∈ allB ps l a ↔ a ≠ s ∧ Rch (nextL l) a s := by
  obtain ⟨j, h1, _, _, h4⟩ := bfsR_law (nextL l) a (keysP ps) ha fun p s hs => (next_in h hs).2.1
  unfold allB
  rw [← Sm.has_iff]
  by_cases e : a = s
  · subst e
    unfold Sm.has
    rw [Sm.get_del_same]
    exact ⟨fun q => (by cases q), fun q => absurd rfl q.1⟩
  · unfold Sm.has
    rw [Sm.get_del_other e, ← Sm.has, h4]
    exact ⟨fun q => ⟨e, q⟩, fun q => q.2⟩
section
variable {ps : List Prt} {l : List Alt} {g : Bs → List Bs}
/-- there is a chain just if All tells so. -/
theorem chain_is (h : catsF ps l = 0) (hg : ∀ p s, s ∈ g p ↔ p ∈ nextL l s) {a b : Bs} (ha : a ∈ keysP ps) (hb : b ∈ keysP ps) : (bfsR g b (keysP ps)).st.has a = true ↔ a = b ∨ b ∈ allB ps l a := by
  obtain ⟨j, _, _, _, h4⟩ := bfsR_law g b (keysP ps) hb fun p s hs => (next_in h ((hg p s).1 hs)).1
  rw [h4, rch_back hg, allB_mem h ha]
  constructor
  · intro q
    by_cases e : a = b
    · exact .inl e
    · exact .inr ⟨e, q⟩
  · rintro (rfl | q)
    · exact .self
    · exact q.2
/-- the reference's chain is the program's. -/
theorem chain_ref (h : catsF ps l = 0) (hg : ∀ p s, s ∈ g p ↔ p ∈ nextL l s) {a b : Bs} (hb : b ∈ keysP ps) {d : Nat} (hd : (bfsR g b (keysP ps)).st.get a = some (d : Int)) {f : Nat} (hf : d < f) :
    chainR (nextL l) b f [[a]] = some (chainB (nextL l) (bfsR g b (keysP ps)) b d a) := by
  have hU : ∀ p s, s ∈ g p → s ∈ keysP ps := fun p s hs => (next_in h ((hg p s).1 hs)).1
  obtain ⟨j, h1, _, _, _⟩ := bfsR_law g b (keysP ps) hb hU
  have hm := bfsR_min g b (keysP ps) hb hU
  exact chainR_law h1 (fun p s hs => (hg p s).1 hs) (fun p hp s hs => hm p hp s ((hg p s).2 hs)) hd f 0 (Nat.zero_le _) (by omega)
theorem bfsR_nat (h : catsF ps l = 0) (hg : ∀ p s, s ∈ g p ↔ p ∈ nextL l s) {a b : Bs} (hb : b ∈ keysP ps) (hh : (bfsR g b (keysP ps)).st.has a = true) : ∃ d : Nat, (bfsR g b (keysP ps)).st.get a = some (d : Int) := by
  obtain ⟨j, h1, _, _, _⟩ := bfsR_law g b (keysP ps) hb fun p s hs => (next_in h ((hg p s).1 hs)).1
  obtain ⟨v, hv⟩ := has_get.1 hh
  have := h1.nn a v hv
  exact ⟨v.toNat, by rw [hv]; congr 1; omega⟩
/-- the reference's groups are the program's. -/
theorem groups_ref (h : catsF ps l = 0) {mem : Bs → List Bs} {ks : List Bs} (hsr : Srt ks) (hks : ∀ k, k ∈ ks ↔ nextL l k ≠ []) (hm : ∀ k ∈ ks, (∀ s, s ∈ mem k ↔ Mut (nextL l) k s) ∧ Srt (mem k)) {f : Bs → Bs → Bool} (hf : ∀ a b, f a b = true ↔ Mut (nextL l) a b) : (grpL mem ⟨[], []⟩ ks).out = groupsR f (keysP ps) := by
  refine groups_same (M := Mut (nextL l)) (Mut.refl _) (fun _ _ => Mut.symm) (fun _ _ _ => Mut.trans) hf hsr (prtsF1_srt ps none (catsF_ok h).2.1).2 (fun k hk => ?_) hm fun p q hM hne => (hks p).2 (hM.1.out hne)
  obtain ⟨s, hs⟩ := List.exists_mem_of_ne_nil _ ((hks k).1 hk)
  exact (next_in h hs).1
end
end Go.Proofs.YteojmljggoplkaaGreatDoor
