/- Texts of the proof of a law, put together, part 15 of 41. Conditions: none beyond those that each theorem names. -/
import Derived.Test.YtihgnpobkpnipaaGreatDoorQz4
import Derived.Test.YtihgnpobkpnipaaGreatDoorQz5
import Derived.Test.YtihgnpobkpnipaaGreatDoorQz7
import Derived.Test.YtihgnpobkpnipaaGreatDoorQz8
import Derived.Test.YtihgnpobkpnipaaGreatDoorQz12
import Derived.Test.YtihgnpobkpnipaaGreatDoorQz13
import Derived.Test.YtihgnpobkpnipaaGreatDoorQz14
namespace Go.Proofs.YtihgnpobkpnipaaGreatDoor
open Go.RowKit Go.Sort Go.Maps
theorem MapS.obj {α : Type} {T : Mty α} {w : World} {b : Nat} {l : Sm α} (h : MapS T w b l) : ∃ es c, w.heap[b]? = some (.map es c) := by
  obtain ⟨_, es, clock, hb, _⟩ := h
  exact ⟨es, clock, hb⟩
theorem MapS.noCells {α : Type} {T : Mty α} {w : World} {b : Nat} {l : Sm α} (h : MapS T w b l) (cur : Array Value) (t : TypeId) : w.heap[b]? ≠ some (.cells cur t (0, 0)) := by
  obtain ⟨es, c, hb⟩ := h.obj
  intro e
  rw [hb] at e
  cases e
/-! rows by names -/
structure OwnQ {β : Type} (Own : World → Value → List β → Prop) (B : Nat) (e : TypeId) : Prop where
  keep : ∀ {w w' : World} {v : Value} {l : List β}, Own w v l → (∀ k, v.ownBlock = some k → w'.heap[k]? = w.heap[k]?) → Own w' v l
  blk : ∀ {w : World} {v : Value} {l : List β} {k : Nat}, Own w v l → v.ownBlock = some k → B ≤ k ∧ ∃ cur, w.heap[k]? = some (.cells cur e (0, 0))
theorem ownR_k {β : Type} (T : Rty β) (B : Nat) : OwnQ (fun w v l => OwnR T w B v l) B T.e := ⟨fun {w w' v l} h hk => by
  refine ⟨h.1, h.2.imp id ?_⟩
  rintro ⟨b, cap, cur, rfl, hb, hc, rest⟩
  exact ⟨b, cap, cur, rfl, hb, (hk b rfl).trans hc, rest⟩, fun {w v l k} h e => by
  rcases h.2 with ⟨rfl, _⟩ | ⟨b, cap, cur, rfl, hb, hc, _⟩
  · cases e
  · injection e with e
    subst e
    exact ⟨hb, cur, hc⟩⟩
structure Rws {β : Type} (Own : World → Value → List β → Prop) (w : World) (F : Sm (Hdr × List β)) : Prop where
  own : ∀ p ∈ F, Own w (hdrV p.2.1) p.2.2
  sep : ∀ p ∈ F, ∀ q ∈ F, p.1 ≠ q.1 → ∀ b, (hdrV p.2.1).ownBlock = some b → (hdrV q.2.1).ownBlock ≠ some b
def hdS {β : Type} (F : Sm (Hdr × List β)) : Sm Hdr := F.map fun p => (p.1, p.2.1)
theorem hdS_get {β : Type} (k : Bs) : ∀ F : Sm (Hdr × List β), (hdS F).get k = (F.get k).map (·.1)
  | [] => rfl
  | p :: F => by
    show (if p.1 = k then _ else _) = _
    by_cases h : p.1 = k
    · rw [if_pos h, Sm.get, if_pos h]; rfl
    · rw [if_neg h, Sm.get, if_neg h]; exact hdS_get k F
theorem hdS_ins {β : Type} (k : Bs) (v : Hdr × List β) : ∀ F : Sm (Hdr × List β), hdS (Sm.ins k v F) = Sm.ins k v.1 (hdS F)
  | [] => rfl
  | p :: F => by
    have ih := hdS_ins k v F
    unfold hdS at ih ⊢
    rw [Sm.ins, List.map_cons, Sm.ins]
    split
    · rfl
    · rw [List.map_cons, ih]
theorem hdS_del {β : Type} (k : Bs) (F : Sm (Hdr × List β)) : hdS (F.del k) = (hdS F).del k := by
  unfold hdS Sm.del
  rw [List.filter_map]
  rfl
theorem hdS_put {β : Type} (k : Bs) (v : Hdr × List β) (F : Sm (Hdr × List β)) : hdS (F.put k v) = (hdS F).put k v.1 := by
  unfold Sm.put
  rw [hdS_ins, hdS_del]
theorem hdS_len {β : Type} (F : Sm (Hdr × List β)) : (hdS F).length = F.length := List.length_map _
section
variable {β : Type} {Own : World → Value → List β → Prop} {B : Nat} {e : TypeId} {w w' : World} {F : Sm (Hdr × List β)}
theorem Rws.low (h : Rws Own w F) (K : OwnQ Own B e) (hb : Below w.heap.size w w') : Rws Own w' F :=
  ⟨fun p hp => K.keep (h.own p hp) fun k hk => by obtain ⟨_, cur, hc⟩ := K.blk (h.own p hp) hk; exact hb.block k (blk_lt hc), h.sep⟩
theorem Rws.off (h : Rws Own w F) (K : OwnQ Own B e) {g : Nat} (hg : w.grownBy w' (some g)) (hn : ∀ cur, w.heap[g]? ≠ some (.cells cur e (0, 0))) : Rws Own w' F :=
  ⟨fun p hp => K.keep (h.own p hp) fun k hk => by
    obtain ⟨_, cur, hc⟩ := K.blk (h.own p hp) hk
    exact hg.block k (blk_lt hc) fun e1 => by injection e1 with e1; subst e1; exact hn cur hc, h.sep⟩
theorem Rws.gone (h : Rws Own w F) (k : Bs) : Rws Own w (F.del k) :=
  ⟨fun p hp => h.own p (List.mem_filter.1 hp).1, fun p hp q hq => h.sep p (List.mem_filter.1 hp).1 q (List.mem_filter.1 hq).1⟩
/-- apart from all other rows. -/
def Apart {β : Type} (F : Sm (Hdr × List β)) (k : Bs) (v : Value) : Prop := ∀ p ∈ F, p.1 ≠ k → ∀ b, (hdrV p.2.1).ownBlock = some b → v.ownBlock ≠ some b
theorem Rws.apart (h : Rws Own w F) {k : Bs} {x : Hdr × List β} (hx : F.get k = some x) : Apart F k (hdrV x.1) := fun p hp hne b hb => h.sep p hp (k, x) (Sm.get_mem hx) hne b hb
theorem Apart.nil (k : Bs) : Apart F k (.slice none 0 0) := fun p hp hne b hb e => by cases e
theorem Apart.same {k : Bs} {v v' : Value} (h : Apart F k v) (e : v'.ownBlock = v.ownBlock) : Apart F k v' := fun p hp hne b hb => by rw [e]; exact h p hp hne b hb
theorem Apart.new (h : Rws Own w F) (K : OwnQ Own B e) {k : Bs} {v : Value} {n : Nat} (hv : v.ownBlock = some n) (hn : w.heap.size ≤ n) : Apart F k v := fun p hp hne b hb => by
  rw [hv]
  intro e1
  injection e1 with e1
  subst e1
  obtain ⟨_, cur, hc⟩ := K.blk (h.own p hp) hb
  have := blk_lt hc
  omega
theorem Rws.turn (h : Rws Own w F) (K : OwnQ Own B e) {k : Bs} {v : Value} (hv : Apart F k v) (hg : w.grownBy w' v.ownBlock) : Rws Own w' (F.del k) :=
  ⟨fun p hp => K.keep (h.own p (List.mem_filter.1 hp).1) fun b hb => by
    obtain ⟨_, cur, hc⟩ := K.blk (h.own p (List.mem_filter.1 hp).1) hb
    exact hg.block b (blk_lt hc) fun e1 => hv p (List.mem_filter.1 hp).1 (Sm.del_ne p hp) b hb e1.symm, (h.gone k).sep⟩
theorem Rws.put {k : Bs} {hd : Hdr} {l : List β} (h : Rws Own w (F.del k)) (hn : Own w (hdrV hd) l) (ha : Apart F k (hdrV hd)) : Rws Own w (F.put k (hd, l)) := by
  refine ⟨fun p hp => ?_, fun p hp q hq hne b hb => ?_⟩
  · rcases (Sm.ins_mem p).1 hp with rfl | hp
    · exact hn
    · exact h.own p hp
  · rcases (Sm.ins_mem p).1 hp with rfl | hp
    · rcases (Sm.ins_mem q).1 hq with rfl | hq
      · exact absurd rfl hne
      · intro e1
        exact ha q (List.mem_filter.1 hq).1 (Sm.del_ne q hq) b e1 hb
    · rcases (Sm.ins_mem q).1 hq with rfl | hq
      · exact ha p (List.mem_filter.1 hp).1 (Sm.del_ne p hp) b hb
      · exact h.sep p hp q hq hne b hb
end
theorem hdr_ofR {β : Type} {T : Rty β} {w : World} {B : Nat} {v : Value} {l : List β} (h : OwnR T w B v l) : ∃ hd, v = hdrV hd := by
  rcases h.2 with ⟨rfl, _⟩ | ⟨g, cap, cur, rfl, _⟩
  · exact ⟨(none, 0, 0), rfl⟩
  · exact ⟨(some (g, 0), l.length, cap), rfl⟩
/-! the store -/
/-! append to a row of records, where its block is told -/
theorem OwnR.app {α : Type} {T : Rty α} (hT : T.Ok) {w : World} {B : Nat} {v : Value} {l : List α} (hown : OwnR T w B v l) (ty : TypeId) (g c : Nat) (y : α) {cs : Array Value} {t : TypeId} (hblk : w.heap[g]? = some (.cells cs t (0, 0))) (hcs : cs.toList = T.f y) (hlen : l.length ≤ 1000000) (hB : B ≤ w.heap.size) :
    ∃ v' w', (Builtin.append_ #[T.S, T.S] ty #[v, .slice (some ⟨g, 0, none⟩) 1 c]).run Tryz.prog w = .ok v' w' ∧ OwnR T w' B v' (l ++ [y]) ∧ w.grownBy w' v.ownBlock ∧ (v'.ownBlock = v.ownBlock ∨ v'.ownBlock = some w.heap.size) := by
  obtain ⟨i, hi, hz0, hz1, hz2⟩ := info_parts hT.info
  obtain ⟨v', w', hr, h2, h3, _, h5⟩ := run_append_own_at (P := Tryz.prog) (w := w) B T.S ty T.e i T.z T.k T.b hT.sl hi hz0 hz1 hz2 hT.zs hT.pos v l.length (l.flatMap T.f) hown ⟨g, 0, none⟩ 1 c (T.f y) (by rw [hT.len, Nat.one_mul]) (by
    intro j u hj
    rw [← hcs] at hj
    have : w.cell? ⟨g, j, none⟩ = some u := by rw [blk_cell hblk]; simpa using hj
    by_cases h0 : j = 0
    · subst h0; simpa [Addr.add] using this
    · simpa [Addr.add, h0] using this) (hT.one y) (by unfold maxLen; omega) (by have := Nat.mul_le_mul (show l.length + 1 ≤ 1000001 by omega) hT.small; omega) hB
  refine ⟨v', w', hr, ?_, h3, h5⟩
  unfold OwnR
  rw [List.length_append, List.flatMap_append, List.flatMap_singleton]
  exact h2
theorem wp_app_r {α : Type} {T : Rty α} (hT : T.Ok) {w : World} {ops : Array Oper} {rest : List Oper} {o : Oper} {a : Act} {Q : Exit → Act → World → Prop} (hgd : o.guard = none) (s x : Operand)
    (ho : o.op = .call { callee := .builtin .append, args := #[s, x], argTypes := #[T.S, T.S] }) (B : Nat) (v : Value) (l : List α) (hs : a.eval s = v) (hown : OwnR T w B v l)
    (g c : Nat) (y : α) (hx : a.eval x = .slice (some ⟨g, 0, none⟩) 1 c) {cs : Array Value} {t : TypeId} (hblk : w.heap[g]? = some (.cells cs t (0, 0))) (hcs : cs.toList = T.f y) (hlen : l.length ≤ 1000000) (hB : B ≤ w.heap.size)
    (h : ∀ v' w', OwnR T w' B v' (l ++ [y]) → w.grownBy w' v.ownBlock → (v'.ownBlock = v.ownBlock ∨ v'.ownBlock = some w.heap.size) → wpList Tryz.prog ops Q rest (a.put o.dst v') w') : wpList Tryz.prog ops Q (o :: rest) a w := by
  refine wpList_plain hgd fun K hK => ?_
  obtain ⟨v', w', hr, h2, h3, h4⟩ := hown.app hT o.type g c y hblk hcs hlen hB
  unfold Oper.wp execOp
  simp only [ho, resolve, invoke, builtin, Sem.run_bind, Sem.run_pure, Result.andThen_ok, List.map_toArray, List.map_cons, List.map_nil, hs, hx, hr]
  exact hK _ _ (h v' w' h2 h3 h4)
end Go.Proofs.YtihgnpobkpnipaaGreatDoor
namespace Go.Proofs.YtihgnpobkpnipaaGreatDoor
open Go.RowKit Go.Sort
/-- parts whose strings are short and whose numbers are small; alternates. -/
def PrtS (x : Prt) : Prop := x.1.size ≤ 5 ∧ x.2.1.size ≤ 5 ∧ -1099511627777 ≤ x.2.2.1 ∧ x.2.2.1 ≤ 1099511627777 ∧ -1099511627777 ≤ x.2.2.2 ∧ x.2.2.2 ≤ 1099511627777
def AltS (x : Alt) : Prop := x.1.size ≤ 5 ∧ x.2.1.size ≤ 5
/-- what is kept: some blocks of the world ahead. -/
def XK (w : World) (Kp : Nat → Prop) (W : World) : Prop := w.heap.size ≤ W.heap.size ∧ ∀ g, Kp g → W.heap[g]? = w.heap[g]?
section
variable {w : World} {Kp : Nat → Prop} {s B : Nat}
theorem XK.refl (w : World) (Kp : Nat → Prop) : XK w Kp w := ⟨Nat.le_refl _, fun _ _ => rfl⟩
theorem XK.below (hK : ∀ g, Kp g → g < w.heap.size ∧ g ≠ s ∧ g < B) {W W' : World} (h : XK w Kp W) (hb : Below W.heap.size W W') : XK w Kp W' := ⟨Nat.le_trans h.1 hb.size, fun g hg => (hb.block g (Nat.lt_of_lt_of_le (hK g hg).1 h.1)).trans (h.2 g hg)⟩
theorem XK.gr (hK : ∀ g, Kp g → g < w.heap.size ∧ g ≠ s ∧ g < B) {W W' : World} (h : XK w Kp W) (hb : W.grownBy W' (some s)) : XK w Kp W' := ⟨Nat.le_trans h.1 hb.size, fun g hg => (hb.block g (Nat.lt_of_lt_of_le (hK g hg).1 h.1) (by intro e; injection e with e; exact (hK g hg).2.1 e)).trans (h.2 g hg)⟩
theorem XK.set (hK : ∀ g, Kp g → g < w.heap.size ∧ g ≠ s ∧ g < B) {W : World} (h : XK w Kp W) {go : Nat} (hgo : B ≤ go) (o : Nat) (v : Value) : XK w Kp (W.setCell ⟨go, o, none⟩ v) := ⟨by simpa using h.1, fun g hg => (Below.heap_setCell _ ⟨go, o, none⟩ _ g (by show g ≠ go; have := (hK g hg).2.2; omega)).trans (h.2 g hg)⟩
end
end Go.Proofs.YtihgnpobkpnipaaGreatDoor
namespace Go.Proofs.YtihgnpobkpnipaaGreatDoor
open Go.RowKit Go.Sort
/-- the stream and how many of the region's three calls are done, what the call owns by the stores that are done. -/
structure BX (Own : Bool → Bool → Bool → World → Prop) (W0 : World) (s B1 : Nat) (li : List Int) (m : Nat) (c0 c1 c2 t0 t1 t2 : Bool) (w : World) : Prop where
  str : StrX w s li (m + (c0.toNat + (c1.toNat + c2.toNat)))
  own : Own t0 t1 t2 w
  size : B1 ≤ w.heap.size
  gr : W0.grownBy w (some s)
section
variable {Own : Bool → Bool → Bool → World → Prop} {W0 : World} {s B1 : Nat} {li : List Int} {m : Nat} {c0 c1 c2 t0 t1 t2 d0 d1 d2 : Bool} {w w' : World}
theorem BX.below (h : BX Own W0 s B1 li m c0 c1 c2 t0 t1 t2 w) (hK : ∀ a b c, OwnK (Own a b c) s) (hb : Below w.heap.size w w') : BX Own W0 s B1 li m c0 c1 c2 t0 t1 t2 w' :=
  ⟨h.str.below hb, (hK _ _ _).below _ _ h.own hb, Nat.le_trans h.size hb.size, Gr.trans h.gr (Gr.of_below hb (some s))⟩
theorem BX.call (h : BX Own W0 s B1 li m c0 c1 c2 t0 t1 t2 w) (hK : ∀ a b c, OwnK (Own a b c) s) (hs : StrX w' s li (m + (d0.toNat + (d1.toNat + d2.toNat)))) (hg : w.grownBy w' (some s)) : BX Own W0 s B1 li m d0 d1 d2 t0 t1 t2 w' :=
  ⟨hs, (hK _ _ _).gr _ _ h.own hg, Nat.le_trans h.size hg.size, Gr.trans h.gr hg⟩
theorem BX.store {b o : Nat} {v : Value} (h : BX Own W0 s B1 li m c0 c1 c2 t0 t1 t2 w) (hb : W0.heap.size ≤ b) (hs : s < b) (hO : Own d0 d1 d2 (w.setCell ⟨b, o, none⟩ v)) : BX Own W0 s B1 li m c0 c1 c2 d0 d1 d2 (w.setCell ⟨b, o, none⟩ v) :=
  ⟨h.str.far b o hs v, hO, by simpa using h.size, Gr.set h.gr _ _ (.inr hb) _⟩
end
def VLSx (B1 : Nat) (l : List ByteArray) : Value → World → Prop := fun v w => (∃ b, v = .slice (some ⟨b, 0, none⟩) l.length l.length) ∧ RecR TS w B1 v l
def VLIx (B1 : Nat) (l : List Int) : Value → World → Prop := fun v w => (∃ b, v = .slice (some ⟨b, 0, none⟩) l.length l.length) ∧ Ints w B1 v l
theorem VLSx.stab {B1 : Nat} {l : List ByteArray} {v : Value} {w w' : World} (h : VLSx B1 l v w) (hr : RR B1 w w') : VLSx B1 l v w' := ⟨h.1, Rd.keep h.2 hr.2 hr.1⟩
theorem VLIx.stab {B1 : Nat} {l : List Int} {v : Value} {w w' : World} (h : VLIx B1 l v w) (hr : RR B1 w w') : VLIx B1 l v w' := ⟨h.1, Rd.keep h.2 hr.2 hr.1⟩
/-! a catalogue changed at one place -/
def spP (li : List Int) (m : Nat) (ps : List Prt) : List Prt × Nat := match ps[(nxX li m ps.length).toNat]? with
  | none => (ps, m)
  | some x => (ps.set (nxX li m ps.length).toNat (smX li (m + 1) [x.1, ⟨#[]⟩, ⟨#[98]⟩], x.2.1, pkX li (m + 1 + 1) [x.2.2.1, 0, 7], pkX li (m + 1 + 2) [x.2.2.2, -1, 720000001]), m + 4)
def spA (li : List Int) (m : Nat) (l : List Alt) : List Alt × Nat := match l[(nxX li m l.length).toNat]? with
  | none => (l, m)
  | some x => (l.set (nxX li m l.length).toNat (smX li (m + 1) [x.1, x.2.1, ⟨#[122, 122]⟩], smX li (m + 1 + 1) [x.2.1, ⟨#[97]⟩, ⟨#[98]⟩], flX li (m + 1 + 2) 2), m + 4)
def spoilX (li : List Int) (m : Nat) (ps : List Prt) (l : List Alt) : List Prt × List Alt × Nat :=
  if l.length = 0 then ((spP li m ps).1, l, (spP li m ps).2) else if flX li m 2 = true then (ps, (spA li (m + 1) l).1, (spA li (m + 1) l).2) else ((spP li (m + 1) ps).1, l, (spP li (m + 1) ps).2)
theorem spP_at {li : List Int} {m j : Nat} {ps : List Prt} {x : Prt} (hj : j = (nxX li m ps.length).toNat) (hx : ps[j]? = some x) : spP li m ps = (ps.set j (smX li (m + 1) [x.1, ⟨#[]⟩, ⟨#[98]⟩], x.2.1, pkX li (m + 1 + 1) [x.2.2.1, 0, 7], pkX li (m + 1 + 2) [x.2.2.2, -1, 720000001]), m + 4) := by
  subst hj
  unfold spP
  rw [hx]
theorem spA_at {li : List Int} {m j : Nat} {l : List Alt} {x : Alt} (hj : j = (nxX li m l.length).toNat) (hx : l[j]? = some x) : spA li m l = (l.set j (smX li (m + 1) [x.1, x.2.1, ⟨#[122, 122]⟩], smX li (m + 1 + 1) [x.2.1, ⟨#[97]⟩, ⟨#[98]⟩], flX li (m + 1 + 2) 2), m + 4) := by
  subst hj
  unfold spA
  rw [hx]
theorem spP_none {li : List Int} {m : Nat} {ps : List Prt} (h : ps.length = 0) : spP li m ps = (ps, m) := by
  obtain rfl := List.eq_nil_of_length_eq_zero h
  rfl
theorem spoilX_no {li : List Int} {m : Nat} {ps : List Prt} {l : List Alt} (h : l.length = 0) : spoilX li m ps l = ((spP li m ps).1, l, (spP li m ps).2) := by unfold spoilX; rw [if_pos h]
theorem spoilX_a {li : List Int} {m : Nat} {ps : List Prt} {l : List Alt} (h : ¬ l.length = 0) (hf : flX li m 2 = true) : spoilX li m ps l = (ps, (spA li (m + 1) l).1, (spA li (m + 1) l).2) := by unfold spoilX; rw [if_neg h, if_pos hf]
theorem spoilX_p {li : List Int} {m : Nat} {ps : List Prt} {l : List Alt} (h : ¬ l.length = 0) (hf : flX li m 2 = false) : spoilX li m ps l = ((spP li (m + 1) ps).1, l, (spP li (m + 1) ps).2) := by unfold spoilX; rw [if_neg h, if_neg (by rw [hf]; decide)]
end Go.Proofs.YtihgnpobkpnipaaGreatDoor
