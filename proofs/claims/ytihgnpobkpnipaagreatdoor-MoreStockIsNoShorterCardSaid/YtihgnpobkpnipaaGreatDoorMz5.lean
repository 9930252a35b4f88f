/- Texts of the proof of a law, put together, part 5 of 35. Conditions: none beyond those that each theorem names. -/
import Derived.Test.YtihgnpobkpnipaaGreatDoorMz2
import Derived.Test.YtihgnpobkpnipaaGreatDoorMz3
import Derived.Test.YtihgnpobkpnipaaGreatDoorMz4
import Derived.Deep.RegionHeld3
namespace Go.Proofs.YtihgnpobkpnipaaGreatDoor
open Go.RowKit Go.Sort
def TS : Rty ByteArray := { e := 9, S := 45, k := 1, b := 16, z := .string ByteArray.empty, f := fun s => [.string s] }
theorem TS.ok : TS.Ok := ⟨by kernel_rfl, Tryz.underlying45, rfl, by decide, fun _ => rfl, fun x u hu => by simp [TS] at hu; subst hu; rfl, by decide⟩
theorem RecR.of_blk {α : Type} {T : Rty α} {w : World} {g : Nat} {cs : Array Value} {t : TypeId} (h : w.heap[g]? = some (.cells cs t (0, 0))) {lo n cap : Nat} {l : List α} (hx : cs.toList = l.flatMap T.f) (hn : n = l.length) (h1 : n ≤ cap) (h2 : cap ≤ 9223372036854775807) (hl : lo ≤ g) :
    RecR T w lo (.slice (some ⟨g, 0, none⟩) n cap) l := by subst hn; exact Rd.of_blk h hx h1 h2 hl
set_option maxHeartbeats 1000000 in
theorem Some_any (s : Nat) (c : Int) (l : List ByteArray) (v : Value) (w : World) (h : Str w s c) (hc : c ≤ 1000000) (rl : RecR TS w (s + 1) v l) (h0 : 0 < l.length) (hl : l.length ≤ 1000) :
    Calls Tryz.prog 34 #[.pointer (some ⟨s, 0, none⟩), v] w fun e w' => ∃ r : ByteArray, e = .returned (.string r) ∧ r ∈ l ∧ Str w' s (c + 1) ∧ w.grownBy w' (some s) := by
  obtain ⟨a, cap, rfl, hc1, hc2⟩ := RecR.form rl
  go_enter Tryz.func34, Tryz.ntmps34
  go_wp2_with fail
  refine (Next_any s c l.length w h hc (by omega)).mono ?_
  rintro e w1 ⟨r, rfl, ⟨hr0, hr1, _⟩, hS, hG⟩
  have hr2 := hr1 (by omega)
  clear hr1
  obtain ⟨r, rfl⟩ := Int.eq_ofNat_of_zero_le hr0
  have rl1 := rl.grown hG (Nat.lt_succ_self s)
  obtain ⟨x, hx⟩ : ∃ x, l[r]? = some x := ⟨_, List.getElem?_eq_getElem (by omega)⟩
  obtain ⟨b, o, rfl, _, _, hcell⟩ := rl1.at TS.ok.len hx TS.ok.pos
  have hc0 : w1.cell? ⟨b, o + r, none⟩ = some (.string x) := by
    have := hcell 0 _ rfl
    simpa [TS] using this
  have HX := Lib.hid (List.mem_of_getElem? hx)
  clear hcell hx rl rl1
  go_wp2
  go_ret
  exact ⟨x, rfl, HX.out, hS, hG⟩
end Go.Proofs.YtihgnpobkpnipaaGreatDoor
namespace Go.Proofs.YtihgnpobkpnipaaGreatDoor
open Go.RowKit Go.Sort
theorem str_at {w : World} {lo : Nat} {a : Option Addr} {n cap : Nat} {l : List ByteArray} (h : RecR TS w lo (.slice a n cap) l) {k : Nat} {x : ByteArray} (hk : l[k]? = some x) :
    ∃ b o, a = some ⟨b, o, none⟩ ∧ lo ≤ b ∧ b < w.heap.size ∧ w.cell? ⟨b, o + k, none⟩ = some (.string x) := by
  obtain ⟨b, o, rfl, h1, h2, h3⟩ := h.at TS.ok.len hk TS.ok.pos
  refine ⟨b, o, rfl, h1, h2, ?_⟩
  have := h3 0 _ rfl
  simpa [TS] using this
theorem str_cells {w : World} {lo : Nat} {b o n cap : Nat} {l : List ByteArray} (h : RecR TS w lo (.slice (some ⟨b, o, none⟩) n cap) l) : ∀ j, j < l.length → w.cell? ⟨b, o + j, none⟩ = some (.string (l.getD j ByteArray.empty)) := by
  intro j hj
  obtain ⟨b', o', e, _, _, hc⟩ := str_at h (k := j) (x := l.getD j ByteArray.empty) (by simp [List.getD_eq_getElem?_getD, hj])
  injection e with e; injection e with e1 e2 _; subst e1 e2
  exact hc
theorem HasS_any (l : List ByteArray) (v : Value) (x : ByteArray) (w : World) (hlen : l.length ≤ 100000) (rl : RecR TS w 0 v l) :
    Calls Tryz.prog 29 #[v, .string x] w fun e w' => e = .returned (.bool (Lib.containsS l x)) ∧ w = w' := by
  obtain ⟨a, cap, rfl, hc1, hc2⟩ := rl.form
  by_cases h0 : l = []
  · subst h0
    exact (Tryz.slices_Contains_string_empty a cap x w).mono fun e w' ⟨h1, h2⟩ => ⟨by rw [h1]; rfl, h2.symm⟩
  · obtain ⟨y, hy⟩ : ∃ y, l[0]? = some y := ⟨_, List.getElem?_eq_getElem (List.length_pos_iff.2 h0)⟩
    obtain ⟨b, o, rfl, _, _, _⟩ := str_at rl hy
    have := Tryz.slices_Contains_string b o l.length cap l x w (Nat.le_refl _) (by omega) (str_cells rl)
    rw [List.take_length] at this
    exact this.mono fun e w' ⟨h1, h2⟩ => ⟨h1, h2.symm⟩
theorem ba_inj {a b : ByteArray} (h : a.toList = b.toList) : a = b := ByteArray.ext (Array.toList_inj.1 (by rw [ByteArray.toList_eq, ByteArray.toList_eq] at h; exact h))
end Go.Proofs.YtihgnpobkpnipaaGreatDoor
namespace Go.Proofs.YtihgnpobkpnipaaGreatDoor
open Go.RowKit Go.Sort Go.Maps Go.Shelf Go.Lib
/-! keys of sorted maps -/
theorem Sm.keys_nodup {α : Type} {m : Sm α} (h : Sm.Ok m) : m.keys.Nodup := by
  unfold Sm.keys List.Nodup
  rw [List.pairwise_map]
  exact h.imp fun {a b} hab => Sm.bb_ne hab
theorem keys_len {α : Type} (m : Sm α) : m.keys.length = m.length := List.length_map _
def bsOf (b : ByteArray) : Bs := b.data.toList
def baOf (k : Bs) : ByteArray := ⟨k.toArray⟩
theorem bsOf_baOf (k : Bs) : bsOf (baOf k) = k := by simp [bsOf, baOf]
theorem flat_ba (ks : List Bs) : ks.map encStr = (ks.map baOf).flatMap TS.f := by
  induction ks with
  | nil => rfl
  | cons a l ih => rw [List.map_cons, ih, List.map_cons, List.flatMap_cons]; rfl
end Go.Proofs.YtihgnpobkpnipaaGreatDoor
namespace Go.Proofs.YtihgnpobkpnipaaGreatDoor
open Go.RowKit Go.Sort Go.Maps
/-- what is reached. -/
inductive Rch (g : Bs → List Bs) (a : Bs) : Bs → Prop
  | self : Rch g a a
  | step {b c : Bs} : Rch g a b → c ∈ g b → Rch g a c
structure Bfs where
  st : Sm Int
  ln : List Bs
def visit1 (n : Int) (x : Bfs) (s : Bs) : Bfs := if x.st.has s = true then x else ⟨x.st.put s n, x.ln ++ [s]⟩
def visitL (n : Int) : Bfs → List Bs → Bfs
  | x, [] => x
  | x, s :: r => visitL n (visit1 n x s) r
def valB (x : Bfs) (p : Bs) : Int := (x.st.get p).getD 0
def bfsF (g : Bs → List Bs) : Nat → Nat → Bfs → Bfs
  | 0, _, x => x
  | f + 1, i, x => match x.ln[i]? with
    | none => x
    | some p => bfsF g f (i + 1) (visitL (valB x p + 1) x (g p))
def bfs0 (a : Bs) : Bfs := ⟨Sm.put [] a 0, [a]⟩
structure BfI (g : Bs → List Bs) (a : Bs) (x : Bfs) (i : Nat) : Prop where
  ok : Sm.Ok x.st
  nd : x.ln.Nodup
  mem : ∀ s, x.st.has s = true ↔ s ∈ x.ln
  bk : ∀ s v, x.st.get s = some v → (s = a ∧ v = 0) ∨ ∃ p u, x.st.get p = some u ∧ s ∈ g p ∧ v = u + 1
  st : x.st.get a = some 0
  cl : ∀ (k : Nat) (p : Bs), k < i → x.ln[k]? = some p → ∀ s ∈ g p, x.st.has s = true
  nn : ∀ s v, x.st.get s = some v → 0 ≤ v
theorem has_get {x : Sm Int} {s : Bs} : x.has s = true ↔ ∃ v, x.get s = some v := by
  unfold Sm.has
  exact Option.isSome_iff_exists
/-- one state grows to another one. -/
structure Grw (x y : Bfs) : Prop where
  ln : ∃ r, y.ln = x.ln ++ r
  gt : ∀ s v, x.st.get s = some v → y.st.get s = some v
theorem Grw.refl (x : Bfs) : Grw x x := ⟨⟨[], by simp⟩, fun _ _ h => h⟩
theorem Grw.trans {x y z : Bfs} (h : Grw x y) (k : Grw y z) : Grw x z := by
  obtain ⟨r, hr⟩ := h.ln
  obtain ⟨q, hq⟩ := k.ln
  exact ⟨⟨r ++ q, by rw [hq, hr, List.append_assoc]⟩, fun s v e => k.gt s v (h.gt s v e)⟩
theorem Grw.has {x y : Bfs} (h : Grw x y) {s : Bs} (e : x.st.has s = true) : y.st.has s = true := by
  obtain ⟨v, hv⟩ := has_get.1 e
  exact has_get.2 ⟨v, h.gt s v hv⟩
theorem visit1_ok {g : Bs → List Bs} {a : Bs} {x : Bfs} {i : Nat} (h : BfI g a x i) (hi : i ≤ x.ln.length) {p s : Bs} {u : Int} (hp : x.st.get p = some u) (hs : s ∈ g p) : BfI g a (visit1 (u + 1) x s) i ∧ (visit1 (u + 1) x s).st.has s = true ∧ Grw x (visit1 (u + 1) x s) := by
  unfold visit1
  by_cases e : x.st.has s = true
  · rw [if_pos e]; exact ⟨h, e, Grw.refl x⟩
  rw [if_neg e]
  have hnone : x.st.get s = none := by
    cases hg : x.st.get s with
    | none => rfl
    | some v => exact absurd (has_get.2 ⟨v, hg⟩) e
  have hsl : s ∉ x.ln := fun hm => e ((h.mem s).2 hm)
  have gsame : (x.st.put s (u + 1)).get s = some (u + 1) := Sm.get_put_same _ _ _
  have goth : ∀ t, t ≠ s → (x.st.put s (u + 1)).get t = x.st.get t := fun t ht => Sm.get_put_other (Ne.symm ht) _
  have gold : ∀ t v, x.st.get t = some v → (x.st.put s (u + 1)).get t = some v := fun t v hv => by
    rw [goth t (fun q => by rw [q, hnone] at hv; cases hv)]; exact hv
  refine ⟨⟨h.ok.put _ _, ?_, fun t => ?_, fun t v hv => ?_, gold _ _ h.st, fun k q hk hq t ht => ?_, fun t v hv => ?_⟩, has_get.2 ⟨_, gsame⟩, ⟨⟨[s], rfl⟩, gold⟩⟩
  · show (x.ln ++ [s]).Nodup
    rw [List.nodup_append]
    exact ⟨h.nd, by simp, fun b hb c hc => by rw [List.mem_singleton.1 hc]; exact fun q => hsl (q ▸ hb)⟩
  · show (x.st.put s (u + 1)).has t = true ↔ t ∈ x.ln ++ [s]
    rw [List.mem_append, List.mem_singleton]
    by_cases hts : t = s
    · subst hts
      exact ⟨fun _ => .inr rfl, fun _ => has_get.2 ⟨_, gsame⟩⟩
    · rw [has_get, goth t hts, ← has_get, h.mem]
      exact ⟨.inl, fun q => q.resolve_right hts⟩
  · have hv' : (x.st.put s (u + 1)).get t = some v := hv
    by_cases hts : t = s
    · subst hts
      rw [gsame] at hv'
      injection hv' with hv'
      exact .inr ⟨p, u, gold _ _ hp, hs, hv'.symm⟩
    · rw [goth t hts] at hv'
      rcases h.bk t v hv' with q | ⟨p', u', e1, e2, e3⟩
      · exact .inl q
      · exact .inr ⟨p', u', gold _ _ e1, e2, e3⟩
  · have hq' : (x.ln ++ [s])[k]? = some q := hq
    rw [List.getElem?_append_left (by omega)] at hq'
    obtain ⟨v, hv⟩ := has_get.1 (h.cl k q hk hq' t ht)
    exact has_get.2 ⟨v, gold _ _ hv⟩
  · have hv' : (x.st.put s (u + 1)).get t = some v := hv
    by_cases hts : t = s
    · subst hts
      rw [gsame] at hv'
      injection hv' with hv'
      have := h.nn p u hp
      omega
    · rw [goth t hts] at hv'
      exact h.nn t v hv'
theorem visitL_ok {g : Bs → List Bs} {a : Bs} {p : Bs} {u : Int} : ∀ (l : List Bs) {x : Bfs} {i : Nat}, BfI g a x i → i ≤ x.ln.length → x.st.get p = some u → (∀ s ∈ l, s ∈ g p) → BfI g a (visitL (u + 1) x l) i ∧ (∀ s ∈ l, (visitL (u + 1) x l).st.has s = true) ∧ Grw x (visitL (u + 1) x l)
  | [], x, i, h, _, _, _ => ⟨h, fun _ q => (by cases q), Grw.refl x⟩
  | s :: r, x, i, h, hi, hp, hl => by
    obtain ⟨h1, h2, h3⟩ := visit1_ok h hi hp (hl s (List.mem_cons_self ..))
    obtain ⟨q, hq⟩ := h3.ln
    obtain ⟨k1, k2, k3⟩ := visitL_ok r h1 (by rw [hq, List.length_append]; omega) (h3.gt _ _ hp) fun t ht => hl t (List.mem_cons_of_mem _ ht)
    refine ⟨k1, fun t ht => ?_, h3.trans k3⟩
    rcases List.mem_cons.1 ht with rfl | ht
    · exact k3.has h2
    · exact k2 t ht
theorem bfs_step {g : Bs → List Bs} {a : Bs} {x : Bfs} {i : Nat} {p : Bs} (h : BfI g a x i) (hp : x.ln[i]? = some p) : BfI g a (visitL (valB x p + 1) x (g p)) (i + 1) ∧ Grw x (visitL (valB x p + 1) x (g p)) := by
  obtain ⟨hil, _⟩ := List.getElem?_eq_some_iff.1 hp
  obtain ⟨u, hu⟩ := has_get.1 ((h.mem p).2 (List.mem_of_getElem? hp))
  have hv : valB x p = u := by unfold valB; rw [hu]; rfl
  rw [hv]
  obtain ⟨k1, k2, k3⟩ := visitL_ok (g p) h (Nat.le_of_lt hil) hu fun _ q => q
  refine ⟨⟨k1.ok, k1.nd, k1.mem, k1.bk, k1.st, fun k q hk hq s hs => ?_, k1.nn⟩, k3⟩
  by_cases hki : k = i
  · subst hki
    obtain ⟨r, hr⟩ := k3.ln
    rw [hr, List.getElem?_append_left hil, hp] at hq
    injection hq with hq
    exact k2 s (hq ▸ hs)
  · exact k1.cl k q (by omega) hq s hs
theorem bfs0_ok (g : Bs → List Bs) (a : Bs) : BfI g a (bfs0 a) 0 := by
  have hg : ∀ s v, (bfs0 a).st.get s = some v → s = a ∧ v = 0 := fun s v h => by
    have h' : Sm.get (Sm.put [] a (0 : Int)) s = some v := h
    by_cases e : s = a
    · subst e
      rw [Sm.get_put_same] at h'
      injection h' with h'
      exact ⟨rfl, h'.symm⟩
    · rw [Sm.get_put_other (Ne.symm e)] at h'; cases h'
  have hs : (bfs0 a).st.get a = some 0 := Sm.get_put_same _ _ _
  refine ⟨Sm.Ok.nil.put _ _, by simp [bfs0], fun s => ?_, fun s v h => .inl (hg s v h), hs, fun k p hk => absurd hk (by omega), fun s v h => by rw [(hg s v h).2]; exact Int.le_refl _⟩
  constructor
  · intro h
    obtain ⟨v, hv⟩ := has_get.1 h
    rw [(hg s v hv).1]; exact List.mem_singleton.2 rfl
  · intro h
    rw [List.mem_singleton.1 (show s ∈ [a] from h)]
    exact has_get.2 ⟨0, hs⟩
/-- all that is reached, with how many steps it takes. -/
def bfsR (g : Bs → List Bs) (a : Bs) (U : List Bs) : Bfs := bfsF g (U.length + 1) 0 (bfs0 a)
end Go.Proofs.YtihgnpobkpnipaaGreatDoor
namespace Go.Proofs.YtihgnpobkpnipaaGreatDoor
open Go.RowKit Go.Sort Go.Maps
/-- one step nearer. -/
def pickB (nx : Bs → List Bs) (y : Bfs) (x : Bs) : Bs := ((nx x).find? fun s => decide (y.st.get s = some (valB y x - 1))).getD x
def chainB (nx : Bs → List Bs) (y : Bfs) (b : Bs) : Nat → Bs → List Bs
  | 0, x => [x]
  | n + 1, x => if x = b then [x] else x :: chainB nx y b n (pickB nx y x)
theorem val_zero {g : Bs → List Bs} {b : Bs} {y : Bfs} {j : Nat} (h : BfI g b y j) {x : Bs} (hx : y.st.get x = some 0) : x = b := by
  rcases h.bk x 0 hx with ⟨e, _⟩ | ⟨p, u, e1, _, e3⟩
  · exact e
  · have := h.nn p u e1; omega
theorem pick_ok {g nx : Bs → List Bs} {b : Bs} {y : Bfs} {j : Nat} (h : BfI g b y j) (hg : ∀ p s, s ∈ g p → p ∈ nx s) {x : Bs} {v : Int} (hx : y.st.get x = some v) (hb : x ≠ b) : pickB nx y x ∈ nx x ∧ y.st.get (pickB nx y x) = some (v - 1) := by
  have hv : valB y x = v := by unfold valB; rw [hx]; rfl
  rcases h.bk x v hx with ⟨e, _⟩ | ⟨p, u, e1, e2, e3⟩
  · exact absurd e hb
  · unfold pickB
    rw [hv]
    cases hf : (nx x).find? fun s => decide (y.st.get s = some (v - 1)) with
    | none =>
      have := List.find?_eq_none.1 hf p (hg p x e2)
      rw [e1, e3] at this
      exact absurd (by simp) this
    | some s =>
      have h1 := List.mem_of_find?_eq_some hf
      have h2 := List.find?_some hf
      exact ⟨h1, of_decide_eq_true h2⟩
/-! groups -/
/-- both ways. -/
def Mut (g : Bs → List Bs) (a b : Bs) : Prop := Rch g a b ∧ Rch g b a
theorem Rch.trans {g : Bs → List Bs} {a b c : Bs} (h : Rch g a b) (k : Rch g b c) : Rch g a c := by
  induction k with
  | self => exact h
  | step _ hc ih => exact .step ih hc
theorem Rch.out {g : Bs → List Bs} {a b : Bs} (h : Rch g a b) (hne : a ≠ b) : g a ≠ [] := by
  induction h with
  | self => exact absurd rfl hne
  | @step c d hc hd ih =>
    by_cases e : a = c
    · subst e; exact fun q => by rw [q] at hd; cases hd
    · exact ih e
theorem Mut.refl (g : Bs → List Bs) (a : Bs) : Mut g a a := ⟨.self, .self⟩
theorem Mut.symm {g : Bs → List Bs} {a b : Bs} (h : Mut g a b) : Mut g b a := ⟨h.2, h.1⟩
theorem Mut.trans {g : Bs → List Bs} {a b c : Bs} (h : Mut g a b) (k : Mut g b c) : Mut g a c := ⟨h.1.trans k.1, k.2.trans h.2⟩
theorem Rch.head {g : Bs → List Bs} {a c b : Bs} (hc : c ∈ g a) (h : Rch g c b) : Rch g a b := (Rch.step .self hc).trans h
end Go.Proofs.YtihgnpobkpnipaaGreatDoor
