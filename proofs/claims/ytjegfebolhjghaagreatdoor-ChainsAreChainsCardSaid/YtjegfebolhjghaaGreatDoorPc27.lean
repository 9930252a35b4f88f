/- Texts of the proof of a law, put together, part 27 of 31. Conditions: none beyond those that each theorem names. -/
import Derived.Test.YtjegfebolhjghaaGreatDoorPc4
import Derived.Test.YtjegfebolhjghaaGreatDoorPc19
import Derived.Test.YtjegfebolhjghaaGreatDoorPc22
import Derived.Test.YtjegfebolhjghaaGreatDoorPc25
import Derived.Test.YtjegfebolhjghaaGreatDoorPc26
import Derived.Maps.OwnSet
namespace Go.Proofs.YtjegfebolhjghaaGreatDoor
open Go.RowKit Go.Sort Go.Maps
/-! what the groups hold: plainly -/
def stK (ps : List Prt) (l : List Alt) (k : Bs) : Sm Int := (bfsR (nextL l) k (keysP ps)).st
def inK (ps : List Prt) (l : List Alt) (k s : Bs) : Bool := decide (nextL l s ≠ []) && (stK ps l s).has k
def memK (ps : List Prt) (l : List Alt) (k : Bs) : List Bs := (stK ps l k).keys.filter fun s => inK ps l k s
theorem stK_ok {ps : List Prt} {l : List Alt} (h : catsF ps l = 0) {k : Bs} (hk : k ∈ keysP ps) : Sm.Ok (stK ps l k) ∧ (∀ s, (stK ps l k).has s = true ↔ Rch (nextL l) k s) ∧ (∀ s, (stK ps l k).has s = true → s ∈ keysP ps) ∧ (stK ps l k).length ≤ ps.length := by
  obtain ⟨j, h1, _, h3, h4⟩ := bfsR_law (nextL l) k (keysP ps) hk fun p s hs => (next_in h hs).2.1
  refine ⟨h1.ok, h4, fun s hs => h3 s ((h1.mem s).1 hs), ?_⟩
  have h5 : (stK ps l k).length = _ := bf_len h1
  have h6 := List.Nodup.length_le_of_subset h1.nd h3
  have h7 : (keysP ps).length = ps.length := List.length_map _
  omega
theorem memK_srt {ps : List Prt} {l : List Alt} (h : catsF ps l = 0) {k : Bs} (hk : nextL l k ≠ []) : Srt (memK ps l k) := by
  obtain ⟨t, ht⟩ := List.exists_mem_of_ne_nil _ hk
  obtain ⟨h1, _⟩ := stK_ok h (next_in h ht).1
  exact (Srt.of_sort (Sm.keys_sorted h1) (Sm.keys_nodup h1)).filter _
/-! maps of maps, rows of rows -/
def THs : Rty Hdr := { e := 35, S := 43, k := 1, b := 24, z := .slice none 0 0, f := fun h => [hdrV h] }
theorem THs.ok : THs.Ok := ⟨by kernel_rfl, Tryz.underlying43, rfl, by decide, fun _ => rfl, fun x u hu => by simp [THs] at hu; subst hu; rfl, by decide⟩
/-- rows of rows that the call owns. -/
structure OwnG (w : World) (B : Nat) (v : Value) (hs : List Hdr) (G : List (List Bs)) : Prop where
  own : OwnR THs w B v hs
  len : hs.length = G.length
  row : ∀ (i : Nat) (h : Hdr) (g : List Bs), hs[i]? = some h → G[i]? = some g → OwnR TS w B (hdrV h) (g.map baOf)
theorem OwnG.nil (w : World) (B : Nat) : OwnG w B (.slice none 0 0) [] [] := ⟨OwnR.nil _ _, rfl, fun i h g hh => by simp at hh⟩
theorem OwnG.gr {w w' : World} {B s : Nat} {v : Value} {hs : List Hdr} {G : List (List Bs)} (h : OwnG w B v hs G) (hg : w.grownBy w' (some s)) (hn : ∀ cs t, w.heap[s]? ≠ some (.cells cs t (0, 0))) : OwnG w' B v hs G := by
  have k : ∀ {α : Type} {T : Rty α} {v : Value} {l : List α}, OwnR T w B v l → OwnR T w' B v l := fun {α T v l} q => (ownR_k T B).keep q fun j hj => by
    obtain ⟨_, cur, hc⟩ := (ownR_k T B).blk q hj
    exact hg.block j (blk_lt hc) fun e => by injection e with e; subst e; exact hn _ _ hc
  exact ⟨k h.own, h.len, fun i a b h1 h2 => k (h.row i a b h1 h2)⟩
theorem OwnG.low {w w' : World} {B : Nat} {v : Value} {hs : List Hdr} {G : List (List Bs)} (h : OwnG w B v hs G) (hb : Below w.heap.size w w') : OwnG w' B v hs G := ⟨h.own.below hb, h.len, fun i a b h1 h2 => (h.row i a b h1 h2).below hb⟩
theorem OwnG.base {w : World} {B B' : Nat} {v : Value} {hs : List Hdr} {G : List (List Bs)} (h : OwnG w B v hs G) (hb : B' ≤ B) : OwnG w B' v hs G := ⟨h.own.base hb, h.len, fun i a b h1 h2 => (h.row i a b h1 h2).base hb⟩
/-- a row behind all of them turns. -/
theorem OwnG.sorted {w0 w w' : World} {B : Nat} {v gv : Value} {hs : List Hdr} {G : List (List Bs)} {l : List ByteArray} (h : OwnG w B v hs G) (h0 : OwnG w0 B v hs G) (hO : OwnR TS w w0.heap.size gv l) (hg : w.grownBy w' gv.ownBlock) : OwnG w' B v hs G := by
  have k : ∀ {α : Type} {T : Rty α} {u : Value} {m : List α}, OwnR T w0 B u m → OwnR T w B u m → OwnR T w' B u m := fun {α T u m} q0 q => (ownR_k T B).keep q fun j hj => by
    obtain ⟨_, cur, hc⟩ := (ownR_k T B).blk q hj
    obtain ⟨_, cur0, hc0⟩ := (ownR_k T B).blk q0 hj
    refine hg.block j (blk_lt hc) fun e => ?_
    have := ((ownR_k TS _).blk hO e.symm).1
    have := blk_lt hc0
    omega
  exact ⟨k h0.own h.own, h.len, fun i a b h1 h2 => k (h0.row i a b h1 h2) (h.row i a b h1 h2)⟩
/-- something newer turns. -/
theorem Gr.step {a w w' : World} {s r : Nat} (h : a.grownBy w (some s)) (hg : w.grownBy w' (some r)) (hr : a.heap.size ≤ r) : a.grownBy w' (some s) :=
  ⟨hg.os.trans h.os, hg.tape.trans h.tape, hg.output.trans h.output, Nat.le_trans h.size hg.size, fun i hi hn => (hg.block i (Nat.lt_of_lt_of_le hi h.size) (by intro e; injection e with e; omega)).trans (h.block i hi hn)⟩
/-- the map of all that is reached: one map by each key. -/
structure AllI (ps : List Prt) (l : List Alt) (w : World) (lo hi : Nat) (A : Sm (Option Nat)) (D : Bs → Prop) : Prop where
  ok : Sm.Ok A
  has : ∀ k, A.has k = true ↔ D k
  get : ∀ k o, A.get k = some o → ∃ m, o = some m ∧ lo ≤ m ∧ m < hi ∧ MapS TMi w m (stK ps l k)
theorem AllI.nil (ps : List Prt) (l : List Alt) (w : World) (lo hi : Nat) : AllI ps l w lo hi [] (fun _ => False) := ⟨Sm.Ok.nil, fun k => ⟨fun h => (by cases h), False.elim⟩, fun k o h => (by cases h)⟩
theorem AllI.congr {ps : List Prt} {l : List Alt} {w : World} {lo hi : Nat} {A : Sm (Option Nat)} {D D' : Bs → Prop} (h : AllI ps l w lo hi A D) (he : ∀ k, D' k ↔ D k) : AllI ps l w lo hi A D' := ⟨h.ok, fun k => (h.has k).trans (he k).symm, h.get⟩
theorem AllI.gr {ps : List Prt} {l : List Alt} {w w' : World} {lo hi s : Nat} {A : Sm (Option Nat)} {D : Bs → Prop} (h : AllI ps l w lo hi A D) (hg : w.grownBy w' (some s)) (hs : s < lo ∨ hi ≤ s) : AllI ps l w' lo hi A D :=
  ⟨h.ok, h.has, fun k o q => by
    obtain ⟨m, h1, h2, h3, h4⟩ := h.get k o q
    exact ⟨m, h1, h2, h3, h4.kept hg fun e => by injection e with e; omega⟩⟩
theorem AllI.low {ps : List Prt} {l : List Alt} {w w' : World} {lo hi : Nat} {A : Sm (Option Nat)} {D : Bs → Prop} (h : AllI ps l w lo hi A D) (hb : Below w.heap.size w w') : AllI ps l w' lo hi A D :=
  ⟨h.ok, h.has, fun k o q => by
    obtain ⟨m, h1, h2, h3, h4⟩ := h.get k o q
    exact ⟨m, h1, h2, h3, h4.below hb⟩⟩
theorem AllI.put {ps : List Prt} {l : List Alt} {w : World} {lo hi m : Nat} {A : Sm (Option Nat)} {D : Bs → Prop} (h : AllI ps l w lo hi A D) (k : Bs) (h1 : lo ≤ m) (h2 : m < hi) (hM : MapS TMi w m (stK ps l k)) : AllI ps l w lo hi (A.put k (some m)) (fun j => D j ∨ j = k) := by
  refine ⟨h.ok.put _ _, fun j => ?_, fun j o q => ?_⟩
  · by_cases e : j = k
    · subst e
      exact ⟨fun _ => .inr rfl, fun _ => by unfold Sm.has; rw [Sm.get_put_same]; rfl⟩
    · have : (A.put k (some m)).has j = A.has j := by unfold Sm.has; rw [Sm.get_put_other (Ne.symm e)]
      rw [this, h.has]
      exact ⟨.inl, fun q => q.resolve_right e⟩
  · by_cases e : j = k
    · subst e
      rw [Sm.get_put_same] at q
      injection q with q
      exact ⟨m, q.symm, h1, h2, hM⟩
    · rw [Sm.get_put_other (Ne.symm e)] at q
      exact h.get j o q
/-- what is gathered of a group. -/
structure GrpI (ps : List Prt) (l : List Alt) (k : Bs) (left : Lit → Bool) (grp : List Bs) (S : Sm Bool) (seen : List Bs) : Prop where
  nd : grp.Nodup
  mem : ∀ s, s ∈ grp ↔ (stK ps l k).has s = true ∧ left (.string s) = false ∧ inK ps l k s = true
  sn : ∀ s, (S.get s).getD false = decide (s ∈ seen ∨ s ∈ grp)
theorem GrpI.start {ps : List Prt} {l : List Alt} {k : Bs} {left : Lit → Bool} {S : Sm Bool} {seen : List Bs} (hl : left = fun z => Maps.has (DataW.map (smD TMi (stK ps l k))) z) (h : ∀ s, (S.get s).getD false = decide (s ∈ seen)) : GrpI ps l k left [] S seen := by
  subst hl
  refine ⟨List.nodup_nil, fun s => ⟨fun h => (List.not_mem_nil h).elim, fun ⟨h1, h2, _⟩ => ?_⟩, fun s => by rw [h s]; simp⟩
  have h2' : Maps.has (DataW.map (smD TMi (stK ps l k))) (.string s) = false := h2
  rw [smD_has, h1] at h2'
  cases h2'
theorem GrpI.next {ps : List Prt} {l : List Alt} {k x : Bs} {left : Lit → Bool} {grp : List Bs} {S : Sm Bool} {seen : List Bs} (h : GrpI ps l k left grp S seen) (hl : left (.string x) = true) (hx : (stK ps l k).has x = true) :
    (inK ps l k x = true → GrpI ps l k (fun z => left z && !z.sameKey (.string x)) (grp ++ [x]) (S.put x true) seen) ∧ (inK ps l k x = false → GrpI ps l k (fun z => left z && !z.sameKey (.string x)) grp S seen) := by
  have hng : x ∉ grp := fun hm => by have := ((h.mem x).1 hm).2.1; rw [hl] at this; cases this
  have e : ∀ s, (left (.string s) && !(Lit.string s).sameKey (.string x)) = false ↔ left (.string s) = false ∨ s = x := fun s => by
    rw [sm_same]
    by_cases q : s = x <;> simp [q]
  refine ⟨fun hi => ⟨?_, fun s => ?_, fun s => ?_⟩, fun hi => ⟨h.nd, fun s => ?_, h.sn⟩⟩
  · rw [List.nodup_append]
    exact ⟨h.nd, by simp, fun a ha b hb => by rw [List.mem_singleton.1 hb]; exact fun q => hng (q ▸ ha)⟩
  · rw [List.mem_append, List.mem_singleton, h.mem, e]
    constructor
    · rintro (⟨h1, h2, h3⟩ | rfl)
      · exact ⟨h1, .inl h2, h3⟩
      · exact ⟨hx, .inr rfl, hi⟩
    · rintro ⟨h1, h2 | rfl, h3⟩
      · exact .inl ⟨h1, h2, h3⟩
      · exact .inr rfl
  · by_cases q : x = s
    · subst q
      rw [Sm.get_put_same]
      simp
    · rw [Sm.get_put_other q, h.sn, decide_eq_decide, List.mem_append, List.mem_singleton]
      exact ⟨fun g => g.imp id .inl, fun g => g.imp id fun g => g.resolve_right (Ne.symm q)⟩
  · rw [h.mem, e]
    constructor
    · rintro ⟨h1, h2, h3⟩; exact ⟨h1, .inl h2, h3⟩
    · rintro ⟨h1, h2 | rfl, h3⟩
      · exact ⟨h1, h2, h3⟩
      · rw [hi] at h3; cases h3
theorem GrpI.stop {ps : List Prt} {l : List Alt} {k : Bs} {left : Lit → Bool} {grp : List Bs} {S : Sm Bool} {seen : List Bs} (hc : catsF ps l = 0) (hk : nextL l k ≠ []) (h : GrpI ps l k left grp S seen) (hl : ∀ z, left z = false) :
    grp.length = (memK ps l k).length ∧ grp.mergeSort leB = memK ps l k ∧ ∀ s, (S.get s).getD false = decide (s ∈ seen ++ memK ps l k) := by
  have hs := memK_srt hc hk
  have hm : ∀ s, s ∈ grp ↔ s ∈ memK ps l k := fun s => by
    rw [h.mem]
    unfold memK
    rw [List.mem_filter, ← Sm.has_iff]
    exact ⟨fun q => ⟨q.1, q.2.2⟩, fun q => ⟨q.1, hl _, q.2⟩⟩
  have hp : grp.Perm (memK ps l k) := (List.perm_ext_iff_of_nodup h.nd hs.nodup).2 hm
  refine ⟨hp.length_eq, hs.sort hp, fun s => ?_⟩
  rw [h.sn, decide_eq_decide, List.mem_append, hm]
def GroupsR (ps : List Prt) (l : List Alt) (B : Nat) (F : Int) (e : Ending) (w' : World) : Prop := ∃ v hs out, e = .returned (.tuple #[v, .int .i64 F]) ∧ OwnG w' B v hs out ∧ (F = 0 → ∃ ks, (∀ k, k ∈ ks ↔ nextL l k ≠ []) ∧ Srt ks ∧ out = (grpL (memK ps l) ⟨[], []⟩ ks).out) ∧ (F ≠ 0 → out = [])
theorem GroupsR.mk {ps : List Prt} {l : List Alt} {B : Nat} {F : Int} {w' : World} {v : Value} (hs : List Hdr) (out : List (List Bs)) (h1 : OwnG w' B v hs out) (h2 : F = 0 → ∃ ks, (∀ k, k ∈ ks ↔ nextL l k ≠ []) ∧ Srt ks ∧ out = (grpL (memK ps l) ⟨[], []⟩ ks).out) (h3 : F ≠ 0 → out = []) : GroupsR ps l B F (.returned (.tuple #[v, .int .i64 F])) w' := ⟨v, hs, out, rfl, h1, h2, h3⟩
end Go.Proofs.YtjegfebolhjghaaGreatDoor
namespace Go.Proofs.YtjegfebolhjghaaGreatDoor
open Go.RowKit Go.Sort
theorem baC_bsOf (b : ByteArray) : baOf (bsOf b) = b := by unfold baOf bsOf; simp
theorem bsC_inj {a b : ByteArray} (h : bsOf a = bsOf b) : a = b := by rw [← baC_bsOf a, h, baC_bsOf]
theorem hasP_of {ps : List Prt} {k : ByteArray} (h : bsOf k ∈ keysP ps) : hasP ps k = true := by
  obtain ⟨x, hx, he⟩ := List.mem_map.1 h
  have h2 : x.1 = k := by rw [← baC_bsOf x.1, he, baC_bsOf]
  unfold hasP
  exact List.any_eq_true.2 ⟨x, hx, by rw [h2]; simp⟩
theorem known0 {ps : List Prt} {l : List Alt} (h : catsF ps l = 0) {ks : List ByteArray} (hk : ∀ k ∈ ks, bsOf k ∈ keysP ps) : knownF ps l ks = 0 := by
  unfold knownF
  rw [if_neg (by simp [h]), if_pos (List.all_eq_true.2 fun k hk2 => hasP_of (hk k hk2))]
theorem known1 {ps : List Prt} {l : List Alt} (h : catsF ps l = 0) {k : ByteArray} (hk : bsOf k ∈ keysP ps) : knownF ps l [k] = 0 :=
  known0 h fun k2 h2 => by rw [List.mem_singleton.1 h2]; exact hk
theorem known2 {ps : List Prt} {l : List Alt} (h : catsF ps l = 0) {a b : ByteArray} (ha : bsOf a ∈ keysP ps) (hb : bsOf b ∈ keysP ps) : knownF ps l [a, b] = 0 :=
  known0 h fun k2 h2 => by
    rcases List.mem_cons.1 h2 with rfl | h3
    · exact ha
    · rw [List.mem_singleton.1 h3]; exact hb
theorem keys_in {ps : List Prt} {x : Prt} (h : x ∈ ps) : bsOf x.1 ∈ keysP ps := List.mem_map.2 ⟨x, h, rfl⟩
theorem dirS_0 {ps : List Prt} {l : List Alt} (h : catsF ps l = 0) {k : ByteArray} (hk : bsOf k ∈ keysP ps) : dirS ps l k = (nextL l (bsOf k)).map baOf := by unfold dirS; rw [if_pos (known1 h hk)]
theorem allS_0 {ps : List Prt} {l : List Alt} (h : catsF ps l = 0) {k : ByteArray} (hk : bsOf k ∈ keysP ps) : allS ps l k = (allB ps l (bsOf k)).map baOf := by unfold allS; rw [if_pos (known1 h hk)]
theorem allB_len {ps : List Prt} {l : List Alt} (h : catsF ps l = 0) {a : Bs} (ha : a ∈ keysP ps) : (allB ps l a).length ≤ ps.length := by
  obtain ⟨j, h1, _, h3, h4⟩ := bfsR_law (nextL l) a (keysP ps) ha fun p s hs => (next_in h hs).2.1
  have h5 : (allB ps l a).Nodup := by
    unfold allB
    exact Sm.keys_nodup (h1.ok.del _)
  have h6 := List.Nodup.length_le_of_subset h5 (l₂ := keysP ps) fun s hs => by
    have := ((allB_mem h ha s).1 hs).2
    exact h3 s ((h1.mem s).1 ((h4 s).2 this))
  have h7 : (keysP ps).length = ps.length := List.length_map _
  omega
theorem has_map {L : List Bs} {k : ByteArray} : Lib.containsS (L.map baOf) k = decide (bsOf k ∈ L) := by
  rw [Bool.eq_iff_iff, Lib.containsS_iff, decide_eq_true_eq, List.mem_map]
  constructor
  · rintro ⟨s, hs, rfl⟩
    rw [bsOf_baOf]
    exact hs
  · intro h
    exact ⟨_, h, baC_bsOf k⟩
/-- a key of a part, with its place. -/
def VKy (ps : List Prt) : Value → World → Prop := fun v _ => ∃ x ∈ ps, v = .string x.1
/-- the answer of a call that gives a list of keys. -/
def VDr (L : List ByteArray) : Value → World → Prop := fun v w => ∃ v', v = .tuple #[v', .int .i64 0] ∧ RecR TS w 0 v' L
def VLs (L : List ByteArray) : Value → World → Prop := fun v w => RecR TS w 0 v L
theorem VDr.low {L : List ByteArray} {v : Value} {w w' : World} (h : VDr L v w) (hb : Below w.heap.size w w') : VDr L v w' := by
  obtain ⟨v', h1, h2⟩ := h
  exact ⟨v', h1, h2.below hb⟩
/-- the catalogue of a law: its box and what it holds. -/
structure CatB (w : World) (C B : Nat) (vp va : Value) (ps : List Prt) (l : List Alt) : Prop where
  c : w.heap[C]? = some (.cells #[vp, va] 29 (0, 0))
  p : OwnR TPt w B vp ps
  a : OwnR TAl w B va l
theorem CatB.low {w w' : World} {C B : Nat} {vp va : Value} {ps : List Prt} {l : List Alt} (h : CatB w C B vp va ps l) (hb : Below w.heap.size w w') : CatB w' C B vp va ps l := ⟨blk_below h.c hb, h.p.below hb, h.a.below hb⟩
theorem CatB.gr {w w' : World} {C B s : Nat} {vp va : Value} {ps : List Prt} {l : List Alt} (h : CatB w C B vp va ps l) (hC : C ≠ s) (hs : s < B) (hb : w.grownBy w' (some s)) : CatB w' C B vp va ps l := ⟨Gr.blk hb h.c hC, h.p.grown hb hs, h.a.grown hb hs⟩
theorem CatB.r {w : World} {C B : Nat} {vp va : Value} {ps : List Prt} {l : List Alt} (h : CatB w C B vp va ps l) : CatR w vp va ps l := ⟨h.p.rec0, h.a.rec0⟩
end Go.Proofs.YtjegfebolhjghaaGreatDoor
