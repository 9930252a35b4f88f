/- Texts of the proof of a law, put together, part 35 of 41. Conditions: none beyond those that each theorem names. -/
import Derived.Test.YtihgnpobkpnipaaGreatDoorQz21
import Derived.Test.YtihgnpobkpnipaaGreatDoorQz34
import Derived.Maps.OwnSet
namespace Go.Proofs.YtihgnpobkpnipaaGreatDoor
open Go.RowKit Go.Sort Go.Maps
/-! what the groups hold: plainly -/
def stK (ps : List Prt) (l : List Alt) (k : Bs) : Sm Int := (bfsR (nextL l) k (keysP ps)).st
def inK (ps : List Prt) (l : List Alt) (k s : Bs) : Bool := decide (nextL l s ≠ []) && (stK ps l s).has k
def memK (ps : List Prt) (l : List Alt) (k : Bs) : List Bs := (stK ps l k).keys.filter fun s => inK ps l k s
theorem stK_ok {ps : List Prt} {l : List Alt} (h : catsF ps l = 0) {k : Bs} (hk : k ∈ keysP ps) : Sm.Ok (stK ps l k) ∧ (∀ s, (stK ps l k).has s = true ↔ Rch (nextL l) k s) ∧ (∀ s, (stK ps l k).has s = true → s ∈ keysP ps) ∧ (stK ps l k).length ≤ ps.length := by
  obtain ⟨j, h1, _, h3, h4⟩ := bfsR_law (nextL l) k (keysP ps) hk fun p s hs => (next_in h hs).2.1
  refine ⟨h1.ok, h4, fun s hs => h3 s ((h1.mem s).1 hs), ?_⟩
  have h5 : (stK ps l k).length = _ := bf_len h1
  have h6 := List.Nodup.length_le_of_subset h1.nd h3
  have h7 : (keysP ps).length = ps.length := List.length_map _
  omega
theorem memK_srt {ps : List Prt} {l : List Alt} (h : catsF ps l = 0) {k : Bs} (hk : nextL l k ≠ []) : Srt (memK ps l k) := by
  obtain ⟨t, ht⟩ := List.exists_mem_of_ne_nil _ hk
  obtain ⟨h1, _⟩ := stK_ok h (next_in h ht).1
  exact (Srt.of_sort (Sm.keys_sorted h1) (Sm.keys_nodup h1)).filter _
/-! maps of maps, rows of rows -/
theorem keysM_any (gm : Nat) (W : World) : Calls Tryz.prog 77 #[.map (some gm)] W fun e w' => e = .returned (.func (.func 115) #[] #[.pointer (some ⟨W.heap.size, 0, none⟩)]) ∧ w' = W.alloc (.cells #[.map (some gm)] 133) :=
  callsIn_wide.1 (Tryz.maps_Keys_77 (some gm) W)
theorem sortedM_any (b : Nat) (m : Sm (Option Nat)) (w : World) (hown : MapS TMm w b m) (hmax : m.length ≤ 100000000) :
    Calls Tryz.prog 76 #[.func (.func 115) #[] #[.pointer (some ⟨w.heap.size, 0, none⟩)]] (w.alloc (.cells #[.map (some b)] 133)) fun e w' => ∃ (v : Value), e = .returned v ∧ OwnR TS w' w.heap.size v (m.keys.map baOf) ∧ Below w.heap.size w w' := by
  have hsz : Maps.size (DataW.map (smD TMm m)) ≤ 100000000 := by show (smD TMm m).length ≤ _; unfold smD; rw [List.length_map]; exact hmax
  refine (callsIn_wide.1 (Tryz.slices_Sorted_keys_76_77 b _ _ _ w hown.2 (by unfold maxLen; omega) (by omega))).mono ?_
  rintro e w' ⟨v, ss, rfl, hS, hrow, hnil, hb⟩
  rw [smD_keys] at hS
  exact ⟨v, rfl, own_keys hown.1 hS (ownsRow_base_a hrow (by simp)), ((Below.refl _ w).alloc (Nat.le_refl _) _).trans (hb.mono (by simp))⟩
theorem nilLook (w : World) (k : ByteArray) (hk : k.size ≤ maxLen) : (Instr.lookup 126 (.map none) (.string k) true).run Tryz.prog w = .ok (.tuple #[.int .i64 0, .bool false]) w :=
  look_nil (w := w) true strKd TMi.ok.ut (TMi.ok.zv w) (keyS k hk)
def THs : Rty Hdr := { e := 45, S := 59, k := 1, b := 24, z := .slice none 0 0, f := fun h => [hdrV h] }
theorem THs.ok : THs.Ok := ⟨by kernel_rfl, Tryz.underlying59, rfl, by decide, fun _ => rfl, fun x u hu => by simp [THs] at hu; subst hu; rfl, by decide⟩
/-- rows of rows that the call owns. -/
structure OwnG (w : World) (B : Nat) (v : Value) (hs : List Hdr) (G : List (List Bs)) : Prop where
  own : OwnR THs w B v hs
  len : hs.length = G.length
  row : ∀ (i : Nat) (h : Hdr) (g : List Bs), hs[i]? = some h → G[i]? = some g → OwnR TS w B (hdrV h) (g.map baOf)
theorem map_offR {α U : Type} {T : Mty α} {S : Rty U} {w w' : World} {b B : Nat} {l : Sm α} {v : Value} {m : List U} (h : MapS T w b l) (hO : OwnR S w B v m) (hg : w.grownBy w' v.ownBlock) : MapS T w' b l := by
  refine h.kept hg fun e => ?_
  obtain ⟨_, cur, hc⟩ := (ownR_k S B).blk hO e.symm
  exact h.noCells cur _ hc
theorem OwnG.nil (w : World) (B : Nat) : OwnG w B (.slice none 0 0) [] [] := ⟨OwnR.nil _ _, rfl, fun i h g hh => by simp at hh⟩
theorem OwnG.gr {w w' : World} {B s : Nat} {v : Value} {hs : List Hdr} {G : List (List Bs)} (h : OwnG w B v hs G) (hg : w.grownBy w' (some s)) (hn : ∀ cs t, w.heap[s]? ≠ some (.cells cs t (0, 0))) : OwnG w' B v hs G := by
  have k : ∀ {α : Type} {T : Rty α} {v : Value} {l : List α}, OwnR T w B v l → OwnR T w' B v l := fun {α T v l} q => (ownR_k T B).keep q fun j hj => by
    obtain ⟨_, cur, hc⟩ := (ownR_k T B).blk q hj
    exact hg.block j (blk_lt hc) fun e => by injection e with e; subst e; exact hn _ _ hc
  exact ⟨k h.own, h.len, fun i a b h1 h2 => k (h.row i a b h1 h2)⟩
theorem OwnG.snoc {w w' : World} {B : Nat} {v v' : Value} {hs : List Hdr} {G : List (List Bs)} {hd : Hdr} {g : List Bs} (h : OwnG w B v hs G) (hg : w.grownBy w' v.ownBlock) (hO : OwnR THs w' B v' (hs ++ [hd])) (hr : OwnR TS w B (hdrV hd) (g.map baOf)) : OwnG w' B v' (hs ++ [hd]) (G ++ [g]) := by
  refine ⟨hO, by rw [List.length_append, List.length_append, h.len]; rfl, fun i a b h1 h2 => ?_⟩
  have hk : ∀ {v2 : Value} {l : List ByteArray}, OwnR TS w B v2 l → OwnR TS w' B v2 l := fun q => ownR_off q h.own (by decide) hg
  by_cases e : i < hs.length
  · rw [List.getElem?_append_left e] at h1
    rw [List.getElem?_append_left (by rw [← h.len]; exact e)] at h2
    exact hk (h.row i a b h1 h2)
  · rw [List.getElem?_append_right (by omega)] at h1
    rw [List.getElem?_append_right (by rw [← h.len]; omega)] at h2
    rw [h.len] at h1
    generalize i - G.length = j at h1 h2
    cases j with
    | zero =>
      injection h1 with h1
      injection h2 with h2
      subst h1 h2
      exact hk hr
    | succ j => simp at h1
theorem OwnG.low {w w' : World} {B : Nat} {v : Value} {hs : List Hdr} {G : List (List Bs)} (h : OwnG w B v hs G) (hb : Below w.heap.size w w') : OwnG w' B v hs G := ⟨h.own.below hb, h.len, fun i a b h1 h2 => (h.row i a b h1 h2).below hb⟩
theorem OwnG.base {w : World} {B B' : Nat} {v : Value} {hs : List Hdr} {G : List (List Bs)} (h : OwnG w B v hs G) (hb : B' ≤ B) : OwnG w B' v hs G := ⟨h.own.base hb, h.len, fun i a b h1 h2 => (h.row i a b h1 h2).base hb⟩
/-- a row behind all of them turns. -/
theorem OwnG.sorted {w0 w w' : World} {B : Nat} {v gv : Value} {hs : List Hdr} {G : List (List Bs)} {l : List ByteArray} (h : OwnG w B v hs G) (h0 : OwnG w0 B v hs G) (hO : OwnR TS w w0.heap.size gv l) (hg : w.grownBy w' gv.ownBlock) : OwnG w' B v hs G := by
  have k : ∀ {α : Type} {T : Rty α} {u : Value} {m : List α}, OwnR T w0 B u m → OwnR T w B u m → OwnR T w' B u m := fun {α T u m} q0 q => (ownR_k T B).keep q fun j hj => by
    obtain ⟨_, cur, hc⟩ := (ownR_k T B).blk q hj
    obtain ⟨_, cur0, hc0⟩ := (ownR_k T B).blk q0 hj
    refine hg.block j (blk_lt hc) fun e => ?_
    have := ((ownR_k TS _).blk hO e.symm).1
    have := blk_lt hc0
    omega
  exact ⟨k h0.own h.own, h.len, fun i a b h1 h2 => k (h0.row i a b h1 h2) (h.row i a b h1 h2)⟩
/-- something newer turns. -/
theorem Gr.step {a w w' : World} {s r : Nat} (h : a.grownBy w (some s)) (hg : w.grownBy w' (some r)) (hr : a.heap.size ≤ r) : a.grownBy w' (some s) :=
  ⟨hg.os.trans h.os, hg.tape.trans h.tape, hg.output.trans h.output, Nat.le_trans h.size hg.size, fun i hi hn => (hg.block i (Nat.lt_of_lt_of_le hi h.size) (by intro e; injection e with e; omega)).trans (h.block i hi hn)⟩
/-- the map of all that is reached: one map by each key. -/
structure AllI (ps : List Prt) (l : List Alt) (w : World) (lo hi : Nat) (A : Sm (Option Nat)) (D : Bs → Prop) : Prop where
  ok : Sm.Ok A
  has : ∀ k, A.has k = true ↔ D k
  get : ∀ k o, A.get k = some o → ∃ m, o = some m ∧ lo ≤ m ∧ m < hi ∧ MapS TMi w m (stK ps l k)
theorem AllI.nil (ps : List Prt) (l : List Alt) (w : World) (lo hi : Nat) : AllI ps l w lo hi [] (fun _ => False) := ⟨Sm.Ok.nil, fun k => ⟨fun h => (by cases h), False.elim⟩, fun k o h => (by cases h)⟩
theorem AllI.congr {ps : List Prt} {l : List Alt} {w : World} {lo hi : Nat} {A : Sm (Option Nat)} {D D' : Bs → Prop} (h : AllI ps l w lo hi A D) (he : ∀ k, D' k ↔ D k) : AllI ps l w lo hi A D' := ⟨h.ok, fun k => (h.has k).trans (he k).symm, h.get⟩
theorem AllI.gr {ps : List Prt} {l : List Alt} {w w' : World} {lo hi s : Nat} {A : Sm (Option Nat)} {D : Bs → Prop} (h : AllI ps l w lo hi A D) (hg : w.grownBy w' (some s)) (hs : s < lo ∨ hi ≤ s) : AllI ps l w' lo hi A D :=
  ⟨h.ok, h.has, fun k o q => by
    obtain ⟨m, h1, h2, h3, h4⟩ := h.get k o q
    exact ⟨m, h1, h2, h3, h4.kept hg fun e => by injection e with e; omega⟩⟩
theorem AllI.low {ps : List Prt} {l : List Alt} {w w' : World} {lo hi : Nat} {A : Sm (Option Nat)} {D : Bs → Prop} (h : AllI ps l w lo hi A D) (hb : Below w.heap.size w w') : AllI ps l w' lo hi A D :=
  ⟨h.ok, h.has, fun k o q => by
    obtain ⟨m, h1, h2, h3, h4⟩ := h.get k o q
    exact ⟨m, h1, h2, h3, h4.below hb⟩⟩
theorem AllI.up {ps : List Prt} {l : List Alt} {w : World} {lo hi hi' : Nat} {A : Sm (Option Nat)} {D : Bs → Prop} (h : AllI ps l w lo hi A D) (hh : hi ≤ hi') : AllI ps l w lo hi' A D :=
  ⟨h.ok, h.has, fun k o q => by
    obtain ⟨m, h1, h2, h3, h4⟩ := h.get k o q
    exact ⟨m, h1, h2, Nat.lt_of_lt_of_le h3 hh, h4⟩⟩
theorem AllI.put {ps : List Prt} {l : List Alt} {w : World} {lo hi m : Nat} {A : Sm (Option Nat)} {D : Bs → Prop} (h : AllI ps l w lo hi A D) (k : Bs) (h1 : lo ≤ m) (h2 : m < hi) (hM : MapS TMi w m (stK ps l k)) : AllI ps l w lo hi (A.put k (some m)) (fun j => D j ∨ j = k) := by
  refine ⟨h.ok.put _ _, fun j => ?_, fun j o q => ?_⟩
  · by_cases e : j = k
    · subst e
      exact ⟨fun _ => .inr rfl, fun _ => by unfold Sm.has; rw [Sm.get_put_same]; rfl⟩
    · have : (A.put k (some m)).has j = A.has j := by unfold Sm.has; rw [Sm.get_put_other (Ne.symm e)]
      rw [this, h.has]
      exact ⟨.inl, fun q => q.resolve_right e⟩
  · by_cases e : j = k
    · subst e
      rw [Sm.get_put_same] at q
      injection q with q
      exact ⟨m, q.symm, h1, h2, hM⟩
    · rw [Sm.get_put_other (Ne.symm e)] at q
      exact h.get j o q
/-- what is gathered of a group. -/
structure GrpI (ps : List Prt) (l : List Alt) (k : Bs) (left : Lit → Bool) (grp : List Bs) (S : Sm Bool) (seen : List Bs) : Prop where
  nd : grp.Nodup
  mem : ∀ s, s ∈ grp ↔ (stK ps l k).has s = true ∧ left (.string s) = false ∧ inK ps l k s = true
  sn : ∀ s, (S.get s).getD false = decide (s ∈ seen ∨ s ∈ grp)
theorem GrpI.start {ps : List Prt} {l : List Alt} {k : Bs} {left : Lit → Bool} {S : Sm Bool} {seen : List Bs} (hl : left = fun z => Maps.has (DataW.map (smD TMi (stK ps l k))) z) (h : ∀ s, (S.get s).getD false = decide (s ∈ seen)) : GrpI ps l k left [] S seen := by
  subst hl
  refine ⟨List.nodup_nil, fun s => ⟨fun h => (List.not_mem_nil h).elim, fun ⟨h1, h2, _⟩ => ?_⟩, fun s => by rw [h s]; simp⟩
  have h2' : Maps.has (DataW.map (smD TMi (stK ps l k))) (.string s) = false := h2
  rw [smD_has, h1] at h2'
  cases h2'
theorem GrpI.next {ps : List Prt} {l : List Alt} {k x : Bs} {left : Lit → Bool} {grp : List Bs} {S : Sm Bool} {seen : List Bs} (h : GrpI ps l k left grp S seen) (hl : left (.string x) = true) (hx : (stK ps l k).has x = true) :
    (inK ps l k x = true → GrpI ps l k (fun z => left z && !z.sameKey (.string x)) (grp ++ [x]) (S.put x true) seen) ∧ (inK ps l k x = false → GrpI ps l k (fun z => left z && !z.sameKey (.string x)) grp S seen) := by
  have hng : x ∉ grp := fun hm => by have := ((h.mem x).1 hm).2.1; rw [hl] at this; cases this
  have e : ∀ s, (left (.string s) && !(Lit.string s).sameKey (.string x)) = false ↔ left (.string s) = false ∨ s = x := fun s => by
    rw [sm_same]
    by_cases q : s = x <;> simp [q]
  refine ⟨fun hi => ⟨?_, fun s => ?_, fun s => ?_⟩, fun hi => ⟨h.nd, fun s => ?_, h.sn⟩⟩
  · rw [List.nodup_append]
    exact ⟨h.nd, by simp, fun a ha b hb => by rw [List.mem_singleton.1 hb]; exact fun q => hng (q ▸ ha)⟩
  · rw [List.mem_append, List.mem_singleton, h.mem, e]
    constructor
    · rintro (⟨h1, h2, h3⟩ | rfl)
      · exact ⟨h1, .inl h2, h3⟩
      · exact ⟨hx, .inr rfl, hi⟩
    · rintro ⟨h1, h2 | rfl, h3⟩
      · exact .inl ⟨h1, h2, h3⟩
      · exact .inr rfl
  · by_cases q : x = s
    · subst q
      rw [Sm.get_put_same]
      simp
    · rw [Sm.get_put_other q, h.sn, decide_eq_decide, List.mem_append, List.mem_singleton]
      exact ⟨fun g => g.imp id .inl, fun g => g.imp id fun g => g.resolve_right (Ne.symm q)⟩
  · rw [h.mem, e]
    constructor
    · rintro ⟨h1, h2, h3⟩; exact ⟨h1, .inl h2, h3⟩
    · rintro ⟨h1, h2 | rfl, h3⟩
      · exact ⟨h1, h2, h3⟩
      · rw [hi] at h3; cases h3
theorem GrpI.stop {ps : List Prt} {l : List Alt} {k : Bs} {left : Lit → Bool} {grp : List Bs} {S : Sm Bool} {seen : List Bs} (hc : catsF ps l = 0) (hk : nextL l k ≠ []) (h : GrpI ps l k left grp S seen) (hl : ∀ z, left z = false) :
    grp.length = (memK ps l k).length ∧ grp.mergeSort leB = memK ps l k ∧ ∀ s, (S.get s).getD false = decide (s ∈ seen ++ memK ps l k) := by
  have hs := memK_srt hc hk
  have hm : ∀ s, s ∈ grp ↔ s ∈ memK ps l k := fun s => by
    rw [h.mem]
    unfold memK
    rw [List.mem_filter, ← Sm.has_iff]
    exact ⟨fun q => ⟨q.1, q.2.2⟩, fun q => ⟨q.1, hl _, q.2⟩⟩
  have hp : grp.Perm (memK ps l k) := (List.perm_ext_iff_of_nodup h.nd hs.nodup).2 hm
  refine ⟨hp.length_eq, hs.sort hp, fun s => ?_⟩
  rw [h.sn, decide_eq_decide, List.mem_append, hm]
def GroupsR (ps : List Prt) (l : List Alt) (B : Nat) (F : Int) (e : Ending) (w' : World) : Prop := ∃ v hs out, e = .returned (.tuple #[v, .int .i64 F]) ∧ OwnG w' B v hs out ∧ (F = 0 → ∃ ks, (∀ k, k ∈ ks ↔ nextL l k ≠ []) ∧ Srt ks ∧ out = (grpL (memK ps l) ⟨[], []⟩ ks).out) ∧ (F ≠ 0 → out = [])
theorem GroupsR.mk {ps : List Prt} {l : List Alt} {B : Nat} {F : Int} {w' : World} {v : Value} (hs : List Hdr) (out : List (List Bs)) (h1 : OwnG w' B v hs out) (h2 : F = 0 → ∃ ks, (∀ k, k ∈ ks ↔ nextL l k ≠ []) ∧ Srt ks ∧ out = (grpL (memK ps l) ⟨[], []⟩ ks).out) (h3 : F ≠ 0 → out = []) : GroupsR ps l B F (.returned (.tuple #[v, .int .i64 F])) w' := ⟨v, hs, out, rfl, h1, h2, h3⟩
theorem seenPut {U : List Bs} {S : Sm Bool} (h : ∀ p ∈ S, p.1 ∈ U) {s : Bs} (hs : s ∈ U) (b : Bool) : ∀ p ∈ S.put s b, p.1 ∈ U := fun p hp => by
  rcases (Sm.ins_mem p).1 hp with rfl | hp
  · exact hs
  · exact h p (List.mem_filter.1 hp).1
theorem seenFew {ps : List Prt} {S : Sm Bool} (ho : Sm.Ok S) (h : ∀ p ∈ S, p.1 ∈ keysP ps) : S.length ≤ ps.length := by
  have h1 := List.Nodup.length_le_of_subset (Sm.keys_nodup ho) (l₂ := keysP ps) fun k hk => by
    obtain ⟨p, hp, rfl⟩ := List.mem_map.1 hk
    exact h p hp
  have h2 : (keysP ps).length = ps.length := List.length_map _
  rw [keys_len, h2] at h1
  exact h1
theorem grpL_take (mem : Bs → List Bs) : ∀ (ks : List Bs) (x : Gps) (k : Bs), grpL mem x (ks ++ [k]) = grp1 mem (grpL mem x ks) k
  | [], _, _ => rfl
  | a :: r, x, k => by rw [List.cons_append, grpL, grpL, grpL_take mem r]
theorem grpL_len (mem : Bs → List Bs) : ∀ (ks : List Bs) (x : Gps), (grpL mem x ks).out.length ≤ x.out.length + ks.length
  | [], _ => by simp [grpL]
  | a :: r, x => by
    rw [grpL]
    have h := grpL_len mem r (grp1 mem x a)
    have h2 : (grp1 mem x a).out.length ≤ x.out.length + 1 := by
      unfold grp1
      split
      · omega
      · simp only
        split
        · simp
        · omega
    rw [List.length_cons]
    omega
set_option maxHeartbeats 16000000 in
set_option maxRecDepth 100000 in
theorem Groups_any (ps : List Prt) (l : List Alt) (vp va : Value) (w : World) (hl : ps.length ≤ 100000) (hl2 : l.length ≤ 100000) (hz : PrtZ ps) (hz2 : AltZ l) (hc : CatR w vp va ps l) :
    Calls Tryz.prog 30 #[.agg #[vp, va]] w fun e w' => GroupsR ps l w.heap.size (catsF ps l) e w' ∧ Below w.heap.size w w' := by
  have HCC := Lib.hid fun W (hW : Below w.heap.size w W) => CheckCatalogue_any ps l vp va W (by omega) (by omega) hz hz2 (hc.low hW)
  have HBP := Lib.hid fun W (hW : Below w.heap.size w W) => byPart_any ps l vp va W hl2 hz2 (hc.low hW)
  obtain ⟨pa, pc, rfl, _, _⟩ := hc.p.form
  obtain ⟨aa, ac, rfl, _, _⟩ := hc.a.form
  have hmm := @run_makeMap Tryz.prog
  obtain ⟨w2, hw2⟩ : ∃ w2, w2 = w.alloc (.cells #[.slice pa ps.length pc, .slice aa l.length ac] 29) := ⟨_, rfl⟩
  have hA2 : Below w.heap.size w w2 := by rw [hw2]; exact Bl.alloc (Below.refl _ _) _
  have h3 : w2.heap[w.heap.size]? = some (.cells #[.slice pa ps.length pc, .slice aa l.length ac] 29 (0, 0)) := by rw [hw2]; exact blk_new w _
  obtain ⟨K, hK⟩ : ∃ K, K = catsF ps l := ⟨_, rfl⟩
  have HK0 := HCC.out w2 hA2
  rw [← hK] at HK0 ⊢
  have HK := Lib.hid HK0
  have HW2 := Lib.hid hw2
  have HX := Lib.hid h3
  have HA2 := Lib.hid hA2
  have HZP := Lib.hid (keysP_size hz)
  have HKE := Lib.hid hK
  clear hw2 h3 hA2 hK HK0 HCC hc hz hz2
  go_enter Tryz.func30, Tryz.ntmps30
  go_wp2_with fail
  rw [← HW2.out]
  refine HK.out.mono ?_
  rintro e w3 ⟨rfl, hb3⟩
  have HB3 := Lib.hid (Bl.trans HA2.out hb3)
  have hx3 := blk_below HX.out hb3
  have c0 : w3.cell? ⟨w.heap.size, 0, none⟩ = some (.slice pa ps.length pc) := blk_cell hx3 0
  have c1 : w3.cell? ⟨w.heap.size, 1, none⟩ = some (.slice aa l.length ac) := blk_cell hx3 1
  clear hb3 hx3
  by_cases h0 : K = 0
  case neg =>
    have HN0 := Lib.hid h0
    have h0' : (K != 0) = true := by simpa using h0
    go_wp2
    go_ret2
    exact ⟨GroupsR.mk [] [] (OwnG.nil _ _) (fun h => absurd h HN0.out) (fun _ => rfl), HB3.out⟩
  have HCA : Hid (catsF ps l = 0) := Lib.hid (HKE.out.symm.trans h0)
  subst h0
  have HBY := Lib.hid (HBP.out w3 HB3.out)
  clear HBP
  go_wp2_with fail
  refine HBY.out.mono ?_
  rintro e w5 ⟨⟨b1, F, rfl, _, hN⟩, hb5⟩
  have HB5 := Lib.hid (Bl.trans HB3.out hb5)
  have HN := Lib.hid hN
  have hblt : b1 < w5.heap.size := hN.by'.map.lt
  obtain ⟨ab, hab⟩ : ∃ ab, ab = w5.heap.size := ⟨_, rfl⟩
  have HAB := Lib.hid hab
  have hM5 : MapS TMm (w5.alloc (.map #[] 0)) ab [] := by rw [hab]; exact MapS.made w5
  have hbA : Below w5.heap.size w5 (w5.alloc (.map #[] 0)) := Bl.alloc (Below.refl _ _) _
  obtain ⟨w6, hw6⟩ : ∃ w6, w6 = w5.alloc (.map #[] 0) := ⟨_, rfl⟩
  rw [← hw6] at hM5 hbA
  have hz6 : w6.heap.size = ab + 1 := by rw [hw6, hab]; simp
  have HM6 := Lib.hid hM5
  have HB6 := Lib.hid hbA
  have HZ6 := Lib.hid hz6
  have hO2 := (hN.low hbA).by'.map.2
  obtain ⟨fl, hfl⟩ : ∃ fl, fl = (hdS F).length := ⟨_, rfl⟩
  rw [← hfl] at hO2
  have HNO : Hid (∀ left : Lit → Bool, left = (fun z => Maps.has (DataW.map (smD TMh (hdS F))) z) → ∀ k, (F.has k = true ∧ left (.string k) = false) ↔ False) := Lib.hid fun left h k => by
    subst h
    refine ⟨fun ⟨h1, h2⟩ => ?_, False.elim⟩
    have h2' : Maps.has (DataW.map (smD TMh (hdS F))) (.string k) = false := h2
    rw [smD_has] at h2'
    unfold Sm.has at h1 h2'
    rw [hdS_get, Option.isSome_map, h1] at h2'
    cases h2'
  have HW6 := Lib.hid hw6
  have hbb2 : b1 < ab := by rw [hab]; exact hblt
  clear hw6 hM5 hbA hfl hb5 hN hab hz6 hblt c0 c1
  go_wp2_with (first
    | (at_range; rw [← HW6.out, ← HAB.out]; refine wpList_range_own _ rfl _ 129 rfl 9 45 strKd Tryz.underlying129 _ b1 fl (.map (smD TMh (hdS F))) rfl hO2 ?_; intro w0 hrg0 hg0 hs0)
    | go_in)
  go_frame
  obtain ⟨r, hr⟩ : ∃ r, r = w6.heap.size := ⟨_, rfl⟩
  rw [← hr] at hrg0 ⊢
  have hrbb : ab < r := by rw [hr, HZ6.out]; omega
  have HRE := Lib.hid hr
  have HS0 := Lib.hid hs0
  clear hs0 hr
  go_loopw [] (fun wr => ∃ (A : Sm (Option Nat)) (left : Lit → Bool) (cnt : Nat), wr.ranges Tryz.prog 9 TMh.R b1 r fl (.map (smD TMh (hdS F))) left cnt ∧ Hid (AllI ps l wr (r + 1) wr.heap.size A (fun k => F.has k = true ∧ left (.string k) = false)) ∧ Hid (MapS TMm wr ab A) ∧ Hid (Below ab w5 wr) ∧ r < wr.heap.size) (fun wr => wr.rangeLeft b1 r)
  case atStart => exact ⟨[], _, _, hrg0, Lib.hid ((AllI.nil ps l _ _ _).congr (HNO.out _ rfl)), Lib.hid (HM6.out.below (Gr.below_none hg0)), Lib.hid (by rw [HAB.out]; exact Bl.trans HB6.out (Gr.below_none hg0)), by have := HS0.out; have := HRE.out; omega⟩
  case round =>
    obtain ⟨A, left, cnt, hrg, HAI, HM2, HB2, hsz⟩ := hrel
    go_wp2_with (first
      | (at_next; refine next_g TMh.ok rfl _ rfl rfl hrg ?_ ?_)
      | go_in)
    · intro _ hl0
      have hAE : ∀ k, A.has k = true ↔ nextL l k ≠ [] := fun k => by
        rw [HAI.out.has, hl0, ← HN.out.has k]
        exact ⟨fun h => h.1, fun h => ⟨h, rfl⟩⟩
      have HAE := Lib.hid hAE
      have HKS : Hid (∀ k, k ∈ A.keys ↔ nextL l k ≠ []) := Lib.hid fun k => by rw [← Sm.has_iff]; exact hAE k
      have HSR : Hid (Srt A.keys) := Lib.hid (Srt.of_sort (Sm.keys_sorted HAI.out.ok) (Sm.keys_nodup HAI.out.ok))
      have hAL : A.length ≤ ps.length := by
        have h1 := List.Nodup.length_le_of_subset (Sm.keys_nodup HAI.out.ok) (l₂ := keysP ps) fun k hk => by
          obtain ⟨s, hs⟩ := List.exists_mem_of_ne_nil _ ((HKS.out k).1 hk)
          exact (next_in HCA.out hs).1
        have h2 : (keysP ps).length = ps.length := List.length_map _
        rw [keys_len, h2] at h1
        exact h1
      have HBW := Lib.hid (show Below w.heap.size w wr from HB5.out.trans (HB2.out.mono (by rw [HAB.out]; exact HB5.out.size)))
      have hG0 := HAI.out
      -- the map of what has been seen
      obtain ⟨sb, hsb⟩ : ∃ sb, sb = wr.heap.size := ⟨_, rfl⟩
      obtain ⟨w7, hw7⟩ : ∃ w7, w7 = wr.alloc (.map #[] 0) := ⟨_, rfl⟩
      have hb7 : Below wr.heap.size wr w7 := by rw [hw7]; exact Bl.alloc (Below.refl _ _) _
      have HS7 : Hid (MapS TMb w7 sb []) := Lib.hid (by rw [hw7, hsb]; exact MapS.made wr)
      have HA7 : Hid (AllI ps l w7 (r + 1) sb A (fun k => F.has k = true ∧ left (.string k) = false)) := Lib.hid (by rw [hsb]; exact hG0.low hb7)
      have HM7 := Lib.hid (HM2.out.below hb7)
      have HB7 := Lib.hid (Bl.trans HBW.out hb7)
      have hz7 : w7.heap.size = sb + 1 := by rw [hw7, hsb]; simp
      have HZ7 := Lib.hid hz7
      have hrs : r < sb := by rw [hsb]; exact hsz
      have HSO := Lib.hid (sortedM_any ab A w7 HM7.out (by omega))
      have HW7 := Lib.hid hw7
      have HSB := Lib.hid hsb
      clear hAE hG0 hw7 hb7 hz7 hsb
      go_wp2_with (first
        | (go_at_call 77; rw [← HW7.out, ← HSB.out]; refine (keysM_any ab _).mono ?_; rintro e w1' ⟨rfl, rfl⟩)
        | fail)
      refine HSO.out.mono ?_
      rintro e w9 ⟨kv, rfl, hO9, hb9⟩
      obtain ⟨ka, kc, hkv, _, _⟩ := hO9.form
      obtain ⟨kn, hkn⟩ : ∃ kn, kn = A.keys.length := ⟨_, rfl⟩
      rw [List.length_map, ← hkn] at hkv
      subst hkv
      have HKN := Lib.hid hkn
      have hkl : kn ≤ 100000 := by rw [hkn, keys_len]; omega
      have HS9 := Lib.hid (HS7.out.below hb9)
      have HA9 := Lib.hid (HA7.out.low hb9)
      have HM9 := Lib.hid (HM7.out.below hb9)
      have HB9 := Lib.hid (Bl.trans HB7.out hb9)
      have HO9 := Lib.hid hO9
      have hsb9 : sb < w9.heap.size := by have := hb9.size; have := HZ7.out; omega
      have HW9 := Lib.hid (Nat.le_trans HB7.out.size hb9.size : w.heap.size ≤ w9.heap.size)
      have HSMAP : Hid (∀ W, MapS TMb W sb = MapS TMb W sb) := Lib.hid fun _ => rfl
      clear hO9 hb9 hkn
      go_wp2_with fail
      go_loopw [9, 40] (fun ov jv wr => ∃ (j : Nat) (x : Gps) (S : Sm Bool) (hs : List Hdr), j ≤ kn ∧ jv = .int .i64 j ∧ Hid (x = grpL (memK ps l) ⟨[], []⟩ (A.keys.take j)) ∧ Hid (MapS TMb wr sb S) ∧ Hid (∀ p ∈ S, p.1 ∈ keysP ps) ∧ Hid (∀ s, (S.get s).getD false = decide (s ∈ x.seen)) ∧ Hid (OwnG wr w9.heap.size ov hs x.out) ∧ Hid (w9.grownBy wr (some sb))) (fun _ jv _ => kn - (intOf jv).toNat)
      case atStart => exact ⟨0, ⟨[], []⟩, [], [], Nat.zero_le _, rfl, Lib.hid rfl, HS9, Lib.hid (fun p hp => (List.not_mem_nil hp).elim), Lib.hid (fun s => by simp [Sm.get]), Lib.hid (OwnG.nil _ _), Lib.hid (Gr.refl _ _)⟩
      case round =>
        obtain ⟨j, x, S, hs, hj, rfl, HXE, HSM, HSK, HSN, HOG, HGR⟩ := hrel
        have hoL : x.out.length ≤ 200000 := by
          rw [HXE.out]
          have h1 := grpL_len (memK ps l) (A.keys.take j) ⟨[], []⟩
          rw [List.length_take] at h1
          have h2 : (Gps.mk [] []).out.length = 0 := rfl
          omega
        obtain ⟨oa, oc, hov, _, _⟩ := HOG.out.own.form
        obtain ⟨on, hon⟩ : ∃ on, on = hs.length := ⟨_, rfl⟩
        rw [← hon] at hov
        subst hov
        have HON := Lib.hid hon
        clear hon
        by_cases hlt : j < kn
        · obtain ⟨k, hk⟩ : ∃ k, A.keys[j]? = some k := ⟨_, List.getElem?_eq_getElem (by have := HKN.out; omega)⟩
          have hkne := (HKS.out k).1 (List.mem_of_getElem? hk)
          have HKNE := Lib.hid hkne
          obtain ⟨t0, ht0⟩ := List.exists_mem_of_ne_nil _ hkne
          have hkU := (next_in HCA.out ht0).1
          have HKU := Lib.hid hkU
          have HKS2 : Hid ((baOf k).size ≤ maxLen) := Lib.hid (by rw [baOf_size]; exact HZP.out k hkU)
          have hOk : OwnR TS wr w7.heap.size (.slice ka kn kc) (A.keys.map baOf) := (ownR_k TS _).keep HO9.out fun q hq => by
            obtain ⟨hq1, cur, hc⟩ := (ownR_k TS _).blk HO9.out hq
            exact HGR.out.block q (blk_lt hc) fun e => by injection e with e; have := HZ7.out; omega
          obtain ⟨b3, o3, rfl, _, _, c1⟩ := str_at hOk.rec0 (show (A.keys.map baOf)[j]? = some (baOf k) by rw [List.getElem?_map, hk]; rfl)
          have hlkS := HSM.out.look TMb.ok (baOf k) HKS2.out
          rw [show (baOf k).data.toList = k from bsOf_baOf k] at hlkS
          have hlkS2 : (Instr.lookup 135 (.map (some sb)) (.string (baOf k)) false).run Tryz.prog wr = .ok (.bool (decide (k ∈ x.seen))) wr := by rw [← HSN.out k]; exact hlkS
          have hwj : IntKind.i64.wrap ((j : Int) + 1) = ((j + 1 : Nat) : Int) := by rw [IntWalk.i64_in _ (by omega)]; omega
          have HXN : Hid (grpL (memK ps l) ⟨[], []⟩ (A.keys.take (j + 1)) = grp1 (memK ps l) x k) := Lib.hid (by rw [List.take_add_one, hk, Option.toList_some, grpL_take, ← HXE.out])
          clear hlkS hOk hkne ht0 hk hkU
          by_cases hin : k ∈ x.seen
          · rw [decide_eq_true hin] at hlkS2
            have HXS : Hid (x = grpL (memK ps l) ⟨[], []⟩ (A.keys.take (j + 1))) := Lib.hid (by rw [HXN.out]; unfold grp1; rw [if_pos hin])
            clear hin
            go_wp2
            go_roundw
            case rel => exact ⟨j + 1, x, S, hs, by omega, by go_num, HXS, HSM, HSK, HSN, HOG, HGR⟩
            case measure => simp [intOf]; omega
          · rw [decide_eq_false hin] at hlkS2
            have HNIN := Lib.hid hin
            have hAI : AllI ps l wr (r + 1) sb A (fun k => F.has k = true ∧ left (.string k) = false) := HA9.out.gr HGR.out (.inr (Nat.le_refl _))
            have hMA : MapS TMm wr ab A := HM9.out.kept HGR.out (by intro e; injection e with e; omega)
            obtain ⟨o, ho⟩ : ∃ o, A.get k = some o := Option.isSome_iff_exists.1 ((HAE.out k).2 HKNE.out)
            obtain ⟨mk, rfl, hmk1, hmk2, hMk⟩ := hAI.get k o ho
            have hlkA := hMA.look TMm.ok (baOf k) HKS2.out
            rw [show (baOf k).data.toList = k from bsOf_baOf k, ho] at hlkA
            have hlkA2 : (Instr.lookup 133 (.map (some ab)) (.string (baOf k)) false).run Tryz.prog wr = .ok (.map (some mk)) wr := hlkA
            have hO3 := hMk.2
            obtain ⟨nk, hnk⟩ : ∃ nk, nk = (stK ps l k).length := ⟨_, rfl⟩
            rw [← hnk] at hO3
            have HKF := Lib.hid (stK_ok HCA.out HKU.out)
            have HGS : Hid (∀ left : Lit → Bool, left = (fun z => Maps.has (DataW.map (smD TMi (stK ps l k))) z) → GrpI ps l k left [] S x.seen) := Lib.hid fun left h => GrpI.start h HSN.out
            have HAI2 := Lib.hid hAI
            have HMA2 := Lib.hid hMA
            have HHAE := HAE
            have hwr9 : w9.heap.size ≤ wr.heap.size := HGR.out.size
            obtain ⟨wo, hwo⟩ : ∃ wo : World, wo = wr := ⟨_, rfl⟩
            rw [← hwo] at HSM HOG HGR hlkS2 HAI2 HMA2 hlkA2 hO3 hwr9 c1 ⊢
            clear hin hAI hMA ho hlkA hnk hMk hwo
            go_wp2_with (first
              | (at_range; refine wpList_range_own _ rfl _ 126 rfl 9 3 strKd Tryz.underlying126 _ mk nk (.map (smD TMi (stK ps l k))) rfl hO3 ?_; intro w0' hrg0' hg0' hs0')
              | go_in)
            go_frame
            have HS0' := Lib.hid hs0'
            clear hs0'
            go_loopw [12] (fun gv wr => ∃ (grp : List Bs) (left : Lit → Bool) (cnt : Nat) (S : Sm Bool), wr.ranges Tryz.prog 9 TMi.R mk wo.heap.size nk (.map (smD TMi (stK ps l k))) left cnt ∧ Hid (GrpI ps l k left grp S x.seen) ∧ Hid (MapS TMb wr sb S) ∧ Hid (∀ p ∈ S, p.1 ∈ keysP ps) ∧ Hid (OwnR TS wr wo.heap.size gv (grp.map baOf)) ∧ Hid (wo.grownBy wr (some sb)) ∧ wo.heap.size < wr.heap.size) (fun _ wr => wr.rangeLeft mk wo.heap.size)
            case atStart => exact ⟨[], _, _, S, hrg0', Lib.hid (HGS.out _ rfl), Lib.hid (HSM.out.below (Gr.below_none hg0')), HSK, Lib.hid (OwnR.nil _ _), Lib.hid (Gr.of_below (Gr.below_none hg0') _), by have := HS0'.out; omega⟩
            case round =>
              obtain ⟨grp, left2, cnt2, S2, hrg2, HGI, HSM2, HSK2, HGO, HGR2, hsz2⟩ := hrel
              have HFEW : Hid (grp.length ≤ 100000) := Lib.hid (by
                have h1 := List.Nodup.length_le_of_subset HGI.out.nd (l₂ := keysP ps) fun s hs => HKF.out.2.2.1 s ((HGI.out.mem s).1 hs).1
                have h2 : (keysP ps).length = ps.length := List.length_map _
                omega)
              obtain ⟨ga, gc, hgv, _, _⟩ := HGO.out.form
              obtain ⟨gn, hgn⟩ : ∃ gn, gn = grp.length := ⟨_, rfl⟩
              rw [List.length_map, ← hgn] at hgv
              subst hgv
              have HGN := Lib.hid hgn
              clear hgn
              have hsbo : sb < wo.heap.size := Nat.lt_of_lt_of_le hsb9 hwr9
              go_wp2_with (first
                | (at_next; refine next_g TMi.ok rfl _ rfl rfl hrg2 ?_ ?_)
                | go_in)
              · intro _ hl0
                obtain ⟨e1, e2, e3⟩ := HGI.out.stop HCA.out HKNE.out hl0
                rw [← HGN.out] at e1
                have HE2 := Lib.hid e2
                have HSN2 := Lib.hid e3
                have HEL := Lib.hid e1
                have HX1 : Hid (grp1 (memK ps l) x k = ⟨x.seen ++ memK ps l k, if 1 < (memK ps l k).length then x.out ++ [memK ps l k] else x.out⟩) := Lib.hid (by unfold grp1; rw [if_neg HNIN.out])
                have HOG2 := Lib.hid (HOG.out.gr HGR2.out fun cs t => HSM.out.noCells cs t)
                have HGR3 := Lib.hid (Gr.trans HGR.out HGR2.out)
                have hzz : w9.heap.size ≤ wr.heap.size := HGR3.out.size
                clear e1 e2 e3
                by_cases hg1 : 1 < gn
                · have hg1' : (1 : Int) < (gn : Int) := by omega
                  have HXX : Hid (grpL (memK ps l) ⟨[], []⟩ (A.keys.take (j + 1)) = ⟨x.seen ++ memK ps l k, x.out ++ [memK ps l k]⟩) := Lib.hid (by rw [HXN.out, HX1.out, if_pos (by rw [← HEL.out]; exact hg1)])
                  have HSO3 := Lib.hid (SortC_any grp wo.heap.size (.slice ga gn gc) wr HGO.out (by have := HFEW.out; omega))
                  clear hg1
                  go_wp2_with fail
                  refine HSO3.out.mono ?_
                  rintro e wS ⟨rfl, hs1, hs2⟩
                  rw [HE2.out] at hs1
                  have hgb : ∀ q, (Value.slice ga gn gc).ownBlock = some q → wo.heap.size ≤ q := fun q hq => ((ownR_k TS _).blk HGO.out hq).1
                  have hOG3 : OwnG wS w9.heap.size (.slice oa on oc) hs x.out := HOG2.out.sorted (HOG.out) HGO.out hs2
                  have hSM3 := map_off HSM2.out HGO.out hs2
                  have hGR4 : w9.grownBy wS (some sb) := Gr.appR HGR3.out HGO.out hs2 hwr9
                  have HOW := Lib.hid (hs1.base hwr9)
                  have HOG3 := Lib.hid hOG3
                  have HSM3 := Lib.hid hSM3
                  have HGR5 := Lib.hid hGR4
                  have hzS : w9.heap.size ≤ wS.heap.size := hGR4.size
                  obtain ⟨hd, hhd⟩ := hdr_ofR hs1
                  have HHD := Lib.hid hhd
                  have HLN : Hid (hs.length ≤ 1000000) := Lib.hid (by have h1 : hs.length = x.out.length := hOG3.len; omega)
                  clear hs1 hs2 hOG3 hSM3 hGR4 hhd hgb
                  go_wp2_with (at_builtin; refine wp_app_r THs.ok rfl _ _ rfl w9.heap.size _ hs rfl (HOG3.out.own.alloc _) wS.heap.size 1 hd rfl (blk_new wS _) (by rw [HHD.out]; rfl) HLN.out (by simp; omega) ?_)
                  intro v9 wT hO9 hg9 hbk9
                  have hOGA := HOG3.out.low (Bl.alloc (Below.refl wS.heap.size wS) (.cells #[.slice ga gn gc] 45))
                  have HOGT : Hid (OwnG wT w9.heap.size v9 (hs ++ [hd]) (x.out ++ [memK ps l k])) := Lib.hid (hOGA.snoc hg9 hO9 (by rw [← HHD.out]; exact HOW.out.alloc _))
                  have HSMT : Hid (MapS TMb wT sb S2) := Lib.hid (map_offR (HSM3.out.alloc (.cells #[.slice ga gn gc] 45)) (HOG3.out.own.alloc _) hg9)
                  have HGRT : Hid (w9.grownBy wT (some sb)) := Lib.hid (Gr.appR (Gr.alloc HGR5.out (.cells #[.slice ga gn gc] 45)) (HOG3.out.own.alloc _) hg9 (Nat.le_refl _))
                  clear hO9 hg9 hbk9 hOGA
                  go_wp2
                  go_roundw
                  case rel => exact ⟨j + 1, _, S2, _, by omega, by go_num, Lib.hid HXX.out.symm, HSMT, HSK2, HSN2, HOGT, HGRT⟩
                  case measure => simp [intOf]; omega
                · have hg1' : ¬ (1 : Int) < (gn : Int) := by omega
                  have HXX : Hid (grpL (memK ps l) ⟨[], []⟩ (A.keys.take (j + 1)) = ⟨x.seen ++ memK ps l k, x.out⟩) := Lib.hid (by rw [HXN.out, HX1.out, if_neg (by rw [← HEL.out]; exact hg1)])
                  clear hg1
                  go_wp2
                  go_roundw
                  case rel => exact ⟨j + 1, _, S2, hs, by omega, by go_num, Lib.hid HXX.out.symm, HSM2, HSK2, HSN2, HOG2, HGR3⟩
                  case measure => simp [intOf]; omega
              · intro s y w1' cnt1 hsl hlks hget hrg1 hlt1 hg1 hsz1 hen
                have hSS : (baOf s).size ≤ maxLen := by rw [baOf_size]; exact hsl
                obtain ⟨_, ho2, ho3⟩ := ranges_obj hrg2
                have hgw : wo.grownBy w1' (some sb) := Gr.step HGR2.out hg1 (Nat.le_refl _)
                have hSM1 : MapS TMb w1' sb S2 := HSM2.out.kept hg1 (by intro e; injection e with e; omega)
                have hGO1 : OwnR TS w1' wo.heap.size (.slice ga gn gc) (grp.map baOf) := (ownR_k TS _).keep HGO.out fun q hq => by
                  obtain ⟨_, cur, hc⟩ := (ownR_k TS _).blk HGO.out hq
                  exact hg1.block q (blk_lt hc) fun e => by injection e with e; subst e; exact ho2 _ _ _ hc
                have hAI1 := HAI2.out.gr hgw (.inr (Nat.le_refl _))
                have hMA1 : MapS TMm w1' ab A := HMA2.out.kept hgw (by intro e; injection e with e; omega)
                have hlkA := hMA1.look TMm.ok (baOf s) hSS
                rw [show (baOf s).data.toList = s from bsOf_baOf s] at hlkA
                have HNXT := Lib.hid (HGI.out.next hlks (has_some hget))
                obtain ⟨o, ho⟩ : ∃ o, o = (A.get s).getD none := ⟨_, rfl⟩
                have hlkA3 : (Instr.lookup 133 (.map (some ab)) (.string (baOf s)) false).run Tryz.prog w1' = .ok (.map o) w1' := by rw [ho]; exact hlkA
                obtain ⟨q, hq⟩ : ∃ q, q = inK ps l k s := ⟨_, rfl⟩
                have HLK : Hid (∃ v, (Instr.lookup 126 (.map o) (.string (baOf k)) true).run Tryz.prog w1' = .ok (.tuple #[.int .i64 v, .bool q]) w1') := Lib.hid (by
                  cases hg : A.get s with
                  | none =>
                    rw [hg] at ho
                    have hh : nextL l s = [] := Decidable.byContradiction fun h => by
                      have := (HHAE.out s).2 h
                      unfold Sm.has at this
                      rw [hg] at this; cases this
                    have hq0 : q = false := by rw [hq]; unfold inK; rw [hh]; rfl
                    rw [ho, hq0]
                    exact ⟨0, nilLook w1' (baOf k) HKS2.out⟩
                  | some o' =>
                    rw [hg] at ho
                    obtain ⟨m, rfl, _, _, hMm⟩ := hAI1.get s o' hg
                    have hh : nextL l s ≠ [] := (HHAE.out s).1 (has_some hg)
                    have h1 := hMm.look_ok TMi.ok (baOf k) HKS2.out
                    rw [show (baOf k).data.toList = k from bsOf_baOf k] at h1
                    have hq0 : q = (stK ps l s).has k := by rw [hq]; unfold inK; rw [decide_eq_true hh]; rfl
                    rw [ho, hq0]
                    exact ⟨_, h1⟩)
                obtain ⟨vq, hlkQ⟩ := HLK.out
                rw [← hq] at HNXT
                have hen2 : (Instr.entry (.pointer (some ⟨wo.heap.size, 0, none⟩))).run Tryz.prog w1' = .ok (.tuple #[.string (baOf s), .int .i64 y]) w1' := hen
                have HSM1 := Lib.hid hSM1
                have HGO1 := Lib.hid hGO1
                have HGW := Lib.hid hgw
                have HSSS := Lib.hid hSS
                have HRG := Lib.hid hrg2
                have HLT1 := Lib.hid hlt1
                have HS2L : Hid (S2.length < maxLen) := Lib.hid (by have := seenFew hSM1.1 HSK2.out; unfold maxLen; omega)
                have HSKN := Lib.hid (seenPut HSK2.out (HKF.out.2.2.1 s (has_some hget)) true)
                have hszr : wo.heap.size < w1'.heap.size := by omega
                clear hen ho2 ho3 hgw hSM1 hGO1 hAI1 hMA1 hlkA ho hget hlks hSS hq HLK hlt1 hsz1
                cases q
                · have HGN2 := Lib.hid (HNXT.out.2 rfl)
                  go_wp2
                  go_roundw
                  case rel => exact ⟨grp, _, cnt1, S2, hrg1, HGN2, HSM1, HSK2, HGO1, HGW, hszr⟩
                  case measure => rw [hrg1.left_eq, HRG.out.left_eq]; exact HLT1.out
                · have HGN2 := Lib.hid (HNXT.out.1 rfl)
                  have hgll : (grp.map baOf).length ≤ 1000000 := by have := HFEW.out; rw [List.length_map]; omega
                  have HRG1 := Lib.hid hrg1
                  clear hrg1
                  go_wp2_with (at_builtin; refine wp_app_r TS.ok rfl _ _ rfl wo.heap.size _ (grp.map baOf) rfl (HGO1.out.alloc _) w1'.heap.size 1 (baOf s) rfl (blk_new w1' _) rfl hgll (by simp; omega) ?_)
                  intro v9 w9' hO9 hg9 hbk9
                  have hO9' : OwnR TS w9' wo.heap.size v9 ((grp ++ [s]).map baOf) := by rw [List.map_append]; exact hO9
                  have hrgA := HRG1.out.alloc (.cells #[.string (baOf s)] 9)
                  have hof := range_off hrgA (HGO1.out.alloc (.cells #[.string (baOf s)] 9))
                  have hrg9 := hrgA.kept hg9 hof.1 hof.2
                  have hSM9 : MapS TMb w9' sb S2 := map_off (HSM1.out.alloc (.cells #[.string (baOf s)] 9)) (HGO1.out.alloc _) hg9
                  have hGW9 : wo.grownBy w9' (some sb) := Gr.appR (Gr.alloc HGW.out (.cells #[.string (baOf s)] 9)) (HGO1.out.alloc _) hg9 (Nat.le_refl _)
                  obtain ⟨w10, hr10, hM10, ht10⟩ := hSM9.put TMb.ok (baOf s) HSSS.out true HS2L.out
                  rw [show (baOf s).data.toList = s from bsOf_baOf s] at hM10
                  have hr10' : (Instr.mapUpdate 135 (.map (some sb)) (.string (baOf s)) (.bool true)).run Tryz.prog w9' = .ok () w10 := hr10
                  have HM10 := Lib.hid hM10
                  have HGW10 := Lib.hid (Gr.trans hGW9 ht10.grown)
                  have HO10 := Lib.hid (ownR_offM hO9' hSM9 ht10.grown)
                  have hrg10 := hrg9.kept ht10.grown (by intro e; injection e with e; omega) (by intro e; injection e with e; omega)
                  have hsz10 : wo.heap.size < w10.heap.size := Nat.lt_of_lt_of_le (Nat.lt_of_lt_of_le hszr (Nat.le_trans (by simp) hg9.size)) ht10.grown.size
                  obtain ⟨na, nc, hv9, _, _⟩ := hO9'.form
                  rw [List.length_map] at hv9
                  clear hO9 hg9 hbk9 hO9' hrgA hof hrg9 hSM9 hGW9 hr10 hM10 ht10
                  go_wp2
                  go_roundw
                  case rel => exact ⟨_, _, cnt1, _, hrg10, HGN2, HM10, HSKN, HO10, HGW10, hsz10⟩
                  case measure => rw [hrg10.left_eq, HRG.out.left_eq]; exact HLT1.out
        · obtain rfl : j = kn := by omega
          have HEE : Hid (x = grpL (memK ps l) ⟨[], []⟩ A.keys) := Lib.hid (by rw [HXE.out, HKN.out, List.take_length])
          have HOF := Lib.hid (HOG.out.base HW9.out)
          have HBF := Lib.hid (show Below w.heap.size w wr from HB9.out.trans (Gr.below HGR.out (by have := HBW.out.size; have := HSB.out; omega) HW9.out))
          go_wp2
          go_ret2
          exact ⟨GroupsR.mk hs x.out HOF.out (fun _ => ⟨A.keys, HKS.out, HSR.out, by rw [HEE.out]⟩) (fun h => absurd rfl h), HBF.out⟩
    · intro k ha hb hc w1' cnt1 hxl hlk hget hrg1 hlt hg1 hsz1 hen
      obtain ⟨hd, hhd⟩ : ∃ hd : Hdr, hd = (ha, hb, hc) := ⟨_, rfl⟩
      rw [← hhd] at hget hen ⊢
      clear hhd
      obtain ⟨_, ho2, ho3⟩ := ranges_obj hrg
      have hb1 : Below ab w5 w1' := HB2.out.trans (Gr.below hg1 (by omega) (by omega))
      have hMA1 : MapS TMm w1' ab A := HM2.out.kept hg1 (by intro e; injection e with e; omega)
      have hAI1 := (HAI.out.gr hg1 (.inl (by omega))).up hg1.size
      have hfk : F.has k = true := by
        rw [hdS_get] at hget
        cases hg : F.get k with
        | none => rw [hg] at hget; cases hget
        | some p => exact has_some hg
      have hne := (HN.out.has k).1 hfk
      obtain ⟨t0, ht0⟩ := List.exists_mem_of_ne_nil _ hne
      have hkU := (next_in HCA.out ht0).1
      have HKS2 : Hid ((baOf k).size ≤ maxLen) := Lib.hid (by rw [baOf_size]; exact HZP.out k hkU)
      have hNX : NextM w1' b1 w3.heap.size l F := HN.out.low (by have := hb1; rw [HAB.out] at this; exact this)
      have HRE2 := Lib.hid (reached_any b1 (baOf k) (nextL l) (keysP ps) w1' hNX.byG (by rw [bsOf_baOf]; exact hkU) (fun p s hs => (next_in HCA.out hs).2.1) (by have h2 : (keysP ps).length = ps.length := List.length_map _; omega) HZP.out (fun p => by have := nextL_len l p; omega))
      have hen2 : (Instr.entry (.pointer (some ⟨r, 0, none⟩))).run Tryz.prog w1' = .ok (.tuple #[.string (baOf k), hdrV hd]) w1' := hen
      have HB1 := Lib.hid hb1
      have HMA1 := Lib.hid hMA1
      have HAI1 := Lib.hid hAI1
      have HFK := Lib.hid hfk
      have HRG := Lib.hid hrg
      have HRG1 := Lib.hid hrg1
      have HLT := Lib.hid hlt
      have hszr : r < w1'.heap.size := by omega
      have HLKK := Lib.hid hlk
      have HAL : Hid (A.length < maxLen) := Lib.hid (by
        have h1 := List.Nodup.length_le_of_subset (Sm.keys_nodup HAI.out.ok) (l₂ := keysP ps) fun j hj => by
          obtain ⟨s, hs⟩ := List.exists_mem_of_ne_nil _ ((HN.out.has j).1 ((HAI.out.has j).1 (Sm.has_iff.2 hj)).1)
          exact (next_in HCA.out hs).1
        have h2 : (keysP ps).length = ps.length := List.length_map _
        rw [keys_len, h2] at h1
        unfold maxLen; omega)
      clear hen ho2 ho3 hb1 hMA1 hAI1 hfk hne ht0 hkU hNX hget hrg1 hlt hlk
      go_wp2_with fail
      refine HRE2.out.mono ?_
      rintro e w7 ⟨⟨m, rfl, hml, hM7⟩, hb7⟩
      rw [bsOf_baOf] at hM7
      have hMA7 := HMA1.out.below hb7
      obtain ⟨w8, hr8, hM8, ht8⟩ := hMA7.put TMm.ok (baOf k) HKS2.out (some m) HAL.out
      rw [show (baOf k).data.toList = k from bsOf_baOf k] at hM8
      have hr8' : (Instr.mapUpdate 133 (.map (some ab)) (.string (baOf k)) (.map (some m))).run Tryz.prog w7 = .ok () w8 := hr8
      have hm8 : MapS TMi w8 m (stK ps l k) := hM7.kept ht8.grown (by intro e; injection e with e; omega)
      have hA7 := (HAI1.out.low hb7).up hb7.size
      have hA8 := (hA7.gr ht8.grown (.inl (by omega))).up ht8.grown.size
      have HA8 : Hid (AllI ps l w8 (r + 1) w8.heap.size (A.put k (some m)) (fun j => F.has j = true ∧ (left (.string j) && !(Lit.string j).sameKey (.string k)) = false)) := Lib.hid ((hA8.put k (by omega) hm8.lt hm8).congr fun j => by
        rw [sm_same]
        by_cases e : j = k
        · subst e; simp [HFK.out]
        · simp [e])
      have HM8 := Lib.hid hM8
      have HB8 := Lib.hid (HB1.out.trans ((Below.mono hb7 (by omega)).trans (Gr.below ht8.grown (Nat.le_refl _) (by have := hb7.size; omega))))
      have hrg7 := HRG1.out.kept (Gr.of_below hb7 none) (by simp) (by simp)
      have hrg8 := hrg7.kept ht8.grown (by intro e; injection e with e; omega) (by intro e; injection e with e; omega)
      have hsz8 : r < w8.heap.size := by have := hb7.size; have := ht8.grown.size; omega
      clear hb7 hM7 hMA7 hr8 hM8 ht8 hm8 hA7 hA8 hrg7 hml
      go_wp2
      go_roundw
      case rel => exact ⟨_, _, cnt1, hrg8, HA8, HM8, HB8, hsz8⟩
      case measure => rw [hrg8.left_eq, HRG.out.left_eq]; exact HLT.out
end Go.Proofs.YtihgnpobkpnipaaGreatDoor
