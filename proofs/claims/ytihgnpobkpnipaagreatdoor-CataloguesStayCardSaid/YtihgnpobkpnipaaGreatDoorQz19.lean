/- Texts of the proof of a law, put together, part 19 of 41. Conditions: none beyond those that each theorem names. -/
import Derived.Test.YtihgnpobkpnipaaGreatDoorQz3
import Derived.Test.YtihgnpobkpnipaaGreatDoorQz15
import Derived.Test.YtihgnpobkpnipaaGreatDoorQz18
import Derived.Maps.RangeWalk
namespace Go.Proofs.YtihgnpobkpnipaaGreatDoor
open Go.RowKit Go.Sort Go.Maps
theorem next_g {α : Type} {T : Mty α} (hT : T.Ok) {w : World} {ops : Array Oper} {rest : List Oper} {o : Oper} {a : Act} {Q : Exit → Act → World → Prop}
    (hg : o.guard = none) (it : Operand) (hop : o.op = Op.next it false) {b r n : Nat} {l : Sm α} {left : Lit → Bool} {cnt : Nat}
    (hit : a.eval it = .pointer (some ⟨r, 0, none⟩)) (h : w.ranges Tryz.prog 9 T.R b r n (.map (smD T l)) left cnt)
    (hDone : cnt = 0 → (∀ kl, left kl = false) → wpList Tryz.prog ops Q rest (a.put o.dst (.tuple #[.bool false])) w)
    (hMore : ∀ (x : Bs) (y : α) (w' : World) (cnt' : Nat), x.length ≤ maxLen → left (.string x) = true → l.get x = some y → w'.ranges Tryz.prog 9 T.R b r n (.map (smD T l)) (fun z => left z && !z.sameKey (.string x)) cnt' → cnt' < cnt →
      w.grownBy w' (some r) → w'.heap.size = w.heap.size → (Instr.entry (.pointer (some ⟨r, 0, none⟩))).run Tryz.prog w' = .ok (.tuple #[.string (baOf x), T.V y]) w' → wpList Tryz.prog ops Q rest (a.put o.dst (.tuple #[.bool true, .string (baOf x), T.V y])) w') :
    wpList Tryz.prog ops Q (o :: rest) a w :=
  wpList_next_ranges w hg it hop 9 strKd T.R encStr id (fun key kl hkey => by obtain ⟨x, hx, _⟩ := Maps.keyOf_str (k := 9) Tryz.underlying9 hkey; exact ⟨x, hx⟩) (fun v y _ => ⟨v, rfl⟩)
    b r n _ left cnt hit h hDone (fun x cv kl y w' cnt' hkey hlk hv hat hrg hlt hgr hsz hen => by
      obtain ⟨x', ex, rfl, hwx⟩ := Maps.keyOf_str (k := 9) Tryz.underlying9 hkey
      have e := encStr_inj ex
      subst e
      have hh := has_true_of_atKey hat
      rw [smD_has] at hh
      obtain ⟨u, hu⟩ : ∃ u, l.get x = some u := Option.isSome_iff_exists.1 hh
      have h1 := hat .nil
      rw [smD_get, hu] at h1
      obtain ⟨y1, y2⟩ := y
      have h2 : T.R cv = some (T.d u, y2) := by rw [show T.d u = y1 from h1]; exact hv
      obtain rfl := hT.inv _ _ _ h2
      exact hMore x u w' cnt' hwx hlk hu hrg hlt hgr hsz hen)
theorem left_step {left : Lit → Bool} {x k : Bs} : (left (.string k) && !(Lit.string k).sameKey (.string x)) = true ↔ left (.string k) = true ∧ k ≠ x := by
  rw [sm_same]
  by_cases e : k = x <;> simp [e]
/-! rows -/
abbrev OwnB (B : Nat) : World → Value → List ByteArray → Prop := fun w v l => OwnR TS w B v l
def rowB (F : Fds) (k : Bs) : List ByteArray := ((F.get k).map (·.2)).getD []
theorem rowB_put (F : Fds) (k j : Bs) (hd : Hdr) (l : List ByteArray) : rowB (F.put k (hd, l)) j = if j = k then l else rowB F j := by
  unfold rowB
  by_cases e : j = k
  · subst e; rw [Sm.get_put_same, if_pos rfl]; rfl
  · rw [Sm.get_put_other (Ne.symm e), if_neg e]
structure ByM (w : World) (b B : Nat) (F : Fds) : Prop where
  map : MapS TMh w b (hdS F)
  rows : Rws (OwnB B) w F
section
variable {w w' : World} {b B : Nat} {F : Fds}
theorem ByM.made (w : World) (B : Nat) : ByM (w.alloc (.map #[] 0)) w.heap.size B [] := ⟨MapS.made w, fun _p hp => (List.not_mem_nil hp).elim, fun _p hp => (List.not_mem_nil hp).elim⟩
theorem ByM.low (h : ByM w b B F) (hb : Below w.heap.size w w') : ByM w' b B F := ⟨h.map.below hb, h.rows.low (ownR_k TS B) hb⟩
theorem ByM.ok (h : ByM w b B F) : Sm.Ok F := by
  have := h.map.1
  unfold Sm.Ok hdS at this
  rw [List.pairwise_map] at this
  exact this
theorem ByM.look (h : ByM w b B F) (k : ByteArray) (hk : k.size ≤ maxLen) : ∃ hd, (∀ W, Below w.heap.size w W → (Instr.lookup 129 (.map (some b)) (.string k) false).run Tryz.prog W = .ok (hdrV hd) W) ∧ (∀ W, Below w.heap.size w W → OwnR TS W B (hdrV hd) (rowB F (bsOf k))) ∧ Apart F (bsOf k) (hdrV hd) := by
  refine ⟨((hdS F).get k.data.toList).getD TMh.z, fun W hW => (h.low hW).map.look TMh.ok k hk, ?_⟩
  rw [hdS_get]
  unfold rowB
  show (∀ W, Below w.heap.size w W → OwnR TS W B (hdrV (((F.get (bsOf k)).map (·.1)).getD TMh.z)) _) ∧ Apart F (bsOf k) (hdrV (((F.get (bsOf k)).map (·.1)).getD TMh.z))
  cases hg : F.get (bsOf k) with
  | none => exact ⟨fun W _ => OwnR.nil _ _, Apart.nil _⟩
  | some p => exact ⟨fun W hW => (h.low hW).rows.own _ (Sm.get_mem hg), h.rows.apart hg⟩
/-- the row of k is in hand: it has turned, and the map has not been told. -/
structure ByT (w : World) (b B : Nat) (F : Fds) (k : Bs) (v : Value) (l : List ByteArray) : Prop where
  map : MapS TMh w b (hdS F)
  rows : Rws (OwnB B) w (F.del k)
  own : OwnR TS w B v l
  ap : Apart F k v
theorem map_off {α : Type} {T : Mty α} {w w' : World} {b B : Nat} {l : Sm α} {v : Value} {m : List ByteArray} (h : MapS T w b l) (hO : OwnR TS w B v m) (hg : w.grownBy w' v.ownBlock) : MapS T w' b l := by
  refine h.kept hg fun e => ?_
  obtain ⟨_, cur, hc⟩ := (ownR_k TS B).blk hO e.symm
  exact h.noCells cur _ hc
theorem ByM.turn (h : ByM w b B F) {k : Bs} {v v' : Value} {l l' : List ByteArray} (hO : OwnR TS w B v l) (ha : Apart F k v) (hO' : OwnR TS w' B v' l') (hg : w.grownBy w' v.ownBlock) (hb : v'.ownBlock = v.ownBlock ∨ v'.ownBlock = some w.heap.size) : ByT w' b B F k v' l' := by
  refine ⟨map_off h.map hO hg, h.rows.turn (ownR_k TS B) ha hg, hO', ?_⟩
  rcases hb with hb | hb
  · exact ha.same hb
  · exact Apart.new h.rows (ownR_k TS B) hb (Nat.le_refl _)
theorem ByT.put {k : ByteArray} {hd : Hdr} {l : List ByteArray} (h : ByT w b B F (bsOf k) (hdrV hd) l) (hk : k.size ≤ maxLen) (hl : F.length < maxLen) :
    ∃ w', (Instr.mapUpdate 129 (.map (some b)) (.string k) (hdrV hd)).run Tryz.prog w = .ok () w' ∧ ByM w' b B (F.put (bsOf k) (hd, l)) ∧ w.grownBy w' (some b) := by
  obtain ⟨w', hr, h1, h2⟩ := h.map.put TMh.ok k hk hd (by rw [hdS_len]; exact hl)
  have hn := h.map.noCells
  refine ⟨w', hr, ⟨by rw [hdS_put]; exact h1, (h.rows.off (ownR_k TS B) h2.grown fun cur => hn cur _).put ?_ h.ap⟩, h2.grown⟩
  exact (ownR_k TS B).keep h.own fun j hj => by
    obtain ⟨_, cur, hc⟩ := (ownR_k TS B).blk h.own hj
    exact h2.grown.block j (blk_lt hc) fun e => by injection e with e; subst e; exact hn cur _ hc
/-! a row in its place, by another order -/
def setRow (F : Fds) (k : Bs) (l : List ByteArray) : Fds := F.map fun p => if p.1 = k then (p.1, p.2.1, l) else p
theorem setRow_hd (F : Fds) (k : Bs) (l : List ByteArray) : hdS (setRow F k l) = hdS F := by
  unfold hdS setRow
  rw [List.map_map]
  refine List.map_congr_left fun p _ => ?_
  show (((if p.1 = k then (p.1, p.2.1, l) else p) : Bs × Hdr × List ByteArray).1, ((if p.1 = k then (p.1, p.2.1, l) else p) : Bs × Hdr × List ByteArray).2.1) = _
  split <;> rfl
theorem setRow_get (F : Fds) (k j : Bs) (l : List ByteArray) : (setRow F k l).get j = (F.get j).map fun p => if j = k then (p.1, l) else p := by
  unfold setRow
  induction F with
  | nil => rfl
  | cons p F ih =>
    rw [List.map_cons, Sm.get, Sm.get]
    by_cases e : p.1 = k
    · rw [if_pos e]
      by_cases e2 : p.1 = j
      · rw [if_pos e2, if_pos e2]
        show some (p.2.1, l) = some (if j = k then (p.2.1, l) else p.2)
        rw [if_pos (e2.symm.trans e)]
      · rw [if_neg e2, if_neg e2, ih]
    · rw [if_neg e]
      by_cases e2 : p.1 = j
      · rw [if_pos e2, if_pos e2]
        show some p.2 = some (if j = k then (p.2.1, l) else p.2)
        rw [if_neg (fun q => e (e2.trans q))]
      · rw [if_neg e2, if_neg e2, ih]
theorem rowB_set (F : Fds) (k j : Bs) (l : List ByteArray) (hk : F.has k = true) : rowB (setRow F k l) j = if j = k then l else rowB F j := by
  unfold rowB
  rw [setRow_get]
  by_cases e : j = k
  · subst e
    rw [if_pos rfl]
    obtain ⟨v, hv⟩ : ∃ v, F.get j = some v := Option.isSome_iff_exists.1 hk
    rw [hv]
    simp
  · rw [if_neg e]
    cases F.get j <;> simp [e]
theorem ByM.sorted (h : ByM w b B F) {k : Bs} {hd : Hdr} {l l' : List ByteArray} (hx : F.get k = some (hd, l)) (hO' : OwnR TS w' B (hdrV hd) l') (hg : w.grownBy w' (hdrV hd).ownBlock) : ByM w' b B (setRow F k l') := by
  have hO := h.rows.own _ (Sm.get_mem hx)
  refine ⟨by rw [setRow_hd]; exact map_off h.map hO hg, fun p hp => ?_, fun p hp q hq hne c hc => ?_⟩
  · obtain ⟨q, hq, rfl⟩ := List.mem_map.1 hp
    by_cases e : q.1 = k
    · have : q.2 = (hd, l) := by
        have h1 := Sm.get_of_mem h.ok (show (q.1, q.2) ∈ F from hq)
        rw [e, hx] at h1
        injection h1 with h1
        exact h1.symm
      simp only [if_pos e, this]
      exact hO'
    · simp only [if_neg e]
      refine (ownR_k TS B).keep (h.rows.own _ hq) fun j hj => ?_
      obtain ⟨_, cur, hcc⟩ := (ownR_k TS B).blk (h.rows.own _ hq) hj
      exact hg.block j (blk_lt hcc) fun e1 => h.rows.sep _ hq _ (Sm.get_mem hx) e j hj e1.symm
  · obtain ⟨p', hp', rfl⟩ := List.mem_map.1 hp
    obtain ⟨q', hq', rfl⟩ := List.mem_map.1 hq
    have e1 : ∀ r : Bs × Hdr × List ByteArray, ((if r.1 = k then (r.1, r.2.1, l') else r) : Bs × Hdr × List ByteArray).1 = r.1 ∧ ((if r.1 = k then (r.1, r.2.1, l') else r) : Bs × Hdr × List ByteArray).2.1 = r.2.1 := fun r => by split <;> exact ⟨rfl, rfl⟩
    rw [(e1 p').1, (e1 q').1] at hne
    rw [(e1 p').2] at hc
    rw [(e1 q').2]
    exact h.rows.sep _ hp' _ hq' hne c hc
end
/-- what later worlds tell of a map of rows. -/
structure ByG (w : World) (b : Nat) (g : Bs → List Bs) : Prop where
  look : ∀ k : ByteArray, k.size ≤ maxLen → ∃ v, ∀ W, Below w.heap.size w W → (Instr.lookup 129 (.map (some b)) (.string k) false).run Tryz.prog W = .ok v W ∧ RecR TS W 0 v ((g (bsOf k)).map baOf)
theorem ByG.low {w w' : World} {b : Nat} {g : Bs → List Bs} (h : ByG w b g) (hb : Below w.heap.size w w') : ByG w' b g := ⟨fun k hk => by
  obtain ⟨v, hv⟩ := h.look k hk
  exact ⟨v, fun W hW => hv W (Bl.trans hb hW)⟩⟩
theorem ByM.byG {w : World} {b B : Nat} {F : Fds} {g : Bs → List Bs} (h : ByM w b B F) (hg : ∀ k, rowB F k = (g k).map baOf) : ByG w b g := ⟨fun k hk => by
  obtain ⟨hd, h1, h2, _⟩ := h.look k hk
  refine ⟨_, fun W hW => ⟨h1 W hW, ?_⟩⟩
  have h3 := h2 W hW
  rw [hg] at h3
  exact h3.rec0⟩
/-! maps of maps -/
def mrefE : Value → Option (DataW Unit × List MemPlace)
  | .map none => some (.nil, [])
  | .map (some b) => some (.lit (.int .i64 b), [])
  | _ => none
def mrefD : Option Nat → DataW Unit
  | none => .nil
  | some b => .lit (.int .i64 b)
def TMm : Mty (Option Nat) := { t := 133, e := 126, V := .map, d := mrefD, R := mrefE, z := none }
theorem TMm.ok : TMm.Ok := ⟨Tryz.underlying133, fun w => by kernel_rfl, fun a => by cases a <;> rfl, fun v a ps h => by
  unfold TMm mrefE at h
  simp only at h
  split at h
  · cases a with
    | none => rfl
    | some b => simp [mrefD] at h
  · rename_i b
    cases a with
    | none => simp [mrefD] at h
    | some c =>
      simp [mrefD] at h
      obtain ⟨h, _⟩ := h
      obtain rfl : b = c := by omega
      rfl
  · cases h⟩
theorem baOf_bs (k : ByteArray) : baOf (bsOf k) = k := by unfold baOf bsOf; simp
theorem baOf_size (k : Bs) : (baOf k).size = k.length := by show k.toArray.size = _; simp
end Go.Proofs.YtihgnpobkpnipaaGreatDoor
namespace Go.Proofs.YtihgnpobkpnipaaGreatDoor
open Go.RowKit Go.Sort Go.Maps
/-! what lies beside a row, or beside a map, stays when it turns -/
theorem blk_offR {U : Type} {T : Rty U} {w w' : World} {B g : Nat} {v : Value} {l : List U} {cs : Array Value} {t : TypeId} (h : w.heap[g]? = some (.cells cs t (0, 0))) (hO : OwnR T w B v l) (hne : t ≠ T.e) (hg : w.grownBy w' v.ownBlock) : w'.heap[g]? = some (.cells cs t (0, 0)) := by
  refine (hg.block g (blk_lt h) fun e => ?_).trans h
  obtain ⟨_, cur, hc⟩ := (ownR_k T B).blk hO e.symm
  rw [h] at hc
  injection hc with hc
  injection hc with _ h2 _
  exact hne h2
theorem blk_offM {α : Type} {T : Mty α} {w w' : World} {b g : Nat} {l : Sm α} {cs : Array Value} {t : TypeId} (h : w.heap[g]? = some (.cells cs t (0, 0))) (hM : MapS T w b l) (hg : w.grownBy w' (some b)) : w'.heap[g]? = some (.cells cs t (0, 0)) := by
  refine (hg.block g (blk_lt h) fun e => ?_).trans h
  injection e with e
  subst e
  exact hM.noCells cs t h
theorem ownR_off {α U : Type} {S : Rty α} {T : Rty U} {w w' : World} {B C : Nat} {v v' : Value} {l : List α} {m : List U} (h : OwnR S w C v l) (hO : OwnR T w B v' m) (hne : S.e ≠ T.e) (hg : w.grownBy w' v'.ownBlock) : OwnR S w' C v l :=
  (ownR_k S C).keep h fun k hk => by
    obtain ⟨_, cur, hc⟩ := (ownR_k S C).blk h hk
    exact (blk_offR hc hO hne hg).trans hc.symm
theorem ownR_offM {α β : Type} {S : Rty α} {T : Mty β} {w w' : World} {b C : Nat} {v : Value} {l : List α} {m : Sm β} (h : OwnR S w C v l) (hM : MapS T w b m) (hg : w.grownBy w' (some b)) : OwnR S w' C v l :=
  (ownR_k S C).keep h fun k hk => by
    obtain ⟨_, cur, hc⟩ := (ownR_k S C).blk h hk
    exact (blk_offM hc hM hg).trans hc.symm
theorem own_encC {w : World} {B : Nat} {v : Value} {ss : List Bs} : OwnR TS w B v (ss.map baOf) ↔ w.ownsRow B 9 1 v ss.length (ss.map encStr) := by
  unfold OwnR
  rw [← flat_ba, List.length_map]
  exact Iff.rfl
theorem SortC_any (ss : List Bs) (B : Nat) (v : Value) (w : World) (h : OwnR TS w B v (ss.map baOf)) (hl : ss.length ≤ 1000000) :
    Calls Tryz.prog 78 #[v] w fun e w' => e = .returned (.tuple #[]) ∧ OwnR TS w' B v ((ss.mergeSort leB).map baOf) ∧ w.grownBy w' v.ownBlock := by
  by_cases h0 : ss = []
  · subst h0
    obtain ⟨a, cap, rfl, _, _⟩ := h.form
    exact (Tryz.slices_Sort_string_none a cap w).mono fun e w' ⟨he, hw⟩ => ⟨he, by subst hw; simpa using h, by subst hw; exact Gr.refl _ _⟩
  · obtain ⟨g, cap, cur, rfl, hB, hgb, _⟩ := h.blk (by intro e; exact h0 (List.map_eq_nil_iff.1 e))
    have h' := own_encC.1 h
    rw [List.length_map] at h' ⊢
    obtain ⟨hH, hlt, _⟩ := holds_own encStr h' rfl
    refine (Tryz.slices_Sort_string g 0 cap ss w hH hlt (by omega)).mono ?_
    rintro e w' ⟨rfl, q, os, rfl⟩
    refine ⟨rfl, ?_, grownBy_resorted _ _⟩
    have := own_resorted (q := q) (os := os) encStr h' rfl (m := ss.mergeSort fun x y => decide (x ≤ y)) (by simp)
    refine own_encC.2 ?_
    rw [show (ss.mergeSort leB).length = ss.length by simp]
    exact this
theorem ranges_obj {β : Type} {U : Mty β} {w : World} {b r n cnt : Nat} {D : DataW Unit} {left : Lit → Bool} (h : w.ranges Tryz.prog 9 U.R b r n D left cnt) : (∀ cs t f, w.heap[b]? ≠ some (.cells cs t f)) ∧ (∀ cs t f, w.heap[r]? ≠ some (.cells cs t f)) ∧ (∀ es c, w.heap[r]? ≠ some (.map es c)) := by
  obtain ⟨es, clock, since, seen, c0, hb, _, _, _, hr, _⟩ := h
  refine ⟨fun cs t f e => ?_, fun cs t f e => ?_, fun es c e => ?_⟩
  · rw [hb] at e; injection e with e; cases e
  · rw [hr] at e; injection e with e; cases e
  · rw [hr] at e; injection e with e; cases e
/-- the iterator of a range turns alone. -/
theorem ByM.iter {w w' : World} {b B r : Nat} {F : Fds} (h : ByM w b B F) (hg : w.grownBy w' (some r)) (h1 : ∀ cs t f, w.heap[r]? ≠ some (.cells cs t f)) (h2 : ∀ es c, w.heap[r]? ≠ some (.map es c)) : ByM w' b B F := by
  refine ⟨h.map.kept hg fun e => ?_, h.rows.off (ownR_k TS B) hg fun cur => h1 cur _ _⟩
  injection e with e
  subst e
  obtain ⟨es, c, hb⟩ := h.map.obj
  exact h2 es c hb
theorem range_off {α β : Type} {T : Rty α} {U : Mty β} {w : World} {B b r n cnt : Nat} {D : DataW Unit} {left : Lit → Bool} {v : Value} {l : List α} (hrg : w.ranges Tryz.prog 9 U.R b r n D left cnt) (hO : OwnR T w B v l) : some b ≠ v.ownBlock ∧ some r ≠ v.ownBlock := by
  obtain ⟨h1, h2, _⟩ := ranges_obj hrg
  constructor
  · intro e
    obtain ⟨_, cur, hc⟩ := (ownR_k T B).blk hO e.symm
    exact h1 _ _ _ hc
  · intro e
    obtain ⟨_, cur, hc⟩ := (ownR_k T B).blk hO e.symm
    exact h2 _ _ _ hc
theorem has_some {α : Type} {F : Sm α} {x : Bs} {y : α} (h : F.get x = some y) : F.has x = true := Option.isSome_iff_exists.2 ⟨_, h⟩
end Go.Proofs.YtihgnpobkpnipaaGreatDoor
namespace Go.Proofs.YtihgnpobkpnipaaGreatDoor
open Go.RowKit Go.Sort Go.Maps
end Go.Proofs.YtihgnpobkpnipaaGreatDoor
namespace Go.Proofs.YtihgnpobkpnipaaGreatDoor
open Go.RowKit Go.Sort
def VLR (B1 : Nat) : Value → World → Prop := fun v w => ∃ (x : Prt) (g : Nat), v = .slice (some ⟨g, 0, none⟩) 1 1 ∧ w.heap[g]? = some (.cells #[.string x.1, .string x.2.1, .int .i64 x.2.2.1, .int .i64 x.2.2.2] 66 (0, 0)) ∧ B1 ≤ g ∧ PrtS x
theorem VLR.stab {B1 : Nat} {v : Value} {w w' : World} (h : VLR B1 v w) (hr : RR B1 w w') : VLR B1 v w' := by
  obtain ⟨x, g, h1, h2, h3, h4⟩ := h
  exact ⟨x, g, h1, (hr.2 g h3 (blk_lt h2)).trans h2, h3, h4⟩
/-- the boxes that CatalogueOf keeps: its result, the catalogue, the names. -/
structure CatBx (w : World) (R : Nat) (vp va : Value) : Prop where
  r : w.heap[R]? = some (.cells #[.slice none 0 0, .slice none 0 0] 29 (0, 0))
  c : w.heap[R + 1]? = some (.cells #[vp, va] 29 (0, 0))
  n : w.heap[R + 2]? = some (.cells #[.string ⟨#[97]⟩, .string ⟨#[98]⟩, .string ⟨#[99]⟩, .string ⟨#[100]⟩, .string ⟨#[101]⟩] 9 (0, 0))
theorem CatBx.low {w w' : World} {R : Nat} {vp va : Value} (h : CatBx w R vp va) (hb : Below w.heap.size w w') : CatBx w' R vp va := ⟨blk_below h.r hb, blk_below h.c hb, blk_below h.n hb⟩
theorem CatBx.gr {w w' : World} {R s : Nat} {vp va : Value} (h : CatBx w R vp va) (hs : s < R) (hb : w.grownBy w' (some s)) : CatBx w' R vp va := ⟨Gr.blk hb h.r (by omega), Gr.blk hb h.c (by omega), Gr.blk hb h.n (by omega)⟩
theorem CatBx.row {α : Type} {T : Rty α} {w w' : World} {R B : Nat} {vp va v : Value} {l : List α} (h : CatBx w R vp va) (hO : OwnR T w B v l) (hB : R + 3 ≤ B) (hg : w.grownBy w' v.ownBlock) : CatBx w' R vp va := by
  have k : ∀ i, i < B → i < w.heap.size → w'.heap[i]? = w.heap[i]? := fun i hi hl => hg.block i hl fun e => by
    have := ((ownR_k T B).blk hO e.symm).1
    omega
  exact ⟨(k R (by omega) (blk_lt h.r)).trans h.r, (k (R + 1) (by omega) (blk_lt h.c)).trans h.c, (k (R + 2) (by omega) (blk_lt h.n)).trans h.n⟩
end Go.Proofs.YtihgnpobkpnipaaGreatDoor
