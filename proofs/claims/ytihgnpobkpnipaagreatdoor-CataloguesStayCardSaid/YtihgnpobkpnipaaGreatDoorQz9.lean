/- Texts of the proof of a law, put together, part 9 of 41. Conditions: none beyond those that each theorem names. -/
import Derived.Test.YtihgnpobkpnipaaGreatDoorQz1
import Derived.Test.YtihgnpobkpnipaaGreatDoorQz3
import Derived.Maps.Own
import Derived.Maps.OwnOps
import Derived.Maps.OwnSet
import Derived.Maps.Ext
import Derived.StringKeys
import Derived.Sort.KeysCollected
namespace Go.Proofs.YtihgnpobkpnipaaGreatDoor
open Go.RowKit Go.Sort Go.Maps
/-! sorted lists of pairs -/
abbrev Bs := List UInt8
abbrev Sm (α : Type) := List (Bs × α)
namespace Sm
variable {α : Type}
def get : Sm α → Bs → Option α
  | [], _ => none
  | p :: l, k => if p.1 = k then some p.2 else get l k
def ins (k : Bs) (v : α) : Sm α → Sm α
  | [] => [(k, v)]
  | p :: l => if bytesBefore k p.1 = true then (k, v) :: p :: l else p :: ins k v l
def del (l : Sm α) (k : Bs) : Sm α := l.filter fun p => decide (p.1 ≠ k)
def put (l : Sm α) (k : Bs) (v : α) : Sm α := ins k v (del l k)
def has (l : Sm α) (k : Bs) : Bool := (get l k).isSome
def keys (l : Sm α) : List Bs := l.map (·.1)
/-- keys rise. -/
def Ok (l : Sm α) : Prop := l.Pairwise fun p q => bytesBefore p.1 q.1 = true
theorem Ok.nil : Ok ([] : Sm α) := List.Pairwise.nil
theorem bb_ne {a b : Bs} (h : bytesBefore a b = true) : a ≠ b := by
  rintro rfl
  rw [WideAt.bytes_irrefl] at h; cases h
theorem get_none_of {l : Sm α} {k : Bs} (h : ∀ p ∈ l, p.1 ≠ k) : get l k = none := by
  induction l with
  | nil => rfl
  | cons p l ih =>
    rw [get, if_neg (h p (by simp)), ih fun q hq => h q (List.mem_cons_of_mem _ hq)]
theorem get_mem {l : Sm α} {k : Bs} {v : α} (h : get l k = some v) : (k, v) ∈ l := by
  induction l with
  | nil => cases h
  | cons p l ih =>
    rw [get] at h
    split at h
    · rename_i e
      injection h with h
      subst e; subst h; simp
    · exact List.mem_cons_of_mem _ (ih h)
theorem get_of_mem {l : Sm α} (h : Ok l) {k : Bs} {v : α} (hm : (k, v) ∈ l) : get l k = some v := by
  induction l with
  | nil => simp at hm
  | cons p l ih =>
    rw [get]
    rcases List.mem_cons.1 hm with rfl | hm
    · rw [if_pos rfl]
    · have h1 := (List.pairwise_cons.1 h).1 _ hm
      rw [if_neg (bb_ne h1), ih (List.pairwise_cons.1 h).2 hm]
theorem get_none {l : Sm α} {k : Bs} (h : get l k = none) : ∀ p ∈ l, p.1 ≠ k := by
  induction l with
  | nil => simp
  | cons p l ih =>
    rw [get] at h
    split at h
    · cases h
    · rename_i e
      intro q hq
      rcases List.mem_cons.1 hq with rfl | hq
      · exact e
      · exact ih h q hq
theorem Ok.del {l : Sm α} (h : Ok l) (k : Bs) : Ok (del l k) := List.Pairwise.filter _ h
theorem ins_mem {l : Sm α} {k : Bs} {v : α} (p : Bs × α) : p ∈ ins k v l ↔ p = (k, v) ∨ p ∈ l := by
  induction l with
  | nil => simp [ins]
  | cons q l ih =>
    rw [ins]
    split
    · simp
    · simp only [List.mem_cons, ih]
      constructor
      · rintro (h | h | h) <;> simp [h]
      · rintro (h | h | h) <;> simp [h]
theorem Ok.ins {l : Sm α} (h : Ok l) {k : Bs} (hk : ∀ p ∈ l, p.1 ≠ k) (v : α) : Ok (ins k v l) := by
  induction l with
  | nil => simp [Sm.ins, Ok]
  | cons q l ih =>
    rw [Sm.ins]
    obtain ⟨h1, h2⟩ := List.pairwise_cons.1 h
    split
    · rename_i hb
      refine List.pairwise_cons.2 ⟨fun p hp => ?_, h⟩
      rcases List.mem_cons.1 hp with rfl | hp
      · exact hb
      · exact WideShapes.bytes_trans _ _ _ hb (h1 p hp)
    · rename_i hb
      have hqk := hk q (by simp)
      refine List.pairwise_cons.2 ⟨fun p hp => ?_, ih h2 fun p hp => hk p (List.mem_cons_of_mem _ hp)⟩
      rcases (ins_mem p).1 hp with rfl | hp
      · rcases WideAt.bytes_total _ _ hqk with h3 | h3
        · exact h3
        · exact absurd h3 hb
      · exact h1 p hp
theorem del_ne {l : Sm α} {k : Bs} : ∀ p ∈ del l k, p.1 ≠ k := fun p hp => by
  have := (List.mem_filter.1 hp).2
  simpa using this
theorem Ok.put {l : Sm α} (h : Ok l) (k : Bs) (v : α) : Ok (put l k v) := (h.del k).ins del_ne v
theorem get_ins_same {l : Sm α} {k : Bs} (hk : ∀ p ∈ l, p.1 ≠ k) (v : α) : get (ins k v l) k = some v := by
  induction l with
  | nil => simp [ins, get]
  | cons q l ih =>
    rw [ins]
    split
    · rw [get, if_pos rfl]
    · rw [get, if_neg (hk q (by simp)), ih fun p hp => hk p (List.mem_cons_of_mem _ hp)]
theorem get_ins_other {l : Sm α} {k j : Bs} (h : k ≠ j) (v : α) : get (ins k v l) j = get l j := by
  induction l with
  | nil => simp [ins, get, h]
  | cons q l ih =>
    rw [ins]
    split
    · rw [get, if_neg h]
    · rw [get, get, ih]
theorem get_del_other {l : Sm α} {k j : Bs} (h : k ≠ j) : get (del l k) j = get l j := by
  induction l with
  | nil => rfl
  | cons q l ih =>
    unfold del at ih ⊢
    rw [List.filter_cons]
    by_cases hq : q.1 = k
    · have : ¬ q.1 = j := fun e => h (hq.symm.trans e)
      rw [if_neg (by simp [hq]), ih, get, if_neg this]
    · rw [if_pos (by simp [hq]), get, get, ih]
theorem get_put_same (l : Sm α) (k : Bs) (v : α) : get (put l k v) k = some v := get_ins_same del_ne v
theorem get_put_other {l : Sm α} {k j : Bs} (h : k ≠ j) (v : α) : get (put l k v) j = get l j := (get_ins_other h v).trans (get_del_other h)
theorem ext {l m : Sm α} (hl : Ok l) (hm : Ok m) (h : ∀ k, get l k = get m k) : l = m := by
  induction l generalizing m with
  | nil =>
    cases m with
    | nil => rfl
    | cons q m =>
      have := h q.1
      rw [get, get, if_pos rfl] at this; cases this
  | cons p l ih =>
    cases m with
    | nil =>
      have := h p.1
      rw [get, get, if_pos rfl] at this; cases this
    | cons q m =>
      obtain ⟨p1, p2⟩ := List.pairwise_cons.1 hl
      obtain ⟨q1, q2⟩ := List.pairwise_cons.1 hm
      have hpq : p.1 = q.1 := by
        apply Classical.byContradiction
        intro hne
        have h1 : (p.1, p.2) ∈ q :: m := get_mem (by rw [← h, get, if_pos rfl])
        have h2 : (q.1, q.2) ∈ p :: l := get_mem (by rw [h, get, if_pos rfl])
        rcases List.mem_cons.1 h1 with e | h1
        · exact hne (congrArg Prod.fst e)
        · rcases List.mem_cons.1 h2 with e | h2
          · exact hne (congrArg Prod.fst e).symm
          · have a1 := q1 _ h1
            have a2 := p1 _ h2
            have := WideShapes.bytes_trans _ _ _ a1 a2
            rw [WideAt.bytes_irrefl] at this; cases this
      have hv : p.2 = q.2 := by
        have := h p.1
        rw [get, get, if_pos rfl, if_pos hpq.symm] at this
        injection this
      have e : p = q := Prod.ext hpq hv
      subst e
      rw [ih p2 q2 fun k => ?_]
      have := h k
      rw [get, get] at this
      split at this
      · rename_i hk
        subst hk
        rw [get_none_of fun r hr => (bb_ne (p1 r hr)).symm, get_none_of fun r hr => (bb_ne (q1 r hr)).symm]
      · exact this
theorem has_iff {l : Sm α} {k : Bs} : has l k = true ↔ k ∈ keys l := by
  unfold has keys
  rw [Option.isSome_iff_exists, List.mem_map]
  constructor
  · rintro ⟨v, h⟩; exact ⟨_, get_mem h, rfl⟩
  · rintro ⟨p, hp, rfl⟩
    cases h : get l p.1 with
    | some v => exact ⟨v, rfl⟩
    | none => exact absurd rfl (get_none h p hp)
theorem ins_length (k : Bs) (v : α) : ∀ l : Sm α, (ins k v l).length = l.length + 1
  | [] => rfl
  | p :: l => by
    rw [ins]
    split
    · rfl
    · rw [List.length_cons, ins_length k v l]; rfl
theorem put_le (l : Sm α) (k : Bs) (v : α) : (put l k v).length ≤ l.length + 1 := by
  unfold put
  rw [ins_length]
  have := List.length_filter_le (fun p : Bs × α => decide (p.1 ≠ k)) l
  unfold del
  omega
end Sm
/-! in memory -/
/-- a type of maps from strings: its number, the elements' number, an element as a value, as a datum, the reader, the zero. -/
structure Mty (α : Type) where
  t : TypeId
  e : TypeId
  V : α → Value
  d : α → DataW Unit
  R : Value → Option (DataW Unit × List MemPlace)
  z : α
structure Mty.Ok {α : Type} (T : Mty α) : Prop where
  ut : Tryz.prog.underlying T.t = some (.map 9 T.e)
  zv : ∀ w : World, (zeroValue T.e).run Tryz.prog w = .ok (T.V T.z) w
  rd : ∀ a, T.R (T.V a) = some (T.d a, [])
  inv : ∀ v a ps, T.R v = some (T.d a, ps) → v = T.V a
theorem strKd : Keyed Tryz.prog 9 := string_keyed Tryz.underlying9
variable {α : Type} {T : Mty α}
def smD (T : Mty α) (l : Sm α) : List (Lit × DataW Unit) := l.map fun p => (.string p.1, T.d p.2)
/-- block b of w is the map l. -/
def MapS (T : Mty α) (w : World) (b : Nat) (l : Sm α) : Prop := Sm.Ok l ∧ w.ownsMap Tryz.prog 9 T.R b l.length (.map (smD T l))
theorem sm_before (a b : Bs) : (Lit.string a).before (.string b) = bytesBefore a b := rfl
theorem sm_same (a b : Bs) : (Lit.string a).sameKey (.string b) = decide (a = b) := by
  show (a == b) = _
  by_cases h : a = b
  · simp [h]
  · simp [h]
theorem smD_del (l : Sm α) (k : Bs) : (smD T l).filter (fun p => !p.1.sameKey (.string k)) = smD T (l.del k) := by
  unfold smD Sm.del
  rw [List.filter_map]
  congr 1
  apply List.filter_congr
  intro p _
  show (!(Lit.string p.1).sameKey (.string k)) = _
  rw [sm_same]
  by_cases h : p.1 = k <;> simp [h]
theorem smD_ins (k : Bs) (v : α) : ∀ l : Sm α, DataW.insert ((.string k : Lit), T.d v) (smD T l) = smD T (Sm.ins k v l)
  | [] => rfl
  | p :: l => by
    unfold smD
    rw [List.map_cons, DataW.insert, Sm.ins]
    show (if (Lit.string k).before (.string p.1) = true then _ else _) = _
    rw [sm_before]
    by_cases h : bytesBefore k p.1 = true
    · rw [if_pos h, if_pos h]; rfl
    · rw [if_neg h, if_neg h, List.map_cons]
      have := smD_ins k v l
      unfold smD at this
      rw [this]
theorem smD_put (l : Sm α) (k : Bs) (v : α) : (DataW.map (smD T l)).put (.string k) (T.d v) = .map (smD T (l.put k v)) := by
  show DataW.map (DataW.insert _ _) = _
  rw [smD_del, smD_ins]; rfl
theorem smD_get (l : Sm α) (k : Bs) (z : DataW Unit) : (DataW.map (smD T l)).atKey (.string k) z = match l.get k with | some v => T.d v | none => z := by
  induction l with
  | nil => rfl
  | cons p l ih =>
    unfold smD at ih ⊢
    unfold DataW.atKey at ih ⊢
    simp only [List.map_cons, List.find?_cons, Sm.get]
    by_cases h : p.1 = k
    · rw [show (Lit.string p.1).sameKey (.string k) = true from by rw [sm_same]; simp [h], if_pos h]
    · rw [show (Lit.string p.1).sameKey (.string k) = false from by rw [sm_same]; simp [h], if_neg h]
      exact ih
theorem smD_has (l : Sm α) (k : Bs) : Maps.has (DataW.map (smD T l)) (.string k) = l.has k := by
  induction l with
  | nil => rfl
  | cons p l ih =>
    unfold smD Sm.has at ih ⊢
    rw [Maps.has_eq] at ih ⊢
    simp only [List.map_cons, List.any_cons, Sm.get]
    by_cases h : p.1 = k
    · rw [show (Lit.string p.1).sameKey (.string k) = true from by rw [sm_same]; simp [h], if_pos h]; rfl
    · rw [show (Lit.string p.1).sameKey (.string k) = false from by rw [sm_same]; simp [h], if_neg h]
      simpa using ih
theorem MapS.made (w : World) : MapS T (w.alloc (.map #[] 0)) w.heap.size [] := ⟨Sm.Ok.nil, World.ownsMap_made w _ _ _⟩
theorem MapS.of_blk {w : World} {b : Nat} (h : w.heap[b]? = some (.map #[] 0)) : MapS T w b [] := ⟨Sm.Ok.nil, #[], 0, h, ⟨by simp, Go.MapKept.stamped_empty 0, by simp⟩, Nat.le_refl _, rfl⟩
theorem MapS.lt {w : World} {b : Nat} {l : Sm α} (h : MapS T w b l) : b < w.heap.size := h.2.lt
theorem MapS.kept {w w' : World} {b : Nat} {l : Sm α} {row : Option Nat} (h : MapS T w b l) (hg : w.grownBy w' row) (hne : some b ≠ row) : MapS T w' b l := ⟨h.1, h.2.kept hg hne⟩
theorem MapS.below {w w' : World} {b : Nat} {l : Sm α} (h : MapS T w b l) (hb : Below w.heap.size w w') : MapS T w' b l := h.kept (Gr.of_below hb none) (by simp)
theorem MapS.alloc {w : World} {b : Nat} {l : Sm α} (h : MapS T w b l) (o : Obj) : MapS T (w.alloc o) b l := ⟨h.1, h.2.alloc o⟩
theorem MapS.drew {w : World} {b : Nat} {l : Sm α} (h : MapS T w b l) : MapS T w.drew b l := h
theorem MapS.keep {w w' : World} {b : Nat} {l : Sm α} (h : MapS T w b l) (hk : w'.heap[b]? = w.heap[b]?) : MapS T w' b l := by
  obtain ⟨h1, es, clock, hb, h2⟩ := h
  exact ⟨h1, es, clock, hk.trans hb, h2⟩
theorem keyS (s : ByteArray) (hs : s.size ≤ maxLen) : keyOf Tryz.prog 9 (.string s) = some (.string s.data.toList) := Go.WideMaps.keyOf_string_mk (s := s) Tryz.underlying9 hs
theorem MapS.look {w : World} {b : Nat} {l : Sm α} (h : MapS T w b l) (hT : T.Ok) (s : ByteArray) (hs : s.size ≤ maxLen) : (Instr.lookup T.t (.map (some b)) (.string s) false).run Tryz.prog w = .ok (T.V ((l.get s.data.toList).getD T.z)) w := by
  obtain ⟨v, ps, hrun, hv⟩ := h.2.lookup strKd hT.ut (hT.zv w) (hT.rd T.z) (keyS s hs)
  rw [smD_get] at hv
  rw [hrun]
  cases hg : l.get s.data.toList with
  | none => rw [hg] at hv; rw [hT.inv _ _ _ hv]; rfl
  | some x => rw [hg] at hv; rw [hT.inv _ _ _ hv]; rfl
theorem MapS.look_ok {w : World} {b : Nat} {l : Sm α} (h : MapS T w b l) (hT : T.Ok) (s : ByteArray) (hs : s.size ≤ maxLen) : (Instr.lookup T.t (.map (some b)) (.string s) true).run Tryz.prog w = .ok (.tuple #[T.V ((l.get s.data.toList).getD T.z), .bool (l.has s.data.toList)]) w := by
  obtain ⟨v, ps, hrun, hv⟩ := h.2.look_ok strKd hT.ut (hT.zv w) (hT.rd T.z) (keyS s hs)
  rw [smD_get] at hv
  rw [smD_has] at hrun
  rw [hrun]
  cases hg : l.get s.data.toList with
  | none => rw [hg] at hv; rw [hT.inv _ _ _ hv]; rfl
  | some x => rw [hg] at hv; rw [hT.inv _ _ _ hv]; rfl
theorem MapS.len {w : World} {b : Nat} {l : Sm α} (h : MapS T w b l) (hT : T.Ok) (ty : TypeId) : (Builtin.len_ #[T.t] ty #[.map (some b)]).run Tryz.prog w = .ok (.int .i64 l.length) w := by
  have := h.2.len hT.ut ty
  rw [this]
  simp [Maps.size, smD]
theorem own_exact {w : World} {b n : Nat} {R : Value → Option (DataW Unit × List MemPlace)} {es : List (Lit × DataW Unit)} (h : w.ownsMap Tryz.prog 9 R b n (.map es)) : w.ownsMap Tryz.prog 9 R b es.length (.map es) := by
  obtain ⟨xs, clock, hb, F, hs, hD⟩ := h
  refine ⟨xs, clock, hb, F, ?_, hD⟩
  injection hD with hD
  rw [hD, length_sorted]; simp
theorem MapS.put {w : World} {b : Nat} {l : Sm α} (h : MapS T w b l) (hT : T.Ok) (s : ByteArray) (hs : s.size ≤ maxLen) (x : α) (hl : l.length < maxLen) :
    ∃ w', (Instr.mapUpdate T.t (.map (some b)) (.string s) (T.V x)).run Tryz.prog w = .ok () w' ∧ MapS T w' b (l.put s.data.toList x) ∧ w.mapTurned w' b := by
  obtain ⟨w', hrun, h1, h2⟩ := h.2.store strKd hT.ut hl (keyS s hs) (hT.rd x)
  rw [smD_put] at h1
  have h3 := own_exact h1
  have e : (smD T (l.put s.data.toList x)).length = (l.put s.data.toList x).length := by simp [smD]
  rw [e] at h3
  exact ⟨w', hrun, ⟨h.1.put _ _, h3⟩, h2⟩
theorem MapS.del {w : World} {b : Nat} {l : Sm α} (h : MapS T w b l) (hT : T.Ok) (s : ByteArray) (hs : s.size ≤ maxLen) (ty : TypeId) :
    ∃ w', (Builtin.delete_ #[T.t, 9] ty #[.map (some b), .string s]).run Tryz.prog w = .ok (.tuple #[]) w' ∧ MapS T w' b (l.del s.data.toList) ∧ w.mapTurned w' b := by
  obtain ⟨w', hrun, h1, h2⟩ := h.2.drop strKd hT.ut (keyS s hs) ty
  have e1 : (DataW.map (smD T l)).del (.string s.data.toList) = .map (smD T (l.del s.data.toList)) := by
    show DataW.map _ = _
    rw [smD_del]
  rw [e1] at h1
  have h3 := own_exact h1
  have e : (smD T (l.del s.data.toList)).length = (l.del s.data.toList).length := by simp [smD]
  rw [e] at h3
  exact ⟨w', hrun, ⟨h.1.del _, h3⟩, h2⟩
theorem smD_keys (l : Sm α) : strKeys (DataW.map (smD T l)) = l.keys := by
  show ((l.map fun p => ((Lit.string p.1), T.d p.2)).map fun p => strOf p.1) = l.map (·.1)
  rw [List.map_map]
  rfl
theorem Turned.below {w w' : World} {b B : Nat} (h : w.mapTurned w' b) (hb : B ≤ b) (hB : B ≤ w.heap.size) : Below B w w' := Gr.below h.grown hb hB
end Go.Proofs.YtihgnpobkpnipaaGreatDoor
namespace Go.Proofs.YtihgnpobkpnipaaGreatDoor
open Go.RowKit Go.Sort Go.Maps Go.Shelf Go.Lib
/-! keys of sorted maps -/
theorem bb_le : ∀ a b : Bs, bytesBefore a b = true → a ≤ b
  | [], [], h => by simp [bytesBefore] at h
  | [], _ :: _, _ => List.nil_le _
  | _ :: _, [], h => by simp [bytesBefore] at h
  | a :: r, b :: s, h => by
    simp only [bytesBefore, Bool.or_eq_true, decide_eq_true_eq, Bool.and_eq_true, beq_iff_eq] at h
    rw [List.cons_le_cons_iff]
    rcases h with h | ⟨h, h2⟩
    · exact .inl h
    · exact .inr ⟨h, bb_le r s h2⟩
theorem Sm.keys_sorted {α : Type} {m : Sm α} (h : Sm.Ok m) : m.keys.Pairwise fun a b => leB a b = true := by
  unfold Sm.keys
  rw [List.pairwise_map]
  exact h.imp fun {a b} hab => decide_eq_true (bb_le _ _ hab)
theorem Sm.keys_nodup {α : Type} {m : Sm α} (h : Sm.Ok m) : m.keys.Nodup := by
  unfold Sm.keys List.Nodup
  rw [List.pairwise_map]
  exact h.imp fun {a b} hab => Sm.bb_ne hab
theorem Sm.sort_keys {α : Type} {m : Sm α} (h : Sm.Ok m) {ss : List Bs} (hp : ss.Perm m.keys) : ss.mergeSort leB = m.keys := by
  rw [mergeSort_of_perm hp]
  exact List.mergeSort_of_pairwise (Sm.keys_sorted h)
theorem keys_len {α : Type} (m : Sm α) : m.keys.length = m.length := List.length_map _
def bsOf (b : ByteArray) : Bs := b.data.toList
def baOf (k : Bs) : ByteArray := ⟨k.toArray⟩
theorem bsOf_baOf (k : Bs) : bsOf (baOf k) = k := by simp [bsOf, baOf]
theorem flat_ba (ks : List Bs) : ks.map encStr = (ks.map baOf).flatMap TS.f := by
  induction ks with
  | nil => rfl
  | cons a l ih => rw [List.map_cons, ih, List.map_cons, List.flatMap_cons]; rfl
theorem own_keys {α : Type} {w : World} {B : Nat} {v : Value} {ss : List Bs} {m : Sm α} (hm : Sm.Ok m) (hp : ss.Perm m.keys) (h : w.ownsRow B 9 1 v ss.length ((ss.mergeSort (fun x y => decide (x ≤ y))).map encStr)) : OwnR TS w B v (m.keys.map baOf) := by
  rw [show ss.mergeSort (fun x y => decide (x ≤ y)) = m.keys from Sm.sort_keys hm hp, flat_ba, hp.length_eq] at h
  unfold OwnR
  rw [List.length_map]
  exact h
end Go.Proofs.YtihgnpobkpnipaaGreatDoor
