/- Texts of the proof of a law, put together, part 10 of 46. Conditions: none beyond those that each theorem names. -/
import Derived.Test.YteojmljggoplkaaGreatDoorPz2
import Derived.Test.YteojmljggoplkaaGreatDoorPz6
import Derived.Test.YteojmljggoplkaaGreatDoorPz9
import Derived.DeepKeys4
namespace Go.Proofs.YteojmljggoplkaaGreatDoor
open Go.RowKit Go.Sort Go.Maps
theorem bl_le : ∀ a b : Bs, Op.bytesLess a b = true → a ≤ b ∧ a ≠ b
  | [], [], h => by simp [Op.bytesLess] at h
  | [], _ :: _, _ => ⟨List.nil_le _, by simp⟩
  | _ :: _, [], h => by simp [Op.bytesLess] at h
  | a :: r, b :: s, h => by
    rw [bl_cons, Bool.or_eq_true, Bool.and_eq_true] at h
    rcases h with h | ⟨h, h2⟩
    · have h := of_decide_eq_true h
      refine ⟨List.cons_le_cons_iff.2 (.inl h), fun e => ?_⟩
      injection e with e
      subst e
      exact absurd h (UInt8.lt_irrefl a)
    · have h : a = b := by simpa using h
      obtain ⟨h3, h4⟩ := bl_le r s h2
      exact ⟨List.cons_le_cons_iff.2 (.inr ⟨h, h3⟩), fun e => h4 (by injection e)⟩
theorem prtF_less {p : ByteArray} {x : Prt} (h : prtF (some p) x = 0) : Op.bytesLess p.toList x.1.toList = true := by
  unfold prtF at h
  split at h
  · exact absurd h (by decide)
  split at h
  · exact absurd h (by decide)
  split at h
  · exact absurd h (by decide)
  split at h
  · exact absurd h (by decide)
  by_cases h4 : blePt x.1 p = true
  · simp only [h4, if_true] at h; exact absurd h (by decide)
  · have h5 : blePt x.1 p = false := by simpa using h4
    unfold blePt at h5
    rw [Bool.or_eq_false_iff] at h5
    cases hq : Op.bytesLess p.toList x.1.toList
    · have := bl_tot _ _ h5.1 hq
      have h6 := h5.2
      rw [this] at h6
      simp at h6
    · rfl
def keysP (ps : List Prt) : List Bs := ps.map fun x => bsOf x.1
theorem prtsF1_srt : ∀ (l : List Prt) (p : Option ByteArray), prtsF1 p l = 0 → (∀ q, p = some q → ∀ x ∈ l, Op.bytesLess q.toList x.1.toList = true) ∧ Srt (keysP l)
  | [], _, _ => ⟨fun _ _ _ hx => (List.not_mem_nil hx).elim, List.Pairwise.nil⟩
  | x :: l, p, h => by
    rw [prtsF1] at h
    by_cases h0 : prtF p x = 0
    · rw [if_pos h0] at h
      obtain ⟨g1, g2⟩ := prtsF1_srt l _ h
      have hall := g1 x.1 rfl
      refine ⟨fun q hq y hy => ?_, List.Pairwise.cons (fun s hs => ?_) g2⟩
      · subst hq
        have hx := prtF_less h0
        rcases List.mem_cons.1 hy with rfl | hy
        · exact hx
        · exact bl_trans _ _ _ hx (hall y hy)
      · obtain ⟨y, hy, rfl⟩ := List.mem_map.1 hs
        have := hall y hy
        rw [ByteArray.toList_eq, ByteArray.toList_eq] at this
        exact bl_le _ _ this
    · rw [if_neg h0] at h; exact absurd h h0
theorem twice_nodup : ∀ (l seen : List (Bs × Bs)), twiceB seen l = false → l.Nodup ∧ ∀ x ∈ l, x ∉ seen
  | [], _, _ => ⟨List.nodup_nil, fun _ h => by cases h⟩
  | x :: r, seen, h => by
    rw [twiceB, Bool.or_eq_false_iff] at h
    obtain ⟨h1, h2⟩ := twice_nodup r (x :: seen) h.2
    refine ⟨List.nodup_cons.2 ⟨fun hx => h2 x hx (List.mem_cons_self ..), h1⟩, fun y hy => ?_⟩
    rcases List.mem_cons.1 hy with rfl | hy
    · exact of_decide_eq_false h.1
    · exact fun q => h2 y hy (List.mem_cons_of_mem _ q)
theorem catsF_twice {ps : List Prt} {l : List Alt} (h : catsF ps l = 0) : twiceB [] (waysL l) = false := by
  unfold catsF at h
  split at h
  · exact absurd h (by decide)
  split at h
  · rename_i q; exact absurd h q
  split at h
  · exact absurd h (by decide)
  split at h
  · rename_i q; exact absurd h q
  cases ht : twiceB [] (waysL l) with
  | false => rfl
  | true => rw [ht] at h; exact absurd h (by decide)
theorem srt_sort {l : List Bs} (n : l.Nodup) : Srt (l.mergeSort leB) := by
  have tr : ∀ a b c : List UInt8, leB a b = true → leB b c = true → leB a c = true := fun a b c h1 h2 => by simp only [leB, decide_eq_true_eq] at *; exact List.le_trans h1 h2
  have tot : ∀ a b : List UInt8, (leB a b || leB b a) = true := fun a b => by simp only [leB, Bool.or_eq_true, decide_eq_true_eq]; exact List.le_total a b
  exact Srt.of_sort (List.pairwise_mergeSort tr tot l) ((List.mergeSort_perm l leB).nodup_iff.2 n)
theorem nextL_srt {ps : List Prt} {l : List Alt} (h : catsF ps l = 0) (p : Bs) : Srt (nextL l p) := by
  refine srt_sort ?_
  have h1 := (twice_nodup _ _ (catsF_twice h)).1
  unfold List.Nodup
  rw [List.pairwise_map]
  have h2 : ((waysL l).filter fun x => decide (x.1 = p)).Nodup := List.Pairwise.filter _ h1
  refine List.Pairwise.imp_of_mem ?_ h2
  rintro ⟨a, b⟩ ⟨c, d⟩ ha hc hne e
  have e1 : a = p := of_decide_eq_true (List.mem_filter.1 ha).2
  have e2 : c = p := of_decide_eq_true (List.mem_filter.1 hc).2
  have e3 : b = d := e
  exact hne (by rw [e1, e2, e3])
/-- the reference: the parts that replace one, in the order of the parts. -/
def directR (ps : List Prt) (l : List Alt) (p : Bs) : List Bs := (keysP ps).filter fun k => decide ((p, k) ∈ waysL l)
theorem directR_eq {ps : List Prt} {l : List Alt} (h : catsF ps l = 0) (p : Bs) : directR ps l p = nextL l p := by
  obtain ⟨_, h1, _, h2⟩ := catsF_ok h
  refine srt_eq ((prtsF1_srt ps none h1).2.filter _) (nextL_srt h p) fun s => ?_
  rw [nextL_mem]
  unfold directR
  rw [List.mem_filter]
  exact ⟨fun q => of_decide_eq_true q.2, fun q => ⟨(ways_in h2 q).2.1, decide_eq_true q⟩⟩
/-! what is reached, one after the other -/
def growR (out : List Bs) : List Bs → List Bs
  | [] => out
  | s :: r => growR (if s ∈ out then out else out ++ [s]) r
def reachR (dir : Bs → List Bs) : Nat → Nat → List Bs → List Bs
  | 0, _, out => out
  | f + 1, i, out => match out[i]? with
    | none => out
    | some p => reachR dir f (i + 1) (growR out (dir p))
theorem visit1_ln {g : Bs → List Bs} {a : Bs} {x : Bfs} {i : Nat} (h : BfI g a x i) (n : Int) (s : Bs) : (visit1 n x s).ln = if s ∈ x.ln then x.ln else x.ln ++ [s] := by
  unfold visit1
  by_cases e : x.st.has s = true
  · rw [if_pos e, if_pos ((h.mem s).1 e)]
  · rw [if_neg e, if_neg fun q => e ((h.mem s).2 q)]
theorem visitL_ln {g : Bs → List Bs} {a : Bs} {p : Bs} {u : Int} : ∀ (l : List Bs) {x : Bfs} {i : Nat}, BfI g a x i → i ≤ x.ln.length → x.st.get p = some u → (∀ s ∈ l, s ∈ g p) → (visitL (u + 1) x l).ln = growR x.ln l
  | [], _, _, _, _, _, _ => rfl
  | s :: r, x, i, h, hi, hp, hl => by
    obtain ⟨h1, _, h3⟩ := visit1_ok h hi hp (hl s (List.mem_cons_self ..))
    obtain ⟨q, e⟩ := h3.ln
    rw [visitL, visitL_ln r h1 (by rw [e, List.length_append]; omega) (h3.gt _ _ hp) fun t ht => hl t (List.mem_cons_of_mem _ ht), visit1_ln h, growR]
theorem bfsF_ln {g : Bs → List Bs} {a : Bs} : ∀ (f i : Nat) {x : Bfs}, BfI g a x i → (bfsF g f i x).ln = reachR g f i x.ln ∧ Grw x (bfsF g f i x)
  | 0, _, x, _ => ⟨rfl, Grw.refl x⟩
  | f + 1, i, x, h => by
    rw [bfsF, reachR]
    cases hp : x.ln[i]? with
    | none => exact ⟨rfl, Grw.refl x⟩
    | some p =>
      obtain ⟨hil, _⟩ := List.getElem?_eq_some_iff.1 hp
      obtain ⟨u, hu⟩ := has_get.1 ((h.mem p).2 (List.mem_of_getElem? hp))
      obtain ⟨h1, h2⟩ := bfs_step h hp
      obtain ⟨k1, k2⟩ := bfsF_ln f (i + 1) h1
      refine ⟨?_, h2.trans k2⟩
      show (bfsF g f (i + 1) (visitL (valB x p + 1) x (g p))).ln = reachR g f (i + 1) (growR x.ln (g p))
      rw [k1, val_of hu, visitL_ln (g p) h (Nat.le_of_lt hil) hu fun _ q => q]
theorem bfsR_ln (g : Bs → List Bs) (a : Bs) (U : List Bs) : (bfsR g a U).ln = reachR g (U.length + 1) 0 [a] ∧ ∃ r, (bfsR g a U).ln = a :: r := by
  obtain ⟨h1, h2⟩ := bfsF_ln (U.length + 1) 0 (bfs0_ok g a)
  obtain ⟨r, hr⟩ := h2.ln
  exact ⟨h1, r, hr⟩
/-- the reference's sorted list is the keys of the program's map, without the part itself. -/
theorem allR_eq (g : Bs → List Bs) (a : Bs) (U : List Bs) (ha : a ∈ U) (hU : ∀ p s, s ∈ g p → s ∈ U) : ((reachR g (U.length + 1) 0 [a]).tail).mergeSort leB = ((bfsR g a U).st.del a).keys := by
  obtain ⟨j, h1, _, _, _⟩ := bfsR_law g a U ha hU
  obtain ⟨e1, r, e2⟩ := bfsR_ln g a U
  rw [← e1, e2, List.tail_cons]
  have hok := h1.ok.del a
  have hnd := h1.nd
  rw [e2] at hnd
  obtain ⟨n1, n2⟩ := List.nodup_cons.1 hnd
  refine Sm.sort_keys hok ((List.perm_ext_iff_of_nodup n2 (Sm.keys_nodup hok)).2 fun s => ?_)
  rw [← Sm.has_iff]
  unfold Sm.has
  by_cases e : a = s
  · subst e
    rw [Sm.get_del_same]
    exact ⟨fun q => absurd q n1, fun q => by cases q⟩
  · rw [Sm.get_del_other e, ← Sm.has, h1.mem, e2, List.mem_cons]
    exact ⟨.inr, fun q => q.resolve_left (Ne.symm e)⟩
end Go.Proofs.YteojmljggoplkaaGreatDoor
namespace Go.Proofs.YteojmljggoplkaaGreatDoor
open Go.RowKit Go.Maps
section
variable {P : Program} {kt ts : TypeId}
theorem keyLits_str (hs : P.underlying ts = some .string) (d : Nat) {a : ByteArray} (ha : a.size ≤ maxLen) : P.keyLits (d + 1) ts [.string a] = some [.string a.data.toList] := by
  simp [Program.keyLits, hs, ha]
/-- the bytes of a key of two strings. -/
def enc2 (a b : Bs) : Bs := keyBytes [.string a, .string b]
theorem keyStruct2 {f1 f2 : _} (hu : P.underlying kt = some (.struct #[f1, f2])) (hs : P.underlying ts = some .string) (h1 : f1.type = ts) (h2 : f2.type = ts) (o1 : f1.offset = 0) (o2 : f2.offset = 1) (n1 : (f1.name != "_") = true) (n2 : (f2.name != "_") = true)
    (hc : P.cellsOf kt = 2) (hcs : P.cellsOf ts = 1) (hk : P.keyType kt = true) (hz : 0 < P.types.size) {a b : ByteArray} (ha : a.size ≤ maxLen) (hb : b.size ≤ maxLen) (hf : (Value.agg #[.string a, .string b]).formed P kt = true) :
    keyOf P kt (.agg #[.string a, .string b]) = some (.string (enc2 a.data.toList b.data.toList)) := by
  obtain ⟨n, hn⟩ : ∃ n, P.types.size = n + 1 := ⟨P.types.size - 1, by omega⟩
  unfold keyOf
  rw [hu]
  simp only [hk, hf, Bool.and_self, if_true]
  rw [hn]
  have e : (Value.agg #[.string a, .string b]).cells.toList = [.string a, .string b] := rfl
  rw [e]
  unfold Program.keyLits
  rw [hu]
  simp [hc, hcs, h1, h2, o1, o2, n1, n2, keyLits_str hs n ha, keyLits_str hs n hb]
  rfl
theorem keyArray2 (hu : P.underlying kt = some (.array 2 ts)) (hs : P.underlying ts = some .string)
    (hc : P.cellsOf kt = 2) (hcs : P.cellsOf ts = 1) (hk : P.keyType kt = true) (hz : 0 < P.types.size) {a b : ByteArray} (ha : a.size ≤ maxLen) (hb : b.size ≤ maxLen) (hf : (Value.agg #[.string a, .string b]).formed P kt = true) :
    keyOf P kt (.agg #[.string a, .string b]) = some (.string (enc2 a.data.toList b.data.toList)) := by
  obtain ⟨n, hn⟩ : ∃ n, P.types.size = n + 1 := ⟨P.types.size - 1, by omega⟩
  unfold keyOf
  rw [hu]
  simp only [hk, hf, Bool.and_self, if_true]
  rw [hn]
  have e : (Value.agg #[.string a, .string b]).cells.toList = [.string a, .string b] := rfl
  rw [e]
  unfold Program.keyLits
  rw [hu]
  simp [hc, hcs, List.range, List.range.loop, keyLits_str hs n ha, keyLits_str hs n hb]
  rfl
end
/-! in memory -/
/-- a type of maps from wide keys. -/
structure WOk {α : Type} (kt : TypeId) (T : Mty α) : Prop where
  K : Keyed Tryz.prog kt
  ut : Tryz.prog.underlying T.t = some (.map kt T.e)
  zv : ∀ w : World, (zeroValue T.e).run Tryz.prog w = .ok (T.V T.z) w
  rd : ∀ a, T.R (T.V a) = some (T.d a, [])
  inv : ∀ v a ps, T.R v = some (T.d a, ps) → v = T.V a
section
variable {α : Type} {kt : TypeId} {T : Mty α} {w w' : World} {b : Nat} {l : Sm α}
/-- block b of w is the map l, by the bytes of its keys. -/
def MapW (kt : TypeId) (T : Mty α) (w : World) (b : Nat) (l : Sm α) : Prop := Sm.Ok l ∧ w.ownsMap Tryz.prog kt T.R b l.length (.map (smD T l))
theorem MapW.made (w : World) : MapW kt T (w.alloc (.map #[] 0)) w.heap.size [] := ⟨Sm.Ok.nil, World.ownsMap_made w _ _ _⟩
theorem MapW.lt (h : MapW kt T w b l) : b < w.heap.size := h.2.lt
theorem MapW.kept {row : Option Nat} (h : MapW kt T w b l) (hg : w.grownBy w' row) (hne : some b ≠ row) : MapW kt T w' b l := ⟨h.1, h.2.kept hg hne⟩
theorem MapW.below (h : MapW kt T w b l) (hb : Below w.heap.size w w') : MapW kt T w' b l := h.kept (Gr.of_below hb none) (by simp)
theorem MapW.alloc (h : MapW kt T w b l) (o : Obj) : MapW kt T (w.alloc o) b l := ⟨h.1, h.2.alloc o⟩
theorem MapW.drew (h : MapW kt T w b l) : MapW kt T w.drew b l := h
theorem MapW.look (h : MapW kt T w b l) (hT : WOk kt T) {k : Value} {s : Bs} (hk : keyOf Tryz.prog kt k = some (.string s)) : (Instr.lookup T.t (.map (some b)) k false).run Tryz.prog w = .ok (T.V ((l.get s).getD T.z)) w := by
  obtain ⟨v, ps, hrun, hv⟩ := h.2.lookup hT.K hT.ut (hT.zv w) (hT.rd T.z) hk
  rw [smD_get] at hv
  rw [hrun]
  cases hg : l.get s with
  | none => rw [hg] at hv; rw [hT.inv _ _ _ hv]; rfl
  | some x => rw [hg] at hv; rw [hT.inv _ _ _ hv]; rfl
theorem MapW.look_ok (h : MapW kt T w b l) (hT : WOk kt T) {k : Value} {s : Bs} (hk : keyOf Tryz.prog kt k = some (.string s)) : (Instr.lookup T.t (.map (some b)) k true).run Tryz.prog w = .ok (.tuple #[T.V ((l.get s).getD T.z), .bool (l.has s)]) w := by
  obtain ⟨v, ps, hrun, hv⟩ := h.2.look_ok hT.K hT.ut (hT.zv w) (hT.rd T.z) hk
  rw [smD_get] at hv
  rw [smD_has] at hrun
  rw [hrun]
  cases hg : l.get s with
  | none => rw [hg] at hv; rw [hT.inv _ _ _ hv]; rfl
  | some x => rw [hg] at hv; rw [hT.inv _ _ _ hv]; rfl
theorem ownW_exact {n : Nat} {R : Value → Option (DataW Unit × List MemPlace)} {es : List (Lit × DataW Unit)} (h : w.ownsMap Tryz.prog kt R b n (.map es)) : w.ownsMap Tryz.prog kt R b es.length (.map es) := by
  obtain ⟨xs, clock, hb, F, hs, hD⟩ := h
  refine ⟨xs, clock, hb, F, ?_, hD⟩
  injection hD with hD
  rw [hD, length_sorted]; simp
theorem MapW.put (h : MapW kt T w b l) (hT : WOk kt T) {k : Value} {s : Bs} (hk : keyOf Tryz.prog kt k = some (.string s)) (x : α) (hl : l.length < maxLen) :
    ∃ w', (Instr.mapUpdate T.t (.map (some b)) k (T.V x)).run Tryz.prog w = .ok () w' ∧ MapW kt T w' b (l.put s x) ∧ w.mapTurned w' b := by
  obtain ⟨w', hrun, h1, h2⟩ := h.2.store hT.K hT.ut hl hk (hT.rd x)
  rw [smD_put] at h1
  have h3 := ownW_exact h1
  have e : (smD T (l.put s x)).length = (l.put s x).length := by simp [smD]
  rw [e] at h3
  exact ⟨w', hrun, ⟨h.1.put _ _, h3⟩, h2⟩
end
end Go.Proofs.YteojmljggoplkaaGreatDoor
namespace Go.Proofs.YteojmljggoplkaaGreatDoor
open Go.RowKit Go.Sort Go.Maps Go.Lib
theorem enc2_inj {a b c d : Bs} (ha : a.length ≤ maxLen) (hb : b.length ≤ maxLen) (hc : c.length ≤ maxLen) (hd : d.length ≤ maxLen) (h : enc2 a b = enc2 c d) : a = c ∧ b = d := by
  have h1 := _root_.Go.keyBytes_inj (l := [.string a, .string b]) (l' := [.string c, .string d]) ⟨trivial, trivial, trivial⟩ (fun x hx => by
    simp only [List.mem_cons, List.not_mem_nil, or_false] at hx
    rcases hx with rfl | rfl
    · exact ha
    · exact hb) (fun x hx => by
    simp only [List.mem_cons, List.not_mem_nil, or_false] at hx
    rcases hx with rfl | rfl
    · exact hc
    · exact hd) h
  simpa using h1
def shortW (x : Bs × Bs) : Prop := x.1.length ≤ maxLen ∧ x.2.length ≤ maxLen
/-- the ways that have been seen. -/
def seenW (l : List (Bs × Bs)) : Sm Bool := l.foldl (fun m x => m.put (enc2 x.1 x.2) true) []
theorem seenW_snoc (l : List (Bs × Bs)) (x : Bs × Bs) : seenW (l ++ [x]) = (seenW l).put (enc2 x.1 x.2) true := by
  unfold seenW
  rw [List.foldl_append]; rfl
theorem seenW_len (l : List (Bs × Bs)) : (seenW l).length ≤ l.length := by
  have h : ∀ (l : List (Bs × Bs)) (m : Sm Bool), (l.foldl (fun m x => m.put (enc2 x.1 x.2) true) m).length ≤ m.length + l.length := by
    intro l
    induction l with
    | nil => intro m; simp
    | cons x r ih =>
      intro m
      have h1 := ih (m.put (enc2 x.1 x.2) true)
      have h2 := Sm.put_le m (enc2 x.1 x.2) true
      rw [List.foldl_cons, List.length_cons]
      omega
  have := h l []
  unfold seenW
  simpa using this
theorem seenW_get {y : Bs × Bs} (hy : shortW y) : ∀ (l : List (Bs × Bs)), (∀ x ∈ l, shortW x) → ((seenW l).get (enc2 y.1 y.2)).getD false = decide (y ∈ l) := by
  have h : ∀ (l : List (Bs × Bs)) (m : Sm Bool), (∀ x ∈ l, shortW x) → ((l.foldl (fun m x => m.put (enc2 x.1 x.2) true) m).get (enc2 y.1 y.2)).getD false = (((m.get (enc2 y.1 y.2)).getD false) || decide (y ∈ l)) := by
    intro l
    induction l with
    | nil => intro m _; simp
    | cons x r ih =>
      intro m hl
      rw [List.foldl_cons, ih _ fun z hz => hl z (List.mem_cons_of_mem _ hz)]
      by_cases e : y = x
      · subst e
        rw [Sm.get_put_same]
        simp
      · have hx := hl x (List.mem_cons_self ..)
        have hne : enc2 x.1 x.2 ≠ enc2 y.1 y.2 := fun q => e (by
          obtain ⟨q1, q2⟩ := enc2_inj hx.1 hx.2 hy.1 hy.2 q
          exact (Prod.ext q1 q2).symm)
        rw [Sm.get_put_other hne]
        have : decide (y ∈ x :: r) = decide (y ∈ r) := by
          rw [decide_eq_decide, List.mem_cons]
          exact ⟨fun q => q.resolve_left e, .inr⟩
        rw [this]
  intro l hl
  have := h l [] hl
  unfold seenW
  simpa [Sm.get] using this
theorem twice_congr : ∀ (l a b : List (Bs × Bs)), (∀ x, x ∈ a ↔ x ∈ b) → twiceB a l = twiceB b l
  | [], _, _, _ => rfl
  | x :: r, a, b, h => by
    rw [twiceB, twiceB, twice_congr r (x :: a) (x :: b) fun y => by rw [List.mem_cons, List.mem_cons, h]]
    congr 1
    rw [decide_eq_decide]
    exact h x
theorem twice_hit {done r : List (Bs × Bs)} {x : Bs × Bs} (h : x ∈ done) : twiceB done (x :: r) = true := by
  rw [twiceB, decide_eq_true h]; rfl
theorem twice_go {done r : List (Bs × Bs)} {x : Bs × Bs} (h : x ∉ done) : twiceB done (x :: r) = twiceB (done ++ [x]) r := by
  rw [twiceB, decide_eq_false h, Bool.false_or]
  exact twice_congr r _ _ fun y => by simp [or_comm]
theorem twice_map {f : Bs × Bs → Bs × Bs} (hf : ∀ x y, f x = f y → x = y) : ∀ (l a : List (Bs × Bs)), twiceB (a.map f) (l.map f) = twiceB a l
  | [], _ => rfl
  | x :: r, a => by
    rw [List.map_cons, twiceB, twiceB, ← List.map_cons, twice_map hf r (x :: a)]
    congr 1
    rw [decide_eq_decide, List.mem_map]
    exact ⟨fun ⟨y, hy, e⟩ => hf _ _ e ▸ hy, fun h => ⟨x, h, rfl⟩⟩
/-- the reference tells what replaces ahead of what is replaced. -/
def turnW (x : Bs × Bs) : Bs × Bs := (x.2, x.1)
def waysR (x : Alt) : List (Bs × Bs) := (bsOf x.2.1, bsOf x.1) :: if x.2.2 = true then [(bsOf x.1, bsOf x.2.1)] else []
theorem waysR_eq (x : Alt) : waysR x = (waysA x).map turnW := by
  unfold waysR waysA
  cases x.2.2 <;> rfl
theorem twiceR (l : List Alt) : twiceB [] (l.flatMap waysR) = twiceB [] (waysL l) := by
  have : l.flatMap waysR = (waysL l).map turnW := by
    unfold waysL
    rw [List.map_flatMap]
    congr 1
    funext x
    exact waysR_eq x
  rw [this]
  exact twice_map (fun x y h => by
    injection h with h1 h2
    exact Prod.ext h2 h1) _ []
theorem waysL_take {l : List Alt} {k : Nat} {x : Alt} (h : l[k]? = some x) : waysL (l.take (k + 1)) = waysL (l.take k) ++ waysA x := by
  unfold waysL
  rw [List.take_add_one, h, List.flatMap_append]
  simp
theorem waysL_drop {l : List Alt} {k : Nat} {x : Alt} (h : l[k]? = some x) : waysL (l.drop k) = waysA x ++ waysL (l.drop (k + 1)) := by
  obtain ⟨hk, e⟩ := List.getElem?_eq_some_iff.1 h
  unfold waysL
  rw [List.drop_eq_getElem_cons hk, e]
  rfl
theorem waysL_len : ∀ (l : List Alt), (waysL l).length ≤ 2 * l.length
  | [] => by simp [waysL]
  | x :: l => by
    have ih := waysL_len l
    have h : (waysA x).length ≤ 2 := by unfold waysA; split <;> simp
    unfold waysL at ih ⊢
    rw [List.flatMap_cons, List.length_append, List.length_cons]
    omega
end Go.Proofs.YteojmljggoplkaaGreatDoor
