/- Boards that wait: the stable sort of few names by the moments since when they wait; Waiting. Conditions: at most 19 boards that failed. · isHopeless over general maps. Conditions: names of at most 1000 bytes, few heats. · Which boards are hopeless: the closure of Hopeless, slices.IndexFunc and DeleteFunc with it, Hopeless. Conditions: names of at most 1000 bytes. -/
import Derived.Test.YtbkglhakhahfpaaGreatDoorIn

import Derived.Test.YtbkglhakhahfpaaGreatDoorSortRow
import Derived.Shelf.SlSortCmp.Insertion
import Derived.Sort.LotA
import Derived.Maps.RangeWalk
import Derived.Sort.KeysCollected
import Derived.Deep.RegionWith
namespace Go.Proofs.YtbkglhakhahfpaaGreatDoor
open Go.RowKit Go.Sort Go.Maps

def cmpV (x y : Int) : Int := if x < y then -1 else if y < x then 1 else 0
theorem cmpV_any (x y : Int) (w : World) : Calls Tryz.prog 103 #[.int .i64 x, .int .i64 y] w fun e w' => e = .returned (.int .i64 (cmpV x y)) ∧ w' = w :=
  (Tryz.cmp_Compare_int x y w).mono fun e w' ⟨he, hw⟩ => ⟨by rw [he]; rfl, hw⟩
def sinceOf (m : Sm Bd0) (k : Bs) : Int := ((m.get k).getD newB).si
/-- a name that is there. -/
def normW (m : Sm Bd0) (k0 k : Bs) : Bs := if (m.get k).isSome = true then k else k0
def cfW (m : Sm Bd0) (k0 x y : Bs) : Int := cmpV (sinceOf m (normW m k0 x)) (sinceOf m (normW m k0 y))
def encW (m : Sm Bd0) (k0 k : Bs) : Value := .string (baOf (normW m k0 k))
instance : Inhabited Bs := ⟨[]⟩
/-- names sorted by since when: equal ones stay. -/
def sortW (m : Sm Bd0) (l : List Bs) : List Bs := (Sort.insertionSort (ltOf (cfW m (l.headD []))) l.toArray 0 l.length).toList
theorem normW_of {m : Sm Bd0} {k0 k : Bs} (h : (m.get k).isSome = true) : normW m k0 k = k := if_pos h
theorem normW_in {m : Sm Bd0} {k0 : Bs} (h : (m.get k0).isSome = true) (k : Bs) : ∃ b, m.get (normW m k0 k) = some b := by
  unfold normW
  split
  · rename_i hk; exact Option.isSome_iff_exists.1 hk
  · exact Option.isSome_iff_exists.1 h
theorem cfW_swo (m : Sm Bd0) (k0 : Bs) : SWO (ltOf (cfW m k0)) := by
  have h : ∀ x y, ltOf (cfW m k0) x y = decide (sinceOf m (normW m k0 x) < sinceOf m (normW m k0 y)) := fun x y => by
    unfold ltOf cfW cmpV
    by_cases h : sinceOf m (normW m k0 x) < sinceOf m (normW m k0 y)
    · rw [if_pos h]; simp [h]
    · rw [if_neg h]
      split <;> simp [h]
  refine ⟨fun x => ?_, fun x y z h1 h2 => ?_, fun x y z h1 h2 => ?_⟩
  · rw [h]; simp
  · rw [h] at *; simp at *; omega
  · rw [h] at *; simp at *; omega
theorem sortW_perm (m : Sm Bd0) (l : List Bs) : (sortW m l).Perm l := by
  have h := (insertionSort_holds (cfW_swo m (l.headD [])) l.toArray 0 l.length (Nat.zero_le _) (by simp)).1
  obtain ⟨h1, _, h3⟩ := h
  have e1 : (Sort.insertionSort (ltOf (cfW m (l.headD []))) l.toArray 0 l.length).extract 0 l.length = Sort.insertionSort (ltOf (cfW m (l.headD []))) l.toArray 0 l.length := by
    have : l.length = (Sort.insertionSort (ltOf (cfW m (l.headD []))) l.toArray 0 l.length).size := by rw [h1]; simp
    conv => lhs; rw [show (Sort.insertionSort (ltOf (cfW m (l.headD []))) l.toArray 0 l.length).extract 0 l.length = (Sort.insertionSort (ltOf (cfW m (l.headD []))) l.toArray 0 l.length).extract 0 (Sort.insertionSort (ltOf (cfW m (l.headD []))) l.toArray 0 l.length).size by rw [← this]]
    rw [Array.extract_size]
  have e2 : l.toArray.extract 0 l.length = l.toArray := by
    conv => lhs; rw [show l.toArray.extract 0 l.length = l.toArray.extract 0 l.toArray.size by simp]
    rw [Array.extract_size]
  rw [e1, e2] at h3
  exact h3
theorem enc_flat {m : Sm Bd0} {k0 : Bs} {l : List Bs} (h : ∀ k ∈ l, (m.get k).isSome = true) : l.map (encW m k0) = (l.map baOf).flatMap TS.f := by
  induction l with
  | nil => rfl
  | cons a l ih =>
    rw [List.map_cons, ih fun k hk => h k (List.mem_cons_of_mem _ hk), List.map_cons, List.flatMap_cons]
    unfold encW
    rw [normW_of (h a (List.mem_cons_self ..))]; rfl
def waitL (rh rr : Int) (l : List Stp) (at' : Int) : List Bs := if mfltF rh rr l at' = 0 then sortW (runS rh rr at' [] l) (inS (runS rh rr at' [] l) 3) else []
theorem inS_some {m : Sm Bd0} (hm : Sm.Ok m) {st : Int} : ∀ k ∈ inS m st, (m.get k).isSome = true := fun k hk => by
  obtain ⟨b, hb, _⟩ := inS_mem hm hk
  rw [hb]; rfl
end Go.Proofs.YtbkglhakhahfpaaGreatDoor
namespace Go.Proofs.YtbkglhakhahfpaaGreatDoor
open Go.RowKit Go.Sort Go.Maps Go.Lib

/-- the next entry of a range over a map keyed by strings. -/
theorem next_sv {w : World} {ops : Array Oper} {rest : List Oper} {o : Oper} {a : Act} {Q : Exit → Act → World → Prop}
    (hg : o.guard = none) (it : Operand) (hop : o.op = Op.next it false) {R : Value → Option (DataW Unit × List MemPlace)} {b r n : Nat} {D : DataW Unit} {left : Lit → Bool} {cnt : Nat}
    (hit : a.eval it = .pointer (some ⟨r, 0, none⟩)) (h : w.ranges Tryz.prog 9 R b r n D left cnt)
    (hDone : cnt = 0 → (∀ kl, left kl = false) → wpList Tryz.prog ops Q rest (a.put o.dst (.tuple #[.bool false])) w)
    (hMore : ∀ (x : Bs) (cv : Value) (w' : World) (cnt' : Nat), x.length ≤ maxLen → left (.string x) = true → Maps.has D (.string x) = true → w'.ranges Tryz.prog 9 R b r n D (fun z => left z && !z.sameKey (.string x)) cnt' → cnt' < cnt →
      w.grownBy w' (some r) → w'.heap.size = w.heap.size → (Instr.entry (.pointer (some ⟨r, 0, none⟩))).run Tryz.prog w' = .ok (.tuple #[.string (baOf x), cv]) w' → wpList Tryz.prog ops Q rest (a.put o.dst (.tuple #[.bool true, .string (baOf x), cv])) w') :
    wpList Tryz.prog ops Q (o :: rest) a w :=
  wpList_next_ranges w hg it hop 9 strKd R encStr id (fun key kl hkey => by obtain ⟨x, hx, _⟩ := Maps.keyOf_str (k := 9) Tryz.underlying9 hkey; exact ⟨x, hx⟩) (fun v y _ => ⟨v, rfl⟩)
    b r n D left cnt hit h hDone (fun x cv kl y w' cnt' hkey hlk hv hat hrg hlt hgr hsz hen => by
      obtain ⟨x', ex, rfl, hwx⟩ := Maps.keyOf_str (k := 9) Tryz.underlying9 hkey
      have e := encStr_inj ex
      subst e
      exact hMore x cv w' cnt' hwx hlk (has_true_of_atKey hat) hrg hlt hgr hsz hen)
theorem boolE_inv {v : Value} {y : DataW Unit × List MemPlace} (h : boolE v = some y) : ∃ c : Bool, v = .bool c := by
  unfold boolE at h
  split at h
  · exact ⟨_, rfl⟩
  · cases h
theorem strI (key : Value) (kl : Lit) (h : keyOf Tryz.prog 9 key = some kl) : ∃ x : Bs, key = encStr x := by
  obtain ⟨x, hx, _⟩ := Maps.keyOf_str (k := 9) Tryz.underlying9 h
  exact ⟨x, hx⟩
/-- a key that the datum has. -/
theorem smD_key {α : Type} {T : Mty α} {l : Sm α} {x : Bs} (h : Maps.has (DataW.map (smD T l)) (.string x) = true) : x ∈ l.keys := by
  rw [smD_has] at h
  exact Sm.has_iff.1 h
end Go.Proofs.YtbkglhakhahfpaaGreatDoor
namespace Go.Proofs.YtbkglhakhahfpaaGreatDoor
open Go.RowKit Go.Sort Go.Maps

/-- the first cells of a row. -/
def TopS (w : World) (B g n cap : Nat) (l : List ByteArray) : Prop := B ≤ g ∧ n ≤ cap ∧ cap ≤ maxLen ∧ l.length = n ∧ ∃ cur, w.heap[g]? = some (.cells cur 9 (0, 0)) ∧ cur.size = cap ∧ cur.toList.take n = l.map Value.string
theorem TopS.own {w : World} {B g n cap : Nat} {l : List ByteArray} (h : TopS w B g n cap l) : OwnR TS w B (.slice (some ⟨g, 0, none⟩) n cap) l := by
  obtain ⟨h1, h2, h3, h4, cur, h5, h6, h7⟩ := h
  have hf : l.flatMap TS.f = l.map Value.string := by
    clear h4 h7
    induction l with
    | nil => rfl
    | cons a l ih => rw [List.flatMap_cons, ih]; rfl
  refine ⟨by rw [hf, List.length_map]; exact (Nat.mul_one _).symm, .inr ⟨g, cap, cur, by rw [h4], h1, h5, by omega, h3, by rw [h6]; exact (Nat.mul_one _).symm, ?_⟩⟩
  rw [hf, ← h7, h4]
  show _ = cur.toList.take n
  rw [show n * TS.k = n from Nat.mul_one n]
theorem TopS.set {w : World} {B g n cap : Nat} {l : List ByteArray} (h : TopS w B g n cap l) {o : Nat} (ho : n ≤ o) (v : Value) : TopS (w.setCell ⟨g, o, none⟩ v) B g n cap l := by
  obtain ⟨h1, h2, h3, h4, cur, h5, h6, h7⟩ := h
  exact ⟨h1, h2, h3, h4, _, blk_set h5 o v, by simp [h6], by rw [Array.toList_setIfInBounds, List.take_set_of_le ho]; exact h7⟩
theorem TopS.sets {B g n cap : Nat} {l : List ByteArray} : ∀ (vs : List Value) (o : Nat) {w : World}, TopS w B g n cap l → n ≤ o → TopS (w.setCells g o vs) B g n cap l
  | [], _, _, h, _ => h
  | v :: r, o, _, h, ho => TopS.sets r (o + 1) (h.set ho v) (by omega)
theorem Bl.sets {B g : Nat} {a : World} (hg : B ≤ g) : ∀ (vs : List Value) (o : Nat) {w : World}, Below B a w → Below B a (w.setCells g o vs)
  | [], _, _, h => h
  | v :: r, o, _, h => Bl.sets hg r (o + 1) (Bl.set h g o hg v)
theorem top_of {w : World} {B g n N cap : Nat} {l' l : List ByteArray} (h : OwnR TS w B (.slice (some ⟨g, 0, none⟩) N cap) l') (hN : l'.length = N) (h0 : 0 < N) (hn : n ≤ N) (hl : l'.take n = l) : TopS w B g n cap l := by
  have hf : ∀ l : List ByteArray, l.flatMap TS.f = l.map Value.string := fun l => by
    induction l with
    | nil => rfl
    | cons a l ih => rw [List.flatMap_cons, ih]; rfl
  obtain ⟨g', cap', cur, hv, hB, hb, h1, h2, h3, h4⟩ := h.blk (by intro e; rw [e] at hN; simp at hN; omega)
  injection hv with e1 e2 e3
  injection e1 with e1
  injection e1 with e1
  subst e1 e3
  rw [hf, show TS.k = 1 from rfl, Nat.mul_one] at h4
  refine ⟨hB, by omega, h2, by rw [← hl, List.length_take]; omega, cur, hb, by rw [h3]; exact Nat.mul_one _, ?_⟩
  rw [← hl, List.map_take, ← h4, List.take_take]
  congr 1; omega
/-- what DeleteFunc has done up to place j. -/
structure DelI (w : World) (B g N cap n j : Nat) (ks : List Bs) (q : Bs → Bool) (wr : World) (l' : List ByteArray) : Prop where
  len : l'.length = N
  own : OwnR TS wr B (.slice (some ⟨g, 0, none⟩) N cap) l'
  top : l'.take n = ((ks.take j).filter fun k => !q k).map baOf
  rest : ∀ x, j ≤ x → l'[x]? = (ks.map baOf)[x]?
theorem DelI.skip {w : World} {B g N cap n j : Nat} {ks : List Bs} {q : Bs → Bool} {wr w' : World} {l' : List ByteArray} (h : DelI w B g N cap n j ks q wr l') {t : Bs} (ht : ks[j]? = some t) (hq : q t = true) (hb : Below wr.heap.size wr w') : DelI w B g N cap n (j + 1) ks q w' l' := by
  refine ⟨h.len, h.own.below hb, ?_, fun x hx => h.rest x (by omega)⟩
  rw [h.top, List.take_add_one, ht]
  simp [hq]
theorem DelI.keep {w : World} {B g N cap n j : Nat} {ks : List Bs} {q : Bs → Bool} {wr w' : World} {l' : List ByteArray} (h : DelI w B g N cap n j ks q wr l') {t : Bs} (ht : ks[j]? = some t) (hq : q t = false) (hb : Below wr.heap.size wr w') (hnj : n < j) (hjN : j < N) : DelI w B g N cap (n + 1) (j + 1) ks q (w'.setCell ⟨g, n, none⟩ (.string (baOf t))) (l'.set n (baOf t)) := by
  have hnl : n < l'.length := by rw [h.len]; omega
  refine ⟨by rw [List.length_set, h.len], ?_, ?_, fun x hx => ?_⟩
  · have := (h.own.below hb).setf (fo := 0) (i := n) (x' := baOf t) (v := .string (baOf t)) TS.ok h.len.symm (List.getElem?_eq_getElem hnl) (by decide) rfl
    simpa [TS] using this
  · rw [List.take_add_one, List.take_set_of_le (Nat.le_refl n), h.top, List.take_add_one, ht]
    simp [hq, hnl]
  · rw [List.getElem?_set_ne (by omega)]; exact h.rest x (by omega)
def hopK (rh rr : Int) (m : Sm Bd0) (k : Bs) : Bool := isHopB rh rr ((m.get k).getD newB)
def hopL (rh rr : Int) (l : List Stp) (at' : Int) : List Bs := if mfltF rh rr l at' = 0 then (inS (runS rh rr at' [] l) 3).filter (hopK rh rr (runS rh rr at' [] l)) else []
theorem rulesF_zero {rh rr : Int} (h : rulesF rh rr = 0) : 0 ≤ rh ∧ rh ≤ 1000000 := by
  unfold rulesF inB at h
  split at h
  · rename_i hc
    simp only [Bool.and_eq_true, decide_eq_true_eq] at hc
    omega
  · cases h
end Go.Proofs.YtbkglhakhahfpaaGreatDoor
