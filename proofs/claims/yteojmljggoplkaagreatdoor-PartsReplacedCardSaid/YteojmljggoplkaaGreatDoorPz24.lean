/- Texts of the proof of a law, put together, part 24 of 46. Conditions: none beyond those that each theorem names. -/
import Derived.Test.YteojmljggoplkaaGreatDoorPz18
import Derived.Shelf.SlGeneric
import Derived.Shelf.SlIter.Nil
import Derived.Shelf.SortM.Plain
import Derived.Shelf.SortM.SortNone
import Derived.Ground.GgzProg
import Derived.Ground.SlgmProg
import Derived.Test.YteojmljggoplkaaGreatDoorProg
namespace Go.Proofs.YteojmljggoplkaaGreatDoor
open Go.RowKit Go.Sort Go.Maps
theorem visitL_snoc (n : Int) (s : Bs) : ∀ (l : List Bs) (x : Bfs), visitL n x (l ++ [s]) = visit1 n (visitL n x l) s
  | [], _ => rfl
  | t :: l, x => by
    rw [List.cons_append, visitL, visitL, visitL_snoc n s l]
theorem visitL_val {N n : Int} (hn : n ≤ N) : ∀ (l : List Bs) (x : Bfs), (∀ s v, x.st.get s = some v → v ≤ N) → ∀ s v, (visitL n x l).st.get s = some v → v ≤ N
  | [], _, h, s, v, e => h s v e
  | t :: l, x, h, s, v, e => by
    rw [visitL] at e
    refine visitL_val hn l _ (fun s v e => ?_) s v e
    unfold visit1 at e
    split at e
    · exact h s v e
    · have e' : (x.st.put t n).get s = some v := e
      by_cases q : t = s
      · subst q
        rw [Sm.get_put_same] at e'
        injection e' with e'
        omega
      · rw [Sm.get_put_other q] at e'
        exact h s v e'
theorem bf_len {g : Bs → List Bs} {a : Bs} {x : Bfs} {i : Nat} (h : BfI g a x i) : x.st.length = x.ln.length := by
  rw [← keys_len x.st]
  refine ((List.perm_ext_iff_of_nodup (Sm.keys_nodup h.ok) h.nd).2 fun s => ?_).length_eq
  rw [← Sm.has_iff, h.mem]
structure RcS (g : Bs → List Bs) (a : Bs) (U : List Bs) (x : Bfs) (i : Nat) : Prop where
  bi : BfI g a x i
  sub : ∀ s ∈ x.ln, s ∈ U
  eq : bfsF g (U.length + 1 - i) i x = bfsR g a U
  le : i ≤ x.ln.length
  vl : ∀ s v, x.st.get s = some v → v ≤ (i : Int)
section
variable {g : Bs → List Bs} {a : Bs} {U : List Bs} {x : Bfs} {i : Nat}
theorem RcS.start (ha : a ∈ U) : RcS g a U (bfs0 a) 0 := by
  refine ⟨bfs0_ok g a, fun s hs => by rw [List.mem_singleton.1 (show s ∈ [a] from hs)]; exact ha, rfl, Nat.zero_le _, fun s v h => ?_⟩
  have h' : Sm.get (Sm.put [] a (0 : Int)) s = some v := h
  by_cases e : a = s
  · subst e
    rw [Sm.get_put_same] at h'
    injection h' with h'
    omega
  · rw [Sm.get_put_other e] at h'; cases h'
theorem RcS.len (h : RcS g a U x i) : x.ln.length ≤ U.length := List.Nodup.length_le_of_subset h.bi.nd h.sub
theorem bfsF_end {g : Bs → List Bs} : ∀ (f i : Nat) (x : Bfs), x.ln.length ≤ i → bfsF g f i x = x
  | 0, _, _, _ => rfl
  | f + 1, i, x, h => by
    rw [bfsF, List.getElem?_eq_none h]
theorem RcS.stop (h : RcS g a U x i) (hi : x.ln.length ≤ i) : x = bfsR g a U := by
  rw [← h.eq, bfsF_end _ _ _ hi]
/-- a round begun: what has been visited of the row. -/
structure RcP (g : Bs → List Bs) (a : Bs) (U : List Bs) (x : Bfs) (i : Nat) (p : Bs) (y : Bfs) (j : Nat) : Prop where
  base : RcS g a U x i
  at' : x.ln[i]? = some p
  eq : y = visitL (valB x p + 1) x ((g p).take j)
theorem RcP.start {p : Bs} (h : RcS g a U x i) (hp : x.ln[i]? = some p) : RcP g a U x i p x 0 := ⟨h, hp, by simp [visitL]⟩
theorem RcP.facts {p : Bs} {y : Bfs} {j : Nat} (h : RcP g a U x i p y j) (hU : ∀ p s, s ∈ g p → s ∈ U) : y.ln[i]? = some p ∧ y.ln.length ≤ U.length ∧ y.st.length = y.ln.length ∧ valB y p = valB x p ∧ 0 ≤ valB x p ∧ valB x p ≤ U.length ∧ y.st.has p = true := by
  obtain ⟨hil, _⟩ := List.getElem?_eq_some_iff.1 h.at'
  obtain ⟨u, hu⟩ := has_get.1 ((h.base.bi.mem p).2 (List.mem_of_getElem? h.at'))
  have hv : valB x p = u := val_of hu
  obtain ⟨k1, _, k3⟩ := visitL_ok ((g p).take j) h.base.bi (Nat.le_of_lt hil) hu fun q hq => List.mem_of_mem_take hq
  rw [← hv, ← h.eq] at k1 k3
  have hyu := k3.gt _ _ hu
  obtain ⟨r, hr⟩ := k3.ln
  have hsub : ∀ s ∈ y.ln, s ∈ U := fun s hs => by
    obtain ⟨v, hv⟩ := has_get.1 ((k1.mem s).2 hs)
    rcases k1.bk s v hv with ⟨rfl, _⟩ | ⟨q, _, _, e2, _⟩
    · exact h.base.sub _ ((h.base.bi.mem _).1 (has_get.2 ⟨0, h.base.bi.st⟩))
    · exact hU q s e2
  have hl := h.base.vl _ _ hu
  have hn := h.base.bi.nn _ _ hu
  have hln := h.base.len
  exact ⟨by rw [hr, List.getElem?_append_left hil]; exact h.at', List.Nodup.length_le_of_subset k1.nd hsub, bf_len k1, by rw [hv]; exact val_of hyu, by omega, by omega, has_get.2 ⟨_, hyu⟩⟩
theorem RcP.next {p s : Bs} {y : Bfs} {j : Nat} (h : RcP g a U x i p y j) (hs : (g p)[j]? = some s) : RcP g a U x i p (visit1 (valB x p + 1) y s) (j + 1) :=
  ⟨h.base, h.at', by rw [List.take_add_one, hs, Option.toList_some, visitL_snoc, ← h.eq]⟩
theorem RcP.stop {p : Bs} {y : Bfs} {j : Nat} (h : RcP g a U x i p y j) (hU : ∀ p s, s ∈ g p → s ∈ U) (hj : (g p).length ≤ j) : RcS g a U y (i + 1) := by
  have he := h.eq
  rw [List.take_of_length_le hj] at he
  obtain ⟨hil, _⟩ := List.getElem?_eq_some_iff.1 h.at'
  have hln := h.base.len
  obtain ⟨h1, h2⟩ := bfs_step h.base.bi h.at'
  rw [← he] at h1 h2
  obtain ⟨r, hr⟩ := h2.ln
  refine ⟨h1, fun s hs => ?_, ?_, by rw [hr, List.length_append]; omega, fun s v hv => ?_⟩
  · obtain ⟨v, hv⟩ := has_get.1 ((h1.mem s).2 hs)
    rcases h1.bk s v hv with ⟨rfl, _⟩ | ⟨q, _, _, e2, _⟩
    · exact h.base.sub _ ((h.base.bi.mem _).1 (has_get.2 ⟨0, h.base.bi.st⟩))
    · exact hU q s e2
  · have := h.base.eq
    rw [show U.length + 1 - i = (U.length - i) + 1 by omega, bfsF, h.at'] at this
    rw [show U.length + 1 - (i + 1) = U.length - i by omega, he]
    exact this
  · rw [he] at hv
    obtain ⟨u, hu⟩ := has_get.1 ((h.base.bi.mem p).2 (List.mem_of_getElem? h.at'))
    have hvu : valB x p = u := val_of hu
    have hul := h.base.vl _ _ hu
    refine visitL_val (N := ((i + 1 : Nat) : Int)) (by omega) (g p) x (fun s v q => ?_) s v hv
    have := h.base.vl s v q
    omega
end
/-! a chain, step after step -/
structure ChS (nx : Bs → List Bs) (y : Bfs) (b a : Bs) (d : Nat) (n : Nat) (x : Bs) (out : List Bs) : Prop where
  get : y.st.get x = some (n : Int)
  eq : out ++ (chainB nx y b n x).tail = chainB nx y b d a
  ln : out.length + n = d + 1
theorem ChS.start {nx : Bs → List Bs} {y : Bfs} {b a : Bs} {d : Nat} (h : y.st.get a = some (d : Int)) : ChS nx y b a d d a [a] := by
  refine ⟨h, ?_, by simp; omega⟩
  cases d with
  | zero => rfl
  | succ d =>
    rw [chainB]
    split <;> rfl
theorem chainB_head {nx : Bs → List Bs} {y : Bfs} {b : Bs} : ∀ (n : Nat) (x : Bs), chainB nx y b n x = x :: (chainB nx y b n x).tail
  | 0, _ => rfl
  | n + 1, x => by
    rw [chainB]
    split <;> rfl
theorem ChS.stop {nx : Bs → List Bs} {y : Bfs} {b a : Bs} {d n : Nat} {out : List Bs} (h : ChS nx y b a d n b out) : out = chainB nx y b d a := by
  have := h.eq
  cases n with
  | zero => rw [← this]; simp [chainB]
  | succ n => rw [← this, chainB, if_pos rfl]; simp
theorem ChS.next {g nx : Bs → List Bs} {y : Bfs} {b a : Bs} {j d n : Nat} {x : Bs} {out : List Bs} (hI : BfI g b y j) (hg : ∀ p s, s ∈ g p → p ∈ nx s) (h : ChS nx y b a d n x out) (hx : x ≠ b) : ∃ m, n = m + 1 ∧ ChS nx y b a d m (pickB nx y x) (out ++ [pickB nx y x]) := by
  cases n with
  | zero => exact absurd (val_zero hI h.get) hx
  | succ m =>
    refine ⟨m, rfl, ?_, ?_, ?_⟩
    · obtain ⟨_, h2⟩ := pick_ok hI hg h.get hx
      rw [h2]; congr 1; omega
    · have := h.eq
      rw [chainB, if_neg hx, List.tail_cons] at this
      rw [List.append_assoc, ← this]
      congr 1
      exact (chainB_head m _).symm
    · have := h.ln
      rw [List.length_append, List.length_singleton]
      omega
/-- the search for the next one. -/
theorem pick_hit {nx : Bs → List Bs} {y : Bfs} {x s : Bs} {j : Nat} (hn : ∀ k t, k < j → (nx x)[k]? = some t → y.st.get t ≠ some (valB y x - 1)) (hs : (nx x)[j]? = some s) (he : y.st.get s = some (valB y x - 1)) : pickB nx y x = s := by
  unfold pickB
  have hj := (List.getElem?_eq_some_iff.1 hs).1
  have : (nx x).find? (fun s => decide (y.st.get s = some (valB y x - 1))) = some s := by
    rw [List.find?_eq_some_iff_getElem]
    refine ⟨decide_eq_true he, j, hj, (List.getElem?_eq_some_iff.1 hs).2, fun k hk => ?_⟩
    have := hn k _ hk (List.getElem?_eq_getElem (by omega))
    simpa using this
  rw [this]; rfl
theorem pick_miss {nx : Bs → List Bs} {y : Bfs} {x : Bs} (hn : ∀ t ∈ nx x, y.st.get t ≠ some (valB y x - 1)) : pickB nx y x = x := by
  unfold pickB
  have : (nx x).find? (fun s => decide (y.st.get s = some (valB y x - 1))) = none := by
    rw [List.find?_eq_none]
    intro t ht
    simpa using hn t ht
  rw [this]; rfl
end Go.Proofs.YteojmljggoplkaaGreatDoor
namespace Go.Proofs.YteojmljggoplkaaGreatDoor
open Go.RowKit Go.Sort Go.Maps
/-- no chain is longer than there are parts. -/
theorem bfsF_vl {g : Bs → List Bs} {a : Bs} {U : List Bs} (hU : ∀ p s, s ∈ g p → s ∈ U) : ∀ (f i : Nat) (x : Bfs), RcS g a U x i → ∃ j, RcS g a U (bfsF g f i x) j
  | 0, i, x, h => ⟨i, h⟩
  | f + 1, i, x, h => by
    rw [bfsF]
    cases hp : x.ln[i]? with
    | none => exact ⟨i, h⟩
    | some p =>
      have h1 := (RcP.start h hp)
      have h2 : RcP g a U x i p (visitL (valB x p + 1) x (g p)) (g p).length := ⟨h, hp, by rw [List.take_length]⟩
      exact bfsF_vl hU f (i + 1) _ (h2.stop hU (Nat.le_refl _))
theorem HDB (ps : List Prt) (l : List Alt) (g : Bs → List Bs) (b a : Bs) (h : catsF ps l = 0) (hg : ∀ p s, s ∈ g p ↔ p ∈ nextL l s) (hb : b ∈ keysP ps) {d : Nat} (hd : (bfsR g b (keysP ps)).st.get a = some (d : Int)) : d ≤ ps.length := by
  obtain ⟨j, hj⟩ := bfsF_vl (fun p s hs => (next_in h ((hg p s).1 hs)).1) ((keysP ps).length + 1) 0 (bfs0 b) (RcS.start hb)
  have h1 := hj.vl a d hd
  have h2 := hj.le
  have h3 := hj.len
  have h4 : (keysP ps).length = ps.length := List.length_map _
  have h5 := Nat.le_trans h2 h3
  omega
end Go.Proofs.YteojmljggoplkaaGreatDoor
namespace Go.Proofs
open Go.Shelf
def Tryz.keys53_ren : Go.Shelf.Ren := ⟨fun | 7 => 53 | 10 => 93 | n => n, fun | 23 => 94 | 26 => 9 | 3 => 3 | 28 => 98 | 0 => 0 | 27 => 97 | 33 => 84 | 4 => 4 | n => n, fun | n => n⟩
theorem Tryz.keys53 : Go.Proofs.SlLaysZ.n7 Tryz.prog Tryz.keys53_ren := {
  mixed := by kernel_rfl
  f7 := ⟨Tryz.f53.name, by decide, Tryz.func53.trans (congrArg some (by kernel_rfl))⟩
  f10 := ⟨Tryz.f93.name, by decide, Tryz.func93.trans (congrArg some (by kernel_rfl))⟩
  t0 := Tryz.underlying0
  a0 := Tryz.isAgg0
  z0 := Tryz.sizeOf0
  v0 := Tryz.zeroValue0
  t4 := Tryz.underlying4
  a4 := Tryz.isAgg4
  z4 := Tryz.sizeOf4
  v4 := Tryz.zeroValue4
  t23 := Tryz.underlying94
  a23 := Tryz.isAgg94
  z23 := Tryz.sizeOf94
  v23 := Tryz.zeroValue94
  t26 := Tryz.underlying9
  a26 := Tryz.isAgg9
  z26 := Tryz.sizeOf9
  v26 := Tryz.zeroValue9
  t27 := Tryz.underlying97
  a27 := Tryz.isAgg97
  z27 := Tryz.sizeOf97
  v27 := Tryz.zeroValue97
  t28 := Tryz.underlying98
  a28 := Tryz.isAgg98
  z28 := Tryz.sizeOf98
  v28 := Tryz.zeroValue98
  t33 := Tryz.underlying84
  a33 := Tryz.isAgg84
  z33 := Tryz.sizeOf84
  v33 := Tryz.zeroValue84 }
def Tryz.sorted52_ren : Go.Shelf.Ren := ⟨fun | 6 => 52 | 8 => 92 | 9 => 55 | 11 => 124 | 13 => 96 | 12 => 95 | 23 => 134 | 24 => 135 | 14 => 125 | 15 => 126 | 16 => 127 | 17 => 128 | 18 => 129 | 19 => 130 | 20 => 131 | 21 => 132 | 22 => 133 | 25 => 157 | 26 => 158 | 27 => 159 | 28 => 160 | 29 => 161 | 30 => 162 | 31 => 185 | n => n, fun | 26 => 9 | 28 => 98 | 24 => 36 | 0 => 0 | 3 => 3 | 37 => 149 | 48 => 179 | 50 => 181 | 4 => 4 | 40 => 173 | 39 => 172 | 45 => 100 | 5 => 5 | 9 => 9 | 51 => 196 | 55 => 200 | 57 => 213 | 58 => 214 | 33 => 84 | n => n, fun | n => n⟩
theorem Tryz.sorted52 : Go.Proofs.SlLaysZ.n6 Tryz.prog Tryz.sorted52_ren := {
  mixed := by kernel_rfl
  f6 := ⟨Tryz.f52.name, by decide, Tryz.func52.trans (congrArg some (by kernel_rfl))⟩
  f8 := ⟨Tryz.f92.name, by decide, Tryz.func92.trans (congrArg some (by kernel_rfl))⟩
  f11 := ⟨Tryz.f124.name, by decide, Tryz.func124.trans (congrArg some (by kernel_rfl))⟩
  t0 := Tryz.underlying0
  a0 := Tryz.isAgg0
  z0 := Tryz.sizeOf0
  v0 := Tryz.zeroValue0
  t24 := Tryz.underlying36
  a24 := Tryz.isAgg36
  z24 := Tryz.sizeOf36
  v24 := Tryz.zeroValue36
  t26 := Tryz.underlying9
  a26 := Tryz.isAgg9
  z26 := Tryz.sizeOf9
  v26 := Tryz.zeroValue9
  t28 := Tryz.underlying98
  a28 := Tryz.isAgg98
  z28 := Tryz.sizeOf98
  v28 := Tryz.zeroValue98
  i26 := by kernel_rfl }
def Tryz.sort55_ren : Go.Shelf.Ren := ⟨fun | 6 => 55 | 8 => 96 | 9 => 95 | 19 => 134 | 20 => 135 | 21 => 125 | 22 => 126 | 23 => 127 | 24 => 128 | 25 => 129 | 26 => 130 | 27 => 131 | 28 => 132 | 29 => 133 | 36 => 157 | 31 => 158 | 32 => 159 | 37 => 160 | 38 => 161 | 39 => 162 | 41 => 185 | n => n, fun | 27 => 36 | 29 => 9 | 3 => 3 | 32 => 149 | 26 => 36 | 0 => 0 | 44 => 179 | 46 => 181 | 4 => 4 | 36 => 173 | 35 => 172 | 41 => 100 | 5 => 5 | 9 => 9 | 53 => 196 | 57 => 200 | 63 => 213 | 64 => 214 | n => n, fun | n => n⟩
theorem Tryz.sort55 : Go.Proofs.SlLaysM.n6 Tryz.prog Tryz.sort55_ren := {
  mixed := by kernel_rfl
  f6 := ⟨Tryz.f55.name, by decide, Tryz.func55.trans (congrArg some (by kernel_rfl))⟩
  f8 := Tryz.func96.trans (congrArg some (by kernel_rfl))
  f9 := ⟨Tryz.f95.name, by decide, Tryz.func95.trans (congrArg some (by kernel_rfl))⟩
  f19 := Tryz.func134.trans (congrArg some (by kernel_rfl))
  f20 := Tryz.func135.trans (congrArg some (by kernel_rfl))
  f21 := ⟨Tryz.f125.name, by decide, Tryz.func125.trans (congrArg some (by kernel_rfl))⟩
  f22 := ⟨Tryz.f126.name, by decide, Tryz.func126.trans (congrArg some (by kernel_rfl))⟩
  f23 := ⟨Tryz.f127.name, by decide, Tryz.func127.trans (congrArg some (by kernel_rfl))⟩
  f24 := ⟨Tryz.f128.name, by decide, Tryz.func128.trans (congrArg some (by kernel_rfl))⟩
  f25 := ⟨Tryz.f129.name, by decide, Tryz.func129.trans (congrArg some (by kernel_rfl))⟩
  f26 := ⟨Tryz.f130.name, by decide, Tryz.func130.trans (congrArg some (by kernel_rfl))⟩
  f27 := ⟨Tryz.f131.name, by decide, Tryz.func131.trans (congrArg some (by kernel_rfl))⟩
  f28 := ⟨Tryz.f132.name, by decide, Tryz.func132.trans (congrArg some (by kernel_rfl))⟩
  f29 := ⟨Tryz.f133.name, by decide, Tryz.func133.trans (congrArg some (by kernel_rfl))⟩
  f31 := Tryz.func158.trans (congrArg some (by kernel_rfl))
  f32 := Tryz.func159.trans (congrArg some (by kernel_rfl))
  f36 := ⟨Tryz.f157.name, by decide, Tryz.func157.trans (congrArg some (by kernel_rfl))⟩
  f37 := ⟨Tryz.f160.name, by decide, Tryz.func160.trans (congrArg some (by kernel_rfl))⟩
  f38 := ⟨Tryz.f161.name, by decide, Tryz.func161.trans (congrArg some (by kernel_rfl))⟩
  f39 := ⟨Tryz.f162.name, by decide, Tryz.func162.trans (congrArg some (by kernel_rfl))⟩
  f41 := ⟨Tryz.f185.name, by decide, Tryz.func185.trans (congrArg some (by kernel_rfl))⟩
  t0 := Tryz.underlying0
  a0 := Tryz.isAgg0
  z0 := Tryz.sizeOf0
  v0 := Tryz.zeroValue0
  t3 := Tryz.underlying3
  a3 := Tryz.isAgg3
  z3 := Tryz.sizeOf3
  v3 := Tryz.zeroValue3
  t4 := Tryz.underlying4
  a4 := Tryz.isAgg4
  z4 := Tryz.sizeOf4
  v4 := Tryz.zeroValue4
  t5 := Tryz.underlying5
  a5 := Tryz.isAgg5
  z5 := Tryz.sizeOf5
  v5 := Tryz.zeroValue5
  t9 := Tryz.underlying9
  a9 := Tryz.isAgg9
  z9 := Tryz.sizeOf9
  v9 := Tryz.zeroValue9
  t26 := Tryz.underlying36
  a26 := Tryz.isAgg36
  z26 := Tryz.sizeOf36
  v26 := Tryz.zeroValue36
  t27 := Tryz.underlying36
  a27 := Tryz.isAgg36
  z27 := Tryz.sizeOf36
  v27 := Tryz.zeroValue36
  t29 := Tryz.underlying9
  a29 := Tryz.isAgg9
  z29 := Tryz.sizeOf9
  v29 := Tryz.zeroValue9
  t32 := Tryz.underlying149
  a32 := Tryz.isAgg149
  z32 := Tryz.sizeOf149
  v32 := Tryz.zeroValue149
  t35 := Tryz.underlying172
  a35 := Tryz.isAgg172
  z35 := Tryz.sizeOf172
  v35 := Tryz.zeroValue172
  t36 := Tryz.underlying173
  a36 := Tryz.isAgg173
  z36 := Tryz.sizeOf173
  v36 := Tryz.zeroValue173
  t41 := Tryz.underlying100
  a41 := Tryz.isAgg100
  z41 := Tryz.sizeOf100
  v41 := Tryz.zeroValue100
  t44 := Tryz.underlying179
  a44 := Tryz.isAgg179
  z44 := Tryz.sizeOf179
  v44 := Tryz.zeroValue179
  t46 := Tryz.underlying181
  a46 := Tryz.isAgg181
  z46 := Tryz.sizeOf181
  v46 := Tryz.zeroValue181
  t53 := Tryz.underlying196
  a53 := Tryz.isAgg196
  z53 := Tryz.sizeOf196
  v53 := Tryz.zeroValue196
  t57 := Tryz.underlying200
  a57 := Tryz.isAgg200
  z57 := Tryz.sizeOf200
  v57 := Tryz.zeroValue200
  t63 := Tryz.underlying213
  a63 := Tryz.isAgg213
  z63 := Tryz.sizeOf213
  v63 := Tryz.zeroValue213
  t64 := Tryz.underlying214
  a64 := Tryz.isAgg214
  z64 := Tryz.sizeOf214
  v64 := Tryz.zeroValue214 }
def Tryz.keys54_ren : Go.Shelf.Ren := ⟨fun | 7 => 54 | 10 => 94 | n => n, fun | 23 => 101 | 26 => 9 | 3 => 94 | 28 => 98 | 0 => 0 | 27 => 97 | 33 => 84 | 4 => 4 | n => n, fun | n => n⟩
theorem Tryz.keys54 : Go.Proofs.SlLaysZ.n7 Tryz.prog Tryz.keys54_ren := {
  mixed := by kernel_rfl
  f7 := ⟨Tryz.f54.name, by decide, Tryz.func54.trans (congrArg some (by kernel_rfl))⟩
  f10 := ⟨Tryz.f94.name, by decide, Tryz.func94.trans (congrArg some (by kernel_rfl))⟩
  t0 := Tryz.underlying0
  a0 := Tryz.isAgg0
  z0 := Tryz.sizeOf0
  v0 := Tryz.zeroValue0
  t4 := Tryz.underlying4
  a4 := Tryz.isAgg4
  z4 := Tryz.sizeOf4
  v4 := Tryz.zeroValue4
  t23 := Tryz.underlying101
  a23 := Tryz.isAgg101
  z23 := Tryz.sizeOf101
  v23 := Tryz.zeroValue101
  t26 := Tryz.underlying9
  a26 := Tryz.isAgg9
  z26 := Tryz.sizeOf9
  v26 := Tryz.zeroValue9
  t27 := Tryz.underlying97
  a27 := Tryz.isAgg97
  z27 := Tryz.sizeOf97
  v27 := Tryz.zeroValue97
  t28 := Tryz.underlying98
  a28 := Tryz.isAgg98
  z28 := Tryz.sizeOf98
  v28 := Tryz.zeroValue98
  t33 := Tryz.underlying84
  a33 := Tryz.isAgg84
  z33 := Tryz.sizeOf84
  v33 := Tryz.zeroValue84 }
open Go.RowKit Go.Maps Go.Sort
theorem Tryz.sorts52 (m : Nat) : AnyZ.SortsIn Tryz.prog Tryz.sorted52_ren Fence.wide m :=
  ⟨fun blk off cap ss W hH hblk hsz => callsIn_wide.2 (AnyM.slices_Sort_string Tryz.sort55 blk off cap ss W hH hblk hsz),
   fun p cap W => callsIn_wide.2 (AnyM.slices_Sort_string_none Tryz.sort55 p cap W)⟩
theorem Tryz.maps_Keys_53 (mb : Option Nat) (W : World) : CallsIn Fence.wide 5 Tryz.prog 53 #[.map mb] W fun e w' => e = .returned (.func (.func 93) #[] #[.pointer (some ⟨W.heap.size, 0, none⟩)]) ∧ w' = W.alloc (.cells #[.map mb] 94) :=
  AnyZ.keys_in Tryz.keys53 Fence.wide 5 trivial rfl mb W
set_option maxHeartbeats 1000000 in
theorem Tryz.slices_Sorted_keys_52_53 {H : Type} (b nn : Nat) (D0 : DataW H) (R : Value → Option (DataW H × List MemPlace)) (w : World) (hown : w.ownsMap Tryz.prog 9 R b nn D0) (hmax : Maps.size D0 ≤ maxLen) (hbytes : Maps.size D0 * 16 ≤ 140737488355328) :
    CallsIn Fence.wide 5 Tryz.prog 52 #[.func (.func 93) #[] #[.pointer (some ⟨w.heap.size, 0, none⟩)]] (w.alloc (.cells #[.map (some b)] 94)) fun e w' => ∃ (v : Value) (ss : List (List UInt8)), e = .returned v ∧ ss.Perm (strKeys D0) ∧
      w'.ownsRow (w.alloc (.cells #[.map (some b)] 94)).heap.size 9 1 v ss.length ((ss.mergeSort (fun x y => decide (x ≤ y))).map encStr) ∧ (v = .slice none 0 0 ↔ ss = []) ∧ Below (w.alloc (.cells #[.map (some b)] 94)).heap.size (w.alloc (.cells #[.map (some b)] 94)) w' := by
  have hbl := hown.lt
  have hseq : SeqGives Fence.wide 2 Tryz.prog 93 #[.pointer (some ⟨w.heap.size, 0, none⟩)] encStr (fun ss => ss.Perm (strKeys D0)) (Maps.size D0) (w.alloc (.cells #[.map (some b)] 94)) :=
    AnyZ.keys_gives (ρ := Tryz.keys53_ren) { Tryz.keys53 with } Fence.wide _ trivial rfl (by omega) w.heap.size b nn D0 _ (by simp) (by simp) (by
      obtain ⟨es, clock, hb, Ft, hs, hD⟩ := hown
      exact ⟨es, clock, (Below.heap_alloc _ _ b hbl).trans hb, Ft, hs, hD⟩)
  exact AnyZ.sorted_in Tryz.sorted52 Fence.wide 5 trivial trivial trivial trivial rfl (by omega) (Tryz.sorts52 _) (enters_of Tryz.func55 (by kernel_rfl) rfl) 93 #[.pointer (some ⟨w.heap.size, 0, none⟩)] trivial (enters_of Tryz.func93 (by kernel_rfl) rfl) _ _ hmax hbytes _ hseq
theorem Tryz.maps_Keys_54 (mb : Option Nat) (W : World) : CallsIn Fence.wide 5 Tryz.prog 54 #[.map mb] W fun e w' => e = .returned (.func (.func 94) #[] #[.pointer (some ⟨W.heap.size, 0, none⟩)]) ∧ w' = W.alloc (.cells #[.map mb] 101) :=
  AnyZ.keys_in Tryz.keys54 Fence.wide 5 trivial rfl mb W
set_option maxHeartbeats 1000000 in
theorem Tryz.slices_Sorted_keys_52_54 {H : Type} (b nn : Nat) (D0 : DataW H) (R : Value → Option (DataW H × List MemPlace)) (w : World) (hown : w.ownsMap Tryz.prog 9 R b nn D0) (hmax : Maps.size D0 ≤ maxLen) (hbytes : Maps.size D0 * 16 ≤ 140737488355328) :
    CallsIn Fence.wide 5 Tryz.prog 52 #[.func (.func 94) #[] #[.pointer (some ⟨w.heap.size, 0, none⟩)]] (w.alloc (.cells #[.map (some b)] 101)) fun e w' => ∃ (v : Value) (ss : List (List UInt8)), e = .returned v ∧ ss.Perm (strKeys D0) ∧
      w'.ownsRow (w.alloc (.cells #[.map (some b)] 101)).heap.size 9 1 v ss.length ((ss.mergeSort (fun x y => decide (x ≤ y))).map encStr) ∧ (v = .slice none 0 0 ↔ ss = []) ∧ Below (w.alloc (.cells #[.map (some b)] 101)).heap.size (w.alloc (.cells #[.map (some b)] 101)) w' := by
  have hbl := hown.lt
  have hseq : SeqGives Fence.wide 2 Tryz.prog 94 #[.pointer (some ⟨w.heap.size, 0, none⟩)] encStr (fun ss => ss.Perm (strKeys D0)) (Maps.size D0) (w.alloc (.cells #[.map (some b)] 101)) :=
    AnyZ.keys_gives (ρ := Tryz.keys54_ren) { Tryz.keys54 with } Fence.wide _ trivial rfl (by omega) w.heap.size b nn D0 _ (by simp) (by simp) (by
      obtain ⟨es, clock, hb, Ft, hs, hD⟩ := hown
      exact ⟨es, clock, (Below.heap_alloc _ _ b hbl).trans hb, Ft, hs, hD⟩)
  exact AnyZ.sorted_in Tryz.sorted52 Fence.wide 5 trivial trivial trivial trivial rfl (by omega) (Tryz.sorts52 _) (enters_of Tryz.func55 (by kernel_rfl) rfl) 94 #[.pointer (some ⟨w.heap.size, 0, none⟩)] trivial (enters_of Tryz.func94 (by kernel_rfl) rfl) _ _ hmax hbytes _ hseq
end Go.Proofs
