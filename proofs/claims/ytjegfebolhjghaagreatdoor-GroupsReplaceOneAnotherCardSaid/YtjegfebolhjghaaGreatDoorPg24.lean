/- Texts of the proof of a law, put together, part 24 of 31. Conditions: none beyond those that each theorem names. -/
import Derived.Test.YtjegfebolhjghaaGreatDoorPg16
import Derived.Shelf.SlGeneric
import Derived.Shelf.SlIter.Nil
import Derived.Shelf.SortM.Plain
import Derived.Shelf.SortM.SortNone
import Derived.Ground.GgzProg
import Derived.Ground.SlgmProg
import Derived.Test.YtjegfebolhjghaaGreatDoorProg
namespace Go.Proofs.YtjegfebolhjghaaGreatDoor
open Go.RowKit Go.Sort Go.Maps
theorem visitL_snoc (n : Int) (s : Bs) : ∀ (l : List Bs) (x : Bfs), visitL n x (l ++ [s]) = visit1 n (visitL n x l) s
  | [], _ => rfl
  | t :: l, x => by
    rw [List.cons_append, visitL, visitL, visitL_snoc n s l]
theorem visitL_val {N n : Int} (hn : n ≤ N) : ∀ (l : List Bs) (x : Bfs), (∀ s v, x.st.get s = some v → v ≤ N) → ∀ s v, (visitL n x l).st.get s = some v → v ≤ N
  | [], _, h, s, v, e => h s v e
  | t :: l, x, h, s, v, e => by
    rw [visitL] at e
    refine visitL_val hn l _ (fun s v e => ?_) s v e
    unfold visit1 at e
    split at e
    · exact h s v e
    · have e' : (x.st.put t n).get s = some v := e
      by_cases q : t = s
      · subst q
        rw [Sm.get_put_same] at e'
        injection e' with e'
        omega
      · rw [Sm.get_put_other q] at e'
        exact h s v e'
theorem bf_len {g : Bs → List Bs} {a : Bs} {x : Bfs} {i : Nat} (h : BfI g a x i) : x.st.length = x.ln.length := by
  rw [← keys_len x.st]
  refine ((List.perm_ext_iff_of_nodup (Sm.keys_nodup h.ok) h.nd).2 fun s => ?_).length_eq
  rw [← Sm.has_iff, h.mem]
structure RcS (g : Bs → List Bs) (a : Bs) (U : List Bs) (x : Bfs) (i : Nat) : Prop where
  bi : BfI g a x i
  sub : ∀ s ∈ x.ln, s ∈ U
  eq : bfsF g (U.length + 1 - i) i x = bfsR g a U
  le : i ≤ x.ln.length
  vl : ∀ s v, x.st.get s = some v → v ≤ (i : Int)
section
variable {g : Bs → List Bs} {a : Bs} {U : List Bs} {x : Bfs} {i : Nat}
theorem RcS.start (ha : a ∈ U) : RcS g a U (bfs0 a) 0 := by
  refine ⟨bfs0_ok g a, fun s hs => by rw [List.mem_singleton.1 (show s ∈ [a] from hs)]; exact ha, rfl, Nat.zero_le _, fun s v h => ?_⟩
  have h' : Sm.get (Sm.put [] a (0 : Int)) s = some v := h
  by_cases e : a = s
  · subst e
    rw [Sm.get_put_same] at h'
    injection h' with h'
    omega
  · rw [Sm.get_put_other e] at h'; cases h'
theorem RcS.len (h : RcS g a U x i) : x.ln.length ≤ U.length := List.Nodup.length_le_of_subset h.bi.nd h.sub
theorem bfsF_end {g : Bs → List Bs} : ∀ (f i : Nat) (x : Bfs), x.ln.length ≤ i → bfsF g f i x = x
  | 0, _, _, _ => rfl
  | f + 1, i, x, h => by
    rw [bfsF, List.getElem?_eq_none h]
theorem RcS.stop (h : RcS g a U x i) (hi : x.ln.length ≤ i) : x = bfsR g a U := by
  rw [← h.eq, bfsF_end _ _ _ hi]
/-- a round begun: what has been visited of the row. -/
structure RcP (g : Bs → List Bs) (a : Bs) (U : List Bs) (x : Bfs) (i : Nat) (p : Bs) (y : Bfs) (j : Nat) : Prop where
  base : RcS g a U x i
  at' : x.ln[i]? = some p
  eq : y = visitL (valB x p + 1) x ((g p).take j)
theorem RcP.start {p : Bs} (h : RcS g a U x i) (hp : x.ln[i]? = some p) : RcP g a U x i p x 0 := ⟨h, hp, by simp [visitL]⟩
theorem RcP.facts {p : Bs} {y : Bfs} {j : Nat} (h : RcP g a U x i p y j) (hU : ∀ p s, s ∈ g p → s ∈ U) : y.ln[i]? = some p ∧ y.ln.length ≤ U.length ∧ y.st.length = y.ln.length ∧ valB y p = valB x p ∧ 0 ≤ valB x p ∧ valB x p ≤ U.length ∧ y.st.has p = true := by
  obtain ⟨hil, _⟩ := List.getElem?_eq_some_iff.1 h.at'
  obtain ⟨u, hu⟩ := has_get.1 ((h.base.bi.mem p).2 (List.mem_of_getElem? h.at'))
  have hv : valB x p = u := val_of hu
  obtain ⟨k1, _, k3⟩ := visitL_ok ((g p).take j) h.base.bi (Nat.le_of_lt hil) hu fun q hq => List.mem_of_mem_take hq
  rw [← hv, ← h.eq] at k1 k3
  have hyu := k3.gt _ _ hu
  obtain ⟨r, hr⟩ := k3.ln
  have hsub : ∀ s ∈ y.ln, s ∈ U := fun s hs => by
    obtain ⟨v, hv⟩ := has_get.1 ((k1.mem s).2 hs)
    rcases k1.bk s v hv with ⟨rfl, _⟩ | ⟨q, _, _, e2, _⟩
    · exact h.base.sub _ ((h.base.bi.mem _).1 (has_get.2 ⟨0, h.base.bi.st⟩))
    · exact hU q s e2
  have hl := h.base.vl _ _ hu
  have hn := h.base.bi.nn _ _ hu
  have hln := h.base.len
  exact ⟨by rw [hr, List.getElem?_append_left hil]; exact h.at', List.Nodup.length_le_of_subset k1.nd hsub, bf_len k1, by rw [hv]; exact val_of hyu, by omega, by omega, has_get.2 ⟨_, hyu⟩⟩
theorem RcP.next {p s : Bs} {y : Bfs} {j : Nat} (h : RcP g a U x i p y j) (hs : (g p)[j]? = some s) : RcP g a U x i p (visit1 (valB x p + 1) y s) (j + 1) :=
  ⟨h.base, h.at', by rw [List.take_add_one, hs, Option.toList_some, visitL_snoc, ← h.eq]⟩
theorem RcP.stop {p : Bs} {y : Bfs} {j : Nat} (h : RcP g a U x i p y j) (hU : ∀ p s, s ∈ g p → s ∈ U) (hj : (g p).length ≤ j) : RcS g a U y (i + 1) := by
  have he := h.eq
  rw [List.take_of_length_le hj] at he
  obtain ⟨hil, _⟩ := List.getElem?_eq_some_iff.1 h.at'
  have hln := h.base.len
  obtain ⟨h1, h2⟩ := bfs_step h.base.bi h.at'
  rw [← he] at h1 h2
  obtain ⟨r, hr⟩ := h2.ln
  refine ⟨h1, fun s hs => ?_, ?_, by rw [hr, List.length_append]; omega, fun s v hv => ?_⟩
  · obtain ⟨v, hv⟩ := has_get.1 ((h1.mem s).2 hs)
    rcases h1.bk s v hv with ⟨rfl, _⟩ | ⟨q, _, _, e2, _⟩
    · exact h.base.sub _ ((h.base.bi.mem _).1 (has_get.2 ⟨0, h.base.bi.st⟩))
    · exact hU q s e2
  · have := h.base.eq
    rw [show U.length + 1 - i = (U.length - i) + 1 by omega, bfsF, h.at'] at this
    rw [show U.length + 1 - (i + 1) = U.length - i by omega, he]
    exact this
  · rw [he] at hv
    obtain ⟨u, hu⟩ := has_get.1 ((h.base.bi.mem p).2 (List.mem_of_getElem? h.at'))
    have hvu : valB x p = u := val_of hu
    have hul := h.base.vl _ _ hu
    refine visitL_val (N := ((i + 1 : Nat) : Int)) (by omega) (g p) x (fun s v q => ?_) s v hv
    have := h.base.vl s v q
    omega
end
/-! a chain, step after step -/
structure ChS (nx : Bs → List Bs) (y : Bfs) (b a : Bs) (d : Nat) (n : Nat) (x : Bs) (out : List Bs) : Prop where
  get : y.st.get x = some (n : Int)
  eq : out ++ (chainB nx y b n x).tail = chainB nx y b d a
  ln : out.length + n = d + 1
theorem ChS.start {nx : Bs → List Bs} {y : Bfs} {b a : Bs} {d : Nat} (h : y.st.get a = some (d : Int)) : ChS nx y b a d d a [a] := by
  refine ⟨h, ?_, by simp; omega⟩
  cases d with
  | zero => rfl
  | succ d =>
    rw [chainB]
    split <;> rfl
theorem chainB_head {nx : Bs → List Bs} {y : Bfs} {b : Bs} : ∀ (n : Nat) (x : Bs), chainB nx y b n x = x :: (chainB nx y b n x).tail
  | 0, _ => rfl
  | n + 1, x => by
    rw [chainB]
    split <;> rfl
theorem ChS.stop {nx : Bs → List Bs} {y : Bfs} {b a : Bs} {d n : Nat} {out : List Bs} (h : ChS nx y b a d n b out) : out = chainB nx y b d a := by
  have := h.eq
  cases n with
  | zero => rw [← this]; simp [chainB]
  | succ n => rw [← this, chainB, if_pos rfl]; simp
theorem ChS.next {g nx : Bs → List Bs} {y : Bfs} {b a : Bs} {j d n : Nat} {x : Bs} {out : List Bs} (hI : BfI g b y j) (hg : ∀ p s, s ∈ g p → p ∈ nx s) (h : ChS nx y b a d n x out) (hx : x ≠ b) : ∃ m, n = m + 1 ∧ ChS nx y b a d m (pickB nx y x) (out ++ [pickB nx y x]) := by
  cases n with
  | zero => exact absurd (val_zero hI h.get) hx
  | succ m =>
    refine ⟨m, rfl, ?_, ?_, ?_⟩
    · obtain ⟨_, h2⟩ := pick_ok hI hg h.get hx
      rw [h2]; congr 1; omega
    · have := h.eq
      rw [chainB, if_neg hx, List.tail_cons] at this
      rw [List.append_assoc, ← this]
      congr 1
      exact (chainB_head m _).symm
    · have := h.ln
      rw [List.length_append, List.length_singleton]
      omega
end Go.Proofs.YtjegfebolhjghaaGreatDoor
namespace Go.Proofs.YtjegfebolhjghaaGreatDoor
open Go.RowKit Go.Sort Go.Maps
end Go.Proofs.YtjegfebolhjghaaGreatDoor
namespace Go.Proofs
open Go.Shelf
def Tryz.keys44_ren : Go.Shelf.Ren := ⟨fun | 7 => 44 | 10 => 81 | n => n, fun | 23 => 88 | 26 => 9 | 3 => 3 | 28 => 93 | 0 => 0 | 27 => 92 | 33 => 112 | 4 => 4 | n => n, fun | n => n⟩
theorem Tryz.keys44 : Go.Proofs.SlLaysZ.n7 Tryz.prog Tryz.keys44_ren := {
  mixed := by kernel_rfl
  f7 := ⟨Tryz.f44.name, by decide, Tryz.func44.trans (congrArg some (by kernel_rfl))⟩
  f10 := ⟨Tryz.f81.name, by decide, Tryz.func81.trans (congrArg some (by kernel_rfl))⟩
  t0 := Tryz.underlying0
  a0 := Tryz.isAgg0
  z0 := Tryz.sizeOf0
  v0 := Tryz.zeroValue0
  t4 := Tryz.underlying4
  a4 := Tryz.isAgg4
  z4 := Tryz.sizeOf4
  v4 := Tryz.zeroValue4
  t23 := Tryz.underlying88
  a23 := Tryz.isAgg88
  z23 := Tryz.sizeOf88
  v23 := Tryz.zeroValue88
  t26 := Tryz.underlying9
  a26 := Tryz.isAgg9
  z26 := Tryz.sizeOf9
  v26 := Tryz.zeroValue9
  t27 := Tryz.underlying92
  a27 := Tryz.isAgg92
  z27 := Tryz.sizeOf92
  v27 := Tryz.zeroValue92
  t28 := Tryz.underlying93
  a28 := Tryz.isAgg93
  z28 := Tryz.sizeOf93
  v28 := Tryz.zeroValue93
  t33 := Tryz.underlying112
  a33 := Tryz.isAgg112
  z33 := Tryz.sizeOf112
  v33 := Tryz.zeroValue112 }
def Tryz.sorted43_ren : Go.Shelf.Ren := ⟨fun | 6 => 43 | 8 => 80 | 9 => 48 | 11 => 108 | 13 => 86 | 12 => 85 | 23 => 118 | 24 => 119 | 14 => 109 | 15 => 110 | 16 => 111 | 17 => 112 | 18 => 113 | 19 => 114 | 20 => 115 | 21 => 116 | 22 => 117 | 25 => 140 | 26 => 141 | 27 => 142 | 28 => 143 | 29 => 144 | 30 => 145 | 31 => 168 | n => n, fun | 26 => 9 | 28 => 93 | 24 => 35 | 0 => 0 | 3 => 3 | 37 => 144 | 48 => 176 | 50 => 178 | 4 => 4 | 40 => 170 | 39 => 169 | 45 => 90 | 5 => 5 | 9 => 9 | 51 => 198 | 55 => 202 | 57 => 222 | 58 => 223 | 33 => 112 | n => n, fun | n => n⟩
theorem Tryz.sorted43 : Go.Proofs.SlLaysZ.n6 Tryz.prog Tryz.sorted43_ren := {
  mixed := by kernel_rfl
  f6 := ⟨Tryz.f43.name, by decide, Tryz.func43.trans (congrArg some (by kernel_rfl))⟩
  f8 := ⟨Tryz.f80.name, by decide, Tryz.func80.trans (congrArg some (by kernel_rfl))⟩
  f11 := ⟨Tryz.f108.name, by decide, Tryz.func108.trans (congrArg some (by kernel_rfl))⟩
  t0 := Tryz.underlying0
  a0 := Tryz.isAgg0
  z0 := Tryz.sizeOf0
  v0 := Tryz.zeroValue0
  t24 := Tryz.underlying35
  a24 := Tryz.isAgg35
  z24 := Tryz.sizeOf35
  v24 := Tryz.zeroValue35
  t26 := Tryz.underlying9
  a26 := Tryz.isAgg9
  z26 := Tryz.sizeOf9
  v26 := Tryz.zeroValue9
  t28 := Tryz.underlying93
  a28 := Tryz.isAgg93
  z28 := Tryz.sizeOf93
  v28 := Tryz.zeroValue93
  i26 := by kernel_rfl }
def Tryz.sort48_ren : Go.Shelf.Ren := ⟨fun | 6 => 48 | 8 => 86 | 9 => 85 | 19 => 118 | 20 => 119 | 21 => 109 | 22 => 110 | 23 => 111 | 24 => 112 | 25 => 113 | 26 => 114 | 27 => 115 | 28 => 116 | 29 => 117 | 36 => 140 | 31 => 141 | 32 => 142 | 37 => 143 | 38 => 144 | 39 => 145 | 41 => 168 | n => n, fun | 27 => 35 | 29 => 9 | 3 => 3 | 32 => 144 | 26 => 35 | 0 => 0 | 44 => 176 | 46 => 178 | 4 => 4 | 36 => 170 | 35 => 169 | 41 => 90 | 5 => 5 | 9 => 9 | 53 => 198 | 57 => 202 | 63 => 222 | 64 => 223 | n => n, fun | n => n⟩
theorem Tryz.sort48 : Go.Proofs.SlLaysM.n6 Tryz.prog Tryz.sort48_ren := {
  mixed := by kernel_rfl
  f6 := ⟨Tryz.f48.name, by decide, Tryz.func48.trans (congrArg some (by kernel_rfl))⟩
  f8 := Tryz.func86.trans (congrArg some (by kernel_rfl))
  f9 := ⟨Tryz.f85.name, by decide, Tryz.func85.trans (congrArg some (by kernel_rfl))⟩
  f19 := Tryz.func118.trans (congrArg some (by kernel_rfl))
  f20 := Tryz.func119.trans (congrArg some (by kernel_rfl))
  f21 := ⟨Tryz.f109.name, by decide, Tryz.func109.trans (congrArg some (by kernel_rfl))⟩
  f22 := ⟨Tryz.f110.name, by decide, Tryz.func110.trans (congrArg some (by kernel_rfl))⟩
  f23 := ⟨Tryz.f111.name, by decide, Tryz.func111.trans (congrArg some (by kernel_rfl))⟩
  f24 := ⟨Tryz.f112.name, by decide, Tryz.func112.trans (congrArg some (by kernel_rfl))⟩
  f25 := ⟨Tryz.f113.name, by decide, Tryz.func113.trans (congrArg some (by kernel_rfl))⟩
  f26 := ⟨Tryz.f114.name, by decide, Tryz.func114.trans (congrArg some (by kernel_rfl))⟩
  f27 := ⟨Tryz.f115.name, by decide, Tryz.func115.trans (congrArg some (by kernel_rfl))⟩
  f28 := ⟨Tryz.f116.name, by decide, Tryz.func116.trans (congrArg some (by kernel_rfl))⟩
  f29 := ⟨Tryz.f117.name, by decide, Tryz.func117.trans (congrArg some (by kernel_rfl))⟩
  f31 := Tryz.func141.trans (congrArg some (by kernel_rfl))
  f32 := Tryz.func142.trans (congrArg some (by kernel_rfl))
  f36 := ⟨Tryz.f140.name, by decide, Tryz.func140.trans (congrArg some (by kernel_rfl))⟩
  f37 := ⟨Tryz.f143.name, by decide, Tryz.func143.trans (congrArg some (by kernel_rfl))⟩
  f38 := ⟨Tryz.f144.name, by decide, Tryz.func144.trans (congrArg some (by kernel_rfl))⟩
  f39 := ⟨Tryz.f145.name, by decide, Tryz.func145.trans (congrArg some (by kernel_rfl))⟩
  f41 := ⟨Tryz.f168.name, by decide, Tryz.func168.trans (congrArg some (by kernel_rfl))⟩
  t0 := Tryz.underlying0
  a0 := Tryz.isAgg0
  z0 := Tryz.sizeOf0
  v0 := Tryz.zeroValue0
  t3 := Tryz.underlying3
  a3 := Tryz.isAgg3
  z3 := Tryz.sizeOf3
  v3 := Tryz.zeroValue3
  t4 := Tryz.underlying4
  a4 := Tryz.isAgg4
  z4 := Tryz.sizeOf4
  v4 := Tryz.zeroValue4
  t5 := Tryz.underlying5
  a5 := Tryz.isAgg5
  z5 := Tryz.sizeOf5
  v5 := Tryz.zeroValue5
  t9 := Tryz.underlying9
  a9 := Tryz.isAgg9
  z9 := Tryz.sizeOf9
  v9 := Tryz.zeroValue9
  t26 := Tryz.underlying35
  a26 := Tryz.isAgg35
  z26 := Tryz.sizeOf35
  v26 := Tryz.zeroValue35
  t27 := Tryz.underlying35
  a27 := Tryz.isAgg35
  z27 := Tryz.sizeOf35
  v27 := Tryz.zeroValue35
  t29 := Tryz.underlying9
  a29 := Tryz.isAgg9
  z29 := Tryz.sizeOf9
  v29 := Tryz.zeroValue9
  t32 := Tryz.underlying144
  a32 := Tryz.isAgg144
  z32 := Tryz.sizeOf144
  v32 := Tryz.zeroValue144
  t35 := Tryz.underlying169
  a35 := Tryz.isAgg169
  z35 := Tryz.sizeOf169
  v35 := Tryz.zeroValue169
  t36 := Tryz.underlying170
  a36 := Tryz.isAgg170
  z36 := Tryz.sizeOf170
  v36 := Tryz.zeroValue170
  t41 := Tryz.underlying90
  a41 := Tryz.isAgg90
  z41 := Tryz.sizeOf90
  v41 := Tryz.zeroValue90
  t44 := Tryz.underlying176
  a44 := Tryz.isAgg176
  z44 := Tryz.sizeOf176
  v44 := Tryz.zeroValue176
  t46 := Tryz.underlying178
  a46 := Tryz.isAgg178
  z46 := Tryz.sizeOf178
  v46 := Tryz.zeroValue178
  t53 := Tryz.underlying198
  a53 := Tryz.isAgg198
  z53 := Tryz.sizeOf198
  v53 := Tryz.zeroValue198
  t57 := Tryz.underlying202
  a57 := Tryz.isAgg202
  z57 := Tryz.sizeOf202
  v57 := Tryz.zeroValue202
  t63 := Tryz.underlying222
  a63 := Tryz.isAgg222
  z63 := Tryz.sizeOf222
  v63 := Tryz.zeroValue222
  t64 := Tryz.underlying223
  a64 := Tryz.isAgg223
  z64 := Tryz.sizeOf223
  v64 := Tryz.zeroValue223 }
def Tryz.keys47_ren : Go.Shelf.Ren := ⟨fun | 7 => 47 | 10 => 84 | n => n, fun | 23 => 96 | 26 => 9 | 3 => 88 | 28 => 93 | 0 => 0 | 27 => 92 | 33 => 112 | 4 => 4 | n => n, fun | n => n⟩
theorem Tryz.keys47 : Go.Proofs.SlLaysZ.n7 Tryz.prog Tryz.keys47_ren := {
  mixed := by kernel_rfl
  f7 := ⟨Tryz.f47.name, by decide, Tryz.func47.trans (congrArg some (by kernel_rfl))⟩
  f10 := ⟨Tryz.f84.name, by decide, Tryz.func84.trans (congrArg some (by kernel_rfl))⟩
  t0 := Tryz.underlying0
  a0 := Tryz.isAgg0
  z0 := Tryz.sizeOf0
  v0 := Tryz.zeroValue0
  t4 := Tryz.underlying4
  a4 := Tryz.isAgg4
  z4 := Tryz.sizeOf4
  v4 := Tryz.zeroValue4
  t23 := Tryz.underlying96
  a23 := Tryz.isAgg96
  z23 := Tryz.sizeOf96
  v23 := Tryz.zeroValue96
  t26 := Tryz.underlying9
  a26 := Tryz.isAgg9
  z26 := Tryz.sizeOf9
  v26 := Tryz.zeroValue9
  t27 := Tryz.underlying92
  a27 := Tryz.isAgg92
  z27 := Tryz.sizeOf92
  v27 := Tryz.zeroValue92
  t28 := Tryz.underlying93
  a28 := Tryz.isAgg93
  z28 := Tryz.sizeOf93
  v28 := Tryz.zeroValue93
  t33 := Tryz.underlying112
  a33 := Tryz.isAgg112
  z33 := Tryz.sizeOf112
  v33 := Tryz.zeroValue112 }
def Tryz.keys139_ren : Go.Shelf.Ren := ⟨fun | 7 => 139 | 10 => 167 | n => n, fun | 23 => 97 | 26 => 9 | 3 => 4 | 28 => 93 | 0 => 0 | 27 => 92 | 33 => 112 | 4 => 4 | n => n, fun | n => n⟩
theorem Tryz.keys139 : Go.Proofs.SlLaysZ.n7 Tryz.prog Tryz.keys139_ren := {
  mixed := by kernel_rfl
  f7 := ⟨Tryz.f139.name, by decide, Tryz.func139.trans (congrArg some (by kernel_rfl))⟩
  f10 := ⟨Tryz.f167.name, by decide, Tryz.func167.trans (congrArg some (by kernel_rfl))⟩
  t0 := Tryz.underlying0
  a0 := Tryz.isAgg0
  z0 := Tryz.sizeOf0
  v0 := Tryz.zeroValue0
  t4 := Tryz.underlying4
  a4 := Tryz.isAgg4
  z4 := Tryz.sizeOf4
  v4 := Tryz.zeroValue4
  t23 := Tryz.underlying97
  a23 := Tryz.isAgg97
  z23 := Tryz.sizeOf97
  v23 := Tryz.zeroValue97
  t26 := Tryz.underlying9
  a26 := Tryz.isAgg9
  z26 := Tryz.sizeOf9
  v26 := Tryz.zeroValue9
  t27 := Tryz.underlying92
  a27 := Tryz.isAgg92
  z27 := Tryz.sizeOf92
  v27 := Tryz.zeroValue92
  t28 := Tryz.underlying93
  a28 := Tryz.isAgg93
  z28 := Tryz.sizeOf93
  v28 := Tryz.zeroValue93
  t33 := Tryz.underlying112
  a33 := Tryz.isAgg112
  z33 := Tryz.sizeOf112
  v33 := Tryz.zeroValue112 }
open Go.RowKit Go.Maps Go.Sort
theorem Tryz.sorts43 (m : Nat) : AnyZ.SortsIn Tryz.prog Tryz.sorted43_ren Fence.wide m :=
  ⟨fun blk off cap ss W hH hblk hsz => callsIn_wide.2 (AnyM.slices_Sort_string Tryz.sort48 blk off cap ss W hH hblk hsz),
   fun p cap W => callsIn_wide.2 (AnyM.slices_Sort_string_none Tryz.sort48 p cap W)⟩
theorem Tryz.maps_Keys_44 (mb : Option Nat) (W : World) : CallsIn Fence.wide 5 Tryz.prog 44 #[.map mb] W fun e w' => e = .returned (.func (.func 81) #[] #[.pointer (some ⟨W.heap.size, 0, none⟩)]) ∧ w' = W.alloc (.cells #[.map mb] 88) :=
  AnyZ.keys_in Tryz.keys44 Fence.wide 5 trivial rfl mb W
set_option maxHeartbeats 1000000 in
theorem Tryz.slices_Sorted_keys_43_44 {H : Type} (b nn : Nat) (D0 : DataW H) (R : Value → Option (DataW H × List MemPlace)) (w : World) (hown : w.ownsMap Tryz.prog 9 R b nn D0) (hmax : Maps.size D0 ≤ maxLen) (hbytes : Maps.size D0 * 16 ≤ 140737488355328) :
    CallsIn Fence.wide 5 Tryz.prog 43 #[.func (.func 81) #[] #[.pointer (some ⟨w.heap.size, 0, none⟩)]] (w.alloc (.cells #[.map (some b)] 88)) fun e w' => ∃ (v : Value) (ss : List (List UInt8)), e = .returned v ∧ ss.Perm (strKeys D0) ∧
      w'.ownsRow (w.alloc (.cells #[.map (some b)] 88)).heap.size 9 1 v ss.length ((ss.mergeSort (fun x y => decide (x ≤ y))).map encStr) ∧ (v = .slice none 0 0 ↔ ss = []) ∧ Below (w.alloc (.cells #[.map (some b)] 88)).heap.size (w.alloc (.cells #[.map (some b)] 88)) w' := by
  have hbl := hown.lt
  have hseq : SeqGives Fence.wide 2 Tryz.prog 81 #[.pointer (some ⟨w.heap.size, 0, none⟩)] encStr (fun ss => ss.Perm (strKeys D0)) (Maps.size D0) (w.alloc (.cells #[.map (some b)] 88)) :=
    AnyZ.keys_gives (ρ := Tryz.keys44_ren) { Tryz.keys44 with } Fence.wide _ trivial rfl (by omega) w.heap.size b nn D0 _ (by simp) (by simp) (by
      obtain ⟨es, clock, hb, Ft, hs, hD⟩ := hown
      exact ⟨es, clock, (Below.heap_alloc _ _ b hbl).trans hb, Ft, hs, hD⟩)
  exact AnyZ.sorted_in Tryz.sorted43 Fence.wide 5 trivial trivial trivial trivial rfl (by omega) (Tryz.sorts43 _) (enters_of Tryz.func48 (by kernel_rfl) rfl) 81 #[.pointer (some ⟨w.heap.size, 0, none⟩)] trivial (enters_of Tryz.func81 (by kernel_rfl) rfl) _ _ hmax hbytes _ hseq
theorem Tryz.maps_Keys_47 (mb : Option Nat) (W : World) : CallsIn Fence.wide 5 Tryz.prog 47 #[.map mb] W fun e w' => e = .returned (.func (.func 84) #[] #[.pointer (some ⟨W.heap.size, 0, none⟩)]) ∧ w' = W.alloc (.cells #[.map mb] 96) :=
  AnyZ.keys_in Tryz.keys47 Fence.wide 5 trivial rfl mb W
set_option maxHeartbeats 1000000 in
theorem Tryz.slices_Sorted_keys_43_47 {H : Type} (b nn : Nat) (D0 : DataW H) (R : Value → Option (DataW H × List MemPlace)) (w : World) (hown : w.ownsMap Tryz.prog 9 R b nn D0) (hmax : Maps.size D0 ≤ maxLen) (hbytes : Maps.size D0 * 16 ≤ 140737488355328) :
    CallsIn Fence.wide 5 Tryz.prog 43 #[.func (.func 84) #[] #[.pointer (some ⟨w.heap.size, 0, none⟩)]] (w.alloc (.cells #[.map (some b)] 96)) fun e w' => ∃ (v : Value) (ss : List (List UInt8)), e = .returned v ∧ ss.Perm (strKeys D0) ∧
      w'.ownsRow (w.alloc (.cells #[.map (some b)] 96)).heap.size 9 1 v ss.length ((ss.mergeSort (fun x y => decide (x ≤ y))).map encStr) ∧ (v = .slice none 0 0 ↔ ss = []) ∧ Below (w.alloc (.cells #[.map (some b)] 96)).heap.size (w.alloc (.cells #[.map (some b)] 96)) w' := by
  have hbl := hown.lt
  have hseq : SeqGives Fence.wide 2 Tryz.prog 84 #[.pointer (some ⟨w.heap.size, 0, none⟩)] encStr (fun ss => ss.Perm (strKeys D0)) (Maps.size D0) (w.alloc (.cells #[.map (some b)] 96)) :=
    AnyZ.keys_gives (ρ := Tryz.keys47_ren) { Tryz.keys47 with } Fence.wide _ trivial rfl (by omega) w.heap.size b nn D0 _ (by simp) (by simp) (by
      obtain ⟨es, clock, hb, Ft, hs, hD⟩ := hown
      exact ⟨es, clock, (Below.heap_alloc _ _ b hbl).trans hb, Ft, hs, hD⟩)
  exact AnyZ.sorted_in Tryz.sorted43 Fence.wide 5 trivial trivial trivial trivial rfl (by omega) (Tryz.sorts43 _) (enters_of Tryz.func48 (by kernel_rfl) rfl) 84 #[.pointer (some ⟨w.heap.size, 0, none⟩)] trivial (enters_of Tryz.func84 (by kernel_rfl) rfl) _ _ hmax hbytes _ hseq
theorem Tryz.maps_Keys_139 (mb : Option Nat) (W : World) : CallsIn Fence.wide 5 Tryz.prog 139 #[.map mb] W fun e w' => e = .returned (.func (.func 167) #[] #[.pointer (some ⟨W.heap.size, 0, none⟩)]) ∧ w' = W.alloc (.cells #[.map mb] 97) :=
  AnyZ.keys_in Tryz.keys139 Fence.wide 5 trivial rfl mb W
set_option maxHeartbeats 1000000 in
theorem Tryz.slices_Sorted_keys_43_139 {H : Type} (b nn : Nat) (D0 : DataW H) (R : Value → Option (DataW H × List MemPlace)) (w : World) (hown : w.ownsMap Tryz.prog 9 R b nn D0) (hmax : Maps.size D0 ≤ maxLen) (hbytes : Maps.size D0 * 16 ≤ 140737488355328) :
    CallsIn Fence.wide 5 Tryz.prog 43 #[.func (.func 167) #[] #[.pointer (some ⟨w.heap.size, 0, none⟩)]] (w.alloc (.cells #[.map (some b)] 97)) fun e w' => ∃ (v : Value) (ss : List (List UInt8)), e = .returned v ∧ ss.Perm (strKeys D0) ∧
      w'.ownsRow (w.alloc (.cells #[.map (some b)] 97)).heap.size 9 1 v ss.length ((ss.mergeSort (fun x y => decide (x ≤ y))).map encStr) ∧ (v = .slice none 0 0 ↔ ss = []) ∧ Below (w.alloc (.cells #[.map (some b)] 97)).heap.size (w.alloc (.cells #[.map (some b)] 97)) w' := by
  have hbl := hown.lt
  have hseq : SeqGives Fence.wide 2 Tryz.prog 167 #[.pointer (some ⟨w.heap.size, 0, none⟩)] encStr (fun ss => ss.Perm (strKeys D0)) (Maps.size D0) (w.alloc (.cells #[.map (some b)] 97)) :=
    AnyZ.keys_gives (ρ := Tryz.keys139_ren) { Tryz.keys139 with } Fence.wide _ trivial rfl (by omega) w.heap.size b nn D0 _ (by simp) (by simp) (by
      obtain ⟨es, clock, hb, Ft, hs, hD⟩ := hown
      exact ⟨es, clock, (Below.heap_alloc _ _ b hbl).trans hb, Ft, hs, hD⟩)
  exact AnyZ.sorted_in Tryz.sorted43 Fence.wide 5 trivial trivial trivial trivial rfl (by omega) (Tryz.sorts43 _) (enters_of Tryz.func48 (by kernel_rfl) rfl) 167 #[.pointer (some ⟨w.heap.size, 0, none⟩)] trivial (enters_of Tryz.func167 (by kernel_rfl) rfl) _ _ hmax hbytes _ hseq
end Go.Proofs
