/- Texts of the proof of a law, put together, part 33 of 41. Conditions: none beyond those that each theorem names. -/
import Derived.Test.YtihgnpobkpnipaaGreatDoorQz18
import Derived.Shelf.SlGeneric
import Derived.Shelf.SlIter.Nil
import Derived.Shelf.SortM.Plain
import Derived.Shelf.SortM.SortNone
import Derived.Ground.GgzProg
import Derived.Ground.SlgmProg
import Derived.Test.YtihgnpobkpnipaaGreatDoorProg
namespace Go.Proofs.YtihgnpobkpnipaaGreatDoor
open Go.RowKit Go.Sort Go.Maps
theorem visitL_snoc (n : Int) (s : Bs) : ∀ (l : List Bs) (x : Bfs), visitL n x (l ++ [s]) = visit1 n (visitL n x l) s
  | [], _ => rfl
  | t :: l, x => by
    rw [List.cons_append, visitL, visitL, visitL_snoc n s l]
theorem visitL_val {N n : Int} (hn : n ≤ N) : ∀ (l : List Bs) (x : Bfs), (∀ s v, x.st.get s = some v → v ≤ N) → ∀ s v, (visitL n x l).st.get s = some v → v ≤ N
  | [], _, h, s, v, e => h s v e
  | t :: l, x, h, s, v, e => by
    rw [visitL] at e
    refine visitL_val hn l _ (fun s v e => ?_) s v e
    unfold visit1 at e
    split at e
    · exact h s v e
    · have e' : (x.st.put t n).get s = some v := e
      by_cases q : t = s
      · subst q
        rw [Sm.get_put_same] at e'
        injection e' with e'
        omega
      · rw [Sm.get_put_other q] at e'
        exact h s v e'
theorem bf_len {g : Bs → List Bs} {a : Bs} {x : Bfs} {i : Nat} (h : BfI g a x i) : x.st.length = x.ln.length := by
  rw [← keys_len x.st]
  refine ((List.perm_ext_iff_of_nodup (Sm.keys_nodup h.ok) h.nd).2 fun s => ?_).length_eq
  rw [← Sm.has_iff, h.mem]
structure RcS (g : Bs → List Bs) (a : Bs) (U : List Bs) (x : Bfs) (i : Nat) : Prop where
  bi : BfI g a x i
  sub : ∀ s ∈ x.ln, s ∈ U
  eq : bfsF g (U.length + 1 - i) i x = bfsR g a U
  le : i ≤ x.ln.length
  vl : ∀ s v, x.st.get s = some v → v ≤ (i : Int)
section
variable {g : Bs → List Bs} {a : Bs} {U : List Bs} {x : Bfs} {i : Nat}
theorem RcS.start (ha : a ∈ U) : RcS g a U (bfs0 a) 0 := by
  refine ⟨bfs0_ok g a, fun s hs => by rw [List.mem_singleton.1 (show s ∈ [a] from hs)]; exact ha, rfl, Nat.zero_le _, fun s v h => ?_⟩
  have h' : Sm.get (Sm.put [] a (0 : Int)) s = some v := h
  by_cases e : a = s
  · subst e
    rw [Sm.get_put_same] at h'
    injection h' with h'
    omega
  · rw [Sm.get_put_other e] at h'; cases h'
theorem RcS.len (h : RcS g a U x i) : x.ln.length ≤ U.length := List.Nodup.length_le_of_subset h.bi.nd h.sub
theorem bfsF_end {g : Bs → List Bs} : ∀ (f i : Nat) (x : Bfs), x.ln.length ≤ i → bfsF g f i x = x
  | 0, _, _, _ => rfl
  | f + 1, i, x, h => by
    rw [bfsF, List.getElem?_eq_none h]
theorem RcS.stop (h : RcS g a U x i) (hi : x.ln.length ≤ i) : x = bfsR g a U := by
  rw [← h.eq, bfsF_end _ _ _ hi]
/-- a round begun: what has been visited of the row. -/
structure RcP (g : Bs → List Bs) (a : Bs) (U : List Bs) (x : Bfs) (i : Nat) (p : Bs) (y : Bfs) (j : Nat) : Prop where
  base : RcS g a U x i
  at' : x.ln[i]? = some p
  eq : y = visitL (valB x p + 1) x ((g p).take j)
theorem RcP.start {p : Bs} (h : RcS g a U x i) (hp : x.ln[i]? = some p) : RcP g a U x i p x 0 := ⟨h, hp, by simp [visitL]⟩
theorem RcP.facts {p : Bs} {y : Bfs} {j : Nat} (h : RcP g a U x i p y j) (hU : ∀ p s, s ∈ g p → s ∈ U) : y.ln[i]? = some p ∧ y.ln.length ≤ U.length ∧ y.st.length = y.ln.length ∧ valB y p = valB x p ∧ 0 ≤ valB x p ∧ valB x p ≤ U.length ∧ y.st.has p = true := by
  obtain ⟨hil, _⟩ := List.getElem?_eq_some_iff.1 h.at'
  obtain ⟨u, hu⟩ := has_get.1 ((h.base.bi.mem p).2 (List.mem_of_getElem? h.at'))
  have hv : valB x p = u := val_of hu
  obtain ⟨k1, _, k3⟩ := visitL_ok ((g p).take j) h.base.bi (Nat.le_of_lt hil) hu fun q hq => List.mem_of_mem_take hq
  rw [← hv, ← h.eq] at k1 k3
  have hyu := k3.gt _ _ hu
  obtain ⟨r, hr⟩ := k3.ln
  have hsub : ∀ s ∈ y.ln, s ∈ U := fun s hs => by
    obtain ⟨v, hv⟩ := has_get.1 ((k1.mem s).2 hs)
    rcases k1.bk s v hv with ⟨rfl, _⟩ | ⟨q, _, _, e2, _⟩
    · exact h.base.sub _ ((h.base.bi.mem _).1 (has_get.2 ⟨0, h.base.bi.st⟩))
    · exact hU q s e2
  have hl := h.base.vl _ _ hu
  have hn := h.base.bi.nn _ _ hu
  have hln := h.base.len
  exact ⟨by rw [hr, List.getElem?_append_left hil]; exact h.at', List.Nodup.length_le_of_subset k1.nd hsub, bf_len k1, by rw [hv]; exact val_of hyu, by omega, by omega, has_get.2 ⟨_, hyu⟩⟩
theorem RcP.next {p s : Bs} {y : Bfs} {j : Nat} (h : RcP g a U x i p y j) (hs : (g p)[j]? = some s) : RcP g a U x i p (visit1 (valB x p + 1) y s) (j + 1) :=
  ⟨h.base, h.at', by rw [List.take_add_one, hs, Option.toList_some, visitL_snoc, ← h.eq]⟩
theorem RcP.stop {p : Bs} {y : Bfs} {j : Nat} (h : RcP g a U x i p y j) (hU : ∀ p s, s ∈ g p → s ∈ U) (hj : (g p).length ≤ j) : RcS g a U y (i + 1) := by
  have he := h.eq
  rw [List.take_of_length_le hj] at he
  obtain ⟨hil, _⟩ := List.getElem?_eq_some_iff.1 h.at'
  have hln := h.base.len
  obtain ⟨h1, h2⟩ := bfs_step h.base.bi h.at'
  rw [← he] at h1 h2
  obtain ⟨r, hr⟩ := h2.ln
  refine ⟨h1, fun s hs => ?_, ?_, by rw [hr, List.length_append]; omega, fun s v hv => ?_⟩
  · obtain ⟨v, hv⟩ := has_get.1 ((h1.mem s).2 hs)
    rcases h1.bk s v hv with ⟨rfl, _⟩ | ⟨q, _, _, e2, _⟩
    · exact h.base.sub _ ((h.base.bi.mem _).1 (has_get.2 ⟨0, h.base.bi.st⟩))
    · exact hU q s e2
  · have := h.base.eq
    rw [show U.length + 1 - i = (U.length - i) + 1 by omega, bfsF, h.at'] at this
    rw [show U.length + 1 - (i + 1) = U.length - i by omega, he]
    exact this
  · rw [he] at hv
    obtain ⟨u, hu⟩ := has_get.1 ((h.base.bi.mem p).2 (List.mem_of_getElem? h.at'))
    have hvu : valB x p = u := val_of hu
    have hul := h.base.vl _ _ hu
    refine visitL_val (N := ((i + 1 : Nat) : Int)) (by omega) (g p) x (fun s v q => ?_) s v hv
    have := h.base.vl s v q
    omega
end
/-! a chain, step after step -/
structure ChS (nx : Bs → List Bs) (y : Bfs) (b a : Bs) (d : Nat) (n : Nat) (x : Bs) (out : List Bs) : Prop where
  get : y.st.get x = some (n : Int)
  eq : out ++ (chainB nx y b n x).tail = chainB nx y b d a
  ln : out.length + n = d + 1
theorem ChS.start {nx : Bs → List Bs} {y : Bfs} {b a : Bs} {d : Nat} (h : y.st.get a = some (d : Int)) : ChS nx y b a d d a [a] := by
  refine ⟨h, ?_, by simp; omega⟩
  cases d with
  | zero => rfl
  | succ d =>
    rw [chainB]
    split <;> rfl
theorem chainB_head {nx : Bs → List Bs} {y : Bfs} {b : Bs} : ∀ (n : Nat) (x : Bs), chainB nx y b n x = x :: (chainB nx y b n x).tail
  | 0, _ => rfl
  | n + 1, x => by
    rw [chainB]
    split <;> rfl
theorem ChS.stop {nx : Bs → List Bs} {y : Bfs} {b a : Bs} {d n : Nat} {out : List Bs} (h : ChS nx y b a d n b out) : out = chainB nx y b d a := by
  have := h.eq
  cases n with
  | zero => rw [← this]; simp [chainB]
  | succ n => rw [← this, chainB, if_pos rfl]; simp
theorem ChS.next {g nx : Bs → List Bs} {y : Bfs} {b a : Bs} {j d n : Nat} {x : Bs} {out : List Bs} (hI : BfI g b y j) (hg : ∀ p s, s ∈ g p → p ∈ nx s) (h : ChS nx y b a d n x out) (hx : x ≠ b) : ∃ m, n = m + 1 ∧ ChS nx y b a d m (pickB nx y x) (out ++ [pickB nx y x]) := by
  cases n with
  | zero => exact absurd (val_zero hI h.get) hx
  | succ m =>
    refine ⟨m, rfl, ?_, ?_, ?_⟩
    · obtain ⟨_, h2⟩ := pick_ok hI hg h.get hx
      rw [h2]; congr 1; omega
    · have := h.eq
      rw [chainB, if_neg hx, List.tail_cons] at this
      rw [List.append_assoc, ← this]
      congr 1
      exact (chainB_head m _).symm
    · have := h.ln
      rw [List.length_append, List.length_singleton]
      omega
end Go.Proofs.YtihgnpobkpnipaaGreatDoor
namespace Go.Proofs.YtihgnpobkpnipaaGreatDoor
open Go.RowKit Go.Sort Go.Maps
end Go.Proofs.YtihgnpobkpnipaaGreatDoor
namespace Go.Proofs
open Go.Shelf
def Tryz.keys77_ren : Go.Shelf.Ren := ⟨fun | 7 => 77 | 10 => 115 | n => n, fun | 23 => 133 | 26 => 9 | 3 => 126 | 28 => 138 | 0 => 0 | 27 => 137 | 33 => 58 | 4 => 4 | n => n, fun | n => n⟩
theorem Tryz.keys77 : Go.Proofs.SlLaysZ.n7 Tryz.prog Tryz.keys77_ren := {
  mixed := by kernel_rfl
  f7 := ⟨Tryz.f77.name, by decide, Tryz.func77.trans (congrArg some (by kernel_rfl))⟩
  f10 := ⟨Tryz.f115.name, by decide, Tryz.func115.trans (congrArg some (by kernel_rfl))⟩
  t0 := Tryz.underlying0
  a0 := Tryz.isAgg0
  z0 := Tryz.sizeOf0
  v0 := Tryz.zeroValue0
  t4 := Tryz.underlying4
  a4 := Tryz.isAgg4
  z4 := Tryz.sizeOf4
  v4 := Tryz.zeroValue4
  t23 := Tryz.underlying133
  a23 := Tryz.isAgg133
  z23 := Tryz.sizeOf133
  v23 := Tryz.zeroValue133
  t26 := Tryz.underlying9
  a26 := Tryz.isAgg9
  z26 := Tryz.sizeOf9
  v26 := Tryz.zeroValue9
  t27 := Tryz.underlying137
  a27 := Tryz.isAgg137
  z27 := Tryz.sizeOf137
  v27 := Tryz.zeroValue137
  t28 := Tryz.underlying138
  a28 := Tryz.isAgg138
  z28 := Tryz.sizeOf138
  v28 := Tryz.zeroValue138
  t33 := Tryz.underlying58
  a33 := Tryz.isAgg58
  z33 := Tryz.sizeOf58
  v33 := Tryz.zeroValue58 }
def Tryz.sorted76_ren : Go.Shelf.Ren := ⟨fun | 6 => 76 | 8 => 114 | 9 => 78 | 11 => 151 | 13 => 117 | 12 => 116 | 23 => 161 | 24 => 162 | 14 => 152 | 15 => 153 | 16 => 154 | 17 => 155 | 18 => 156 | 19 => 157 | 20 => 158 | 21 => 159 | 22 => 160 | 25 => 188 | 26 => 189 | 27 => 190 | 28 => 191 | 29 => 192 | 30 => 193 | 31 => 210 | n => n, fun | 26 => 9 | 28 => 138 | 24 => 45 | 0 => 0 | 3 => 3 | 37 => 175 | 48 => 216 | 50 => 202 | 4 => 4 | 40 => 210 | 39 => 209 | 45 => 52 | 5 => 5 | 9 => 9 | 51 => 237 | 55 => 241 | 57 => 257 | 58 => 258 | 33 => 58 | n => n, fun | n => n⟩
theorem Tryz.sorted76 : Go.Proofs.SlLaysZ.n6 Tryz.prog Tryz.sorted76_ren := {
  mixed := by kernel_rfl
  f6 := ⟨Tryz.f76.name, by decide, Tryz.func76.trans (congrArg some (by kernel_rfl))⟩
  f8 := ⟨Tryz.f114.name, by decide, Tryz.func114.trans (congrArg some (by kernel_rfl))⟩
  f11 := ⟨Tryz.f151.name, by decide, Tryz.func151.trans (congrArg some (by kernel_rfl))⟩
  t0 := Tryz.underlying0
  a0 := Tryz.isAgg0
  z0 := Tryz.sizeOf0
  v0 := Tryz.zeroValue0
  t24 := Tryz.underlying45
  a24 := Tryz.isAgg45
  z24 := Tryz.sizeOf45
  v24 := Tryz.zeroValue45
  t26 := Tryz.underlying9
  a26 := Tryz.isAgg9
  z26 := Tryz.sizeOf9
  v26 := Tryz.zeroValue9
  t28 := Tryz.underlying138
  a28 := Tryz.isAgg138
  z28 := Tryz.sizeOf138
  v28 := Tryz.zeroValue138
  i26 := by kernel_rfl }
def Tryz.sort78_ren : Go.Shelf.Ren := ⟨fun | 6 => 78 | 8 => 117 | 9 => 116 | 19 => 161 | 20 => 162 | 21 => 152 | 22 => 153 | 23 => 154 | 24 => 155 | 25 => 156 | 26 => 157 | 27 => 158 | 28 => 159 | 29 => 160 | 36 => 188 | 31 => 189 | 32 => 190 | 37 => 191 | 38 => 192 | 39 => 193 | 41 => 210 | n => n, fun | 27 => 45 | 29 => 9 | 3 => 3 | 32 => 175 | 26 => 45 | 0 => 0 | 44 => 216 | 46 => 202 | 4 => 4 | 36 => 210 | 35 => 209 | 41 => 52 | 5 => 5 | 9 => 9 | 53 => 237 | 57 => 241 | 63 => 257 | 64 => 258 | n => n, fun | n => n⟩
theorem Tryz.sort78 : Go.Proofs.SlLaysM.n6 Tryz.prog Tryz.sort78_ren := {
  mixed := by kernel_rfl
  f6 := ⟨Tryz.f78.name, by decide, Tryz.func78.trans (congrArg some (by kernel_rfl))⟩
  f8 := Tryz.func117.trans (congrArg some (by kernel_rfl))
  f9 := ⟨Tryz.f116.name, by decide, Tryz.func116.trans (congrArg some (by kernel_rfl))⟩
  f19 := Tryz.func161.trans (congrArg some (by kernel_rfl))
  f20 := Tryz.func162.trans (congrArg some (by kernel_rfl))
  f21 := ⟨Tryz.f152.name, by decide, Tryz.func152.trans (congrArg some (by kernel_rfl))⟩
  f22 := ⟨Tryz.f153.name, by decide, Tryz.func153.trans (congrArg some (by kernel_rfl))⟩
  f23 := ⟨Tryz.f154.name, by decide, Tryz.func154.trans (congrArg some (by kernel_rfl))⟩
  f24 := ⟨Tryz.f155.name, by decide, Tryz.func155.trans (congrArg some (by kernel_rfl))⟩
  f25 := ⟨Tryz.f156.name, by decide, Tryz.func156.trans (congrArg some (by kernel_rfl))⟩
  f26 := ⟨Tryz.f157.name, by decide, Tryz.func157.trans (congrArg some (by kernel_rfl))⟩
  f27 := ⟨Tryz.f158.name, by decide, Tryz.func158.trans (congrArg some (by kernel_rfl))⟩
  f28 := ⟨Tryz.f159.name, by decide, Tryz.func159.trans (congrArg some (by kernel_rfl))⟩
  f29 := ⟨Tryz.f160.name, by decide, Tryz.func160.trans (congrArg some (by kernel_rfl))⟩
  f31 := Tryz.func189.trans (congrArg some (by kernel_rfl))
  f32 := Tryz.func190.trans (congrArg some (by kernel_rfl))
  f36 := ⟨Tryz.f188.name, by decide, Tryz.func188.trans (congrArg some (by kernel_rfl))⟩
  f37 := ⟨Tryz.f191.name, by decide, Tryz.func191.trans (congrArg some (by kernel_rfl))⟩
  f38 := ⟨Tryz.f192.name, by decide, Tryz.func192.trans (congrArg some (by kernel_rfl))⟩
  f39 := ⟨Tryz.f193.name, by decide, Tryz.func193.trans (congrArg some (by kernel_rfl))⟩
  f41 := ⟨Tryz.f210.name, by decide, Tryz.func210.trans (congrArg some (by kernel_rfl))⟩
  t0 := Tryz.underlying0
  a0 := Tryz.isAgg0
  z0 := Tryz.sizeOf0
  v0 := Tryz.zeroValue0
  t3 := Tryz.underlying3
  a3 := Tryz.isAgg3
  z3 := Tryz.sizeOf3
  v3 := Tryz.zeroValue3
  t4 := Tryz.underlying4
  a4 := Tryz.isAgg4
  z4 := Tryz.sizeOf4
  v4 := Tryz.zeroValue4
  t5 := Tryz.underlying5
  a5 := Tryz.isAgg5
  z5 := Tryz.sizeOf5
  v5 := Tryz.zeroValue5
  t9 := Tryz.underlying9
  a9 := Tryz.isAgg9
  z9 := Tryz.sizeOf9
  v9 := Tryz.zeroValue9
  t26 := Tryz.underlying45
  a26 := Tryz.isAgg45
  z26 := Tryz.sizeOf45
  v26 := Tryz.zeroValue45
  t27 := Tryz.underlying45
  a27 := Tryz.isAgg45
  z27 := Tryz.sizeOf45
  v27 := Tryz.zeroValue45
  t29 := Tryz.underlying9
  a29 := Tryz.isAgg9
  z29 := Tryz.sizeOf9
  v29 := Tryz.zeroValue9
  t32 := Tryz.underlying175
  a32 := Tryz.isAgg175
  z32 := Tryz.sizeOf175
  v32 := Tryz.zeroValue175
  t35 := Tryz.underlying209
  a35 := Tryz.isAgg209
  z35 := Tryz.sizeOf209
  v35 := Tryz.zeroValue209
  t36 := Tryz.underlying210
  a36 := Tryz.isAgg210
  z36 := Tryz.sizeOf210
  v36 := Tryz.zeroValue210
  t41 := Tryz.underlying52
  a41 := Tryz.isAgg52
  z41 := Tryz.sizeOf52
  v41 := Tryz.zeroValue52
  t44 := Tryz.underlying216
  a44 := Tryz.isAgg216
  z44 := Tryz.sizeOf216
  v44 := Tryz.zeroValue216
  t46 := Tryz.underlying202
  a46 := Tryz.isAgg202
  z46 := Tryz.sizeOf202
  v46 := Tryz.zeroValue202
  t53 := Tryz.underlying237
  a53 := Tryz.isAgg237
  z53 := Tryz.sizeOf237
  v53 := Tryz.zeroValue237
  t57 := Tryz.underlying241
  a57 := Tryz.isAgg241
  z57 := Tryz.sizeOf241
  v57 := Tryz.zeroValue241
  t63 := Tryz.underlying257
  a63 := Tryz.isAgg257
  z63 := Tryz.sizeOf257
  v63 := Tryz.zeroValue257
  t64 := Tryz.underlying258
  a64 := Tryz.isAgg258
  z64 := Tryz.sizeOf258
  v64 := Tryz.zeroValue258 }
def Tryz.keys80_ren : Go.Shelf.Ren := ⟨fun | 7 => 80 | 10 => 118 | n => n, fun | 23 => 126 | 26 => 9 | 3 => 3 | 28 => 138 | 0 => 0 | 27 => 137 | 33 => 58 | 4 => 4 | n => n, fun | n => n⟩
theorem Tryz.keys80 : Go.Proofs.SlLaysZ.n7 Tryz.prog Tryz.keys80_ren := {
  mixed := by kernel_rfl
  f7 := ⟨Tryz.f80.name, by decide, Tryz.func80.trans (congrArg some (by kernel_rfl))⟩
  f10 := ⟨Tryz.f118.name, by decide, Tryz.func118.trans (congrArg some (by kernel_rfl))⟩
  t0 := Tryz.underlying0
  a0 := Tryz.isAgg0
  z0 := Tryz.sizeOf0
  v0 := Tryz.zeroValue0
  t4 := Tryz.underlying4
  a4 := Tryz.isAgg4
  z4 := Tryz.sizeOf4
  v4 := Tryz.zeroValue4
  t23 := Tryz.underlying126
  a23 := Tryz.isAgg126
  z23 := Tryz.sizeOf126
  v23 := Tryz.zeroValue126
  t26 := Tryz.underlying9
  a26 := Tryz.isAgg9
  z26 := Tryz.sizeOf9
  v26 := Tryz.zeroValue9
  t27 := Tryz.underlying137
  a27 := Tryz.isAgg137
  z27 := Tryz.sizeOf137
  v27 := Tryz.zeroValue137
  t28 := Tryz.underlying138
  a28 := Tryz.isAgg138
  z28 := Tryz.sizeOf138
  v28 := Tryz.zeroValue138
  t33 := Tryz.underlying58
  a33 := Tryz.isAgg58
  z33 := Tryz.sizeOf58
  v33 := Tryz.zeroValue58 }
def Tryz.keys176_ren : Go.Shelf.Ren := ⟨fun | 7 => 176 | 10 => 204 | n => n, fun | 23 => 135 | 26 => 9 | 3 => 4 | 28 => 138 | 0 => 0 | 27 => 137 | 33 => 58 | 4 => 4 | n => n, fun | n => n⟩
theorem Tryz.keys176 : Go.Proofs.SlLaysZ.n7 Tryz.prog Tryz.keys176_ren := {
  mixed := by kernel_rfl
  f7 := ⟨Tryz.f176.name, by decide, Tryz.func176.trans (congrArg some (by kernel_rfl))⟩
  f10 := ⟨Tryz.f204.name, by decide, Tryz.func204.trans (congrArg some (by kernel_rfl))⟩
  t0 := Tryz.underlying0
  a0 := Tryz.isAgg0
  z0 := Tryz.sizeOf0
  v0 := Tryz.zeroValue0
  t4 := Tryz.underlying4
  a4 := Tryz.isAgg4
  z4 := Tryz.sizeOf4
  v4 := Tryz.zeroValue4
  t23 := Tryz.underlying135
  a23 := Tryz.isAgg135
  z23 := Tryz.sizeOf135
  v23 := Tryz.zeroValue135
  t26 := Tryz.underlying9
  a26 := Tryz.isAgg9
  z26 := Tryz.sizeOf9
  v26 := Tryz.zeroValue9
  t27 := Tryz.underlying137
  a27 := Tryz.isAgg137
  z27 := Tryz.sizeOf137
  v27 := Tryz.zeroValue137
  t28 := Tryz.underlying138
  a28 := Tryz.isAgg138
  z28 := Tryz.sizeOf138
  v28 := Tryz.zeroValue138
  t33 := Tryz.underlying58
  a33 := Tryz.isAgg58
  z33 := Tryz.sizeOf58
  v33 := Tryz.zeroValue58 }
open Go.RowKit Go.Maps Go.Sort
theorem Tryz.sorts76 (m : Nat) : AnyZ.SortsIn Tryz.prog Tryz.sorted76_ren Fence.wide m :=
  ⟨fun blk off cap ss W hH hblk hsz => callsIn_wide.2 (AnyM.slices_Sort_string Tryz.sort78 blk off cap ss W hH hblk hsz),
   fun p cap W => callsIn_wide.2 (AnyM.slices_Sort_string_none Tryz.sort78 p cap W)⟩
theorem Tryz.maps_Keys_77 (mb : Option Nat) (W : World) : CallsIn Fence.wide 5 Tryz.prog 77 #[.map mb] W fun e w' => e = .returned (.func (.func 115) #[] #[.pointer (some ⟨W.heap.size, 0, none⟩)]) ∧ w' = W.alloc (.cells #[.map mb] 133) :=
  AnyZ.keys_in Tryz.keys77 Fence.wide 5 trivial rfl mb W
set_option maxHeartbeats 1000000 in
theorem Tryz.slices_Sorted_keys_76_77 {H : Type} (b nn : Nat) (D0 : DataW H) (R : Value → Option (DataW H × List MemPlace)) (w : World) (hown : w.ownsMap Tryz.prog 9 R b nn D0) (hmax : Maps.size D0 ≤ maxLen) (hbytes : Maps.size D0 * 16 ≤ 140737488355328) :
    CallsIn Fence.wide 5 Tryz.prog 76 #[.func (.func 115) #[] #[.pointer (some ⟨w.heap.size, 0, none⟩)]] (w.alloc (.cells #[.map (some b)] 133)) fun e w' => ∃ (v : Value) (ss : List (List UInt8)), e = .returned v ∧ ss.Perm (strKeys D0) ∧
      w'.ownsRow (w.alloc (.cells #[.map (some b)] 133)).heap.size 9 1 v ss.length ((ss.mergeSort (fun x y => decide (x ≤ y))).map encStr) ∧ (v = .slice none 0 0 ↔ ss = []) ∧ Below (w.alloc (.cells #[.map (some b)] 133)).heap.size (w.alloc (.cells #[.map (some b)] 133)) w' := by
  have hbl := hown.lt
  have hseq : SeqGives Fence.wide 2 Tryz.prog 115 #[.pointer (some ⟨w.heap.size, 0, none⟩)] encStr (fun ss => ss.Perm (strKeys D0)) (Maps.size D0) (w.alloc (.cells #[.map (some b)] 133)) :=
    AnyZ.keys_gives (ρ := Tryz.keys77_ren) { Tryz.keys77 with } Fence.wide _ trivial rfl (by omega) w.heap.size b nn D0 _ (by simp) (by simp) (by
      obtain ⟨es, clock, hb, Ft, hs, hD⟩ := hown
      exact ⟨es, clock, (Below.heap_alloc _ _ b hbl).trans hb, Ft, hs, hD⟩)
  exact AnyZ.sorted_in Tryz.sorted76 Fence.wide 5 trivial trivial trivial trivial rfl (by omega) (Tryz.sorts76 _) (enters_of Tryz.func78 (by kernel_rfl) rfl) 115 #[.pointer (some ⟨w.heap.size, 0, none⟩)] trivial (enters_of Tryz.func115 (by kernel_rfl) rfl) _ _ hmax hbytes _ hseq
theorem Tryz.maps_Keys_80 (mb : Option Nat) (W : World) : CallsIn Fence.wide 5 Tryz.prog 80 #[.map mb] W fun e w' => e = .returned (.func (.func 118) #[] #[.pointer (some ⟨W.heap.size, 0, none⟩)]) ∧ w' = W.alloc (.cells #[.map mb] 126) :=
  AnyZ.keys_in Tryz.keys80 Fence.wide 5 trivial rfl mb W
set_option maxHeartbeats 1000000 in
theorem Tryz.slices_Sorted_keys_76_80 {H : Type} (b nn : Nat) (D0 : DataW H) (R : Value → Option (DataW H × List MemPlace)) (w : World) (hown : w.ownsMap Tryz.prog 9 R b nn D0) (hmax : Maps.size D0 ≤ maxLen) (hbytes : Maps.size D0 * 16 ≤ 140737488355328) :
    CallsIn Fence.wide 5 Tryz.prog 76 #[.func (.func 118) #[] #[.pointer (some ⟨w.heap.size, 0, none⟩)]] (w.alloc (.cells #[.map (some b)] 126)) fun e w' => ∃ (v : Value) (ss : List (List UInt8)), e = .returned v ∧ ss.Perm (strKeys D0) ∧
      w'.ownsRow (w.alloc (.cells #[.map (some b)] 126)).heap.size 9 1 v ss.length ((ss.mergeSort (fun x y => decide (x ≤ y))).map encStr) ∧ (v = .slice none 0 0 ↔ ss = []) ∧ Below (w.alloc (.cells #[.map (some b)] 126)).heap.size (w.alloc (.cells #[.map (some b)] 126)) w' := by
  have hbl := hown.lt
  have hseq : SeqGives Fence.wide 2 Tryz.prog 118 #[.pointer (some ⟨w.heap.size, 0, none⟩)] encStr (fun ss => ss.Perm (strKeys D0)) (Maps.size D0) (w.alloc (.cells #[.map (some b)] 126)) :=
    AnyZ.keys_gives (ρ := Tryz.keys80_ren) { Tryz.keys80 with } Fence.wide _ trivial rfl (by omega) w.heap.size b nn D0 _ (by simp) (by simp) (by
      obtain ⟨es, clock, hb, Ft, hs, hD⟩ := hown
      exact ⟨es, clock, (Below.heap_alloc _ _ b hbl).trans hb, Ft, hs, hD⟩)
  exact AnyZ.sorted_in Tryz.sorted76 Fence.wide 5 trivial trivial trivial trivial rfl (by omega) (Tryz.sorts76 _) (enters_of Tryz.func78 (by kernel_rfl) rfl) 118 #[.pointer (some ⟨w.heap.size, 0, none⟩)] trivial (enters_of Tryz.func118 (by kernel_rfl) rfl) _ _ hmax hbytes _ hseq
theorem Tryz.maps_Keys_176 (mb : Option Nat) (W : World) : CallsIn Fence.wide 5 Tryz.prog 176 #[.map mb] W fun e w' => e = .returned (.func (.func 204) #[] #[.pointer (some ⟨W.heap.size, 0, none⟩)]) ∧ w' = W.alloc (.cells #[.map mb] 135) :=
  AnyZ.keys_in Tryz.keys176 Fence.wide 5 trivial rfl mb W
set_option maxHeartbeats 1000000 in
theorem Tryz.slices_Sorted_keys_76_176 {H : Type} (b nn : Nat) (D0 : DataW H) (R : Value → Option (DataW H × List MemPlace)) (w : World) (hown : w.ownsMap Tryz.prog 9 R b nn D0) (hmax : Maps.size D0 ≤ maxLen) (hbytes : Maps.size D0 * 16 ≤ 140737488355328) :
    CallsIn Fence.wide 5 Tryz.prog 76 #[.func (.func 204) #[] #[.pointer (some ⟨w.heap.size, 0, none⟩)]] (w.alloc (.cells #[.map (some b)] 135)) fun e w' => ∃ (v : Value) (ss : List (List UInt8)), e = .returned v ∧ ss.Perm (strKeys D0) ∧
      w'.ownsRow (w.alloc (.cells #[.map (some b)] 135)).heap.size 9 1 v ss.length ((ss.mergeSort (fun x y => decide (x ≤ y))).map encStr) ∧ (v = .slice none 0 0 ↔ ss = []) ∧ Below (w.alloc (.cells #[.map (some b)] 135)).heap.size (w.alloc (.cells #[.map (some b)] 135)) w' := by
  have hbl := hown.lt
  have hseq : SeqGives Fence.wide 2 Tryz.prog 204 #[.pointer (some ⟨w.heap.size, 0, none⟩)] encStr (fun ss => ss.Perm (strKeys D0)) (Maps.size D0) (w.alloc (.cells #[.map (some b)] 135)) :=
    AnyZ.keys_gives (ρ := Tryz.keys176_ren) { Tryz.keys176 with } Fence.wide _ trivial rfl (by omega) w.heap.size b nn D0 _ (by simp) (by simp) (by
      obtain ⟨es, clock, hb, Ft, hs, hD⟩ := hown
      exact ⟨es, clock, (Below.heap_alloc _ _ b hbl).trans hb, Ft, hs, hD⟩)
  exact AnyZ.sorted_in Tryz.sorted76 Fence.wide 5 trivial trivial trivial trivial rfl (by omega) (Tryz.sorts76 _) (enters_of Tryz.func78 (by kernel_rfl) rfl) 204 #[.pointer (some ⟨w.heap.size, 0, none⟩)] trivial (enters_of Tryz.func204 (by kernel_rfl) rfl) _ _ hmax hbytes _ hseq
end Go.Proofs
