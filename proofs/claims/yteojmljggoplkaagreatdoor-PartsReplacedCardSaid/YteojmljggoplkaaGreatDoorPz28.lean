/- Texts of the proof of a law, put together, part 28 of 46. Conditions: none beyond those that each theorem names. -/
import Derived.Test.YteojmljggoplkaaGreatDoorPz18
import Derived.Test.YteojmljggoplkaaGreatDoorPz20
namespace Go.Proofs.YteojmljggoplkaaGreatDoor
open Go.RowKit Go.Sort
/-- what the first k followers of a list's last part give. -/
def stepK (nx : Bs → List Bs) (k : Nat) (l : List Bs) : List (List Bs) := (((nx (lastB l)).take k).filter fun s => decide (s ∉ l)).map fun s => l ++ [s]
theorem stepK_zero (nx : Bs → List Bs) (l : List Bs) : stepK nx 0 l = [] := by simp [stepK]
theorem stepK_all {nx : Bs → List Bs} {k : Nat} {l : List Bs} (h : (nx (lastB l)).length ≤ k) : stepK nx k l = stepC nx l := by unfold stepK stepC; rw [List.take_of_length_le h]
theorem stepK_in {nx : Bs → List Bs} {k : Nat} {l : List Bs} {s : Bs} (h : (nx (lastB l))[k]? = some s) (hs : s ∈ l) : stepK nx (k + 1) l = stepK nx k l := by
  unfold stepK
  rw [List.take_add_one, h, List.filter_append]
  simp [hs]
theorem stepK_out {nx : Bs → List Bs} {k : Nat} {l : List Bs} {s : Bs} (h : (nx (lastB l))[k]? = some s) (hs : s ∉ l) : stepK nx (k + 1) l = stepK nx k l ++ [l ++ [s]] := by
  unfold stepK
  rw [List.take_add_one, h, List.filter_append]
  simp [hs]
theorem stepK_len (nx : Bs → List Bs) (k : Nat) (l : List Bs) : (stepK nx k l).length ≤ (nx (lastB l)).length := by
  unfold stepK
  rw [List.length_map]
  refine Nat.le_trans (List.length_filter_le _ _) ?_
  rw [List.length_take]
  exact Nat.min_le_right _ _
theorem nextL_ps {ps : List Prt} {l : List Alt} (h : catsF ps l = 0) (p : Bs) : (nextL l p).length ≤ ps.length := few_keys (nextL_srt h p).nodup fun _ hs => (next_in h hs).2.1
/-- the lists of one length. -/
structure LvI (ps : List Prt) (m : Nat) (L : List (List Bs)) : Prop where
  one : ∀ x ∈ L, x.length = m + 1 ∧ x.Nodup ∧ ∀ s ∈ x, s ∈ keysP ps
  few : L.length ≤ 5 ^ m
theorem LvI.zero {ps : List Prt} {a : Bs} (h : a ∈ keysP ps) : LvI ps 0 [[a]] := ⟨fun x hx => by
  obtain rfl := List.mem_singleton.1 hx
  exact ⟨rfl, by simp, fun s hs => by obtain rfl := List.mem_singleton.1 hs; exact h⟩, by simp⟩
theorem flat_lenC {L : List (List Bs)} {F : List Bs → List (List Bs)} {c : Nat} (h : ∀ x, (F x).length ≤ c) : (L.flatMap F).length ≤ L.length * c := by
  induction L with
  | nil => simp
  | cons x r ih =>
    rw [List.flatMap_cons, List.length_append, List.length_cons, Nat.succ_mul]
    have := h x
    omega
theorem stepC_len {ps : List Prt} {l : List Alt} (h : catsF ps l = 0) (h5 : ps.length ≤ 5) (x : List Bs) : (stepC (nextL l) x).length ≤ 5 := by
  have h1 := stepK_len (nextL l) (nextL l (lastB x)).length x
  rw [stepK_all (Nat.le_refl _)] at h1
  have := nextL_ps h (lastB x)
  omega
theorem LvI.next {ps : List Prt} {l : List Alt} (h : catsF ps l = 0) (h5 : ps.length ≤ 5) {m : Nat} {L : List (List Bs)} (hL : LvI ps m L) : LvI ps (m + 1) (L.flatMap (stepC (nextL l))) := by
  refine ⟨fun y hy => ?_, ?_⟩
  · obtain ⟨x, hx, hy⟩ := List.mem_flatMap.1 hy
    obtain ⟨h1, h2, h3⟩ := hL.one x hx
    unfold stepC at hy
    obtain ⟨s, hs, rfl⟩ := List.mem_map.1 hy
    obtain ⟨hs1, hs2⟩ := List.mem_filter.1 hs
    have hs3 : s ∉ x := of_decide_eq_true hs2
    refine ⟨by rw [List.length_append, h1]; rfl, ?_, fun t ht => ?_⟩
    · rw [List.nodup_append]
      refine ⟨h2, by simp, fun p hp q hq => ?_⟩
      obtain rfl := List.mem_singleton.1 hq
      exact fun e => hs3 (e ▸ hp)
    · rcases List.mem_append.1 ht with ht | ht
      · exact h3 t ht
      · obtain rfl := List.mem_singleton.1 ht
        exact (next_in h hs1).2.1
  · have h1 := flat_lenC (L := L) (stepC_len h h5)
    have h2 := hL.few
    rw [Nat.pow_succ]
    exact Nat.le_trans h1 (Nat.mul_le_mul_right _ h2)
theorem LvI.small {ps : List Prt} (h5 : ps.length ≤ 5) {m : Nat} {L : List (List Bs)} (hL : LvI ps m L) : L.length ≤ 625 := by
  cases L with
  | nil => simp
  | cons x r =>
    obtain ⟨h1, h2, h3⟩ := hL.one x (List.mem_cons_self ..)
    have h4 := few_keys h2 h3
    refine Nat.le_trans hL.few ?_
    have : m = 0 ∨ m = 1 ∨ m = 2 ∨ m = 3 ∨ m = 4 := by omega
    rcases this with rfl | rfl | rfl | rfl | rfl <;> decide
/-- none of the first ones ends well. -/
def NoEnd (b : Bs) (L : List (List Bs)) : Prop := ∀ x ∈ L, lastB x ≠ b
theorem chain_hit {nx : Bs → List Bs} {b : Bs} {f : Nat} {L : List (List Bs)} {R x : List Bs} {j : Nat} (h : chainR nx b f L = some R) (hn : NoEnd b (L.take j)) (hx : L[j]? = some x) (hb : lastB x = b) : x = R := by
  cases f with
  | zero => cases h
  | succ f =>
    have hf : (L.find? fun l => decide (lastB l = b)) = some x := by
      have e : L = L.take j ++ x :: L.drop (j + 1) := by
        have hj := (List.getElem?_eq_some_iff.1 hx).1
        conv => lhs; rw [← List.take_append_drop j L]
        rw [List.drop_eq_getElem_cons hj]
        have : L[j] = x := (List.getElem?_eq_some_iff.1 hx).2
        rw [this]
      rw [e, List.find?_append, List.find?_eq_none.2 (fun y hy => by simpa using hn y hy), List.find?_cons, decide_eq_true hb]
      rfl
    rw [chainR, hf] at h
    injection h
theorem chain_none {nx : Bs → List Bs} {b : Bs} {f : Nat} {L : List (List Bs)} {R : List Bs} (h : chainR nx b f L = some R) (hn : NoEnd b L) : ∃ g, g < f ∧ chainR nx b g (L.flatMap (stepC nx)) = some R := by
  cases f with
  | zero => cases h
  | succ f =>
    have hf : (L.find? fun l => decide (lastB l = b)) = none := List.find?_eq_none.2 fun y hy => by simpa using hn y hy
    rw [chainR, hf] at h
    exact ⟨f, Nat.lt_succ_self _, h⟩
theorem NoEnd.snoc {b : Bs} {L : List (List Bs)} {j : Nat} {x : List Bs} (h : NoEnd b (L.take j)) (hx : L[j]? = some x) (hb : lastB x ≠ b) : NoEnd b (L.take (j + 1)) := by
  rw [List.take_add_one, hx]
  intro y hy
  rcases List.mem_append.1 hy with hy | hy
  · exact h y hy
  · obtain rfl := List.mem_singleton.1 hy
    exact hb
theorem flat_snoc {L : List (List Bs)} {F : List Bs → List (List Bs)} {j : Nat} {x : List Bs} (hx : L[j]? = some x) : (L.take (j + 1)).flatMap F = (L.take j).flatMap F ++ F x := by
  rw [List.take_add_one, hx, List.flatMap_append]
  simp
theorem lastB_get {x : List Bs} {m : Nat} (h : x.length = m + 1) : x[m]? = some (lastB x) := by
  have hm : m < x.length := by omega
  unfold lastB
  rw [List.getLast?_eq_getElem?, h, Nat.add_sub_cancel, List.getElem?_eq_getElem hm]
  rfl
end Go.Proofs.YteojmljggoplkaaGreatDoor
