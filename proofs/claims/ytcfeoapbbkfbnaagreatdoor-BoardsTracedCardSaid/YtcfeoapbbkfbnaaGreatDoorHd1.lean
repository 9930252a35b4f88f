/- Slices of names: Index, Contains. The errors of kinds of nozzles. Conditions: at most 100000 names of at most 1000 bytes. -/
import Derived.Test.YtcfeoapbbkfbnaaGreatDoorNms
import Derived.Test.YtcfeoapbbkfbnaaGreatDoorStrs
import Derived.Test.YtcfeoapbbkfbnaaGreatDoorKey
import Derived.Test.YtcfeoapbbkfbnaaGreatDoorSpan
import Derived.Test.YtcfeoapbbkfbnaaGreatDoorLen
namespace Go.Proofs.YtcfeoapbbkfbnaaGreatDoor
open Go.RowKit Go.Sort

abbrev Nm := ByteArray
theorem flat_str (l : List Nm) : l.flatMap TS.f = l.map Value.string := by
  induction l with
  | nil => rfl
  | cons a l ih => rw [List.flatMap_cons, ih]; rfl
theorem strs_at {w : World} {lo : Nat} {a : Option Addr} {n cap : Nat} {l : List Nm} (h : RecR TS w lo (.slice a n cap) l) {k : Nat} {x : Nm} (hk : l[k]? = some x) :
    ∃ b o, a = some ⟨b, o, none⟩ ∧ lo ≤ b ∧ b < w.heap.size ∧ w.cell? ⟨b, o + k, none⟩ = some (.string x) := by
  obtain ⟨b, o, rfl, h1, h2, h3⟩ := h.at TS.ok.len hk TS.ok.pos
  refine ⟨b, o, rfl, h1, h2, ?_⟩
  have := h3 0 _ rfl
  simpa [TS] using this
theorem strs_cells {w : World} {lo : Nat} {b o n cap : Nat} {l : List Nm} (h : RecR TS w lo (.slice (some ⟨b, o, none⟩) n cap) l) : ∀ j, j < l.length → w.cell? ⟨b, o + j, none⟩ = some (.string (l.getD j ByteArray.empty)) := by
  intro j hj
  obtain ⟨b', o', e, _, _, hc⟩ := strs_at h (k := j) (x := l.getD j ByteArray.empty) (by simp [List.getD_eq_getElem?_getD, hj])
  injection e with e; injection e with e1 e2 _; subst e1 e2
  exact hc
theorem strs_drop {w : World} {lo : Nat} {b o n cap : Nat} {l : List Nm} (h : RecR TS w lo (.slice (some ⟨b, o, none⟩) n cap) l) {k : Nat} (hk : k ≤ l.length) : RecR TS w lo (.slice (some ⟨b, o + k, none⟩) (l.length - k) (cap - k)) (l.drop k) := by
  obtain ⟨a', cap', hv, h1, h2, h3⟩ := h
  obtain ⟨rfl, rfl, rfl⟩ := Value.slice.inj hv
  refine ⟨_, _, by rw [List.length_drop], by rw [List.length_drop]; omega, by omega, fun j x hj => ?_⟩
  have hj' : (l.flatMap TS.f)[k + j]? = some x := by
    rw [flat_str] at hj ⊢
    rw [List.map_drop, List.getElem?_drop] at hj
    exact hj
  obtain ⟨b', o', e, h4, h5, h6⟩ := h3 _ _ hj'
  injection e with e; injection e with e1 e2 _; subst e1 e2
  exact ⟨_, _, rfl, h4, h5, by rw [Nat.add_assoc]; exact h6⟩
theorem IndexS_any (l : List Nm) (v : Value) (x : Nm) (w : World) (hlen : l.length ≤ 100000) (rl : RecR TS w 0 v l) :
    Calls Tryz.prog 97 #[v, .string x] w fun e w' => e = .returned (.int .i64 (Lib.idxOfS l x)) ∧ w = w' := by
  obtain ⟨a, cap, rfl, hc1, hc2⟩ := rl.form
  by_cases h0 : l = []
  · subst h0
    exact (Tryz.slices_Index_string_empty a cap x w).mono fun e w' ⟨h1, h2⟩ => ⟨h1, h2.symm⟩
  · obtain ⟨y, hy⟩ : ∃ y, l[0]? = some y := ⟨_, List.getElem?_eq_getElem (List.length_pos_iff.2 h0)⟩
    obtain ⟨b, o, rfl, _, _, _⟩ := strs_at rl hy
    have := Tryz.slices_Index_string b o l.length cap l x w (Nat.le_refl _) (by omega) (strs_cells rl)
    rw [List.take_length] at this
    exact this.mono fun e w' ⟨h1, h2⟩ => ⟨h1, h2.symm⟩
theorem ContainsS_any (l : List Nm) (v : Value) (x : Nm) (w : World) (hlen : l.length ≤ 100000) (rl : RecR TS w 0 v l) :
    Calls Tryz.prog 51 #[v, .string x] w fun e w' => e = .returned (.bool (Lib.containsS l x)) ∧ w = w' := by
  obtain ⟨a, cap, rfl, hc1, hc2⟩ := rl.form
  by_cases h0 : l = []
  · subst h0
    exact (Tryz.slices_Contains_string_empty a cap x w).mono fun e w' ⟨h1, h2⟩ => ⟨by rw [h1]; rfl, h2.symm⟩
  · obtain ⟨y, hy⟩ : ∃ y, l[0]? = some y := ⟨_, List.getElem?_eq_getElem (List.length_pos_iff.2 h0)⟩
    obtain ⟨b, o, rfl, _, _, _⟩ := strs_at rl hy
    have := Tryz.slices_Contains_string b o l.length cap l x w (Nat.le_refl _) (by omega) (strs_cells rl)
    rw [List.take_length] at this
    exact this.mono fun e w' ⟨h1, h2⟩ => ⟨h1, h2.symm⟩

theorem span_in (n lo hi : Int) : spanF n lo hi = if inB lo n hi = true then 0 else 1 := by
  unfold spanF inB
  by_cases h1 : lo ≤ n <;> by_cases h2 : n ≤ hi <;> simp [h1, h2]
/-- the error of kinds of nozzles. -/
def kindF (l : List Nm) (h : Int) : Int := if inB 1 h 8 = false then 1 else if 2000 < l.length then 2 else if l.any (fun s => !keyB s) = true then 5 else 0
theorem kindF_zero {l : List Nm} {h : Int} (e : kindF l h = 0) : (1 ≤ h ∧ h ≤ 8) ∧ l.length ≤ 2000 := by
  unfold kindF at e
  by_cases h1 : inB 1 h 8 = false
  · rw [if_pos h1] at e; omega
  · rw [if_neg h1] at e
    by_cases h2 : 2000 < l.length
    · rw [if_pos h2] at e; omega
    · refine ⟨?_, by omega⟩
      simp only [Bool.not_eq_false] at h1
      unfold inB at h1
      simpa using h1
theorem kindF_next {l : List Nm} {h : Int} (e : kindF l h = 0) (h7 : h ≤ 7) : kindF l (h + 1) = 0 := by
  obtain ⟨⟨a, b⟩, c⟩ := kindF_zero e
  unfold kindF at e ⊢
  have i1 : inB 1 h 8 = true := by unfold inB; simp; omega
  have i2 : inB 1 (h + 1) 8 = true := by unfold inB; simp; omega
  rw [i1] at e
  rw [i2]
  exact e
end Go.Proofs.YtcfeoapbbkfbnaaGreatDoor
