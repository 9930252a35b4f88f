/- Slices of strings: cells, Contains. Conditions: at most 100000 strings. -/
import Derived.Test.YtnmimagninhkkaaGreatDoorLGen
import Derived.Test.YtnmimagninhkkaaGreatDoorShelf
namespace Go.Proofs.YtnmimagninhkkaaGreatDoor
open Go.RowKit Go.Sort

theorem str_at {w : World} {lo : Nat} {a : Option Addr} {n cap : Nat} {l : List ByteArray} (h : RecR TS w lo (.slice a n cap) l) {k : Nat} {x : ByteArray} (hk : l[k]? = some x) :
    ∃ b o, a = some ⟨b, o, none⟩ ∧ lo ≤ b ∧ b < w.heap.size ∧ w.cell? ⟨b, o + k, none⟩ = some (.string x) := by
  obtain ⟨b, o, rfl, h1, h2, h3⟩ := h.at TS.ok.len hk TS.ok.pos
  refine ⟨b, o, rfl, h1, h2, ?_⟩
  have := h3 0 _ rfl
  simpa [TS] using this
theorem str_cells {w : World} {lo : Nat} {b o n cap : Nat} {l : List ByteArray} (h : RecR TS w lo (.slice (some ⟨b, o, none⟩) n cap) l) : ∀ j, j < l.length → w.cell? ⟨b, o + j, none⟩ = some (.string (l.getD j ByteArray.empty)) := by
  intro j hj
  obtain ⟨b', o', e, _, _, hc⟩ := str_at h (k := j) (x := l.getD j ByteArray.empty) (by simp [List.getD_eq_getElem?_getD, hj])
  injection e with e; injection e with e1 e2 _; subst e1 e2
  exact hc
theorem HasS_any (l : List ByteArray) (v : Value) (x : ByteArray) (w : World) (hlen : l.length ≤ 100000) (rl : RecR TS w 0 v l) :
    Calls Tryz.prog 20 #[v, .string x] w fun e w' => e = .returned (.bool (Lib.containsS l x)) ∧ w = w' := by
  obtain ⟨a, cap, rfl, hc1, hc2⟩ := rl.form
  by_cases h0 : l = []
  · subst h0
    exact (Tryz.slices_Contains_string_empty a cap x w).mono fun e w' ⟨h1, h2⟩ => ⟨by rw [h1]; rfl, h2.symm⟩
  · obtain ⟨y, hy⟩ : ∃ y, l[0]? = some y := ⟨_, List.getElem?_eq_getElem (List.length_pos_iff.2 h0)⟩
    obtain ⟨b, o, rfl, _, _, _⟩ := str_at rl hy
    have := Tryz.slices_Contains_string b o l.length cap l x w (Nat.le_refl _) (by omega) (str_cells rl)
    rw [List.take_length] at this
    exact this.mono fun e w' ⟨h1, h2⟩ => ⟨h1, h2.symm⟩
theorem ba_inj {a b : ByteArray} (h : a.toList = b.toList) : a = b := ByteArray.ext (Array.toList_inj.1 (by rw [ByteArray.toList_eq, ByteArray.toList_eq] at h; exact h))
end Go.Proofs.YtnmimagninhkkaaGreatDoor
