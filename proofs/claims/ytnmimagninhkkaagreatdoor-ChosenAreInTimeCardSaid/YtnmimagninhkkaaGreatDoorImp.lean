/- The contracts of Length and Improved. Condition: coordinates within 2^41, at most 1000 points and places. -/
import Derived.Test.YtnmimagninhkkaaGreatDoorOrd2
namespace Go.Proofs.YtnmimagninhkkaaGreatDoor
open Go.RowKit Go.Sort

theorem ordF_zero {n : Nat} : ∀ (l seen : List Int), ordF n seen l = 0 → (∀ x ∈ l, 0 ≤ x ∧ x < n ∧ x ∉ seen) ∧ l.Nodup
  | [], _, _ => ⟨by simp, List.nodup_nil⟩
  | k :: r, seen, h => by
    simp only [ordF] at h
    by_cases h1 : inB 0 k ((n : Int) - 1) = true
    · rw [if_pos h1] at h
      by_cases h2 : memB k seen = true
      · rw [if_pos h2] at h; omega
      · rw [if_neg h2] at h
        have hk : 0 ≤ k ∧ k < n := by simp [inB] at h1; omega
        have hks : k ∉ seen := by intro hh; exact h2 (memB_yes hh)
        obtain ⟨g1, g2⟩ := ordF_zero r (seen ++ [k]) h
        refine ⟨fun x hx => ?_, ?_⟩
        · rcases List.mem_cons.1 hx with rfl | hx
          · exact ⟨hk.1, hk.2, hks⟩
          · obtain ⟨a, b, c⟩ := g1 x hx
            exact ⟨a, b, fun hh => c (by simp [hh])⟩
        · rw [List.nodup_cons]
          exact ⟨fun hh => (g1 k hh).2.2 (by simp), g2⟩
    · rw [if_neg h1] at h; omega
theorem orderF_zero {n : Nat} {l : List Int} (h : orderF n l = 0) : ∃ o : List Nat, l = nats o ∧ (∀ k ∈ o, k < n) ∧ o.length = n ∧ o.Nodup := by
  unfold orderF at h
  by_cases hl : l.length = n
  · rw [if_pos hl] at h
    obtain ⟨h1, h2⟩ := ordF_zero l [] h
    have e : l = nats (l.map Int.toNat) := by
      unfold nats
      rw [List.map_map]
      conv => lhs; rw [← List.map_id l]
      apply List.map_congr_left
      intro x hx
      have := (h1 x hx).1
      simp; omega
    refine ⟨l.map Int.toNat, e, ?_, by simpa using hl, ?_⟩
    · intro k hk
      obtain ⟨x, hx, rfl⟩ := List.mem_map.1 hk
      have := h1 x hx; omega
    · rw [e] at h2
      exact List.Pairwise.of_map _ (fun a b hab => by intro hh; exact hab (by rw [hh])) h2
  · rw [if_neg hl] at h; omega

theorem errno_ne {x : Int} (h : x ≠ 0) : (x != 0) = true := by simpa using h

/-- the error ahead of Length's and Improved's own work. -/
def impF (st : Pt) (P : List Pt) (l : List Int) : Int := if tourF st P 500 = 0 then orderF P.length l else tourF st P 500

def Turns (st : Pt) (P : List Pt) : Nat → List Nat → List Nat → Prop
  | 0, o, o' => o' = o
  | t + 1, o, o' => ∃ i k, First st P o i k ∧ Turns st P t (revSeg o i (k + 1 - i)) o'
theorem Turns.snoc {st : Pt} {P : List Pt} : ∀ {t : Nat} {o a : List Nat} {i k : Nat}, Turns st P t o a → First st P a i k → Turns st P (t + 1) o (revSeg a i (k + 1 - i))
  | 0, _, _, i, k, h, hf => by
    simp only [Turns] at h
    subst h
    exact ⟨i, k, hf, rfl⟩
  | t + 1, _, _, _, _, ⟨i, k, h1, h2⟩, hf => ⟨i, k, h1, h2.snoc hf⟩
theorem First.uniq {st : Pt} {P : List Pt} {o : List Nat} {i k i' k' : Nat} (h : First st P o i k) (h' : First st P o i' k') : i = i' ∧ k = k' := by
  obtain ⟨a1, a2, a3, a4⟩ := h
  obtain ⟨b1, b2, b3, b4⟩ := h'
  by_cases h1 : i < i'
  · exact absurd a3 (b4 i k a1 a2 (.inl h1))
  · by_cases h2 : i' < i
    · exact absurd b3 (a4 i' k' b1 b2 (.inl h2))
    · obtain rfl : i = i' := by omega
      by_cases h3 : k < k'
      · exact absurd a3 (b4 i k a1 a2 (.inr ⟨rfl, h3⟩))
      · by_cases h4 : k' < k
        · exact absurd b3 (a4 i k' b1 b2 (.inr ⟨rfl, h4⟩))
        · exact ⟨rfl, by omega⟩
theorem Turns.uniq {st : Pt} {P : List Pt} : ∀ {t s : Nat} {o a b : List Nat}, Turns st P t o a → NoGain st P a → Turns st P s o b → NoGain st P b → a = b
  | 0, 0, _, _, _, h, _, h', _ => by simp only [Turns] at h h'; rw [h, h']
  | 0, s + 1, _, _, _, h, hn, ⟨i, k, hf, _⟩, _ => by
    simp only [Turns] at h; subst h
    exact absurd hf.2.2.1 (hn i k hf.1 hf.2.1)
  | t + 1, 0, _, _, _, ⟨i, k, hf, _⟩, _, h', hn' => by
    simp only [Turns] at h'; subst h'
    exact absurd hf.2.2.1 (hn' i k hf.1 hf.2.1)
  | t + 1, s + 1, _, _, _, ⟨i, k, hf, h2⟩, hn, ⟨i', k', hf', h2'⟩, hn' => by
    obtain ⟨rfl, rfl⟩ := hf.uniq hf'
    exact h2.uniq hn h2' hn'
theorem revSeg_mem {o : List Nat} {i m x : Nat} (h : x ∈ revSeg o i m) : x ∈ o := by
  unfold revSeg splice at h
  simp only [List.mem_append, List.mem_reverse] at h
  rcases h with (h | h) | h
  · exact List.mem_of_mem_take h
  · exact List.mem_of_mem_drop (List.mem_of_mem_take h)
  · exact List.mem_of_mem_drop h

end Go.Proofs.YtnmimagninhkkaaGreatDoor
