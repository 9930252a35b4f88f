/- The walk of the law ToursMeasured: whatever the input: true. -/
import Derived.Test.YtbkglhakhahfpaaGreatDoorShortOf
import Derived.Test.YtbkglhakhahfpaaGreatDoorMake2
import Derived.Test.YtbkglhakhahfpaaGreatDoorRep
import Derived.Test.YtbkglhakhahfpaaGreatDoorNear2
import Derived.Deep.Cut
import Derived.Deep.CutRange
namespace Go.Proofs.YtbkglhakhahfpaaGreatDoor
open Go.RowKit Go.Sort

theorem Str.start {w : World} {a : Option Addr} {cap : Nat} {l : List Int} (rl : Ints w 0 (.slice a l.length cap) l) (hl : ∀ x ∈ l, -9223372036854775808 ≤ x ∧ x ≤ 9223372036854775807) :
    Str (w.alloc (.cells #[.slice a l.length cap, .int .i64 0] 25)) w.heap.size 0 := by
  obtain ⟨a', cap', hv, h1, h2⟩ := Ints.form rl
  injection hv with _ _ hcap
  refine ⟨a, l.length, cap, 0, blk_new w _, Int.le_refl _, Int.le_refl _, by omega, fun k hk => ?_⟩
  obtain ⟨b, o, ha, _, hb, hc⟩ := rl.at (k := k) (x := l[k]) (List.getElem?_eq_getElem hk)
  have hx := hl l[k] (List.getElem_mem hk)
  exact ⟨b, o, l[k], ha, hb, by simp; omega, ((bcell (Bl.alloc (Below.refl _ _) _)).1 _ _ hb).trans hc, hx.1, hx.2⟩

theorem or_two (st : Pt) (P : List Pt) (l : List Int) : orF [tourF st P 500, orderF P.length l] = impF st P l := by
  unfold impF orF orF orF
  by_cases h : tourF st P 500 = 0
  · rw [if_pos h, if_pos h]; split <;> omega
  · rw [if_neg h, if_neg h]
theorem Turns.len {st : Pt} {P : List Pt} : ∀ {t : Nat} {o a : List Nat}, Turns st P t o a → a.length = o.length
  | 0, _, _, h => by simp only [Turns] at h; subst h; rfl
  | t + 1, o, a, ⟨i, k, hf, h⟩ => by rw [h.len, revSeg_length (by have := hf.1; have := hf.2.1; omega)]
theorem imp_zero {st : Pt} {P : List Pt} {l : List Int} (h : impF st P l = 0) : orderF P.length l = 0 := by
  unfold impF at h
  by_cases ht : tourF st P 500 = 0
  · rw [if_pos ht] at h; exact h
  · rw [if_neg ht] at h; exact absurd h ht
theorem tlist_len (st : Pt) (P : List Pt) (hst : Bd st) (hP : ∀ p ∈ P, Bd p) (hn : P.length ≤ 16) : ∀ (f : Nat) (o : List Nat) (set : Nat) (a : Pt), o.length + f = P.length → o.Nodup → (∀ k ∈ o, k < P.length) → Rest P.length o set → Bd a → (tlist st P f a set).length = f
  | 0, _, _, _, _, _, _, _, _ => rfl
  | f + 1, o, set, a, hl, hnd, hlt, hr, ha => by
    have hne : set ≠ 0 := by
      intro h0
      have hall : ∀ k, k < P.length → k ∈ o := by
        intro k hk
        apply Classical.byContradiction
        intro hko
        have := (hr k).2 ⟨hk, hko⟩
        rw [h0] at this; simp at this
      have := pigeon P.length o hall
      omega
    obtain ⟨v1, v2, v3⟩ := V_bd st P hst hP hn hr.sub ha
    obtain ⟨k, hk1, hk2, hk3⟩ := v3 hne
    obtain ⟨hkn, hko⟩ := (hr k).1 hk2
    simp only [tlist]
    rw [if_neg hne, hk1, Int.toNat_natCast, List.length_cons, tlist_len st P hst hP hn f (o ++ [k]) (clr set k) (pt P k) (by simp; omega) (by rw [List.nodup_append]; exact ⟨hnd, by simp, fun x hx y hy => by rw [List.mem_singleton.1 hy]; rintro rfl; exact hko hx⟩)
      (by intro j hj; rcases List.mem_append.1 hj with h | h; exact hlt j h; rw [List.mem_singleton.1 h]; exact hkn) (hr.snoc hn hkn) (hP _ (getD_mem hkn))]
theorem tlist_full (st : Pt) (P : List Pt) (hst : Bd st) (hP : ∀ p ∈ P, Bd p) (hn : P.length ≤ 9) : (tlist st P P.length st (pw P.length - 1)).length = P.length :=
  tlist_len st P hst hP (by omega) P.length [] (pw P.length - 1) st (by simp) List.nodup_nil (by simp) (fun i => by rw [full_bit]; simp) hst
theorem own_base' {w : World} {B B' : Nat} {v : Value} {l : List Pt} (h : OwnP w B v l) (hb : B' ≤ B) : OwnP w B' v l := by
  refine ⟨h.1, ?_⟩
  rcases h.2 with hn | ⟨g, cap, cur, hv, hb2, hg, rest⟩
  · exact .inl hn
  · exact .inr ⟨g, cap, cur, hv, by omega, hg, rest⟩

end Go.Proofs.YtbkglhakhahfpaaGreatDoor
