/- Slices of names: IsSorted, Clone; DeleteFunc with the closure of the law. Conditions: at most 100000 names. -/
import Derived.Test.YtgcmlhpocbgkaaaGreatDoorHd8
import Derived.Test.YtgcmlhpocbgkaaaGreatDoorSorted
import Derived.Shelf.SlSorted.IsSorted
namespace Go.Proofs.YtgcmlhpocbgkaaaGreatDoor
open Go.RowKit Go.Sort

theorem IsSortedS_any (l : List Nm) (v : Value) (w : World) (hlen : l.length ≤ 100000) (hl : l.Pairwise fun a b => nlt b a = false) (rl : RecR TS w 0 v l) :
    Calls Tryz.prog 55 #[v] w fun e w' => e = .returned (.bool true) ∧ Below w.heap.size w w' := by
  obtain ⟨a, cap, rfl, _, _⟩ := rl.form
  by_cases h0 : l = []
  · subst h0
    have := Go.Proofs.AnyO.slices_IsSorted_string_none Tryz.isSortedS a cap w
    change Calls Tryz.prog 55 _ _ _ at this
    exact this.mono fun e w' ⟨h1, h2⟩ => ⟨h1, h2 ▸ Below.refl _ _⟩
  · obtain ⟨y, hy⟩ : ∃ y, l[0]? = some y := ⟨_, List.getElem?_eq_getElem (List.length_pos_iff.2 h0)⟩
    obtain ⟨b, o, rfl, _, _, _⟩ := strs_at rl hy
    have := Go.Proofs.AnyO.slices_IsSorted_string Tryz.isSortedS b o cap l.toArray w (fun i hi => by
      have hi' : i < l.length := by simpa using hi
      rw [strs_cells rl i hi']
      simp [hi']) (by simp; omega)
    change Calls Tryz.prog 55 _ _ _ at this
    have hd : Lib.downOK (fun x y : ByteArray => decide (x.data.toList < y.data.toList)) l.toArray (l.toArray.size - 1) = true := by
      rw [Lib.downOK_iff]
      intro i hi
      have hi' : i + 1 < l.length := by simp at hi; omega
      have h1 := (List.pairwise_iff_getElem.1 hl) i (i + 1) (by omega) hi' (by omega)
      unfold nlt at h1
      rw [Go.Proofs.bytesLess_eq, ByteArray.toList_eq, ByteArray.toList_eq] at h1
      have h2 : l.toArray[i + 1]! = l[i + 1] := by simp [hi']
      have h3 : l.toArray[i]! = l[i] := by simp [show i < l.length by omega]
      rw [h2, h3]
      exact h1
    rw [hd] at this
    simp only [List.size_toArray] at this
    exact this.mono fun e w' ⟨h1, q, h2⟩ => ⟨h1, h2 ▸ Bl.drewN (Below.refl _ _) q⟩
theorem CloneS_any (l : List Nm) (v : Value) (w : World) (hlen : l.length ≤ 100000) (h0 : l ≠ []) (rl : RecR TS w 0 v l) :
    Calls Tryz.prog 52 #[v] w fun e w' => ∃ v', e = .returned v' ∧ OwnR TS w' w.heap.size v' l ∧ Below w.heap.size w w' := by
  obtain ⟨a, cap, rfl, _, _⟩ := rl.form
  obtain ⟨y, hy⟩ : ∃ y, l[0]? = some y := ⟨_, List.getElem?_eq_getElem (List.length_pos_iff.2 h0)⟩
  obtain ⟨b, o, rfl, _, _, _⟩ := strs_at rl hy
  refine (Tryz.slices_Clone_string b o l.length cap l w (Nat.le_refl _) (by omega) (strs_cells rl)).mono ?_
  rintro e w' ⟨v', rfl, h1, _, h2⟩
  rw [List.take_length] at h1
  exact ⟨v', rfl, own_str h1, h2⟩
set_option maxHeartbeats 1000000 in
theorem fresh1_any (bef : List Nm) (vb : Value) (Bo : Nat) (x : Nm) (W : World) (hlen : bef.length ≤ 100000) (hc : W.cell? ⟨Bo, 0, none⟩ = some vb) (rb : RecR TS W 0 vb bef) :
    Calls Tryz.prog 53 #[.string x, .pointer (some ⟨Bo, 0, none⟩)] W fun e w' => e = .returned (.bool (Lib.containsS bef x)) ∧ ∃ q, w' = W.drewN q := by
  have HC := Lib.hid (ContainsS_any bef vb x W hlen rb)
  obtain ⟨a, cap, rfl, _, _⟩ := rb.form
  clear rb
  go_enter Tryz.func53, Tryz.ntmps53
  go_wp2_with fail
  refine HC.out.mono ?_
  rintro e w' ⟨rfl, rfl⟩
  go_wp2
  go_ret
  exact ⟨rfl, 0, rfl⟩
theorem DelS_any (bef l : List Nm) (vb v : Value) (Bo C : Nat) (w : World) (h0 : l ≠ []) (hlen : bef.length ≤ 100000) (hll : l.length ≤ 100000) (hB : w.heap[Bo]? = some (.cells #[vb] 26 (0, 0))) (hBC : Bo < C) (hCw : C ≤ w.heap.size)
    (rb : RecR TS w 0 vb bef) (rc : bef ≠ [] → ∀ a n c, vb = .slice (some a) n c → a.block < C) (hO : OwnR TS w C v l) :
    Calls Tryz.prog 51 #[v, .func (.func 53) #[] #[.pointer (some ⟨Bo, 0, none⟩)]] w fun e w' => (∃ a c, e = .returned (.slice a (l.filter fun x => !Lib.containsS bef x).length c)) ∧ Below C w w' := by
  obtain ⟨g, cap, cur, rfl, hg, hb, h1, h2, h3, h4⟩ := hO.blk h0
  obtain ⟨va, vcap, rfl, _, _⟩ := rb.form
  have hH : Holds Value.string w g 0 l.toArray := holds_row Value.string hb (by
    have := h4
    rw [flat_str] at this
    simpa [TS] using this)
  have hgive : ∀ W x, Below C w W → FnGives Tryz.prog 53 #[.pointer (some ⟨Bo, 0, none⟩)] #[.string x] (.bool (Lib.containsS bef x)) W := fun W x hW =>
    fresh1_any bef _ Bo x W hlen (blk_cell ((hW.block Bo hBC).trans hB) 0) (rb.held (fun h b e => rc h b _ _ (by rw [e])) hW)
  have hgrow : ∀ n os dk, Below C w (sortWorld Value.string w g 0 n dk os) := fun n os dk => Gr.below (grownBy_resorted Value.string dk) hg hCw
  have := Tryz.slices_DeleteFunc Value.string (fun _ => rfl) (fun x => Lib.containsS bef x) 53 #[.pointer (some ⟨Bo, 0, none⟩)] (enters_of Tryz.func53 (by kernel_rfl) rfl) ByteArray.empty Tryz.zeroValue9 g 0 cap l.toArray w
    (fun W x hW => hgive W x (hW.mono hCw)) (fun n os dk x _ => hgive _ x (hgrow n os dk)) hH (by simp; omega) (by simpa using h1)
  refine this.mono ?_
  rintro e w' ⟨rfl, q, rfl⟩
  refine ⟨⟨_, _, rfl⟩, ?_⟩
  have := hgrow q #[] ((l.toArray.toList.filter fun x => !Lib.containsS bef x) ++ List.replicate (l.toArray.size - (l.toArray.toList.filter fun x => !Lib.containsS bef x).length) ByteArray.empty).toArray
  have hE : ∀ W : World, grow W #[] = W := fun W => by unfold grow; rw [Array.append_empty]
  unfold sortWorld at this
  rw [hE] at this
  simpa using this
end Go.Proofs.YtgcmlhpocbgkaaaGreatDoor
