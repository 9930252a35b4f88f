/- Maps from ints to ints that count what a list has: look-ups, stores, removals, their size. No conditions but 64 bits. -/
import Derived.Test.YtbkglhakhahfpaaGreatDoorNoz
import Derived.Test.YtbkglhakhahfpaaGreatDoorBase
import Derived.Maps.OwnSet
import Derived.Maps.OwnOps
namespace Go.Proofs.YtbkglhakhahfpaaGreatDoor
open Go.RowKit Go.Sort Go.Maps

theorem own_tight {H : Type} {w : World} {P : Program} {k : TypeId} {R : Value → Option (DataW H × List MemPlace)} {b n : Nat} {D : DataW H} (h : w.ownsMap P k R b n D) : w.ownsMap P k R b (Maps.size D) D := by
  obtain ⟨es, clock, hb, F, hs, rfl⟩ := h
  exact ⟨es, clock, hb, F, by rw [Maps.size_eq, length_sorted]; simp, rfl⟩
theorem intK : Keyed Tryz.prog 3 := int_keyed Tryz.underlying3
theorem zeroI (w : World) : (zeroValue 3).run Tryz.prog w = .ok (.int .i64 0) w := by kernel_rfl
def Rg (x : Int) : Prop := -9223372036854775808 ≤ x ∧ x ≤ 9223372036854775807
theorem Rg.wf {x : Int} (h : Rg x) : (Lit.int .i64 x).wf = true := by
  unfold Rg at h
  simp only [Lit.wf, Bool.and_eq_true, decide_eq_true_eq]
  exact h
/-- a map that has each key of a list, with a number. -/
def MapN (w : World) (g : Nat) (ks : List Int) (f : Int → Int) : Prop :=
  ∃ D : DataW Unit, w.ownsMap Tryz.prog 3 (plainElem Tryz.prog 3) g (Maps.size D) D ∧ Maps.size D = dcount ks ∧ (∀ k, Rg k → Maps.has D (.int .i64 k) = decide (k ∈ ks)) ∧ (∀ k, Rg k → D.atKey (.int .i64 k) (.lit (.int .i64 0)) = .lit (.int .i64 (f k)))
/-- a map that counts what a list has. -/
abbrev MapI (w : World) (g : Nat) (ks : List Int) : Prop := MapN w g ks fun k => (ks.count k : Int)
theorem MapI.made (w : World) : MapI (w.alloc (.map #[] 0)) w.heap.size [] :=
  ⟨.map [], World.ownsMap_made w _ _ _, rfl, fun _ _ => rfl, fun _ _ => rfl⟩
theorem MapN.kept {w w' : World} {g : Nat} {ks : List Int} {f : Int → Int} (h : MapN w g ks f) {row : Option Nat} (hg : w.grownBy w' row) (hne : some g ≠ row) : MapN w' g ks f := by
  obtain ⟨D, h1, h2⟩ := h
  exact ⟨D, h1.kept hg hne, h2⟩
theorem MapN.lt {w : World} {g : Nat} {ks : List Int} {f : Int → Int} (h : MapN w g ks f) : g < w.heap.size := by
  obtain ⟨D, h1, _⟩ := h
  exact h1.lt
theorem MapN.len {w : World} {g : Nat} {ks : List Int} {f : Int → Int} (h : MapN w g ks f) (ty : TypeId) : (Builtin.len_ #[200] ty #[.map (some g)]).run Tryz.prog w = .ok (.int .i64 (dcount ks)) w := by
  obtain ⟨D, h1, h2, _⟩ := h
  rw [← h2]
  exact h1.len Tryz.underlying200 ty
set_option maxRecDepth 100000 in
theorem MapN.look {w : World} {g : Nat} {ks : List Int} {f : Int → Int} (h : MapN w g ks f) {k : Int} (hk : Rg k) : (Instr.lookup 200 (.map (some g)) (.int .i64 k) false).run Tryz.prog w = .ok (.int .i64 (f k)) w := by
  obtain ⟨D, h1, _, _, h4⟩ := h
  obtain ⟨c, hrun, hat, _⟩ := h1.lookup_int intK Tryz.underlying200 Tryz.underlying3 (zeroI w) (keyOf_int_mk Tryz.underlying3 hk.wf)
  rw [h4 k hk] at hat
  injection hat with hat
  injection hat with _ hat
  rw [← hat] at hrun
  exact hrun
theorem keyLit (k : Int) : WideAt.IsKeyLit (.int .i64 k) := trivial
set_option maxRecDepth 100000 in
theorem MapN.put {w : World} {g : Nat} {ks : List Int} {f : Int → Int} (h : MapN w g ks f) {k v : Int} (hk : Rg k) (hv : Rg v) (hsm : dcount ks < 1000000) :
    ∃ w', (Instr.mapUpdate 200 (.map (some g)) (.int .i64 k) (.int .i64 v)).run Tryz.prog w = .ok () w' ∧ MapN w' g (k :: ks) (fun x => if x = k then v else f x) ∧ w.grownBy w' (some g) := by
  obtain ⟨D, h1, h2, h3, h4⟩ := h
  obtain ⟨w', hrun, ho, hg⟩ := h1.update intK Tryz.underlying200 (by unfold maxLen; omega) (keyOf_int_mk Tryz.underlying3 hk.wf) (plainElem_int Tryz.underlying3 hv.wf)
  refine ⟨w', hrun, ⟨_, own_tight ho, ?_, fun x hx => ?_, fun x hx => ?_⟩, hg⟩
  · rw [size_put (h1.tidy intK), h3 k hk, h2]
    simp only [dcount, decide_eq_true_eq]
  · by_cases hxk : x = k
    · subst hxk
      rw [has_put_same (h1.isMap) (keyLit x)]
      simp
    · rw [has_put_other (by intro e; injection e; contradiction), h3 x hx]
      simp [hxk]
  · by_cases hxk : x = k
    · subst hxk
      rw [atKey_put_same (h1.isMap) (keyLit x)]; simp
    · rw [atKey_put_other (by intro e; injection e; contradiction), h4 x hx]; simp [hxk]
set_option maxRecDepth 100000 in
theorem MapN.drop {w : World} {g : Nat} {ks : List Int} {f : Int → Int} {k : Int} (h : MapN w g (k :: ks) f) (hk : Rg k) (hn : k ∉ ks) (ty : TypeId) :
    ∃ w', (Builtin.delete_ #[200, 3] ty #[.map (some g), .int .i64 k]).run Tryz.prog w = .ok (.tuple #[]) w' ∧ MapN w' g ks (fun x => if x = k then 0 else f x) ∧ w.grownBy w' (some g) := by
  obtain ⟨D, h1, h2, h3, h4⟩ := h
  obtain ⟨w', hrun, ho, ht⟩ := h1.drop intK Tryz.underlying200 (keyOf_int_mk Tryz.underlying3 hk.wf) ty
  refine ⟨w', hrun, ⟨_, own_tight ho, ?_, fun x hx => ?_, fun x hx => ?_⟩, ht.grown⟩
  · have := size_del (k := .int .i64 k) (h1.tidy intK)
    rw [h3 k hk, h2] at this
    simp only [dcount] at this
    rw [if_neg hn] at this
    simp at this
    omega
  · by_cases hxk : x = k
    · subst hxk
      rw [has_del_same]
      simp [hn]
    · rw [has_del_other (by intro e; injection e; contradiction), h3 x hx]
      simp [hxk]
  · by_cases hxk : x = k
    · subst hxk
      rw [atKey_del_same]; simp
    · rw [atKey_del_other (by intro e; injection e; contradiction), h4 x hx]; simp [hxk]
theorem MapN.congr {w : World} {g : Nat} {ks ks' : List Int} {f f' : Int → Int} (h : MapN w g ks f) (hk : ∀ x, x ∈ ks ↔ x ∈ ks') (hd : dcount ks = dcount ks') (hf : ∀ x, f x = f' x) : MapN w g ks' f' := by
  obtain ⟨D, h1, h2, h3, h4⟩ := h
  exact ⟨D, h1, h2.trans hd, fun x hx => by rw [h3 x hx]; simp only [hk x], fun x hx => by rw [h4 x hx, hf x]⟩
/-- one more. -/
theorem MapI.more {w : World} {g : Nat} {ks : List Int} (h : MapI w g ks) {k : Int} (hk : Rg k) (hl : ks.length ≤ 1000) :
    ∃ w', (Instr.mapUpdate 200 (.map (some g)) (.int .i64 k) (.int .i64 ((ks.count k : Int) + 1))).run Tryz.prog w = .ok () w' ∧ MapI w' g (k :: ks) ∧ w.grownBy w' (some g) := by
  have hc := List.count_le_length (a := k) (l := ks)
  obtain ⟨w', hrun, hm, hg⟩ := h.put (v := (ks.count k : Int) + 1) hk (by unfold Rg; omega) (by have := dcount_le ks; omega)
  refine ⟨w', hrun, hm.congr (fun _ => Iff.rfl) rfl fun x => ?_, hg⟩
  by_cases hx : x = k
  · subst hx; rw [if_pos rfl, List.count_cons_self]; omega
  · rw [if_neg hx, List.count_cons_of_ne (fun e => hx e.symm)]
/-- one less; at nought the key is there still. -/
theorem MapI.less {w : World} {g : Nat} {ks : List Int} {k : Int} (h : MapI w g (k :: ks)) (hk : Rg k) (hl : ks.length ≤ 1000) :
    ∃ w', (Instr.mapUpdate 200 (.map (some g)) (.int .i64 k) (.int .i64 (ks.count k : Int))).run Tryz.prog w = .ok () w' ∧ MapN w' g (k :: ks) (fun x => (ks.count x : Int)) ∧ w.grownBy w' (some g) := by
  have hc := List.count_le_length (a := k) (l := ks)
  obtain ⟨w', hrun, hm, hg⟩ := h.put (v := (ks.count k : Int)) hk (by unfold Rg; omega) (by have := dcount_le (k :: ks); simp only [List.length_cons] at this; omega)
  refine ⟨w', hrun, hm.congr (fun x => by simp) ?_ fun x => ?_, hg⟩
  · rw [dcount, if_pos (by simp)]
  · by_cases hx : x = k
    · subst hx; rw [if_pos rfl]
    · rw [if_neg hx, List.count_cons_of_ne (fun e => hx e.symm)]
theorem MapN.still {w : World} {g : Nat} {ks : List Int} {k : Int} (h : MapN w g (k :: ks) (fun x => (ks.count x : Int))) (hk : k ∈ ks) : MapI w g ks :=
  h.congr (fun x => by constructor; (intro hx; rcases List.mem_cons.1 hx with rfl | hx; exact hk; exact hx); exact List.mem_cons_of_mem _) (by rw [dcount, if_pos hk]) fun _ => rfl
theorem MapN.gone {w : World} {g : Nat} {ks : List Int} {k : Int} (h : MapN w g (k :: ks) (fun x => (ks.count x : Int))) (hk : Rg k) (hn : k ∉ ks) (ty : TypeId) :
    ∃ w', (Builtin.delete_ #[200, 3] ty #[.map (some g), .int .i64 k]).run Tryz.prog w = .ok (.tuple #[]) w' ∧ MapI w' g ks ∧ w.grownBy w' (some g) := by
  obtain ⟨w', hrun, hm, hg⟩ := h.drop hk hn ty
  refine ⟨w', hrun, hm.congr (fun _ => Iff.rfl) rfl fun x => ?_, hg⟩
  by_cases hx : x = k
  · subst hx; rw [if_pos rfl, List.count_eq_zero.2 hn]; rfl
  · rw [if_neg hx]
end Go.Proofs.YtbkglhakhahfpaaGreatDoor
