/- Texts of the proof of a law, put together, part 43 of 46. Conditions: none beyond those that each theorem names. -/
import Derived.Test.YtilhonppgedoiaaGreatDoorFz4
import Derived.Test.YtilhonppgedoiaaGreatDoorFz23
namespace Go.Proofs.YtilhonppgedoiaaGreatDoor
open Go.RowKit Go.Sort
section
variable {ops : Array Oper} {Q : Exit → Act → World → Prop}
/-- what is done has its premises done. -/
def Closed (ops : Array Oper) (listed : Array Bool) : Prop := ∀ j p, ops[j]? = some p → listed.getD j false = true → ∀ e ∈ p.after, Region.binds .any e = true → listed.getD e.on false = true
theorem getD_true {a : Array Bool} {i : Nat} (hi : i < a.size) (d d' : Bool) : a.getD i d = a.getD i d' := by
  unfold Array.getD; rw [dif_pos hi, dif_pos hi]
theorem wp_region_st {id : Nat} {a : Act} {w : World} (hm : Tryz.prog.follows .mixedOrders = true) (D : List Nat) (Base : Array Bool → World → Prop) (V : Nat → Value → World → Prop)
    (hb : (List.range ops.size).all (fun i => match ops[i]? with | some o => o.after.all (fun e => !Region.binds .any e || decide (e.on < i)) | none => true) = true)
    (hd : (List.range ops.size).all (fun i => match ops[i]? with | some o => (match o.dst with | some d => D.contains d && (List.range ops.size).all (fun j => decide (j = i) || (match ops[j]? with | some p => decide (p.dst ≠ some d) | none => true)) | none => true) | none => true) = true)
    (h0 : Base (Array.replicate ops.size false) { w with drawn := w.drawn + 1 })
    (hVn : ∀ i o v w, ops[i]? = some o → o.dst = none → V i v w)
    (hstep : ∀ listed i o f w, ops[i]? = some o → i < ops.size → listed.size = ops.size → listed.getD i false = false → Closed ops listed → (∀ e ∈ o.after, Region.binds .any e = true → listed.getD e.on false = true) → Base listed w →
      (∀ j, j < ops.size → listed.getD j false = true → V j (f (dof ops j)) w) →
      wpOp Tryz.prog ops Q i (fun a' w' => ∃ v, a' = (putsA a D f).put o.dst v ∧ Base (listed.setIfInBounds i true) w' ∧ (∀ j, j < ops.size → listed.getD j false = true → V j (f (dof ops j)) w') ∧ V i v w') (putsA a D f) w)
    (hend : ∀ listed f w', (∀ i, i < ops.size → listed.getD i false = true) → Base listed w' → (∀ i, i < ops.size → V i (f (dof ops i)) w') → Q .normal (putsA a D f) w') :
    (Code.region id ops true).wp Tryz.prog Q a w := by
  refine wp_region_any hm ?_
  refine wpAny_inv (fun listed a' w' => Closed ops listed ∧ ∃ f, a' = putsA a D f ∧ Base listed w' ∧ ∀ i, i < ops.size → listed.getD i false = true → V i (f (dof ops i)) w') ?_ (fun listed hs hr => ready_ne hb listed hs hr) ?_ _ _ _ _ (by simp) ?_ ?_
  · rintro listed a' w' hs ⟨_, f, rfl, h1, h2⟩ hall
    have hall' : ∀ i, i < ops.size → listed.getD i false = true := fun i hi => by rw [getD_true (by omega) false true]; exact hall i hi
    exact hend listed f w' hall' h1 fun i hi => h2 i hi (hall' i hi)
  · rintro listed a' w' hs ⟨hcl, f, rfl, h1, h2⟩ i hi hli hdep
    have ho : ops[i]? = some ops[i] := Array.getElem?_eq_getElem hi
    have hlf : listed.getD i false = false := by rw [getD_true (by omega) false true]; exact hli
    refine wpOp_mono ?_ (hstep listed i _ f w' ho hi hs hlf hcl (hdep _ ho) h1 h2)
    rintro a'' w'' ⟨v, rfl, b1, b2, b3⟩
    have hset : ∀ j, (listed.setIfInBounds i true).getD j false = true → j = i ∨ listed.getD j false = true := by
      intro j hj
      rw [getD_set (by omega)] at hj
      by_cases h : j = i
      · exact .inl h
      · rw [if_neg h] at hj; exact .inr hj
    have hcl' : Closed ops (listed.setIfInBounds i true) := by
      intro j p hp hj e he hbd
      rw [getD_set (by omega)]
      split
      · rfl
      · rcases hset j hj with rfl | hj
        · exact hdep p hp e he hbd
        · exact hcl j p hp hj e he hbd
    refine ⟨hcl', ?_⟩
    have hdi := List.all_eq_true.1 hd i (List.mem_range.2 hi)
    rw [ho] at hdi
    simp only at hdi
    cases hdst : (ops[i]).dst with
    | none =>
      rw [putsA_none]
      refine ⟨f, rfl, b1, fun j hj hlj => ?_⟩
      rcases hset j hlj with rfl | hlj
      · exact hVn _ _ _ _ ho hdst
      · exact b2 j hj hlj
    | some d =>
      rw [hdst] at hdi
      simp only [Bool.and_eq_true] at hdi
      rw [putsA_put hdi.1]
      have hdofi : dof ops i = d := by unfold dof; rw [ho]; simp [hdst]
      refine ⟨updF f d v, rfl, b1, fun j hj hlj => ?_⟩
      by_cases hji : j = i
      · subst hji
        rw [hdofi]
        show V j (updF f d v d) w''
        unfold updF; rw [if_pos rfl]; exact b3
      · have hlj2 : listed.getD j false = true := by
          rcases hset j hlj with h | h
          · exact absurd h hji
          · exact h
        have hoj : ops[j]? = some ops[j] := Array.getElem?_eq_getElem hj
        have h3 := List.all_eq_true.1 hdi.2 j (List.mem_range.2 hj)
        rw [hoj] at h3
        simp only [Bool.or_eq_true, decide_eq_true_eq] at h3
        have hjd : (ops[j]).dst ≠ some d := h3.resolve_left hji
        cases hdj : (ops[j]).dst with
        | none => exact hVn _ _ _ _ hoj hdj
        | some dj =>
          have hdofj : dof ops j = dj := by unfold dof; rw [hoj]; simp [hdj]
          have hne : dj ≠ d := fun e => hjd (by rw [hdj, e])
          have h5 := b2 j hj hlj2
          rw [hdofj] at h5 ⊢
          show V j (updF f d v dj) w''
          unfold updF; rw [if_neg hne]
          exact h5
  · unfold unl
    exact Nat.le_trans (List.length_filter_le _ _) (by simp)
  · refine ⟨fun j p _ hl => ?_, fun j => a.tmps.getD j undef, putsA_start.symm, h0, fun i hi hl => ?_⟩
    · exfalso
      unfold Array.getD at hl
      split at hl <;> simp at hl
    · exfalso
      unfold Array.getD at hl
      simp [hi] at hl
/-- an operation is not done while one that it waits for is not. -/
theorem nl {listed : Array Bool} {k : Nat} (hcl : Closed ops listed) (hk : listed.getD k false = false) (j : Nat) (e : Edge) (he : e.on = k) {p : Oper} (hp : ops[j]? = some p) (hm : e ∈ p.after) (hb : Region.binds .any e = true) : listed.getD j false = false := by
  cases h : listed.getD j false with
  | false => rfl
  | true => have := hcl j p hp h e hm hb; rw [he, hk] at this; cases this
/-- append of one record, as an operation of such a region. -/
theorem iv_app {α : Type} {T : Rty α} (hT : T.Ok) {a : Act} {D : List Nat} {f : Nat → Value} {i : Nat} {o : Oper} {w : World} {Bu Rl : World → Prop} {Vi : Value → World → Prop}
    (ho : ops[i]? = some o) (hg : o.guard = none) (s x : Operand) (hop : o.op = Op.call { callee := Callee.builtin Builtin.append, args := #[s, x], argTypes := #[T.S, T.S] })
    (B : Nat) (v : Value) (l : List α) (hs : ∀ r, Ev a D f r → r s = v) (hown : OwnR T w B v l) (g c : Nat) (y : α) (hx : ∀ r, Ev a D f r → r x = .slice (some ⟨g, 0, none⟩) 1 c) {cs : Array Value} {t : TypeId} (hblk : w.heap[g]? = some (.cells cs t (0, 0))) (hcs : cs.toList = T.f y) (hlen : l.length ≤ 1000000) (hB : B ≤ w.heap.size)
    (hK : ∀ v' w', OwnR T w' B v' (l ++ [y]) → w.grownBy w' v.ownBlock → Below B w w' → Bu w' ∧ Rl w' ∧ Vi v' w') :
    wpOp Tryz.prog ops Q i (fun a' w' => ∃ v, a' = (putsA a D f).put o.dst v ∧ Bu w' ∧ Rl w' ∧ Vi v w') (putsA a D f) w := by
  unfold wpOp
  rw [ho]
  have hw : Region.wanted o (yielded ops (putsA a D f).tmps) = true := by simp [Region.wanted, hg]
  simp only [hw, if_true]
  refine .inl ?_
  have h := step_app_rec (ops := ops) (o := o) (a := putsA a D f) (Q := Q) (E := True) hT hg s x hop B v l (hs _ Ev.mk') hown g c y (hx _ Ev.mk') hblk hcs hlen hB (K := fun a' w' => ∃ v, a' = (putsA a D f).put o.dst v ∧ Bu w' ∧ Rl w' ∧ Vi v w') fun v' w' h1 h2 h3 => ⟨v', rfl, hK v' w' h1 h2 h3⟩
  rw [if_pos hw] at h
  exact h
end
end Go.Proofs.YtilhonppgedoiaaGreatDoor
