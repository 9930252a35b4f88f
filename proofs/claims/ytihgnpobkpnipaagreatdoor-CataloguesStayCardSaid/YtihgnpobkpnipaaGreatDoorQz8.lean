/- Texts of the proof of a law, put together, part 8 of 41. Conditions: none beyond those that each theorem names. -/
import Derived.Test.YtihgnpobkpnipaaGreatDoorQz7
namespace Go.Proofs.YtihgnpobkpnipaaGreatDoor
open Go.RowKit
section
variable {ops : Array Oper} {Q : Exit → Act → World → Prop}
theorem gd_in {l : Array Bool} {n i : Nat} (hs : l.size = n) (h : i < n) : (l.setIfInBounds i true).getD i false = true := by
  rw [getD_set (by omega), if_pos rfl]
theorem gd_out {l : Array Bool} {n i j : Nat} (hs : l.size = n) (h : i < n) (hj : j ≠ i) : (l.setIfInBounds i true).getD j false = l.getD j false := by
  rw [getD_set (by omega), if_neg hj]
theorem gd_start (n i : Nat) : (Array.replicate n false).getD i false = false := by
  unfold Array.getD
  split <;> simp
theorem wp_region_sx {id : Nat} {a : Act} {w : World} (hm : Tryz.prog.follows .mixedOrders = true) (D : List Nat) (Base : Array Bool → World → Prop) (Rel : World → World → Prop) (V : Nat → Value → World → Prop)
    (hb : (List.range ops.size).all (fun i => match ops[i]? with | some o => o.after.all (fun e => !Region.binds .any e || decide (e.on < i)) | none => true) = true)
    (hd : (List.range ops.size).all (fun i => match ops[i]? with | some o => (match o.dst with | some d => D.contains d && (List.range ops.size).all (fun j => decide (j = i) || (match ops[j]? with | some p => decide (p.dst ≠ some d) | none => true)) | none => true) | none => true) = true)
    (h0 : Base (Array.replicate ops.size false) { w with drawn := w.drawn + 1 })
    (hstab : ∀ listed W W' i v, Base listed W → Rel W W' → V i v W → V i v W')
    (hVn : ∀ i o v w, ops[i]? = some o → o.dst = none → V i v w)
    (hstep : ∀ (listed : Array Bool) i o f W, ops[i]? = some o → i < ops.size → listed.size = ops.size → listed.getD i false = false → ClsD ops listed → (∀ e ∈ o.after, Region.binds .any e = true → listed.getD e.on false = true) → Base listed W →
      (∀ e ∈ o.after, Region.binds .any e = true → V e.on (f (dof ops e.on)) W) →
      wpOp Tryz.prog ops Q i (fun a' w' => ∃ v, a' = (putsA a D f).put o.dst v ∧ Base (listed.setIfInBounds i true) w' ∧ Rel W w' ∧ V i v w') (putsA a D f) W)
    (hend : ∀ (listed : Array Bool) f w', (∀ i, i < ops.size → listed.getD i false = true) → Base listed w' → (∀ i, i < ops.size → V i (f (dof ops i)) w') → Q .normal (putsA a D f) w') :
    (Code.region id ops true).wp Tryz.prog Q a w := by
  refine wp_region_st hm D Base V hb hd h0 hVn ?_ hend
  intro listed i o f W ho hi hs hli hcl hdep hB hV
  have hbi := List.all_eq_true.1 hb i (List.mem_range.2 hi)
  rw [ho] at hbi
  simp only at hbi
  refine wpOp_mono ?_ (hstep listed i o f W ho hi hs hli hcl hdep hB fun e he hbd => hV e.on ?_ (hdep e he hbd))
  · rintro a'' w'' ⟨v, rfl, b1, b2, b3⟩
    exact ⟨v, rfl, b1, fun j hj hl => hstab _ _ _ _ _ hB b2 (hV j hj hl), b3⟩
  · have := Array.all_eq_true_iff_forall_mem.1 hbi e he
    rw [hbd] at this
    have h3 : e.on < i := by simpa using this
    omega
theorem wp_region_px {id : Nat} {a : Act} {w : World} (hm : Tryz.prog.follows .mixedOrders = true) (D : List Nat) (c : Nat → Option Value) (ai m sa : Nat) (Pre : Array Bool → World → Prop) (Rel : World → World → Prop) (Post : World → Prop) (Mid : Value → World → Prop) (V : Nat → Value → World → Prop)
    (hb : (List.range ops.size).all (fun i => match ops[i]? with | some o => o.after.all (fun e => !Region.binds .any e || decide (e.on < i)) | none => true) = true)
    (hd : (List.range ops.size).all (fun i => match ops[i]? with | some o => (match o.dst with | some d => D.contains d && (List.range ops.size).all (fun j => decide (j = i) || (match ops[j]? with | some p => decide (p.dst ≠ some d) | none => true)) | none => true) | none => true) = true)
    (hcn' : (List.range ops.size).all (fun i => match ops[i]? with | some o => o.dst.isSome || ((c i).isNone && decide (i = m)) | none => true) = true)
    (hcx : c ai = none ∧ c m = none) (hne : m ≠ ai) (hlt : ai < ops.size ∧ m < ops.size)
    (hda : (ops[ai]?).bind (·.dst) = some sa) (hdm : (ops[m]?).bind (·.dst) = none)
    (hma : ∀ l, ClsD ops l → l.getD ai false = false → l.getD m false = false)
    (hsp : ∀ i l, i < ops.size → c i = none → i ≠ m → ClsD ops l → l.getD i false = false → l.getD ai false = false)
    (hda2 : ∀ o, ops[m]? = some o → ∃ e, e ∈ o.after ∧ e.on = ai ∧ Region.binds .any e = true)
    (hpure : ∀ (listed : Array Bool) i v W, listed.size = ops.size → c i = some v → Pre listed W → Pre (listed.setIfInBounds i true) W)
    (h0 : Pre (Array.replicate ops.size false) { w with drawn := w.drawn + 1 })
    (hstab : ∀ listed W W' i v, Pre listed W → Rel W W' → V i v W → V i v W')
    (hval : ∀ (listed : Array Bool) (f : Nat → Value) i o v W, ops[i]? = some o → c i = some v → (∀ e ∈ o.after, Region.binds .any e = true → listed.getD e.on false = true) → (listed.getD ai false = false → Pre listed W) → ClsD ops listed → listed.getD i false = false →
      (∀ j v', j < ops.size → listed.getD j false = true → c j = some v' → f (dof ops j) = v') → o.guard = none ∧ ∀ r, Ev a D f r → (execOp r o).run Tryz.prog W = .ok (.value v) W)
    (hS : ∀ (listed : Array Bool) (f : Nat → Value) i o W, ops[i]? = some o → c i = none → i ≠ ai → i ≠ m → listed.size = ops.size → listed.getD i false = false → ClsD ops listed → (∀ e ∈ o.after, Region.binds .any e = true → listed.getD e.on false = true) → Pre listed W →
      (∀ j v', j < ops.size → listed.getD j false = true → c j = some v' → f (dof ops j) = v') → (∀ j, j < ops.size → listed.getD j false = true → c j = none → j ≠ ai → j ≠ m → V j (f (dof ops j)) W) →
      wpOp Tryz.prog ops Q i (fun a' w' => ∃ v, a' = (putsA a D f).put o.dst v ∧ Pre (listed.setIfInBounds i true) w' ∧ Rel W w' ∧ V i v w') (putsA a D f) W)
    (hA : ∀ (listed : Array Bool) (f : Nat → Value) o W, ops[ai]? = some o → listed.getD ai false = false → ClsD ops listed → (∀ e ∈ o.after, Region.binds .any e = true → listed.getD e.on false = true) → Pre listed W →
      (∀ j v', j < ops.size → listed.getD j false = true → c j = some v' → f (dof ops j) = v') → (∀ j, j < ops.size → listed.getD j false = true → c j = none → j ≠ ai → j ≠ m → V j (f (dof ops j)) W) →
      o.guard = none ∧ ∀ K : Act → World → Prop, (∀ v W', Mid v W' → K ((putsA a D f).put o.dst v) W') → Oper.wp Tryz.prog o (putsA a D f) W K Q)
    (hM : ∀ (listed : Array Bool) (f : Nat → Value) o W, ops[m]? = some o → (∀ e ∈ o.after, Region.binds .any e = true → listed.getD e.on false = true) → Mid (f sa) W →
      (∀ j v', j < ops.size → listed.getD j false = true → c j = some v' → f (dof ops j) = v') → o.guard = none ∧ ∃ W', (∀ r, Ev a D f r → (execOp r o).run Tryz.prog W = .ok .skip W') ∧ Post W')
    (hend : ∀ f W, Post W → (∀ j v', j < ops.size → c j = some v' → f (dof ops j) = v') → Q .normal (putsA a D f) W) :
    (Code.region id ops true).wp Tryz.prog Q a w := by
  obtain ⟨cA, cM⟩ := hcx
  obtain ⟨lA, lM⟩ := hlt
  have hcd : ∀ i o, ops[i]? = some o → o.dst = none → c i = none ∧ i = m := fun i o ho h => by
    have h1 := List.all_eq_true.1 hcn' i (List.mem_range.2 (Array.getElem?_eq_some_iff.1 ho).1)
    rw [ho] at h1
    simpa [h] using h1
  have huniq : ∀ (i : Nat) (o : Oper) (j : Nat) (p : Oper) (d : Nat), ops[i]? = some o → ops[j]? = some p → i ≠ j → o.dst = some d → p.dst ≠ some d := fun i o j p d h1 h2 h3 h4 => by
    have hi : i < ops.size := (Array.getElem?_eq_some_iff.1 h1).1
    have hj : j < ops.size := (Array.getElem?_eq_some_iff.1 h2).1
    have hdi := List.all_eq_true.1 hd i (List.mem_range.2 hi)
    rw [h1] at hdi
    simp only at hdi
    rw [h4] at hdi
    simp only [Bool.and_eq_true] at hdi
    have h5 := List.all_eq_true.1 hdi.2 j (List.mem_range.2 hj)
    rw [h2] at h5
    simp only [Bool.or_eq_true, decide_eq_true_eq] at h5
    exact h5.resolve_left (Ne.symm h3)
  have hslot : ∀ (i : Nat) (o : Oper) (j s : Nat), ops[i]? = some o → (ops[j]?).bind (·.dst) = some s → i ≠ j → ∀ f v, updD f o.dst v s = f s := fun i o j s h1 h2 h3 f v => by
    cases hj : ops[j]? with
    | none => rw [hj] at h2; cases h2
    | some p =>
      rw [hj] at h2
      cases hdst : o.dst with
      | none => rfl
      | some d =>
        refine updD_ne fun e => ?_
        subst e
        exact huniq i o j p s h1 hj h3 hdst h2
  have hdst : ∀ j, j < ops.size → j ≠ m → ∃ s, (ops[j]?).bind (·.dst) = some s ∧ dof ops j = s := fun j hj hjm => by
    have ho : ops[j]? = some ops[j] := Array.getElem?_eq_getElem hj
    cases h : (ops[j]).dst with
    | none => exact absurd (hcd j _ ho h).2 hjm
    | some s => exact ⟨s, by rw [ho]; exact h, by unfold dof; rw [ho]; simp [h]⟩
  refine wp_region_ef hm D c (fun (listed : Array Bool) (f : Nat → Value) W => if listed.getD m false = true then Post W else if listed.getD ai false = true then Mid (f sa) W else (Pre listed W ∧ ∀ j, j < ops.size → listed.getD j false = true → c j = none → j ≠ ai → j ≠ m → V j (f (dof ops j)) W)) hb hd (fun i o h1 h2 => (hcd i o h1 h2).1) ?_ ?_ ?_ ?_ ?_
  · have e : ∀ i, (Array.replicate ops.size false).getD i false = false := fun i => by
      unfold Array.getD
      split <;> simp
    simp only [e, Bool.false_eq_true, if_false, false_implies, implies_true, and_true]
    exact h0
  · intro listed f i o v W ho hc hi hs hBs
    have nA : i ≠ ai := fun e => by rw [e, cA] at hc; cases hc
    have nM : i ≠ m := fun e => by rw [e, cM] at hc; cases hc
    simp only [getD_set (show i < listed.size by omega), if_neg (Ne.symm nA), if_neg (Ne.symm nM), hslot i o ai sa ho hda nA]
    split
    · rename_i h; rw [if_pos h] at hBs; exact hBs
    · rename_i h
      rw [if_neg h] at hBs
      split
      · rename_i h2; rw [if_pos h2] at hBs; exact hBs
      · rename_i h2
        rw [if_neg h2] at hBs
        refine ⟨?_, fun j hj hlj hcj h3 h4 => ?_⟩
        · exact hpure listed i v W hs hc hBs.1
        · have hji : j ≠ i := fun e => by rw [e, hc] at hcj; cases hcj
          rw [if_neg hji] at hlj
          obtain ⟨s, h5, h6⟩ := hdst j hj h4
          rw [h6, hslot i o j s ho h5 (Ne.symm hji), ← h6]
          exact hBs.2 j hj hlj hcj h3 h4
  · intro listed f i o v W ho hc hs hli hcl hdep hBs hV
    refine hval listed f i o v W ho hc hdep ?_ hcl hli hV
    intro h2
    rw [if_neg (by rw [hma listed hcl h2]; exact Bool.false_ne_true), if_neg (by rw [h2]; exact Bool.false_ne_true)] at hBs
    exact hBs.1
  · intro listed f i o W ho hc hi hs hli hcl hdep hBs hV
    have hset : ∀ j, (listed.setIfInBounds i true).getD j false = if j = i then true else listed.getD j false := fun j => getD_set (show i < listed.size by omega)
    have hlt : listed.getD i true = false := by rw [getD_eq (by omega) true false]; exact hli
    by_cases him : i = m
    · subst him
      obtain ⟨e1, he1, he2, he3⟩ := hda2 o ho
      have hal : listed.getD ai false = true := by rw [← he2]; exact hdep e1 he1 he3
      rw [if_neg (by rw [hli]; exact Bool.false_ne_true), if_pos hal] at hBs
      obtain ⟨hg, W', hr, hP⟩ := hM listed f o W ho hdep hBs hV
      have e : o.dst = none := by have := hdm; rw [ho] at this; exact this
      refine wpOp_mono ?_ (iv_skip (Bu := fun W => W = W') (Rl := fun _ => True) (Vi := fun _ _ => True) ho hg e W' hr rfl trivial trivial)
      rintro a'' w'' ⟨v', e1, rfl, _, _⟩
      refine ⟨v', e1, ?_, trivial, trivial⟩
      rw [hset, if_pos rfl, if_pos rfl]
      exact hP
    by_cases hia : i = ai
    · subst hia
      have hmm := hma listed hcl hli
      rw [if_neg (by rw [hmm]; exact Bool.false_ne_true), if_neg (by rw [hli]; exact Bool.false_ne_true)] at hBs
      obtain ⟨hg, hw⟩ := hA listed f o W ho hli hcl hdep hBs.1 hV hBs.2
      refine wpOp_mono ?_ (iv_any (Bu := fun _ => True) (Rl := fun _ => True) (Vi := Mid) ho hg fun K hK => hw K fun v W' hm' => hK v W' trivial trivial hm')
      rintro a'' w'' ⟨v', e1, _, _, hmid⟩
      refine ⟨v', e1, ?_, trivial, trivial⟩
      have e : o.dst = some sa := by have := hda; rw [ho] at this; exact this
      rw [hset, hset, if_neg hne, if_pos rfl, if_neg (by rw [hmm]; exact Bool.false_ne_true), if_pos rfl, e, updD_at]
      exact hmid
    · have ha := hsp i listed hi hc him hcl hli
      have hmm := hma listed hcl ha
      rw [if_neg (by rw [hmm]; exact Bool.false_ne_true), if_neg (by rw [ha]; exact Bool.false_ne_true)] at hBs
      refine wpOp_mono ?_ (hS listed f i o W ho hc hia him hs hli hcl hdep hBs.1 hV hBs.2)
      rintro a'' w'' ⟨v, e1, b1, b2, b3⟩
      refine ⟨v, e1, ?_, trivial, trivial⟩
      rw [hset, hset, if_neg (Ne.symm him), if_neg (Ne.symm hia), if_neg (by rw [hmm]; exact Bool.false_ne_true), if_neg (by rw [ha]; exact Bool.false_ne_true)]
      refine ⟨b1, fun j hj hlj hcj h3 h4 => ?_⟩
      obtain ⟨s, h5, h6⟩ := hdst j hj h4
      by_cases hji : j = i
      · subst hji
        rw [ho] at h5
        rw [h6, show o.dst = some s from h5, updD_at]
        exact b3
      · rw [hset, if_neg hji] at hlj
        rw [h6, hslot i o j s ho h5 (Ne.symm hji), ← h6]
        exact hstab _ _ _ _ _ hBs.1 b2 (hBs.2 j hj hlj hcj h3 h4)
  · intro listed f W hall hBs hV
    rw [if_pos (hall m lM)] at hBs
    exact hend f W hBs hV
end
end Go.Proofs.YtihgnpobkpnipaaGreatDoor
