/- Texts of the proof of a law, put together, part 6 of 41. Conditions: none beyond those that each theorem names. -/
import Derived.Test.YtihgnpobkpnipaaGreatDoorQz5
namespace Go.Proofs.YtihgnpobkpnipaaGreatDoor
open Go.RowKit
section
variable {ops : Array Oper} {Q : Exit → Act → World → Prop}
/-- what is done has its premises done. -/
def ClsD (ops : Array Oper) (listed : Array Bool) : Prop := ∀ j p, ops[j]? = some p → listed.getD j false = true → ∀ e ∈ p.after, Region.binds .any e = true → listed.getD e.on false = true
theorem getD_eq {a : Array Bool} {i : Nat} (hi : i < a.size) (d d' : Bool) : a.getD i d = a.getD i d' := by
  unfold Array.getD; rw [dif_pos hi, dif_pos hi]
/-- an operation is not done while one that it waits for is not. -/
theorem ClsD.no {listed : Array Bool} {k : Nat} (hcl : ClsD ops listed) (hk : listed.getD k false = false) (j : Nat) (e : Edge) (he : e.on = k) {p : Oper} (hp : ops[j]? = some p) (hm : e ∈ p.after) (hb : Region.binds .any e = true) : listed.getD j false = false := by
  cases h : listed.getD j false with
  | false => rfl
  | true => have := hcl j p hp h e hm hb; rw [he, hk] at this; cases this
/-- a slot that an operation writes. -/
def updD (f : Nat → Value) : Option Nat → Value → Nat → Value
  | none, _ => f
  | some d, v => updF f d v
theorem updD_ne {f : Nat → Value} {d j : Nat} {v : Value} (h : j ≠ d) : updD f (some d) v j = f j := if_neg h
theorem updD_at {f : Nat → Value} {d : Nat} {v : Value} : updD f (some d) v d = v := if_pos rfl
theorem wp_region_ef {id : Nat} {a : Act} {w : World} (hm : Tryz.prog.follows .mixedOrders = true) (D : List Nat) (c : Nat → Option Value) (Base : Array Bool → (Nat → Value) → World → Prop)
    (hb : (List.range ops.size).all (fun i => match ops[i]? with | some o => o.after.all (fun e => !Region.binds .any e || decide (e.on < i)) | none => true) = true)
    (hd : (List.range ops.size).all (fun i => match ops[i]? with | some o => (match o.dst with | some d => D.contains d && (List.range ops.size).all (fun j => decide (j = i) || (match ops[j]? with | some p => decide (p.dst ≠ some d) | none => true)) | none => true) | none => true) = true)
    (hcn : ∀ i o, ops[i]? = some o → o.dst = none → c i = none)
    (h0 : Base (Array.replicate ops.size false) (fun j => a.tmps.getD j undef) { w with drawn := w.drawn + 1 })
    (hread : ∀ listed f i o v w, ops[i]? = some o → c i = some v → i < ops.size → listed.size = ops.size → Base listed f w → Base (listed.setIfInBounds i true) (updD f o.dst v) w)
    (hval : ∀ listed f i o v w, ops[i]? = some o → c i = some v → listed.size = ops.size → listed.getD i false = false → ClsD ops listed → (∀ e ∈ o.after, Region.binds .any e = true → listed.getD e.on false = true) → Base listed f w →
      (∀ j v', j < ops.size → listed.getD j false = true → c j = some v' → f (dof ops j) = v') → o.guard = none ∧ ∀ r, Ev a D f r → (execOp r o).run Tryz.prog w = .ok (.value v) w)
    (hstep : ∀ listed f i o w, ops[i]? = some o → c i = none → i < ops.size → listed.size = ops.size → listed.getD i false = false → ClsD ops listed → (∀ e ∈ o.after, Region.binds .any e = true → listed.getD e.on false = true) → Base listed f w →
      (∀ j v', j < ops.size → listed.getD j false = true → c j = some v' → f (dof ops j) = v') →
      wpOp Tryz.prog ops Q i (fun a' w' => ∃ v, a' = (putsA a D f).put o.dst v ∧ Base (listed.setIfInBounds i true) (updD f o.dst v) w' ∧ True ∧ True) (putsA a D f) w)
    (hend : ∀ listed f w', (∀ i, i < ops.size → listed.getD i false = true) → Base listed f w' → (∀ j v', j < ops.size → c j = some v' → f (dof ops j) = v') → Q .normal (putsA a D f) w') :
    (Code.region id ops true).wp Tryz.prog Q a w := by
  refine wp_region_any hm ?_
  refine wpAny_inv (fun listed a' w' => ClsD ops listed ∧ ∃ f, a' = putsA a D f ∧ Base listed f w' ∧ ∀ j v', j < ops.size → listed.getD j false = true → c j = some v' → f (dof ops j) = v') ?_ (fun listed hs hr => ready_ne hb listed hs hr) ?_ _ _ _ _ (by simp) ?_ ?_
  · rintro listed a' w' hs ⟨_, f, rfl, h1, h2⟩ hall
    have hall' : ∀ i, i < ops.size → listed.getD i false = true := fun i hi => by rw [getD_eq (by omega) false true]; exact hall i hi
    exact hend listed f w' hall' h1 fun i v hi hc => h2 i v hi (hall' i hi) hc
  · rintro listed a' w' hs ⟨hcl, f, rfl, h1, h2⟩ i hi hli hdep
    have ho : ops[i]? = some ops[i] := Array.getElem?_eq_getElem hi
    have hlf : listed.getD i false = false := by rw [getD_eq (by omega) false true]; exact hli
    have key : wpOp Tryz.prog ops Q i (fun a' w' => ∃ v, a' = (putsA a D f).put (ops[i]).dst v ∧ Base (listed.setIfInBounds i true) (updD f (ops[i]).dst v) w' ∧ True ∧ (∀ v', c i = some v' → v = v')) (putsA a D f) w' := by
      cases hc : c i with
      | none =>
        refine wpOp_mono ?_ (hstep listed f i _ w' ho hc hi hs hlf hcl (hdep _ ho) h1 h2)
        rintro a'' w'' ⟨v, e1, e2, _, _⟩
        exact ⟨v, e1, e2, trivial, fun v' e => by cases e⟩
      | some v =>
        obtain ⟨hg, hr⟩ := hval listed f i _ v w' ho hc hs hlf hcl (hdep _ ho) h1 h2
        refine wpOp_mono ?_ (iv_val (Bu := fun W => Base (listed.setIfInBounds i true) (updD f (ops[i]).dst v) W) (Rl := fun _ => True) (Vi := fun v' _ => v' = v) ho hg v w' hr (hread listed f i _ v w' ho hc hi hs h1) trivial rfl)
        rintro a'' w'' ⟨v', e1, e2, _, rfl⟩
        exact ⟨v', e1, e2, trivial, fun v'' e => by injection e⟩
    refine wpOp_mono ?_ key
    rintro a'' w'' ⟨v, rfl, b1, _, b3⟩
    have hset : ∀ j, (listed.setIfInBounds i true).getD j false = true → j = i ∨ listed.getD j false = true := by
      intro j hj
      rw [getD_set (by omega)] at hj
      by_cases h : j = i
      · exact .inl h
      · rw [if_neg h] at hj; exact .inr hj
    have hcl' : ClsD ops (listed.setIfInBounds i true) := by
      intro j p hp hj e he hbd
      rw [getD_set (by omega)]
      split
      · rfl
      · rcases hset j hj with rfl | hj
        · exact hdep p hp e he hbd
        · exact hcl j p hp hj e he hbd
    refine ⟨hcl', ?_⟩
    have hdi := List.all_eq_true.1 hd i (List.mem_range.2 hi)
    rw [ho] at hdi
    simp only at hdi
    cases hdst : (ops[i]).dst with
    | none =>
      rw [putsA_none]
      rw [hdst] at b1
      refine ⟨f, rfl, b1, fun j v' hj hlj hcj => ?_⟩
      rcases hset j hlj with rfl | hlj
      · rw [hcn j _ ho hdst] at hcj; cases hcj
      · exact h2 j v' hj hlj hcj
    | some d =>
      rw [hdst] at hdi b1
      simp only [Bool.and_eq_true] at hdi
      rw [putsA_put hdi.1]
      have hdofi : dof ops i = d := by unfold dof; rw [ho]; simp [hdst]
      refine ⟨updF f d v, rfl, b1, fun j v' hj hlj hcj => ?_⟩
      by_cases hji : j = i
      · subst hji
        rw [hdofi]
        show updF f d v d = v'
        unfold updF; rw [if_pos rfl]; exact b3 v' hcj
      · have hlj2 : listed.getD j false = true := by
          rcases hset j hlj with h | h
          · exact absurd h hji
          · exact h
        have hoj : ops[j]? = some ops[j] := Array.getElem?_eq_getElem hj
        have h3 := List.all_eq_true.1 hdi.2 j (List.mem_range.2 hj)
        rw [hoj] at h3
        simp only [Bool.or_eq_true, decide_eq_true_eq] at h3
        have hjd : (ops[j]).dst ≠ some d := h3.resolve_left hji
        cases hdj : (ops[j]).dst with
        | none => rw [hcn j _ hoj hdj] at hcj; cases hcj
        | some dj =>
          have hdofj : dof ops j = dj := by unfold dof; rw [hoj]; simp [hdj]
          have hne : dj ≠ d := fun e => hjd (by rw [hdj, e])
          have h5 := h2 j v' hj hlj2 hcj
          rw [hdofj] at h5 ⊢
          show updF f d v dj = v'
          unfold updF; rw [if_neg hne]
          exact h5
  · unfold unl
    exact Nat.le_trans (List.length_filter_le _ _) (by simp)
  · refine ⟨fun j p _ hl => ?_, fun j => a.tmps.getD j undef, putsA_start.symm, h0, fun i v' hi hl => ?_⟩
    · exfalso
      unfold Array.getD at hl
      split at hl <;> simp at hl
    · exfalso
      unfold Array.getD at hl
      simp [hi] at hl
/-- append to a row that is told with its block, as an operation of such a region. -/
theorem iv_any {a : Act} {D : List Nat} {f : Nat → Value} {i : Nat} {o : Oper} {w : World} {Bu Rl : World → Prop} {Vi : Value → World → Prop}
    (ho : ops[i]? = some o) (hg : o.guard = none) (h : ∀ K : Act → World → Prop, (∀ v w', Bu w' → Rl w' → Vi v w' → K ((putsA a D f).put o.dst v) w') → Oper.wp Tryz.prog o (putsA a D f) w K Q) :
    wpOp Tryz.prog ops Q i (fun a' w' => ∃ v, a' = (putsA a D f).put o.dst v ∧ Bu w' ∧ Rl w' ∧ Vi v w') (putsA a D f) w := by
  unfold wpOp
  rw [ho]
  have hw : Region.wanted o (yielded ops (putsA a D f).tmps) = true := by simp [Region.wanted, hg]
  simp only [hw, if_true]
  exact .inl (h _ fun v w' h1 h2 h3 => ⟨v, rfl, h1, h2, h3⟩)
/-- reads, one block made, perhaps one call, one append, one store behind it: in whatever order. -/
theorem wp_region_app {id : Nat} {a : Act} {w : World} (hm : Tryz.prog.follows .mixedOrders = true) (D : List Nat) (c : Nat → Option Value) (b ai m k sb sa sk : Nat) (Pre Post Rdf : World → Prop) (Mid BS CL : Value → World → Prop)
    (hb : (List.range ops.size).all (fun i => match ops[i]? with | some o => o.after.all (fun e => !Region.binds .any e || decide (e.on < i)) | none => true) = true)
    (hd : (List.range ops.size).all (fun i => match ops[i]? with | some o => (match o.dst with | some d => D.contains d && (List.range ops.size).all (fun j => decide (j = i) || (match ops[j]? with | some p => decide (p.dst ≠ some d) | none => true)) | none => true) | none => true) = true)
    (hcn' : (List.range ops.size).all (fun i => match ops[i]? with | some o => o.dst.isSome || (c i).isNone | none => true) = true)
    (hce' : (List.range ops.size).all (fun i => (c i).isSome || decide (i = b) || decide (i = ai) || decide (i = m) || decide (i = k)) = true)
    (hcx' : ((c b).isNone && (c ai).isNone && (c m).isNone && (decide (ops.size ≤ k) || (c k).isNone)) = true)
    (hlt : b < ops.size ∧ ai < ops.size ∧ m < ops.size) (hne : b ≠ ai ∧ b ≠ m ∧ ai ≠ m ∧ k ≠ b ∧ k ≠ ai ∧ k ≠ m)
    (hsb : dof ops b = sb ∧ dof ops ai = sa ∧ (k < ops.size → dof ops k = sk)) (hdb : (ops[b]?).bind (·.dst) = some sb) (hda : (ops[ai]?).bind (·.dst) = some sa) (hdm : (ops[m]?).bind (·.dst) = none) (hdk : k < ops.size → (ops[k]?).bind (·.dst) = some sk)
    (hab : ∀ (listed : Array Bool), ClsD ops listed → listed.getD b false = false → listed.getD ai false = false) (hma : ∀ (listed : Array Bool), ClsD ops listed → listed.getD ai false = false → listed.getD m false = false) (hak : k < ops.size → ∀ (listed : Array Bool), ClsD ops listed → listed.getD k false = false → listed.getD ai false = false)
    (hda2 : ∀ o, ops[ai]? = some o → (∃ e ∈ o.after, e.on = b ∧ Region.binds .any e = true) ∧ (k < ops.size → ∃ e ∈ o.after, e.on = k ∧ Region.binds .any e = true)) (hdm2 : ∀ o, ops[m]? = some o → ∃ e ∈ o.after, e.on = ai ∧ Region.binds .any e = true)
    (h0 : Pre { w with drawn := w.drawn + 1 })
    (hBS : ∀ v W W', BS v W → Below W.heap.size W W' → BS v W') (hCL : ∀ v W W', CL v W → Below W.heap.size W W' → CL v W')
    (hR1 : ∀ W, Pre W → Rdf W) (hR2 : ∀ v W, Mid v W → Rdf W) (hR3 : ∀ W, Post W → Rdf W)
    (hval : ∀ (listed : Array Bool) (f : Nat → Value) i o v W, ops[i]? = some o → c i = some v → (∀ e ∈ o.after, Region.binds .any e = true → listed.getD e.on false = true) → Rdf W → (listed.getD ai false = false → Pre W) → ClsD ops listed → listed.getD i false = false →
      (∀ j v', j < ops.size → listed.getD j false = true → c j = some v' → f (dof ops j) = v') → o.guard = none ∧ ∀ r, Ev a D f r → (execOp r o).run Tryz.prog W = .ok (.value v) W)
    (hB : ∀ (listed : Array Bool) (f : Nat → Value) o W, ops[b]? = some o → (∀ e ∈ o.after, Region.binds .any e = true → listed.getD e.on false = true) → Pre W → (∀ j v', j < ops.size → listed.getD j false = true → c j = some v' → f (dof ops j) = v') →
      o.guard = none ∧ ∃ v W', (∀ r, Ev a D f r → (execOp r o).run Tryz.prog W = .ok (.value v) W') ∧ Pre W' ∧ BS v W' ∧ Below W.heap.size W W')
    (hK : k < ops.size → ∀ (listed : Array Bool) (f : Nat → Value) o W, ops[k]? = some o → (∀ e ∈ o.after, Region.binds .any e = true → listed.getD e.on false = true) → Pre W → (∀ j v', j < ops.size → listed.getD j false = true → c j = some v' → f (dof ops j) = v') →
      o.guard = none ∧ ∀ K : Act → World → Prop, (∀ v W', Pre W' → CL v W' → Below W.heap.size W W' → K ((putsA a D f).put o.dst v) W') → Oper.wp Tryz.prog o (putsA a D f) W K Q)
    (hA : ∀ (listed : Array Bool) (f : Nat → Value) o W, ops[ai]? = some o → (∀ e ∈ o.after, Region.binds .any e = true → listed.getD e.on false = true) → Pre W → BS (f sb) W → (k < ops.size → CL (f sk) W) → (∀ j v', j < ops.size → listed.getD j false = true → c j = some v' → f (dof ops j) = v') →
      o.guard = none ∧ ∀ K : Act → World → Prop, (∀ v W', Mid v W' → K ((putsA a D f).put o.dst v) W') → Oper.wp Tryz.prog o (putsA a D f) W K Q)
    (hM : ∀ (listed : Array Bool) (f : Nat → Value) o W, ops[m]? = some o → (∀ e ∈ o.after, Region.binds .any e = true → listed.getD e.on false = true) → Mid (f sa) W → (∀ j v', j < ops.size → listed.getD j false = true → c j = some v' → f (dof ops j) = v') →
      o.guard = none ∧ ∃ W', (∀ r, Ev a D f r → (execOp r o).run Tryz.prog W = .ok .skip W') ∧ Post W')
    (hend : ∀ f W, Post W → (∀ j v', j < ops.size → c j = some v' → f (dof ops j) = v') → Q .normal (putsA a D f) W) :
    (Code.region id ops true).wp Tryz.prog Q a w := by
  have hcn : ∀ i o, ops[i]? = some o → o.dst = none → c i = none := fun i o ho h => by
    have h1 := List.all_eq_true.1 hcn' i (List.mem_range.2 (Array.getElem?_eq_some_iff.1 ho).1)
    rw [ho] at h1
    simpa [h] using h1
  have hce : ∀ i, i < ops.size → c i = none → i = b ∨ i = ai ∨ i = m ∨ i = k := fun i hi h => by
    have h1 := List.all_eq_true.1 hce' i (List.mem_range.2 hi)
    rw [h] at h1
    simp at h1
    omega
  have hcx : c b = none ∧ c ai = none ∧ c m = none ∧ (k < ops.size → c k = none) := by
    simp only [Bool.and_eq_true, Bool.or_eq_true, Option.isNone_iff_eq_none, decide_eq_true_eq] at hcx'
    exact ⟨hcx'.1.1.1, hcx'.1.1.2, hcx'.1.2, fun hk => hcx'.2.resolve_left (by omega)⟩
  obtain ⟨n1, n2, n3, n4, n5, n6⟩ := hne
  obtain ⟨l1, l2, l3⟩ := hlt
  have huniq : ∀ (i : Nat) (o : Oper) (j : Nat) (p : Oper) (d : Nat), ops[i]? = some o → ops[j]? = some p → i ≠ j → o.dst = some d → p.dst ≠ some d := fun i o j p d h1 h2 h3 h4 => by
    have hi : i < ops.size := (Array.getElem?_eq_some_iff.1 h1).1
    have hj : j < ops.size := (Array.getElem?_eq_some_iff.1 h2).1
    have hdi := List.all_eq_true.1 hd i (List.mem_range.2 hi)
    rw [h1] at hdi
    simp only at hdi
    rw [h4] at hdi
    simp only [Bool.and_eq_true] at hdi
    have h5 := List.all_eq_true.1 hdi.2 j (List.mem_range.2 hj)
    rw [h2] at h5
    simp only [Bool.or_eq_true, decide_eq_true_eq] at h5
    exact h5.resolve_left (Ne.symm h3)
  have hslot : ∀ (i : Nat) (o : Oper) (j s : Nat), ops[i]? = some o → (ops[j]?).bind (·.dst) = some s → i ≠ j → ∀ f v, updD f o.dst v s = f s := fun i o j s h1 h2 h3 f v => by
    cases hj : ops[j]? with
    | none => rw [hj] at h2; cases h2
    | some p =>
      rw [hj] at h2
      cases hdst : o.dst with
      | none => rfl
      | some d =>
        refine updD_ne fun e => ?_
        subst e
        exact huniq i o j p s h1 hj h3 hdst h2
  refine wp_region_ef hm D c (fun (listed : Array Bool) (f : Nat → Value) W => if listed.getD m false = true then Post W else if listed.getD ai false = true then Mid (f sa) W else (Pre W ∧ (listed.getD b false = true → BS (f sb) W) ∧ (k < ops.size → listed.getD k false = true → CL (f sk) W))) hb hd hcn ?_ ?_ ?_ ?_ ?_
  · have e : ∀ i, (Array.replicate ops.size false).getD i false = false := fun i => by
      unfold Array.getD
      split <;> simp
    simp only [e, Bool.false_eq_true, if_false, false_implies, implies_true, and_true]
    exact h0
  · intro listed f i o v W ho hc hi hs hBs
    have ne : i ≠ b ∧ i ≠ ai ∧ i ≠ m := ⟨fun e => (by rw [e, hcx.1] at hc; cases hc), fun e => (by rw [e, hcx.2.1] at hc; cases hc), fun e => (by rw [e, hcx.2.2.1] at hc; cases hc)⟩
    have nk : k < ops.size → i ≠ k := fun hk e => by rw [e, hcx.2.2.2 hk] at hc; cases hc
    simp only [getD_set (show i < listed.size by omega), if_neg (Ne.symm ne.1), if_neg (Ne.symm ne.2.1), if_neg (Ne.symm ne.2.2), hslot i o ai sa ho hda ne.2.1, hslot i o b sb ho hdb ne.1]
    split
    · rename_i h; rw [if_pos h] at hBs; exact hBs
    · rename_i h
      rw [if_neg h] at hBs
      split
      · rename_i h2; rw [if_pos h2] at hBs; exact hBs
      · rename_i h2
        rw [if_neg h2] at hBs
        refine ⟨hBs.1, hBs.2.1, fun hk hl => ?_⟩
        rw [hslot i o k sk ho (hdk hk) (nk hk)]
        rw [if_neg (Ne.symm (nk hk))] at hl
        exact hBs.2.2 hk hl
  · intro listed f i o v W ho hc hs hli hcl hdep hBs hV
    refine hval listed f i o v W ho hc hdep ?_ ?_ hcl hli hV
    · by_cases h : listed.getD m false = true
      · rw [if_pos h] at hBs; exact hR3 _ hBs
      · rw [if_neg h] at hBs
        by_cases h2 : listed.getD ai false = true
        · rw [if_pos h2] at hBs; exact hR2 _ _ hBs
        · rw [if_neg h2] at hBs; exact hR1 _ hBs.1
    · intro h2
      rw [if_neg (by rw [hma listed hcl h2]; exact Bool.false_ne_true), if_neg (by rw [h2]; exact Bool.false_ne_true)] at hBs
      exact hBs.1
  · intro listed f i o W ho hc hi hs hli hcl hdep hBs hV
    have hset : ∀ j, (listed.setIfInBounds i true).getD j false = if j = i then true else listed.getD j false := fun j => getD_set (show i < listed.size by omega)
    rcases hce i hi hc with rfl | rfl | rfl | rfl
    · have ha := hab listed hcl hli
      have hmm := hma listed hcl ha
      rw [if_neg (by rw [hmm]; exact Bool.false_ne_true), if_neg (by rw [ha]; exact Bool.false_ne_true)] at hBs
      obtain ⟨hg, v, W', hr, hP, hS, hbl⟩ := hB listed f o W ho hdep hBs.1 hV
      refine wpOp_mono ?_ (iv_val (Bu := fun W => W = W') (Rl := fun _ => True) (Vi := fun v' _ => v' = v) ho hg v W' hr rfl trivial rfl)
      rintro a'' w'' ⟨v', e1, rfl, _, rfl⟩
      refine ⟨v', e1, ?_, trivial, trivial⟩
      rw [hset, hset, hset, if_neg (Ne.symm n2), if_neg (Ne.symm n1), if_pos rfl, if_neg (by rw [hmm]; exact Bool.false_ne_true), if_neg (by rw [ha]; exact Bool.false_ne_true)]
      refine ⟨hP, fun _ => ?_, fun hk hl => ?_⟩
      · have e : o.dst = some sb := by have := hdb; rw [ho] at this; exact this
        rw [e, updD_at]; exact hS
      · rw [hset, if_neg n4] at hl
        rw [hslot i o k sk ho (hdk hk) (Ne.symm n4)]
        exact hCL _ _ _ (hBs.2.2 hk hl) hbl
    · have hmm := hma listed hcl hli
      rw [if_neg (by rw [hmm]; exact Bool.false_ne_true), if_neg (by rw [hli]; exact Bool.false_ne_true)] at hBs
      obtain ⟨⟨e1, he1, he2, he3⟩, hkk⟩ := hda2 o ho
      have hbl : listed.getD b false = true := by rw [← he2]; exact hdep e1 he1 he3
      obtain ⟨hg, hw⟩ := hA listed f o W ho hdep hBs.1 (hBs.2.1 hbl) (fun hk => by
        obtain ⟨e4, he4, he5, he6⟩ := hkk hk
        exact hBs.2.2 hk (by rw [← he5]; exact hdep e4 he4 he6)) hV
      refine wpOp_mono ?_ (iv_any (Bu := fun _ => True) (Rl := fun _ => True) (Vi := Mid) ho hg fun K hK => hw K fun v W' hm' => hK v W' trivial trivial hm')
      rintro a'' w'' ⟨v', e1, _, _, hmid⟩
      refine ⟨v', e1, ?_, trivial, trivial⟩
      have e : o.dst = some sa := by have := hda; rw [ho] at this; exact this
      rw [hset, hset, if_neg (Ne.symm n3), if_pos rfl, if_neg (by rw [hmm]; exact Bool.false_ne_true), if_pos rfl, e, updD_at]
      exact hmid
    · obtain ⟨e1, he1, he2, he3⟩ := hdm2 o ho
      have hal : listed.getD ai false = true := by rw [← he2]; exact hdep e1 he1 he3
      rw [if_neg (by rw [hli]; exact Bool.false_ne_true), if_pos hal] at hBs
      obtain ⟨hg, W', hr, hP⟩ := hM listed f o W ho hdep hBs hV
      have e : o.dst = none := by have := hdm; rw [ho] at this; exact this
      refine wpOp_mono ?_ (iv_skip (Bu := fun W => W = W') (Rl := fun _ => True) (Vi := fun _ _ => True) ho hg e W' hr rfl trivial trivial)
      rintro a'' w'' ⟨v', e1, rfl, _, _⟩
      refine ⟨v', e1, ?_, trivial, trivial⟩
      rw [hset, if_pos rfl, if_pos rfl]
      exact hP
    · have ha := hak hi listed hcl hli
      have hmm := hma listed hcl ha
      rw [if_neg (by rw [hmm]; exact Bool.false_ne_true), if_neg (by rw [ha]; exact Bool.false_ne_true)] at hBs
      obtain ⟨hg, hw⟩ := hK hi listed f o W ho hdep hBs.1 hV
      refine wpOp_mono ?_ (iv_any (Bu := fun W' => Pre W' ∧ Below W.heap.size W W') (Rl := fun _ => True) (Vi := CL) ho hg fun K hK => hw K fun v W' hp hc' hbl => hK v W' ⟨hp, hbl⟩ trivial hc')
      rintro a'' w'' ⟨v', e1, ⟨hP, hbl⟩, _, hcl2⟩
      refine ⟨v', e1, ?_, trivial, trivial⟩
      have e : o.dst = some sk := by have := hdk hi; rw [ho] at this; exact this
      rw [hset, hset, hset, if_neg (Ne.symm n6), if_neg (Ne.symm n5), if_neg (Ne.symm n4), if_neg (by rw [hmm]; exact Bool.false_ne_true), if_neg (by rw [ha]; exact Bool.false_ne_true)]
      refine ⟨hP, fun hl => ?_, fun hk hl => ?_⟩
      · rw [hslot i o b sb ho hdb n4]
        exact hBS _ _ _ (hBs.2.1 hl) hbl
      · rw [e, updD_at]; exact hcl2
  · intro listed f W hall hBs hV
    rw [if_pos (hall m l3)] at hBs
    exact hend f W hBs hV
/-- append, told what it gives. -/
theorem oper_append {o : Oper} {a : Act} {w w' : World} {K : Act → World → Prop} (s x : Operand) (t : TypeId) (hop : o.op = .call { callee := .builtin .append, args := #[s, x], argTypes := #[t, t] }) (v1 v2 v' : Value) (hs : a.eval s = v1) (hx : a.eval x = v2)
    (hrun : (Builtin.append_ #[t, t] o.type #[v1, v2]).run Tryz.prog w = .ok v' w') (hK : K (a.put o.dst v') w') : Oper.wp Tryz.prog o a w K Q := by
  unfold Oper.wp
  simp [execOp, hop, resolve, invoke, builtin, hs, hx, hrun, Result.andThen]
  exact hK
end
end Go.Proofs.YtihgnpobkpnipaaGreatDoor
