/- Texts of the proof of a law, put together, part 15 of 35. Conditions: none beyond those that each theorem names. -/
import Derived.Test.YtihgnpobkpnipaaGreatDoorCz2
import Derived.Test.YtihgnpobkpnipaaGreatDoorCz4
import Derived.Test.YtihgnpobkpnipaaGreatDoorCz8
import Derived.Test.YtihgnpobkpnipaaGreatDoorCz14
namespace Go.Proofs.YtihgnpobkpnipaaGreatDoor
open Go.RowKit
section
variable {ops : Array Oper} {Q : Exit → Act → World → Prop}
/-- what is done has its premises done. -/
def ClsD (ops : Array Oper) (listed : Array Bool) : Prop := ∀ j p, ops[j]? = some p → listed.getD j false = true → ∀ e ∈ p.after, Region.binds .any e = true → listed.getD e.on false = true
theorem getD_eq {a : Array Bool} {i : Nat} (hi : i < a.size) (d d' : Bool) : a.getD i d = a.getD i d' := by
  unfold Array.getD; rw [dif_pos hi, dif_pos hi]
/-- an operation is not done while one that it waits for is not. -/
theorem ClsD.no {listed : Array Bool} {k : Nat} (hcl : ClsD ops listed) (hk : listed.getD k false = false) (j : Nat) (e : Edge) (he : e.on = k) {p : Oper} (hp : ops[j]? = some p) (hm : e ∈ p.after) (hb : Region.binds .any e = true) : listed.getD j false = false := by
  cases h : listed.getD j false with
  | false => rfl
  | true => have := hcl j p hp h e hm hb; rw [he, hk] at this; cases this
/-- a slot that an operation writes. -/
def updD (f : Nat → Value) : Option Nat → Value → Nat → Value
  | none, _ => f
  | some d, v => updF f d v
theorem updD_ne {f : Nat → Value} {d j : Nat} {v : Value} (h : j ≠ d) : updD f (some d) v j = f j := if_neg h
theorem updD_at {f : Nat → Value} {d : Nat} {v : Value} : updD f (some d) v d = v := if_pos rfl
theorem wp_region_ef {id : Nat} {a : Act} {w : World} (hm : Tryz.prog.follows .mixedOrders = true) (D : List Nat) (c : Nat → Option Value) (Base : Array Bool → (Nat → Value) → World → Prop)
    (hb : (List.range ops.size).all (fun i => match ops[i]? with | some o => o.after.all (fun e => !Region.binds .any e || decide (e.on < i)) | none => true) = true)
    (hd : (List.range ops.size).all (fun i => match ops[i]? with | some o => (match o.dst with | some d => D.contains d && (List.range ops.size).all (fun j => decide (j = i) || (match ops[j]? with | some p => decide (p.dst ≠ some d) | none => true)) | none => true) | none => true) = true)
    (hcn : ∀ i o, ops[i]? = some o → o.dst = none → c i = none)
    (h0 : Base (Array.replicate ops.size false) (fun j => a.tmps.getD j undef) { w with drawn := w.drawn + 1 })
    (hread : ∀ listed f i o v w, ops[i]? = some o → c i = some v → i < ops.size → listed.size = ops.size → Base listed f w → Base (listed.setIfInBounds i true) (updD f o.dst v) w)
    (hval : ∀ listed f i o v w, ops[i]? = some o → c i = some v → listed.size = ops.size → listed.getD i false = false → ClsD ops listed → (∀ e ∈ o.after, Region.binds .any e = true → listed.getD e.on false = true) → Base listed f w →
      (∀ j v', j < ops.size → listed.getD j false = true → c j = some v' → f (dof ops j) = v') → o.guard = none ∧ ∀ r, Ev a D f r → (execOp r o).run Tryz.prog w = .ok (.value v) w)
    (hstep : ∀ listed f i o w, ops[i]? = some o → c i = none → i < ops.size → listed.size = ops.size → listed.getD i false = false → ClsD ops listed → (∀ e ∈ o.after, Region.binds .any e = true → listed.getD e.on false = true) → Base listed f w →
      (∀ j v', j < ops.size → listed.getD j false = true → c j = some v' → f (dof ops j) = v') →
      wpOp Tryz.prog ops Q i (fun a' w' => ∃ v, a' = (putsA a D f).put o.dst v ∧ Base (listed.setIfInBounds i true) (updD f o.dst v) w' ∧ True ∧ True) (putsA a D f) w)
    (hend : ∀ listed f w', (∀ i, i < ops.size → listed.getD i false = true) → Base listed f w' → (∀ j v', j < ops.size → c j = some v' → f (dof ops j) = v') → Q .normal (putsA a D f) w') :
    (Code.region id ops true).wp Tryz.prog Q a w := by
  refine wp_region_any hm ?_
  refine wpAny_inv (fun listed a' w' => ClsD ops listed ∧ ∃ f, a' = putsA a D f ∧ Base listed f w' ∧ ∀ j v', j < ops.size → listed.getD j false = true → c j = some v' → f (dof ops j) = v') ?_ (fun listed hs hr => ready_ne hb listed hs hr) ?_ _ _ _ _ (by simp) ?_ ?_
  · rintro listed a' w' hs ⟨_, f, rfl, h1, h2⟩ hall
    have hall' : ∀ i, i < ops.size → listed.getD i false = true := fun i hi => by rw [getD_eq (by omega) false true]; exact hall i hi
    exact hend listed f w' hall' h1 fun i v hi hc => h2 i v hi (hall' i hi) hc
  · rintro listed a' w' hs ⟨hcl, f, rfl, h1, h2⟩ i hi hli hdep
    have ho : ops[i]? = some ops[i] := Array.getElem?_eq_getElem hi
    have hlf : listed.getD i false = false := by rw [getD_eq (by omega) false true]; exact hli
    have key : wpOp Tryz.prog ops Q i (fun a' w' => ∃ v, a' = (putsA a D f).put (ops[i]).dst v ∧ Base (listed.setIfInBounds i true) (updD f (ops[i]).dst v) w' ∧ True ∧ (∀ v', c i = some v' → v = v')) (putsA a D f) w' := by
      cases hc : c i with
      | none =>
        refine wpOp_mono ?_ (hstep listed f i _ w' ho hc hi hs hlf hcl (hdep _ ho) h1 h2)
        rintro a'' w'' ⟨v, e1, e2, _, _⟩
        exact ⟨v, e1, e2, trivial, fun v' e => by cases e⟩
      | some v =>
        obtain ⟨hg, hr⟩ := hval listed f i _ v w' ho hc hs hlf hcl (hdep _ ho) h1 h2
        refine wpOp_mono ?_ (iv_val (Bu := fun W => Base (listed.setIfInBounds i true) (updD f (ops[i]).dst v) W) (Rl := fun _ => True) (Vi := fun v' _ => v' = v) ho hg v w' hr (hread listed f i _ v w' ho hc hi hs h1) trivial rfl)
        rintro a'' w'' ⟨v', e1, e2, _, rfl⟩
        exact ⟨v', e1, e2, trivial, fun v'' e => by injection e⟩
    refine wpOp_mono ?_ key
    rintro a'' w'' ⟨v, rfl, b1, _, b3⟩
    have hset : ∀ j, (listed.setIfInBounds i true).getD j false = true → j = i ∨ listed.getD j false = true := by
      intro j hj
      rw [getD_set (by omega)] at hj
      by_cases h : j = i
      · exact .inl h
      · rw [if_neg h] at hj; exact .inr hj
    have hcl' : ClsD ops (listed.setIfInBounds i true) := by
      intro j p hp hj e he hbd
      rw [getD_set (by omega)]
      split
      · rfl
      · rcases hset j hj with rfl | hj
        · exact hdep p hp e he hbd
        · exact hcl j p hp hj e he hbd
    refine ⟨hcl', ?_⟩
    have hdi := List.all_eq_true.1 hd i (List.mem_range.2 hi)
    rw [ho] at hdi
    simp only at hdi
    cases hdst : (ops[i]).dst with
    | none =>
      rw [putsA_none]
      rw [hdst] at b1
      refine ⟨f, rfl, b1, fun j v' hj hlj hcj => ?_⟩
      rcases hset j hlj with rfl | hlj
      · rw [hcn j _ ho hdst] at hcj; cases hcj
      · exact h2 j v' hj hlj hcj
    | some d =>
      rw [hdst] at hdi b1
      simp only [Bool.and_eq_true] at hdi
      rw [putsA_put hdi.1]
      have hdofi : dof ops i = d := by unfold dof; rw [ho]; simp [hdst]
      refine ⟨updF f d v, rfl, b1, fun j v' hj hlj hcj => ?_⟩
      by_cases hji : j = i
      · subst hji
        rw [hdofi]
        show updF f d v d = v'
        unfold updF; rw [if_pos rfl]; exact b3 v' hcj
      · have hlj2 : listed.getD j false = true := by
          rcases hset j hlj with h | h
          · exact absurd h hji
          · exact h
        have hoj : ops[j]? = some ops[j] := Array.getElem?_eq_getElem hj
        have h3 := List.all_eq_true.1 hdi.2 j (List.mem_range.2 hj)
        rw [hoj] at h3
        simp only [Bool.or_eq_true, decide_eq_true_eq] at h3
        have hjd : (ops[j]).dst ≠ some d := h3.resolve_left hji
        cases hdj : (ops[j]).dst with
        | none => rw [hcn j _ hoj hdj] at hcj; cases hcj
        | some dj =>
          have hdofj : dof ops j = dj := by unfold dof; rw [hoj]; simp [hdj]
          have hne : dj ≠ d := fun e => hjd (by rw [hdj, e])
          have h5 := h2 j v' hj hlj2 hcj
          rw [hdofj] at h5 ⊢
          show updF f d v dj = v'
          unfold updF; rw [if_neg hne]
          exact h5
  · unfold unl
    exact Nat.le_trans (List.length_filter_le _ _) (by simp)
  · refine ⟨fun j p _ hl => ?_, fun j => a.tmps.getD j undef, putsA_start.symm, h0, fun i v' hi hl => ?_⟩
    · exfalso
      unfold Array.getD at hl
      split at hl <;> simp at hl
    · exfalso
      unfold Array.getD at hl
      simp [hi] at hl
/-- append to a row that is told with its block, as an operation of such a region. -/
theorem iv_any {a : Act} {D : List Nat} {f : Nat → Value} {i : Nat} {o : Oper} {w : World} {Bu Rl : World → Prop} {Vi : Value → World → Prop}
    (ho : ops[i]? = some o) (hg : o.guard = none) (h : ∀ K : Act → World → Prop, (∀ v w', Bu w' → Rl w' → Vi v w' → K ((putsA a D f).put o.dst v) w') → Oper.wp Tryz.prog o (putsA a D f) w K Q) :
    wpOp Tryz.prog ops Q i (fun a' w' => ∃ v, a' = (putsA a D f).put o.dst v ∧ Bu w' ∧ Rl w' ∧ Vi v w') (putsA a D f) w := by
  unfold wpOp
  rw [ho]
  have hw : Region.wanted o (yielded ops (putsA a D f).tmps) = true := by simp [Region.wanted, hg]
  simp only [hw, if_true]
  exact .inl (h _ fun v w' h1 h2 h3 => ⟨v, rfl, h1, h2, h3⟩)
/-- append, told what it gives. -/
theorem oper_append {o : Oper} {a : Act} {w w' : World} {K : Act → World → Prop} (s x : Operand) (t : TypeId) (hop : o.op = .call { callee := .builtin .append, args := #[s, x], argTypes := #[t, t] }) (v1 v2 v' : Value) (hs : a.eval s = v1) (hx : a.eval x = v2)
    (hrun : (Builtin.append_ #[t, t] o.type #[v1, v2]).run Tryz.prog w = .ok v' w') (hK : K (a.put o.dst v') w') : Oper.wp Tryz.prog o a w K Q := by
  unfold Oper.wp
  simp [execOp, hop, resolve, invoke, builtin, hs, hx, hrun, Result.andThen]
  exact hK
end
end Go.Proofs.YtihgnpobkpnipaaGreatDoor
namespace Go.Proofs.YtihgnpobkpnipaaGreatDoor
open Go.RowKit
section
variable {ops : Array Oper} {Q : Exit → Act → World → Prop}
/-- each operation but one has another one that waits for it. -/
def sinkB (ops : Array Oper) (m : Nat) : Bool := (List.range ops.size).all fun i => decide (i = m) || (List.range ops.size).any fun j => match ops[j]? with
  | some p => decide (i < j) && p.after.toList.any fun e => decide (e.on = i) && Region.binds .any e
  | none => false
def dstB (ops : Array Oper) (m : Nat) : Bool := (List.range ops.size).all fun i => decide (i = m) || (match ops[i]? with
  | some o => o.dst.isSome
  | none => true)
theorem all_listed {m : Nat} (hsk : sinkB ops m = true) {listed : Array Bool} (hcl : ClsD ops listed) (hm : listed.getD m false = true) : ∀ (n i : Nat), ops.size - i ≤ n → i < ops.size → listed.getD i false = true
  | 0, i, h, hi => by omega
  | n + 1, i, h, hi => by
    have h1 := List.all_eq_true.1 hsk i (List.mem_range.2 hi)
    rw [Bool.or_eq_true, decide_eq_true_eq] at h1
    rcases h1 with rfl | h1
    · exact hm
    · obtain ⟨j, hj, h2⟩ := List.any_eq_true.1 h1
      have hj' := List.mem_range.1 hj
      have hoj : ops[j]? = some ops[j] := Array.getElem?_eq_getElem hj'
      rw [hoj] at h2
      simp only [Bool.and_eq_true, decide_eq_true_eq] at h2
      obtain ⟨e, he, h3⟩ := List.any_eq_true.1 h2.2
      rw [Bool.and_eq_true, decide_eq_true_eq] at h3
      have hlj := all_listed hsk hcl hm n j (by omega) hj'
      have := hcl j _ hoj hlj e (Array.mem_toList_iff.1 he) h3.2
      rw [h3.1] at this
      exact this
theorem wp_region_last {id : Nat} {a : Act} {w : World} (hm : Tryz.prog.follows .mixedOrders = true) (D : List Nat) (m : Nat) (Base Post : World → Prop) (Rel : World → World → Prop) (V : Nat → Value → World → Prop)
    (hb : (List.range ops.size).all (fun i => match ops[i]? with | some o => o.after.all (fun e => !Region.binds .any e || decide (e.on < i)) | none => true) = true)
    (hd : (List.range ops.size).all (fun i => match ops[i]? with | some o => (match o.dst with | some d => D.contains d && (List.range ops.size).all (fun j => decide (j = i) || (match ops[j]? with | some p => decide (p.dst ≠ some d) | none => true)) | none => true) | none => true) = true)
    (hsk : sinkB ops m = true) (hds : dstB ops m = true) (hml : m < ops.size)
    (h0 : Base { w with drawn := w.drawn + 1 })
    (hstab : ∀ W W' i v, Base W → Rel W W' → V i v W → V i v W')
    (hstep : ∀ i o f W, ops[i]? = some o → i < ops.size → i ≠ m → Base W → (∀ e ∈ o.after, Region.binds .any e = true → V e.on (f (dof ops e.on)) W) →
      wpOp Tryz.prog ops Q i (fun a' w' => ∃ v, a' = (putsA a D f).put o.dst v ∧ Base w' ∧ Rel W w' ∧ V i v w') (putsA a D f) W)
    (hlast : ∀ o f W, ops[m]? = some o → Base W → (∀ i, i < ops.size → i ≠ m → V i (f (dof ops i)) W) →
      wpOp Tryz.prog ops Q m (fun a' w' => ∃ v, a' = (putsA a D f).put o.dst v ∧ Post w' ∧ True ∧ True) (putsA a D f) W)
    (hend : ∀ f w', Post w' → Q .normal (putsA a D f) w') :
    (Code.region id ops true).wp Tryz.prog Q a w := by
  refine wp_region_ef hm D (fun _ => none) (fun listed f W => (listed.getD m false = false → Base W ∧ ∀ i, i < ops.size → i ≠ m → listed.getD i false = true → V i (f (dof ops i)) W) ∧ (listed.getD m false = true → Post W)) hb hd (fun _ _ _ _ => rfl) ?_ ?_ ?_ ?_ ?_
  · refine ⟨fun _ => ⟨h0, fun i hi _ hl => ?_⟩, fun hl => ?_⟩
    · exfalso
      unfold Array.getD at hl
      simp [hi] at hl
    · exfalso
      unfold Array.getD at hl
      simp [hml] at hl
  · intro listed f i o v W _ hc
    cases hc
  · intro listed f i o v W _ hc
    cases hc
  · intro listed f i o W ho _ hi hs hli hcl hdep hB _
    by_cases him : i = m
    · subst him
      obtain ⟨h1, h2⟩ := hB.1 hli
      have hall : ∀ j, j < ops.size → j ≠ i → listed.getD j false = true := by
        intro j hj hne
        have hcl2 : ClsD ops (listed.setIfInBounds i true) := by
          intro k p hp hlk e he hbd
          rw [getD_set (by omega)] at hlk ⊢
          split at hlk
          · rename_i hk
            subst hk
            rw [ho] at hp
            injection hp with hp
            subst hp
            split
            · rfl
            · exact hdep e he hbd
          · split
            · rfl
            · exact hcl k p hp hlk e he hbd
        have := all_listed hsk hcl2 (by rw [getD_set (by omega), if_pos rfl]) ops.size j (by omega) hj
        rw [getD_set (by omega), if_neg hne] at this
        exact this
      refine wpOp_mono ?_ (hlast o f W ho h1 fun j hj hne => h2 j hj hne (hall j hj hne))
      rintro a' w' ⟨v, e1, e2, _, _⟩
      refine ⟨v, e1, ⟨fun h => ?_, fun _ => e2⟩, trivial, trivial⟩
      rw [getD_set (by omega), if_pos rfl] at h
      cases h
    · have hlm : listed.getD m false = false := by
        cases h : listed.getD m false with
        | false => rfl
        | true =>
          have := all_listed hsk hcl h ops.size i (by omega) hi
          rw [hli] at this
          cases this
      obtain ⟨h1, h2⟩ := hB.1 hlm
      refine wpOp_mono ?_ (hstep i o f W ho hi him h1 fun e he hbd => ?_)
      · rintro a' w' ⟨v, e1, e2, e3, e4⟩
        refine ⟨v, e1, ⟨fun _ => ⟨e2, fun j hj hjm hlj => ?_⟩, fun h => ?_⟩, trivial, trivial⟩
        · have hsm := List.all_eq_true.1 hds i (List.mem_range.2 hi)
          rw [ho] at hsm
          simp only [Bool.or_eq_true, decide_eq_true_eq] at hsm
          have hsm := hsm.resolve_left him
          obtain ⟨d, hdst⟩ := Option.isSome_iff_exists.1 hsm
          have hdi := List.all_eq_true.1 hd i (List.mem_range.2 hi)
          rw [ho] at hdi
          simp only [hdst, Bool.and_eq_true] at hdi
          rw [getD_set (by omega)] at hlj
          by_cases hji : j = i
          · subst hji
            have : dof ops j = d := by unfold dof; rw [ho]; simp [hdst]
            rw [hdst, this, updD_at]
            exact e4
          · rw [if_neg hji] at hlj
            have h5 := hstab W w' j _ h1 e3 (h2 j hj hjm hlj)
            have hoj : ops[j]? = some ops[j] := Array.getElem?_eq_getElem hj
            have h3 := List.all_eq_true.1 hdi.2 j (List.mem_range.2 hj)
            rw [hoj] at h3
            simp only [Bool.or_eq_true, decide_eq_true_eq] at h3
            have hjd : (ops[j]).dst ≠ some d := h3.resolve_left hji
            have hsj := List.all_eq_true.1 hds j (List.mem_range.2 hj)
            rw [hoj] at hsj
            simp only [Bool.or_eq_true, decide_eq_true_eq] at hsj
            obtain ⟨dj, hdj⟩ := Option.isSome_iff_exists.1 (hsj.resolve_left hjm)
            have hdofj : dof ops j = dj := by unfold dof; rw [hoj]; simp [hdj]
            have hne : dj ≠ d := fun e => hjd (by rw [hdj, e])
            rw [hdofj] at h5 ⊢
            rw [hdst, updD_ne hne]
            exact h5
        · rw [getD_set (by omega), if_neg (Ne.symm him), hlm] at h
          cases h
      · have hle := hdep e he hbd
        have hlt : e.on < ops.size := by
          have h3 := List.all_eq_true.1 hb i (List.mem_range.2 hi)
          rw [ho] at h3
          simp only at h3
          have h4 := Array.all_eq_true_iff_forall_mem.1 h3 e he
          rw [hbd] at h4
          simp at h4
          omega
        have hem : e.on ≠ m := fun h => by rw [h, hlm] at hle; cases hle
        exact h2 e.on hlt hem hle
  · intro listed f w' hall hB _
    exact hend f w' (hB.2 (hall m hml))
end
end Go.Proofs.YtihgnpobkpnipaaGreatDoor
namespace Go.Proofs.YtihgnpobkpnipaaGreatDoor
open Go.RowKit Go.Sort
/-- a row of records that lies in memory. -/
def VOf {α : Type} (T : Rty α) (L : List α) : Value → World → Prop := fun v w => RecR T w 0 v L
theorem VOf.low {α : Type} {T : Rty α} {L : List α} {v : Value} {w w' : World} (h : VOf T L v w) (hb : Below w.heap.size w w') : VOf T L v w' := RecR.below h hb
def VOw {α : Type} (T : Rty α) (B : Nat) (L : List α) : Value → World → Prop := fun v w => OwnR T w B v L
theorem VOw.low {α : Type} {T : Rty α} {B : Nat} {L : List α} {v : Value} {w w' : World} (h : VOw T B L v w) (hb : Below w.heap.size w w') : VOw T B L v w' := OwnR.below h hb
end Go.Proofs.YtihgnpobkpnipaaGreatDoor
namespace Go.Proofs.YtihgnpobkpnipaaGreatDoor
open Go.RowKit Go.Sort
/-- events: when, kind, feeder, reel, how many, board. -/
abbrev Fed := Int × Int × ByteArray × ByteArray × Int × ByteArray
end Go.Proofs.YtihgnpobkpnipaaGreatDoor
