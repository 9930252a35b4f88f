/- Texts of the proof of a law, put together, part 5 of 41. Conditions: none beyond those that each theorem names. -/
import Derived.Test.YtihgnpobkpnipaaGreatDoorQz1
import Derived.Test.YtihgnpobkpnipaaGreatDoorQz3
import Derived.Orders
import Derived.Deep.RegionLaw
namespace Go.Proofs.YtihgnpobkpnipaaGreatDoor
open Go.RowKit
section
variable {P : Program} {ops : Array Oper} {Q : Exit → Act → World → Prop}
theorem ready_mem {listed : Array Bool} {i : Nat} (h : i ∈ Region.ready .any ops listed) : i < ops.size ∧ listed.getD i true = false ∧ ∀ o, ops[i]? = some o → ∀ e ∈ o.after, Region.binds .any e = true → listed.getD e.on false = true := by
  unfold Region.ready at h
  rw [List.mem_filter, List.mem_range, Bool.and_eq_true] at h
  obtain ⟨h1, h2, h3⟩ := h
  refine ⟨h1, by simpa using h2, fun o ho e he hb => ?_⟩
  rw [ho] at h3
  simp only [Option.map_some, Option.getD_some] at h3
  have := Array.all_eq_true_iff_forall_mem.1 h3 e he
  rw [hb] at this
  simpa using this
/-- how many are not listed. -/
def unl (ops : Array Oper) (listed : Array Bool) : Nat := ((List.range ops.size).filter fun i => !listed.getD i true).length
theorem getD_set {a : Array Bool} {i j : Nat} {d : Bool} (hi : i < a.size) : (a.setIfInBounds i true).getD j d = if j = i then true else a.getD j d := by
  by_cases h : j = i
  · subst h
    rw [if_pos rfl]
    simp [Array.getD, hi]
  · rw [if_neg h]
    unfold Array.getD
    by_cases hj : j < a.size
    · simp [hj, Ne.symm h]
    · simp [hj]
theorem unl_set {listed : Array Bool} {i : Nat} (hs : listed.size = ops.size) (hi : i < ops.size) (h : listed.getD i true = false) : unl ops (listed.setIfInBounds i true) < unl ops listed := by
  unfold unl
  have hsub : ((List.range ops.size).filter fun j => !(listed.setIfInBounds i true).getD j true) = (((List.range ops.size).filter fun j => !listed.getD j true).filter fun j => decide (j ≠ i)) := by
    rw [List.filter_filter]
    apply List.filter_congr
    intro j _
    rw [getD_set (by omega)]
    by_cases hj : j = i
    · simp [hj]
    · simp [hj]
  rw [hsub]
  have h2 : (((List.range ops.size).filter fun j => !listed.getD j true).filter fun j => decide (j ≠ i)).length < ((List.range ops.size).filter fun j => !listed.getD j true).length := by
    apply Nat.lt_of_le_of_ne (List.length_filter_le _ _)
    intro e
    have := (List.length_filter_eq_length_iff.1 e) i (by rw [List.mem_filter, List.mem_range]; exact ⟨hi, by rw [h]; rfl⟩)
    simp at this
  exact h2
theorem wpAny_inv (I : Array Bool → Act → World → Prop)
    (hend : ∀ listed a w, listed.size = ops.size → I listed a w → (∀ i, i < ops.size → listed.getD i true = true) → Q .normal a w)
    (hprog : ∀ listed, listed.size = ops.size → Region.ready .any ops listed = [] → ∀ i, i < ops.size → listed.getD i true = true)
    (hstep : ∀ listed a w, listed.size = ops.size → I listed a w → ∀ i, i < ops.size → listed.getD i true = false → (∀ o, ops[i]? = some o → ∀ e ∈ o.after, Region.binds .any e = true → listed.getD e.on false = true) →
      wpOp P ops Q i (fun a' w' => I (listed.setIfInBounds i true) a' w') a w) :
    ∀ (fuel : Nat) (listed : Array Bool) (a : Act) (w : World), listed.size = ops.size → unl ops listed ≤ fuel → I listed a w → wpAny P .any ops Q fuel listed a w
  | 0, listed, a, w, hs, hf, hI => by
    have hall : ∀ i, i < ops.size → listed.getD i true = true := by
      intro i hi
      cases h : listed.getD i true with
      | true => rfl
      | false =>
        have := unl_set hs hi h
        omega
    refine ⟨?_, hend listed a w hs hI hall⟩
    cases hr : Region.ready .any ops listed with
    | nil => rfl
    | cons i l =>
      have h1 := ready_mem (ops := ops) (listed := listed) (i := i) (by rw [hr]; simp)
      rw [hall i h1.1] at h1
      cases h1.2.1
  | fuel + 1, listed, a, w, hs, hf, hI => by
    refine ⟨fun h0 => hend listed a w hs hI (hprog listed hs h0), fun i hi => ?_⟩
    obtain ⟨h1, h2, h3⟩ := ready_mem hi
    refine wpOp_mono (fun a' w' h' => ?_) (hstep listed a w hs hI i h1 h2 h3)
    refine wpAny_inv I hend hprog hstep fuel _ a' w' (by simp [hs]) ?_ h'
    have := unl_set hs h1 h2
    omega
/-- edges lead back: then there is always one that can be done next. -/
theorem ready_ne (hb : (List.range ops.size).all (fun i => match ops[i]? with | some o => o.after.all (fun e => !Region.binds .any e || decide (e.on < i)) | none => true) = true) (listed : Array Bool) (hs : listed.size = ops.size) (hr : Region.ready .any ops listed = []) : ∀ i, i < ops.size → listed.getD i true = true := by
  intro i
  induction i using Nat.strongRecOn with
  | _ i ih =>
    intro hi
    cases h : listed.getD i true with
    | true => rfl
    | false =>
      exfalso
      have hm : i ∈ Region.ready .any ops listed := by
        unfold Region.ready
        rw [List.mem_filter, List.mem_range, Bool.and_eq_true]
        refine ⟨hi, by rw [h]; rfl, ?_⟩
        have ho : ops[i]? = some ops[i] := Array.getElem?_eq_getElem hi
        rw [ho]
        simp only [Option.map_some, Option.getD_some]
        rw [Array.all_eq_true_iff_forall_mem]
        intro e he
        have h1 := List.all_eq_true.1 hb i (List.mem_range.2 hi)
        rw [ho] at h1
        simp only at h1
        have h2 := Array.all_eq_true_iff_forall_mem.1 h1 e he
        by_cases hbd : Region.binds .any e = true
        case neg => simp [hbd]
        rw [hbd] at h2
        have h3 : e.on < i := by simpa using h2
        have h4 := ih e.on h3 (by omega)
        have h5 : listed.getD e.on false = true := by
          have hl : e.on < listed.size := by omega
          unfold Array.getD at h4 ⊢
          rw [dif_pos hl] at h4 ⊢
          exact h4
        rw [h5]; simp
      rw [hr] at hm
      simp at hm
/-- the slots of D hold what f says. -/
def putsA (a : Act) (D : List Nat) (f : Nat → Value) : Act := { a with tmps := a.tmps.mapIdx fun j v => if D.contains j then f j else v }
def updF (f : Nat → Value) (d : Nat) (v : Value) : Nat → Value := fun j => if j = d then v else f j
theorem putsA_put {a : Act} {D : List Nat} {f : Nat → Value} {d : Nat} (hd : D.contains d = true) (v : Value) : (putsA a D f).put (some d) v = putsA a D (updF f d v) := by
  have hd2 : d ∈ D := by simpa using hd
  have h : (a.tmps.mapIdx fun j v => if D.contains j then f j else v).setIfInBounds d v = a.tmps.mapIdx fun j v' => if D.contains j then updF f d v j else v' := by
    apply Array.ext
    · simp
    · intro j h1 h2
      unfold updF
      by_cases hj : j = d
      · subst hj
        simp [hd2]
      · rw [Array.getElem_setIfInBounds_ne (by simpa using h2) (Ne.symm hj)]
        simp [hj]
  unfold putsA
  show Act.mk _ _ = Act.mk _ _
  rw [← h]
theorem putsA_none {a : Act} {D : List Nat} {f : Nat → Value} (v : Value) : (putsA a D f).put none v = putsA a D f := rfl
theorem putsA_eval {a : Act} {D : List Nat} {f : Nat → Value} (j : Nat) : (putsA a D f).eval (.tmp j) = if D.contains j = true ∧ j < a.tmps.size then f j else a.tmps.getD j undef := by
  unfold putsA Act.eval
  simp only
  unfold Array.getD
  by_cases hj : j < a.tmps.size
  · simp [hj]
  · simp [hj]
theorem putsA_start {a : Act} {D : List Nat} : putsA a D (fun j => a.tmps.getD j undef) = a := by
  unfold putsA
  cases a with
  | mk tmps defers =>
    congr 1
    apply Array.ext
    · simp
    · intro j h1 h2
      simp only [Array.getElem_mapIdx]
      split
      · simp only [Array.size_mapIdx] at h1
        simp
      · rfl
/-- where operation i leaves its value. -/
def dof (ops : Array Oper) (i : Nat) : Nat := ((ops[i]?).bind (·.dst)).getD 0
theorem wp_region_inv {id : Nat} {a : Act} {w : World} (hm : P.follows .mixedOrders = true) (D : List Nat) (Base : Nat → World → Prop) (Rel : World → World → Prop) (V : Nat → Value → World → Prop)
    (hb : (List.range ops.size).all (fun i => match ops[i]? with | some o => o.after.all (fun e => !Region.binds .any e || decide (e.on < i)) | none => true) = true)
    (hd : (List.range ops.size).all (fun i => match ops[i]? with | some o => (match o.dst with | some d => D.contains d && (List.range ops.size).all (fun j => decide (j = i) || (match ops[j]? with | some p => decide (p.dst ≠ some d) | none => true)) | none => true) | none => true) = true)
    (hbase : ∀ u u' w, u' ≤ u → Base u w → Base u' w)
    (h0 : Base ops.size { w with drawn := w.drawn + 1 })
    (hstab : ∀ u w w' i v, Base u w → Rel w w' → V i v w → V i v w')
    (hVn : ∀ i o v w, ops[i]? = some o → o.dst = none → V i v w)
    (hstep : ∀ i o u f w, ops[i]? = some o → i < ops.size → Base (u + 1) w → (∀ e ∈ o.after, Region.binds .any e = true → V e.on (f (dof ops e.on)) w) →
      wpOp P ops Q i (fun a' w' => ∃ v, a' = (putsA a D f).put o.dst v ∧ Base u w' ∧ Rel w w' ∧ V i v w') (putsA a D f) w)
    (hend : ∀ f w', Base 0 w' → (∀ i, i < ops.size → V i (f (dof ops i)) w') → Q .normal (putsA a D f) w') :
    (Code.region id ops true).wp P Q a w := by
  refine wp_region_any hm ?_
  refine wpAny_inv (fun listed a' w' => ∃ f, a' = putsA a D f ∧ Base (unl ops listed) w' ∧ ∀ i, i < ops.size → listed.getD i false = true → V i (f (dof ops i)) w') ?_ (fun listed hs hr => ready_ne hb listed hs hr) ?_ _ _ _ _ (by simp) ?_ ?_
  · rintro listed a' w' hs ⟨f, rfl, h1, h2⟩ hall
    refine hend f w' (hbase _ _ _ (Nat.zero_le _) h1) fun i hi => h2 i hi ?_
    have h4 := hall i hi
    have hl : i < listed.size := by omega
    unfold Array.getD at h4 ⊢
    rw [dif_pos hl] at h4 ⊢
    exact h4
  · rintro listed a' w' hs ⟨f, rfl, h1, h2⟩ i hi hli hdep
    have ho : ops[i]? = some ops[i] := Array.getElem?_eq_getElem hi
    have hu := unl_set hs hi hli
    obtain ⟨u, hu2⟩ : ∃ u, unl ops listed = u + 1 := ⟨unl ops listed - 1, by omega⟩
    rw [hu2] at h1
    have hbi := List.all_eq_true.1 hb i (List.mem_range.2 hi)
    rw [ho] at hbi
    simp only at hbi
    refine wpOp_mono ?_ (hstep i _ u f w' ho hi h1 fun e he hbd => h2 e.on ?_ (hdep _ ho e he hbd))
    · rintro a'' w'' ⟨v, rfl, b1, b2, b3⟩
      have hdi := List.all_eq_true.1 hd i (List.mem_range.2 hi)
      rw [ho] at hdi
      simp only at hdi
      have hset : ∀ j, (listed.setIfInBounds i true).getD j false = true → j = i ∨ listed.getD j false = true := by
        intro j hj
        rw [getD_set (by omega)] at hj
        by_cases h : j = i
        · exact .inl h
        · rw [if_neg h] at hj; exact .inr hj
      have hB : Base (unl ops (listed.setIfInBounds i true)) w'' := hbase u _ _ (by omega) b1
      cases hdst : (ops[i]).dst with
      | none =>
        rw [putsA_none]
        refine ⟨f, rfl, hB, fun j hj hlj => ?_⟩
        rcases hset j hlj with rfl | hlj
        · exact hVn _ _ _ _ ho hdst
        · exact hstab _ _ _ _ _ h1 b2 (h2 j hj hlj)
      | some d =>
        rw [hdst] at hdi
        simp only [Bool.and_eq_true] at hdi
        rw [putsA_put hdi.1]
        have hdofi : dof ops i = d := by unfold dof; rw [ho]; simp [hdst]
        refine ⟨updF f d v, rfl, hB, fun j hj hlj => ?_⟩
        by_cases hji : j = i
        · subst hji
          rw [hdofi]
          show V j (updF f d v d) w''
          unfold updF; rw [if_pos rfl]; exact b3
        · have hlj2 : listed.getD j false = true := by
            rcases hset j hlj with h | h
            · exact absurd h hji
            · exact h
          have hoj : ops[j]? = some ops[j] := Array.getElem?_eq_getElem hj
          have h3 := List.all_eq_true.1 hdi.2 j (List.mem_range.2 hj)
          rw [hoj] at h3
          simp only [Bool.or_eq_true, decide_eq_true_eq] at h3
          have hjd : (ops[j]).dst ≠ some d := h3.resolve_left hji
          cases hdj : (ops[j]).dst with
          | none => exact hVn _ _ _ _ hoj hdj
          | some dj =>
            have hdofj : dof ops j = dj := by unfold dof; rw [hoj]; simp [hdj]
            have hne : dj ≠ d := fun e => hjd (by rw [hdj, e])
            rw [hdofj]
            show V j (updF f d v dj) w''
            unfold updF; rw [if_neg hne]
            have := h2 j hj hlj2
            rw [hdofj] at this
            exact hstab _ _ _ _ _ h1 b2 this
    · have := Array.all_eq_true_iff_forall_mem.1 hbi e he
      rw [hbd] at this
      have h3 : e.on < i := by simpa using this
      omega
  · unfold unl
    exact Nat.le_trans (List.length_filter_le _ _) (by simp)
  · refine ⟨fun j => a.tmps.getD j undef, putsA_start.symm, hbase ops.size _ _ (Nat.le_trans (List.length_filter_le _ _) (by simp)) h0, fun i hi hl => ?_⟩
    exfalso
    unfold Array.getD at hl
    simp [hi] at hl
end
end Go.Proofs.YtihgnpobkpnipaaGreatDoor
namespace Go.Proofs.YtihgnpobkpnipaaGreatDoor
open Go.RowKit Go.Sort
/-! what a slot holds -/
def VE (x : Value) : Value → World → Prop := fun v _ => v = x
def VLI (B1 : Nat) (lo hi : Int) (k : Nat) : Value → World → Prop := fun v w => ∃ l : List Int, (∃ b, v = .slice (some ⟨b, 0, none⟩) k k) ∧ l.length = k ∧ Ints w B1 v l ∧ ∀ x ∈ l, lo ≤ x ∧ x ≤ hi
def VLS (B1 n k : Nat) : Value → World → Prop := fun v w => ∃ l : List ByteArray, (∃ b, v = .slice (some ⟨b, 0, none⟩) k k) ∧ l.length = k ∧ RecR TS w B1 v l ∧ ∀ x ∈ l, x.size ≤ n
def VT : Value → World → Prop := fun _ _ => True
/-- what was made behind B1 stays. -/
def RR (B1 : Nat) (w w' : World) : Prop := w.heap.size ≤ w'.heap.size ∧ ∀ i, B1 ≤ i → i < w.heap.size → w'.heap[i]? = w.heap[i]?
theorem RR.refl (B1 : Nat) (w : World) : RR B1 w w := ⟨Nat.le_refl _, fun _ _ _ => rfl⟩
theorem RR.of_gr {B1 s : Nat} {w w' : World} (h : w.grownBy w' (some s)) (hs : s < B1) : RR B1 w w' := ⟨h.size, fun i h1 h2 => h.block i h2 (by intro e; injection e; omega)⟩
theorem RR.of_below {B1 : Nat} {w w' : World} (h : Below w.heap.size w w') : RR B1 w w' := ⟨h.size, fun i _ h2 => h.block i h2⟩
theorem VLI.stab {B1 k : Nat} {lo hi : Int} {v : Value} {w w' : World} (h : VLI B1 lo hi k v w) (hr : RR B1 w w') : VLI B1 lo hi k v w' := by
  obtain ⟨l, h1, h2, h3, h4⟩ := h
  exact ⟨l, h1, h2, Rd.keep h3 hr.2 hr.1, h4⟩
theorem VLS.stab {B1 k n : Nat} {v : Value} {w w' : World} (h : VLS B1 n k v w) (hr : RR B1 w w') : VLS B1 n k v w' := by
  obtain ⟨l, h1, h2, h3, h4⟩ := h
  exact ⟨l, h1, h2, Rd.keep h3 hr.2 hr.1, h4⟩
/-- the stream, what the call owns, what has turned. -/
structure RB (Own : World → Prop) (W0 : World) (s B1 : Nat) (c0 : Int) (u : Nat) (w : World) : Prop where
  str : Str w s (c0 - 10 * u)
  own : Own w
  size : B1 ≤ w.heap.size
  gr : W0.grownBy w (some s)
/-- what is owned stays when memory grows and the stream turns. -/
structure OwnK (Own : World → Prop) (s : Nat) : Prop where
  below : ∀ w w', Own w → Below w.heap.size w w' → Own w'
  gr : ∀ w w', Own w → w.grownBy w' (some s) → Own w'
section
variable {Own : World → Prop} {W0 : World} {s B1 : Nat} {c0 : Int}
theorem RB.mono {u u' : Nat} {w : World} (hu : u' ≤ u) (h : RB Own W0 s B1 c0 u w) : RB Own W0 s B1 c0 u' w := ⟨h.str.mono (by omega), h.own, h.size, h.gr⟩
theorem RB.below {u : Nat} {w w' : World} (hK : OwnK Own s) (h : RB Own W0 s B1 c0 (u + 1) w) (hb : Below w.heap.size w w') : RB Own W0 s B1 c0 u w' := by
  obtain ⟨h1, h2, h4, h5⟩ := h
  exact ⟨(h1.below hb).mono (by omega), hK.below _ _ h2 hb, Nat.le_trans h4 hb.size, Gr.trans h5 (Gr.of_below hb (some s))⟩
theorem RB.call {u : Nat} {w w' : World} {c : Int} (hK : OwnK Own s) (h : RB Own W0 s B1 c0 (u + 1) w) (hs : Str w' s c) (hc : c ≤ c0 - 10 * (u + 1 : Nat) + 10) (hg : w.grownBy w' (some s)) : RB Own W0 s B1 c0 u w' := by
  obtain ⟨h1, h2, h4, h5⟩ := h
  exact ⟨hs.mono (by omega), hK.gr _ _ h2 hg, Nat.le_trans h4 hg.size, Gr.trans h5 hg⟩
theorem RB.store {u : Nat} {w : World} {b o : Nat} {v : Value} (h : RB Own W0 s B1 c0 (u + 1) w) (hb : W0.heap.size ≤ b) (hs : s < W0.heap.size) (hO : Own (w.setCell ⟨b, o, none⟩ v)) : RB Own W0 s B1 c0 u (w.setCell ⟨b, o, none⟩ v) := by
  obtain ⟨h1, h2, h4, h5⟩ := h
  exact ⟨((h1.belowB (B := W0.heap.size) (Bl.set (Below.refl _ _) _ _ hb _) hs)).mono (by omega), hO, by simpa using h4, Gr.set h5 _ _ (.inr hb) _⟩
end
/-! operations -/
/-- how operands are read. -/
structure Ev (a : Act) (D : List Nat) (f : Nat → Value) (r : Operand → Value) : Prop where
  tmp : ∀ j, r (.tmp j) = if D.contains j = true ∧ j < a.tmps.size then f j else a.tmps.getD j undef
  const : ∀ v, r (.const v) = v
  func : ∀ n, r (.func n) = .func (.func n) #[] #[]
theorem Ev.mk' {a : Act} {D : List Nat} {f : Nat → Value} : Ev a D f (putsA a D f).eval := ⟨putsA_eval, fun _ => rfl, fun _ => rfl⟩
section
variable {ops : Array Oper} {Q : Exit → Act → World → Prop} {a : Act} {D : List Nat} {f : Nat → Value} {i : Nat} {o : Oper} {w : World} {Bu Rl : World → Prop} {Vi : Value → World → Prop}
theorem iv_val (ho : ops[i]? = some o) (hg : o.guard = none) (v : Value) (w' : World) (hrun : ∀ r, Ev a D f r → (execOp r o).run Tryz.prog w = .ok (.value v) w') (hB : Bu w') (hR : Rl w') (hV : Vi v w') :
    wpOp Tryz.prog ops Q i (fun a' w' => ∃ v, a' = (putsA a D f).put o.dst v ∧ Bu w' ∧ Rl w' ∧ Vi v w') (putsA a D f) w := by
  unfold wpOp
  rw [ho]
  have hw : Region.wanted o (yielded ops (putsA a D f).tmps) = true := by simp [Region.wanted, hg]
  simp only [hw, if_true]
  refine .inl ?_
  unfold Oper.wp
  rw [hrun _ Ev.mk']
  exact ⟨v, rfl, hB, hR, hV⟩
theorem iv_skip (ho : ops[i]? = some o) (hg : o.guard = none) (hd : o.dst = none) (w' : World) (hrun : ∀ r, Ev a D f r → (execOp r o).run Tryz.prog w = .ok .skip w') (hB : Bu w') (hR : Rl w') (hV : Vi undef w') :
    wpOp Tryz.prog ops Q i (fun a' w' => ∃ v, a' = (putsA a D f).put o.dst v ∧ Bu w' ∧ Rl w' ∧ Vi v w') (putsA a D f) w := by
  unfold wpOp
  rw [ho]
  have hw : Region.wanted o (yielded ops (putsA a D f).tmps) = true := by simp [Region.wanted, hg]
  simp only [hw, if_true]
  refine .inl ?_
  unfold Oper.wp
  rw [hrun _ Ev.mk']
  refine ⟨undef, ?_, hB, hR, hV⟩
  rw [hd]
theorem iv_call (ho : ops[i]? = some o) (hg : o.guard = none) (fn : Nat) (xs : Array Operand) (ts : Array TypeId) (hop : o.op = Op.call { callee := Callee.value (Operand.func fn), args := xs, argTypes := ts }) (hent : ∀ args w, (callFunc fn args).run Tryz.prog w = .ok (.enter fn args) w)
    (vs : Array Value) (hx : ∀ r, Ev a D f r → xs.map r = vs) (R : Ending → World → Prop) (hc : Calls Tryz.prog fn vs w R) (hR : ∀ e w', R e w' → ∃ v, e = .returned v ∧ Bu w' ∧ Rl w' ∧ Vi v w') :
    wpOp Tryz.prog ops Q i (fun a' w' => ∃ v, a' = (putsA a D f).put o.dst v ∧ Bu w' ∧ Rl w' ∧ Vi v w') (putsA a D f) w := by
  unfold wpOp
  rw [ho]
  have hw : Region.wanted o (yielded ops (putsA a D f).tmps) = true := by simp [Region.wanted, hg]
  simp only [hw, if_true]
  refine .inl ?_
  have hrun : (execOp (putsA a D f).eval o).run Tryz.prog w = .ok (.enter fn vs) w := by
    rw [← hx _ Ev.mk']
    simp [execOp, hop, resolve, invoke, go_sem, hent]
  unfold Oper.wp
  rw [hrun, Oper.upon_enter]
  refine hc.mono fun e w' h => ?_
  obtain ⟨v, rfl, hk⟩ := hR e w' h
  exact ⟨v, rfl, hk⟩
end
/-! one field of one record of a row of the call's own -/
theorem flat_set {α : Type} {f : α → List Value} {k : Nat} (h : ∀ x, (f x).length = k) : ∀ (l : List α) (i : Nat) (x x' : α) (fo : Nat) (v : Value), l[i]? = some x → fo < k → f x' = (f x).set fo v → (l.set i x').flatMap f = (l.flatMap f).set (i * k + fo) v
  | [], i, x, x', fo, v, hx, _, _ => by simp at hx
  | y :: l, 0, x, x', fo, v, hx, hfo, hs => by
    simp at hx
    subst hx
    rw [List.set_cons_zero, List.flatMap_cons, List.flatMap_cons, Nat.zero_mul, Nat.zero_add, List.set_append_left _ _ (by rw [h]; exact hfo), hs]
  | y :: l, i + 1, x, x', fo, v, hx, hfo, hs => by
    have ih := flat_set h l i x x' fo v (by simpa using hx) hfo hs
    rw [List.set_cons_succ, List.flatMap_cons, List.flatMap_cons, List.set_append_right _ _ (by rw [h, Nat.succ_mul]; omega), ih, h]
    congr 2
    rw [Nat.succ_mul]; omega
theorem OwnR.setf {α : Type} {T : Rty α} {w : World} {B g n cap i fo : Nat} {l : List α} {x x' : α} {v : Value} (hT : T.Ok) (h : OwnR T w B (.slice (some ⟨g, 0, none⟩) n cap) l) (hn : n = l.length) (hi : l[i]? = some x) (hfo : fo < T.k) (hs : T.f x' = (T.f x).set fo v) : OwnR T (w.setCell ⟨g, i * T.k + fo, none⟩ v) B (.slice (some ⟨g, 0, none⟩) n cap) (l.set i x') := by
  have hne : l ≠ [] := fun e => by rw [e] at hi; simp at hi
  obtain ⟨g', cap', cur, hv, hB, hb, h1, h2, h3, h4⟩ := h.blk hne
  injection hv with e1 e2 e3
  injection e1 with e1
  injection e1 with e1
  subst e1 e3
  have hil : i < l.length := (List.getElem?_eq_some_iff.1 hi).1
  have hlt : i * T.k + fo < l.length * T.k := by
    have : (i + 1) * T.k ≤ l.length * T.k := Nat.mul_le_mul_right _ hil
    rw [Nat.succ_mul] at this; omega
  refine ⟨by rw [flat_len hT.len, List.length_set], .inr ⟨g, cap, cur.setIfInBounds (i * T.k + fo) v, by rw [hn, List.length_set], hB, blk_set hb _ _, by rw [List.length_set]; exact h1, h2, by simp [h3], ?_⟩⟩
  rw [List.length_set, flat_set hT.len l i x x' fo v hi hfo hs, ← h4, Array.toList_setIfInBounds, List.take_set]
theorem OwnR.cellf {α : Type} {T : Rty α} {w : World} {B g n cap i fo : Nat} {l : List α} {x : α} {v : Value} (hT : T.Ok) (h : OwnR T w B (.slice (some ⟨g, 0, none⟩) n cap) l) (_hn : n = l.length) (hi : l[i]? = some x) (hfo : (T.f x)[fo]? = some v) : w.cell? ⟨g, i * T.k + fo, none⟩ = some v ∧ w.frozen? ⟨g, i * T.k + fo, none⟩ = false := by
  have hne : l ≠ [] := fun e => by rw [e] at hi; simp at hi
  obtain ⟨g', cap', cur, hv, hB, hb, h1, h2, h3, h4⟩ := h.blk hne
  injection hv with e1 e2 e3
  injection e1 with e1
  injection e1 with e1
  subst e1
  refine ⟨?_, blk_free hb _⟩
  rw [blk_cell hb]
  have h5 := flat_at hT.len l i x hi fo v hfo
  rw [← h4, List.getElem?_take] at h5
  split at h5
  · simpa using h5
  · cases h5
end Go.Proofs.YtihgnpobkpnipaaGreatDoor
