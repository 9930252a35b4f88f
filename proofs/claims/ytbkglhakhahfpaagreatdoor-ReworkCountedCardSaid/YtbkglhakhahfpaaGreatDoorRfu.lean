/- A region that draws its order, by an invariant that knows which operations are done. No conditions. · A shop after all steps, a closure told of each one and why it is refused: the walk of follow. Conditions: right steps. · Refused: which steps are refused, and why. Conditions: right arguments' sizes. -/
import Derived.Test.YtbkglhakhahfpaaGreatDoorInvS
import Derived.Test.YtbkglhakhahfpaaGreatDoorIn
import Derived.Test.YtbkglhakhahfpaaGreatDoorRs
import Derived.Test.YtbkglhakhahfpaaGreatDoorTmp
namespace Go.Proofs.YtbkglhakhahfpaaGreatDoor
open Go.RowKit

section
variable {ops : Array Oper} {Q : Exit → Act → World → Prop}
/-- what is done has its premises done. -/
def Closed (ops : Array Oper) (listed : Array Bool) : Prop := ∀ j p, ops[j]? = some p → listed.getD j false = true → ∀ e ∈ p.after, Region.binds .any e = true → listed.getD e.on false = true
theorem getD_true {a : Array Bool} {i : Nat} (hi : i < a.size) (d d' : Bool) : a.getD i d = a.getD i d' := by
  unfold Array.getD; rw [dif_pos hi, dif_pos hi]
theorem wp_region_st {id : Nat} {a : Act} {w : World} (hm : Tryz.prog.follows .mixedOrders = true) (D : List Nat) (Base : Array Bool → World → Prop) (V : Nat → Value → World → Prop)
    (hb : (List.range ops.size).all (fun i => match ops[i]? with | some o => o.after.all (fun e => !Region.binds .any e || decide (e.on < i)) | none => true) = true)
    (hd : (List.range ops.size).all (fun i => match ops[i]? with | some o => (match o.dst with | some d => D.contains d && (List.range ops.size).all (fun j => decide (j = i) || (match ops[j]? with | some p => decide (p.dst ≠ some d) | none => true)) | none => true) | none => true) = true)
    (h0 : Base (Array.replicate ops.size false) { w with drawn := w.drawn + 1 })
    (hVn : ∀ i o v w, ops[i]? = some o → o.dst = none → V i v w)
    (hstep : ∀ listed i o f w, ops[i]? = some o → i < ops.size → listed.size = ops.size → listed.getD i false = false → Closed ops listed → (∀ e ∈ o.after, Region.binds .any e = true → listed.getD e.on false = true) → Base listed w →
      (∀ j, j < ops.size → listed.getD j false = true → V j (f (dof ops j)) w) →
      wpOp Tryz.prog ops Q i (fun a' w' => ∃ v, a' = (putsA a D f).put o.dst v ∧ Base (listed.setIfInBounds i true) w' ∧ (∀ j, j < ops.size → listed.getD j false = true → V j (f (dof ops j)) w') ∧ V i v w') (putsA a D f) w)
    (hend : ∀ listed f w', (∀ i, i < ops.size → listed.getD i false = true) → Base listed w' → (∀ i, i < ops.size → V i (f (dof ops i)) w') → Q .normal (putsA a D f) w') :
    (Code.region id ops true).wp Tryz.prog Q a w := by
  refine wp_region_any hm ?_
  refine wpAny_inv (fun listed a' w' => Closed ops listed ∧ ∃ f, a' = putsA a D f ∧ Base listed w' ∧ ∀ i, i < ops.size → listed.getD i false = true → V i (f (dof ops i)) w') ?_ (fun listed hs hr => ready_ne hb listed hs hr) ?_ _ _ _ _ (by simp) ?_ ?_
  · rintro listed a' w' hs ⟨_, f, rfl, h1, h2⟩ hall
    have hall' : ∀ i, i < ops.size → listed.getD i false = true := fun i hi => by rw [getD_true (by omega) false true]; exact hall i hi
    exact hend listed f w' hall' h1 fun i hi => h2 i hi (hall' i hi)
  · rintro listed a' w' hs ⟨hcl, f, rfl, h1, h2⟩ i hi hli hdep
    have ho : ops[i]? = some ops[i] := Array.getElem?_eq_getElem hi
    have hlf : listed.getD i false = false := by rw [getD_true (by omega) false true]; exact hli
    refine wpOp_mono ?_ (hstep listed i _ f w' ho hi hs hlf hcl (hdep _ ho) h1 h2)
    rintro a'' w'' ⟨v, rfl, b1, b2, b3⟩
    have hset : ∀ j, (listed.setIfInBounds i true).getD j false = true → j = i ∨ listed.getD j false = true := by
      intro j hj
      rw [getD_set (by omega)] at hj
      by_cases h : j = i
      · exact .inl h
      · rw [if_neg h] at hj; exact .inr hj
    have hcl' : Closed ops (listed.setIfInBounds i true) := by
      intro j p hp hj e he hbd
      rw [getD_set (by omega)]
      split
      · rfl
      · rcases hset j hj with rfl | hj
        · exact hdep p hp e he hbd
        · exact hcl j p hp hj e he hbd
    refine ⟨hcl', ?_⟩
    have hdi := List.all_eq_true.1 hd i (List.mem_range.2 hi)
    rw [ho] at hdi
    simp only at hdi
    cases hdst : (ops[i]).dst with
    | none =>
      rw [putsA_none]
      refine ⟨f, rfl, b1, fun j hj hlj => ?_⟩
      rcases hset j hlj with rfl | hlj
      · exact hVn _ _ _ _ ho hdst
      · exact b2 j hj hlj
    | some d =>
      rw [hdst] at hdi
      simp only [Bool.and_eq_true] at hdi
      rw [putsA_put hdi.1]
      have hdofi : dof ops i = d := by unfold dof; rw [ho]; simp [hdst]
      refine ⟨updF f d v, rfl, b1, fun j hj hlj => ?_⟩
      by_cases hji : j = i
      · subst hji
        rw [hdofi]
        show V j (updF f d v d) w''
        unfold updF; rw [if_pos rfl]; exact b3
      · have hlj2 : listed.getD j false = true := by
          rcases hset j hlj with h | h
          · exact absurd h hji
          · exact h
        have hoj : ops[j]? = some ops[j] := Array.getElem?_eq_getElem hj
        have h3 := List.all_eq_true.1 hdi.2 j (List.mem_range.2 hj)
        rw [hoj] at h3
        simp only [Bool.or_eq_true, decide_eq_true_eq] at h3
        have hjd : (ops[j]).dst ≠ some d := h3.resolve_left hji
        cases hdj : (ops[j]).dst with
        | none => exact hVn _ _ _ _ hoj hdj
        | some dj =>
          have hdofj : dof ops j = dj := by unfold dof; rw [hoj]; simp [hdj]
          have hne : dj ≠ d := fun e => hjd (by rw [hdj, e])
          have h5 := b2 j hj hlj2
          rw [hdofj] at h5 ⊢
          show V j (updF f d v dj) w''
          unfold updF; rw [if_neg hne]
          exact h5
  · unfold unl
    exact Nat.le_trans (List.length_filter_le _ _) (by simp)
  · refine ⟨fun j p _ hl => ?_, fun j => a.tmps.getD j undef, putsA_start.symm, h0, fun i hi hl => ?_⟩
    · exfalso
      unfold Array.getD at hl
      split at hl <;> simp at hl
    · exfalso
      unfold Array.getD at hl
      simp [hi] at hl
/-- an operation is not done while one that it waits for is not. -/
theorem nl {listed : Array Bool} {k : Nat} (hcl : Closed ops listed) (hk : listed.getD k false = false) (j : Nat) (e : Edge) (he : e.on = k) {p : Oper} (hp : ops[j]? = some p) (hm : e ∈ p.after) (hb : Region.binds .any e = true) : listed.getD j false = false := by
  cases h : listed.getD j false with
  | false => rfl
  | true => have := hcl j p hp h e hm hb; rw [he, hk] at this; cases this
/-- append of one record, as an operation of such a region. -/
theorem iv_app {α : Type} {T : Rty α} (hT : T.Ok) {a : Act} {D : List Nat} {f : Nat → Value} {i : Nat} {o : Oper} {w : World} {Bu Rl : World → Prop} {Vi : Value → World → Prop}
    (ho : ops[i]? = some o) (hg : o.guard = none) (s x : Operand) (hop : o.op = Op.call { callee := Callee.builtin Builtin.append, args := #[s, x], argTypes := #[T.S, T.S] })
    (B : Nat) (v : Value) (l : List α) (hs : ∀ r, Ev a D f r → r s = v) (hown : OwnR T w B v l) (g c : Nat) (y : α) (hx : ∀ r, Ev a D f r → r x = .slice (some ⟨g, 0, none⟩) 1 c) {cs : Array Value} {t : TypeId} (hblk : w.heap[g]? = some (.cells cs t (0, 0))) (hcs : cs.toList = T.f y) (hlen : l.length ≤ 1000000) (hB : B ≤ w.heap.size)
    (hK : ∀ v' w', OwnR T w' B v' (l ++ [y]) → w.grownBy w' v.ownBlock → Below B w w' → Bu w' ∧ Rl w' ∧ Vi v' w') :
    wpOp Tryz.prog ops Q i (fun a' w' => ∃ v, a' = (putsA a D f).put o.dst v ∧ Bu w' ∧ Rl w' ∧ Vi v w') (putsA a D f) w := by
  unfold wpOp
  rw [ho]
  have hw : Region.wanted o (yielded ops (putsA a D f).tmps) = true := by simp [Region.wanted, hg]
  simp only [hw, if_true]
  refine .inl ?_
  have h := step_app_rec (ops := ops) (o := o) (a := putsA a D f) (Q := Q) (E := True) hT hg s x hop B v l (hs _ Ev.mk') hown g c y (hx _ Ev.mk') hblk hcs hlen hB (K := fun a' w' => ∃ v, a' = (putsA a D f).put o.dst v ∧ Bu w' ∧ Rl w' ∧ Vi v w') fun v' w' h1 h2 h3 => ⟨v', rfl, hK v' w' h1 h2 h3⟩
  rw [if_pos hw] at h
  exact h
end
end Go.Proofs.YtbkglhakhahfpaaGreatDoor
namespace Go.Proofs.YtbkglhakhahfpaaGreatDoor
open Go.RowKit Go.Sort Go.Maps

/-- what a closure that follow tells of each step must keep and do. -/
structure FcC (fid : Nat) (cargs : Value → Value → Array Value) (rh rr : Int) (l : List Stp) (B0 : Nat) (w0 : World) (J : Nat → Sm Bd0 → World → Prop) : Prop where
  st : ∀ k m W W', w0.heap.size ≤ W.heap.size → J k m W → Below W.heap.size W W' → J k m W'
  dd : ∀ k m W W' S L, w0.heap.size ≤ S - 1 → J k m W → ShM W S rh rr L → Kp W W' (DoX S L) → J k m W'
  call : ∀ (k : Nat) (m : Sm Bd0) (s : Stp) (W : World) (S : Nat) (L : Sm BdM), l[k]? = some s → w0.heap.size ≤ S - 1 → w0.heap.size ≤ W.heap.size → J k m W → ShM W S rh rr L → L.mapv (·.2) = (doS rh rr m s).1 →
    Calls Tryz.prog fid (cargs (.int .i64 k) (.int .i64 (doS rh rr m s).2)) W fun e W' => e = .returned (.tuple #[]) ∧ J (k + 1) (doS rh rr m s).1 W' ∧ ShM W' S rh rr L ∧ Below B0 W W'
structure FcI (rh rr at' : Int) (l : List Stp) (B0 : Nat) (w0 : World) (J : Nat → Sm Bd0 → World → Prop) (S k : Nat) (m : Sm Bd0) (wr : World) : Prop where
  rest : runS rh rr at' [] l = runS rh rr at' m (l.drop k)
  sm : AllSm m k
  shop : ∃ L, ShM wr S rh rr L ∧ L.mapv (·.2) = m
  bel : Below B0 w0 wr
  S1 : w0.heap.size ≤ S - 1
  j : J k m wr
/-- the same behind the step, ahead of the closure. -/
structure FcH (rh rr at' : Int) (l : List Stp) (B0 : Nat) (w0 : World) (J : Nat → Sm Bd0 → World → Prop) (S k : Nat) (m : Sm Bd0) (s : Stp) (wr : World) : Prop where
  rest : runS rh rr at' [] l = runS rh rr at' (doS rh rr m s).1 (l.drop (k + 1))
  sm : AllSm (doS rh rr m s).1 (k + 1)
  shop : ∃ L, ShM wr S rh rr L ∧ L.mapv (·.2) = (doS rh rr m s).1
  bel : Below B0 w0 wr
  S1 : w0.heap.size ≤ S - 1
  j : J k m wr
section
variable {fid : Nat} {cargs : Value → Value → Array Value} {rh rr at' : Int} {l : List Stp} {B0 : Nat} {w0 : World} {J : Nat → Sm Bd0 → World → Prop} {S k : Nat} {m : Sm Bd0} {wr : World}
theorem FcI.alloc (C : FcC fid cargs rh rr l B0 w0 J) (hB : B0 ≤ w0.heap.size) (h : FcI rh rr at' l B0 w0 J S k m wr) (o : Obj) : FcI rh rr at' l B0 w0 J S k m (wr.alloc o) := by
  obtain ⟨L, h1, h2⟩ := h.shop
  have hz := h.bel.size
  exact ⟨h.rest, h.sm, ⟨L, h1.below (Bl.alloc (Below.refl _ _) o), h2⟩, h.bel.trans ((Bl.alloc (Below.refl wr.heap.size wr) o).mono (by omega)), h.S1, C.st _ _ _ _ hz h.j (Bl.alloc (Below.refl _ _) o)⟩
theorem FcI.call (C : FcC fid cargs rh rr l B0 w0 J) (hB : B0 ≤ w0.heap.size) (h : FcI rh rr at' l B0 w0 J S k m wr) {s : Stp} (hs : l[k]? = some s) (h1 : ¬ at' < s.at) (hsr : StR s) (hk : k ≤ 100000) :
    Calls Tryz.prog 177 #[.pointer (some ⟨S, 0, none⟩), stpV s] wr fun e w' => e = .returned (.int .i64 (doS rh rr m s).2) ∧ FcH rh rr at' l B0 w0 J S k m s w' := by
  obtain ⟨L, hL1, hL2⟩ := h.shop
  have hb := hsr.bd
  have hc := hsr.co
  have hA : AllSm (L.mapv (·.2)) 100000 := by rw [hL2]; exact ⟨Nat.le_trans h.sm.1 hk, fun p hp => (h.sm.2 p hp).mono hk⟩
  refine (Do_any S rh rr L s wr hL1 (by omega) (by omega) hA).mono ?_
  rintro e w5 ⟨rfl, L', hL1', hL2', hK, _⟩
  rw [hL2] at hL2' ⊢
  exact ⟨rfl, h.rest.trans (runS_go hs h1), doS_small h.sm s, ⟨L', hL1', hL2'⟩, h.bel.trans ((DoX.below hL1 hK).mono (Nat.le_trans hB h.S1)), h.S1, C.dd _ _ _ _ _ _ h.S1 h.j hL1 hK⟩
theorem FcH.call (C : FcC fid cargs rh rr l B0 w0 J) (hB : B0 ≤ w0.heap.size) {s : Stp} (h : FcH rh rr at' l B0 w0 J S k m s wr) (hs : l[k]? = some s) :
    Calls Tryz.prog fid (cargs (.int .i64 k) (.int .i64 (doS rh rr m s).2)) wr fun e w' => e = .returned (.tuple #[]) ∧ FcI rh rr at' l B0 w0 J S (k + 1) (doS rh rr m s).1 w' := by
  obtain ⟨L, hL1, hL2⟩ := h.shop
  refine (C.call k m s wr S L hs h.S1 h.bel.size h.j hL1 hL2).mono ?_
  rintro e w5 ⟨rfl, h1, h2, h3⟩
  exact ⟨rfl, h.rest, h.sm, ⟨L, h2, hL2⟩, h.bel.trans h3, h.S1, h1⟩
end
set_option maxHeartbeats 4000000 in
set_option maxRecDepth 100000 in
theorem followC_any (fid : Nat) (caps : Array Value) (cargs : Value → Value → Array Value) (x y z : Value)
    (hcl : (fid = 92 ∧ caps = #[x, y, z] ∧ cargs = fun a b => #[a, b, x, y, z]) ∨ (fid = 99 ∧ caps = #[x, y] ∧ cargs = fun a b => #[a, b, x, y]) ∨ False)
    (rh rr at' : Int) (l : List Stp) (v : Value) (w : World) (B0 : Nat) (J : Nat → Sm Bd0 → World → Prop) (hB0 : B0 ≤ w.heap.size) (C : FcC fid cargs rh rr l B0 w J) (rl : ∀ W, Below B0 w W → RecR TSt W 0 v l) (hl : stepsF l = 0) (hat : ∀ s ∈ l, ¬ at' < s.at)
    (hJ : ∀ W, Below w.heap.size w W → J 0 [] W) :
    Calls Tryz.prog 91 #[.agg #[.int .i64 rh, .int .i64 rr], v, .int .i64 at', .func (.func fid) #[] caps] w fun e w' => (∃ S : Nat, e = .returned (.pointer (some ⟨S, 0, none⟩)) ∧ ShopA w w' S rh rr (runS rh rr at' [] l)) ∧ J l.length (runS rh rr at' [] l) w' ∧ Below B0 w w' := by
  have hA := Bl.alloc (Below.refl w.heap.size w) (.cells #[.int .i64 rh, .int .i64 rr] 27)
  obtain ⟨a, cap, rfl, _, _⟩ := (rl w (Below.refl _ _)).form
  have RL := Lib.hid rl
  have HR := Lib.hid (stepsF_right hl)
  have HAT := Lib.hid hat
  have HJ := Lib.hid hJ
  have HC := Lib.hid C
  have HB0 := Lib.hid hB0
  clear rl hl hat hJ C hB0
  rcases hcl with ⟨rfl, rfl, rfl⟩ | ⟨rfl, rfl, rfl⟩ | hF
  all_goals first | exact False.elim (by assumption) | skip
  all_goals (
    go_enter Tryz.func91, Tryz.ntmps91
    go_wp2_with fail
    refine (NewShop_any rh rr _).mono ?_
    rintro e w2 ⟨rfl, hS2, hm2, hb2, hz2⟩
    have hB2 := Bl.trans hA hb2
    have hzA := hA.size
    obtain ⟨S, hS⟩ : ∃ S, S = (w.alloc (.cells #[.int .i64 rh, .int .i64 rr] 27)).heap.size + 1 + 1 := ⟨_, rfl⟩
    have hS1 : (w.alloc (.cells #[.int .i64 rh, .int .i64 rr] 27)).heap.size + 1 = S - 1 := by omega
    have HI0 : Hid (FcI rh rr at' l B0 w J S 0 [] w2) := Lib.hid (by
      refine ⟨rfl, ⟨Nat.le_refl _, fun p hp => by simp at hp⟩, ⟨[], ⟨by omega, ?_, ?_, Sm.Ok.nil, fun p hp => by simp at hp, fun p hp => by simp at hp⟩, rfl⟩, hB2.mono HB0.out, by omega, HJ.out _ hB2⟩
      · rw [← hS1, hS]; exact hS2
      · rw [← hS1]; exact MapS.of_blk hm2)
    clear hS2 hm2 hb2 hB2 hA hS1 hz2 hzA
    rw [← hS] at *
    clear hS
    go_wp2_with fail
    go_loopw [16] (fun i wr => ∃ (k : Nat) (m : Sm Bd0), k ≤ l.length ∧ i = .int .i64 k ∧ Hid (FcI rh rr at' l B0 w J S k m wr)) (fun i _ => l.length - (intOf i).toNat)
    case atStart => exact ⟨0, [], Nat.zero_le _, rfl, HI0⟩
    case round =>
      obtain ⟨k, m, hk, rfl, HI⟩ := hrel
      by_cases hlt : k < l.length
      · obtain ⟨s, hs⟩ : ∃ x, l[k]? = some x := ⟨_, List.getElem?_eq_getElem hlt⟩
        obtain ⟨b1, o1, rfl, _, hbb1, hc1⟩ := (RL.out _ HI.out.bel).at TSt.ok.len hs TSt.ok.pos
        have HS := Lib.hid hs
        have HSR := Lib.hid (HR.out.2.1 s (List.mem_of_getElem? hs))
        obtain ⟨at1, bs, kd, cs⟩ := s
        have hat : ¬ at' < at1 := Int.not_lt.2 (HAT.out _ (List.mem_of_getElem? HS.out))
        have c0 : wr.cell? ⟨b1, o1 + k * 4, none⟩ = some (.int .i64 at1) := hc1 0 _ rfl
        have c1 : wr.cell? ⟨b1, o1 + k * 4 + 1, none⟩ = some (.string bs) := hc1 1 _ rfl
        have c2 : wr.cell? ⟨b1, o1 + k * 4 + 2, none⟩ = some (.int .i64 kd) := hc1 2 _ rfl
        have c3 : wr.cell? ⟨b1, o1 + k * 4 + 3, none⟩ = some (.string cs) := hc1 3 _ rfl
        clear hs hc1
        have hlen : k < 5000 := Nat.lt_of_lt_of_le hlt HR.out.1
        have hw1 : IntKind.i64.wrap ((k : Int) + 1) = ((k + 1 : Nat) : Int) := by rw [IntWalk.i64_in _ (by omega)]; omega
        have HD := Lib.hid ((HI.out.alloc HC.out HB0.out (.cells #[.int .i64 at1, .string bs, .int .i64 kd, .string cs] 133)).call HC.out HB0.out HS.out hat HSR.out (by omega))
        go_wp2_with fail
        refine HD.out.mono ?_
        rintro e w5 ⟨rfl, hF⟩
        have HF := Lib.hid (hF.call HC.out HB0.out HS.out)
        clear hF HD
        generalize (doS rh rr m (at1, bs, kd, cs)).2 = R at HF ⊢
        generalize (doS rh rr m (at1, bs, kd, cs)).1 = m' at HF
        go_wp2_with fail
        refine HF.out.mono ?_
        rintro e w' ⟨rfl, hI⟩
        have HI2 := Lib.hid hI
        clear hI HF
        go_wp2
        go_roundw
        case rel => exact ⟨k + 1, m', by omega, by go_num, HI2⟩
        case measure => simp [intOf]; omega
      · obtain rfl : k = l.length := by omega
        have HGT : Hid (runS rh rr at' [] l = m) := Lib.hid (HI.out.rest.trans runS_end)
        have HSH : Hid (ShopA w wr S rh rr (runS rh rr at' [] l)) := Lib.hid ⟨by rw [HGT.out]; exact HI.out.shop, HI.out.S1⟩
        have HJE : Hid (J l.length (runS rh rr at' [] l) wr) := Lib.hid (by rw [HGT.out]; exact HI.out.j)
        have HBE := Lib.hid HI.out.bel
        go_wp2
        go_ret
        exact ⟨⟨S, rfl, HSH.out⟩, HJE.out, HBE.out⟩)
end Go.Proofs.YtbkglhakhahfpaaGreatDoor
namespace Go.Proofs.YtbkglhakhahfpaaGreatDoor
open Go.RowKit Go.Sort Go.Maps

section
variable {α : Type} {T : Rty α}
theorem ShM.doT {w : World} {S : Nat} {rh rr : Int} {L : Sm BdM} (h : ShM w S rh rr L) (ht : T.e ≠ 160) : ∀ i cur, w.heap[i]? = some (.cells cur T.e (0, 0)) → ¬ DoX S L i := by
  have hmap : ∀ {α : Type} {U : Mty α} {b : Nat} {m : Sm α} (cur : Array Value), MapS U w b m → w.heap[b]? ≠ some (.cells cur T.e (0, 0)) := fun cur hm e => by
    obtain ⟨_, es, clock, hb, _⟩ := hm
    rw [hb] at e
    injection e with e
    cases e
  rintro i cur hi (rfl | ⟨p, hp, hx1, hx2⟩)
  · exact hmap cur h.map hi
  · have hB := (h.brd p hp).2
    have h3 : i = p.2.1 - 2 ∨ i = p.2.1 - 1 ∨ i = p.2.1 := by have := hB.1; omega
    rcases h3 with rfl | rfl | rfl
    · exact hmap cur hB.2.2.1 hi
    · exact hmap cur hB.2.2.2 hi
    · have hb := hB.2.1
      unfold Brd at hb
      rw [hb] at hi
      injection hi with hi
      injection hi with _ hi _
      exact ht hi.symm
/-- a row of another type has grown. -/
theorem ShM.rowed {w w' : World} {S : Nat} {rh rr : Int} {L : Sm BdM} {B : Nat} {v : Value} {l : List α} (h : ShM w S rh rr L) (hO : OwnR T w B v l) (hg : w.grownBy w' v.ownBlock) (h1 : T.e ≠ 160) (h3 : T.e ≠ 157) : ShM w' S rh rr L := by
  have hk : Kp w w' (fun i => v.ownBlock = some i) := ⟨hg.os, hg.tape, hg.output, hg.size, fun i hi hx => hg.block i hi fun e => hx e.symm⟩
  have hd := h.doT (T := T) h1
  have hno : ∀ i, DoX S L i → ¬ v.ownBlock = some i := fun i hx e => by
    obtain ⟨cur, hc⟩ := hO.blkT e
    exact hd _ _ hc hx
  refine ⟨h.two, hk.blk h.blk fun e => ?_, hk.ms h.map (hno _ (.inl rfl)), h.ok, fun p hp => ⟨(h.brd p hp).1, (h.brd p hp).2.keep hk (hno _ (.inr ⟨p, hp, Nat.le_refl _, by omega⟩)) (hno _ (.inr ⟨p, hp, by omega, by omega⟩)) (hno _ (.inr ⟨p, hp, by omega, Nat.le_refl _⟩))⟩, h.sep⟩
  obtain ⟨cur, hc⟩ := hO.blkT e
  rw [h.blk] at hc
  injection hc with hc
  injection hc with _ hc _
  exact h3 hc.symm
end
/-- what the closure of Refused keeps: which steps are refused so far. -/
structure RfJ (rh rr : Int) (l : List Stp) (X Y B : Nat) (k : Nat) (m : Sm Bd0) (W : World) : Prop where
  ex : ∃ (acc : List (Int × Int)) (ov wv : Value), refL rh rr 0 [] l = acc ++ refL rh rr k m (l.drop k) ∧ acc.length ≤ k ∧ W.heap[X]? = some (.cells #[ov] 22 (0, 0)) ∧ W.heap[Y]? = some (.cells #[wv] 140 (0, 0)) ∧ OwnR TN W B ov (acc.map (·.1)) ∧ OwnR TE W B wv (acc.map (·.2))

/-! the closure's region: two rows that grow, each held in a box -/
section
variable {i R : Int} {X Y B G0 : Nat} {la lb : List Int} {ov wv : Value}
def RfV (i R : Int) (B G0 : Nat) (la lb : List Int) (ov wv : Value) : Nat → Value → World → Prop
  | 0 => fun v _ => v = ov
  | 1 => fun v _ => v = .int .i64 i
  | 2 => fun v W => ∃ g, G0 ≤ g ∧ v = .slice (some ⟨g, 0, none⟩) 1 1 ∧ W.heap[g]? = some (.cells #[.int .i64 i] 3 (0, 0))
  | 3 => fun v W => OwnR TN W B v (la ++ [i])
  | 4 => fun v _ => v = wv
  | 5 => fun v _ => v = .int .i64 R
  | 6 => fun v W => ∃ g, G0 ≤ g ∧ v = .slice (some ⟨g, 0, none⟩) 1 1 ∧ W.heap[g]? = some (.cells #[.int .i64 R] 34 (0, 0))
  | 7 => fun v W => OwnR TE W B v (lb ++ [R])
  | _ => fun _ _ => True
theorem RfV.below {j : Nat} {v : Value} {W W' : World} (h : RfV i R B G0 la lb ov wv j v W) (hb : Below W.heap.size W W') : RfV i R B G0 la lb ov wv j v W' :=
  match j, h with
  | 0, h => h
  | 1, h => h
  | 2, ⟨g, h1, h2, h3⟩ => ⟨g, h1, h2, blk_below h3 hb⟩
  | 3, h => OwnR.below h hb
  | 4, h => h
  | 5, h => h
  | 6, ⟨g, h1, h2, h3⟩ => ⟨g, h1, h2, blk_below h3 hb⟩
  | 7, h => OwnR.below h hb
  | (_ + 8), _ => trivial
theorem RfV.far {j : Nat} {v : Value} {W : World} (h : RfV i R B G0 la lb ov wv j v W) {Z : Nat} (hZ : Z < B) (hB : B ≤ G0) (u : Value) : RfV i R B G0 la lb ov wv j v (W.setCell ⟨Z, 0, none⟩ u) :=
  match j, h with
  | 0, h => h
  | 1, h => h
  | 2, ⟨g, h1, h2, h3⟩ => ⟨g, h1, h2, blk_far h3 Z 0 u (by omega)⟩
  | 3, h => OwnR.far h hZ 0 u
  | 4, h => h
  | 5, h => h
  | 6, ⟨g, h1, h2, h3⟩ => ⟨g, h1, h2, blk_far h3 Z 0 u (by omega)⟩
  | 7, h => OwnR.far h hZ 0 u
  | (_ + 8), _ => trivial
theorem RfV.appN {j : Nat} {v : Value} {W W' : World} (h : RfV i R B G0 la lb ov wv j v W) (hg : W.grownBy W' ov.ownBlock) (hlt : ∀ g, ov.ownBlock = some g → g < G0) (h3 : j ≠ 3) (h7 : j ≠ 7) : RfV i R B G0 la lb ov wv j v W' :=
  match j, h, h3, h7 with
  | 0, h, _, _ => h
  | 1, h, _, _ => h
  | 2, ⟨g, h1, h2, h3⟩, _, _ => ⟨g, h1, h2, (hg.block g (blk_lt h3) fun e => by have := hlt g e.symm; omega).trans h3⟩
  | 3, _, h, _ => absurd rfl h
  | 4, h, _, _ => h
  | 5, h, _, _ => h
  | 6, ⟨g, h1, h2, h3⟩, _, _ => ⟨g, h1, h2, (hg.block g (blk_lt h3) fun e => by have := hlt g e.symm; omega).trans h3⟩
  | 7, _, _, h => absurd rfl h
  | (_ + 8), _, _, _ => trivial
theorem RfV.appE {j : Nat} {v : Value} {W W' : World} (h : RfV i R B G0 la lb ov wv j v W) (hO : OwnR TE W B wv lb) (hg : W.grownBy W' wv.ownBlock) (hlt : ∀ g, wv.ownBlock = some g → g < G0) (h7 : j ≠ 7) : RfV i R B G0 la lb ov wv j v W' :=
  match j, h, h7 with
  | 0, h, _ => h
  | 1, h, _ => h
  | 2, ⟨g, h1, h2, h3⟩, _ => ⟨g, h1, h2, (hg.block g (blk_lt h3) fun e => by have := hlt g e.symm; omega).trans h3⟩
  | 3, h, _ => OwnR.beside h hO (by decide) hg
  | 4, h, _ => h
  | 5, h, _ => h
  | 6, ⟨g, h1, h2, h3⟩, _ => ⟨g, h1, h2, (hg.block g (blk_lt h3) fun e => by have := hlt g e.symm; omega).trans h3⟩
  | 7, _, h => absurd rfl h
  | (_ + 8), _, _ => trivial
structure RfB (X Y B Bb : Nat) (i R : Int) (la lb : List Int) (ov wv : Value) (w : World) (listed : Array Bool) (W : World) : Prop where
  bel : Below Bb w W
  x0 : listed.getD 8 false = false → W.heap[X]? = some (.cells #[ov] 22 (0, 0))
  x1 : listed.getD 8 false = true → ∃ v', W.heap[X]? = some (.cells #[v'] 22 (0, 0)) ∧ OwnR TN W B v' (la ++ [i])
  y0 : listed.getD 9 false = false → W.heap[Y]? = some (.cells #[wv] 140 (0, 0))
  y1 : listed.getD 9 false = true → ∃ v', W.heap[Y]? = some (.cells #[v'] 140 (0, 0)) ∧ OwnR TE W B v' (lb ++ [R])
  o0 : listed.getD 3 false = false → OwnR TN W B ov la
  w0 : listed.getD 7 false = false → OwnR TE W B wv lb
  sh : ∀ S rh rr L, X < S - 1 → Y < S - 1 → ShM w S rh rr L → ShM W S rh rr L
theorem RfB.below {Bb : Nat} {w : World} {listed l' : Array Bool} {W W' : World} (h : RfB X Y B Bb i R la lb ov wv w listed W) (hb : Below W.heap.size W W') (hBb : Bb ≤ w.heap.size) (hl : ∀ j, j = 3 ∨ j = 7 ∨ j = 8 ∨ j = 9 → l'.getD j false = listed.getD j false) : RfB X Y B Bb i R la lb ov wv w l' W' := by
  have hz := h.bel.size
  refine ⟨h.bel.trans (hb.mono (by omega)), fun e => ?_, fun e => ?_, fun e => ?_, fun e => ?_, fun e => ?_, fun e => ?_, fun S rh rr L h1 h2 h3 => (h.sh S rh rr L h1 h2 h3).below hb⟩
  · rw [hl 8 (by simp)] at e; exact blk_below (h.x0 e) hb
  · rw [hl 8 (by simp)] at e; obtain ⟨v', a, b⟩ := h.x1 e; exact ⟨v', blk_below a hb, b.below hb⟩
  · rw [hl 9 (by simp)] at e; exact blk_below (h.y0 e) hb
  · rw [hl 9 (by simp)] at e; obtain ⟨v', a, b⟩ := h.y1 e; exact ⟨v', blk_below a hb, b.below hb⟩
  · rw [hl 3 (by simp)] at e; exact (h.o0 e).below hb
  · rw [hl 7 (by simp)] at e; exact (h.w0 e).below hb
end
theorem kp_store {w : World} {X : Nat} (v : Value) : Kp w (w.setCell ⟨X, 0, none⟩ v) (fun i => i = X) := Kp.of_gr (s := X) (Gr.set (Gr.refl w (some X)) X 0 (.inl rfl) v) rfl
def rfsL (rh rr : Int) (l : List Stp) : List (Int × Int) := if fltF rh rr l = 0 then refL rh rr 0 [] l else []
theorem rfsL_len (rh rr : Int) (l : List Stp) : (rfsL rh rr l).length ≤ l.length := by
  unfold rfsL
  split
  · exact refL_len l 0 []
  · exact Nat.zero_le _
theorem fltF_zero {rh rr : Int} {l : List Stp} (h : fltF rh rr l = 0) : rulesF rh rr = 0 ∧ stepsF l = 0 := by
  unfold fltF at h
  by_cases h2 : rulesF rh rr = 0
  · rw [if_pos h2] at h; exact ⟨h2, h⟩
  · rw [if_neg h2] at h; exact absurd h h2
end Go.Proofs.YtbkglhakhahfpaaGreatDoor
