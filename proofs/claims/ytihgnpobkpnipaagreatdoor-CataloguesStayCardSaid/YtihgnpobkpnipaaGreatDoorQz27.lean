/- Texts of the proof of a law, put together, part 27 of 41. Conditions: none beyond those that each theorem names. -/
import Derived.Test.YtihgnpobkpnipaaGreatDoorQz3
import Derived.Test.YtihgnpobkpnipaaGreatDoorQz5
import Derived.Test.YtihgnpobkpnipaaGreatDoorQz6
import Derived.Test.YtihgnpobkpnipaaGreatDoorQz25
import Derived.Test.YtihgnpobkpnipaaGreatDoorQz26
import Derived.Deep.RegionLaw
namespace Go.Proofs.YtihgnpobkpnipaaGreatDoor
open Go.RowKit Go.Sort
end Go.Proofs.YtihgnpobkpnipaaGreatDoor
namespace Go.Proofs.YtihgnpobkpnipaaGreatDoor
open Go.RowKit Go.Sort Go.Maps
/-- a literal row of strings. -/
theorem ownS_new (w : World) (B n : Nat) (l : List ByteArray) (hB : B ≤ w.heap.size) (hn : l.length = n) (hm : n ≤ 1000000) : OwnR TS (w.alloc (.cells (l.map Value.string).toArray 9)) B (.slice (some ⟨w.heap.size, 0, none⟩) n n) l := by
  subst hn
  refine OwnR.of_blk (T := TS) hB (blk_new w _) (Nat.le_refl _) (by unfold maxLen; omega) (by show ((l.map Value.string).toArray).size = l.length * 1; simp) ?_ (by rw [flat_len TS.ok.len])
  have h1 : l.flatMap TS.f = l.map Value.string := by
    clear hm
    induction l with
    | nil => rfl
    | cons x r ih => rw [List.flatMap_cons, ih]; rfl
  rw [h1, show TS.k = 1 from rfl, Nat.mul_one, List.toList_toArray]
  exact List.take_of_length_le (by rw [List.length_map]; exact Nat.le_refl _)
/-- the front of a row. -/
theorem RecR.take {α : Type} {T : Rty α} {w : World} {lo n cap : Nat} {a : Option Addr} {l : List α} (h : RecR T w lo (.slice a n cap) l) (k : Nat) (hk : k ≤ l.length) : RecR T w lo (.slice a k cap) (l.take k) := by
  obtain ⟨a', cap', hv, h1, h2, h3⟩ := h
  injection hv with e1 e2 e3
  subst e1; subst e3
  refine ⟨a, cap, by rw [List.length_take, Nat.min_eq_left hk], by rw [List.length_take]; omega, h2, fun j x hj => h3 j x ?_⟩
  have e : l.flatMap T.f = (l.take k).flatMap T.f ++ (l.drop k).flatMap T.f := by rw [← List.flatMap_append, List.take_append_drop]
  rw [e, List.getElem?_append_left (List.getElem?_eq_some_iff.1 hj).1]
  exact hj
theorem splitS_le (c : UInt8) : ∀ (l : List UInt8), ∀ z ∈ splitL c l, z.length ≤ l.length
  | [], z, h => by simp [splitL] at h; subst h; simp
  | b :: r, z, h => by
    have ih := splitS_le c r
    simp only [splitL] at h
    split at h
    · rcases List.mem_cons.1 h with rfl | h
      · simp
      · have := ih z h; simp; omega
    · split at h
      · rename_i e; exact absurd e (splitL_ne c r)
      · rename_i y ys e
        rw [e] at ih
        rcases List.mem_cons.1 h with rfl | h
        · have := ih y (by simp); simp; omega
        · have := ih z (List.mem_cons_of_mem _ h); simp; omega
theorem ba_ne {x : ByteArray} (h : ¬ x.size = 0) : x.toList.isEmpty = false ∧ ¬ x.toList = [] := by
  have hne : x.data.toList ≠ [] := by
    intro e
    have : x.data.toList.length = x.size := Array.length_toList
    rw [e] at this; exact h this.symm
  rw [ByteArray.toList_eq]
  exact ⟨by cases h : x.data.toList with | nil => exact absurd h hne | cons => rfl, hne⟩
set_option maxHeartbeats 4000000 in
set_option maxRecDepth 100000 in
theorem KWords_any (s : ByteArray) (w : World) (hT : TxW w) (hs : s.size ≤ 1000000) :
    Calls Tryz.prog 93 #[.string s] w fun e w' => ∃ v, e = .returned (.tuple #[v, .bool (decide ([] ∉ splitL 32 (bsOf s)))]) ∧ ([] ∉ splitL 32 (bsOf s) → ∃ l, OwnR TS w' w.heap.size v l ∧ l.map bsOf = splitL 32 (bsOf s) ∧ l.length ≤ 1000001) ∧ Below w.heap.size w w' := by
  have HSP := Lib.hid (Split_any s 32 w hT hs)
  obtain ⟨Ls, hLs⟩ : ∃ Ls, Ls = splitL 32 (bsOf s) := ⟨_, rfl⟩
  have HLS := Lib.hid hLs
  rw [← hLs]
  clear hLs hT hs
  go_enter Tryz.func93, Tryz.ntmps93
  go_wp2_with fail
  refine HSP.out.mono ?_
  rintro e w1 ⟨v, l, rfl, hO, hm, hl1, hb⟩
  obtain ⟨sa, scap, rfl, hc1, hc2⟩ := hO.form
  have hm' : l.map bsOf = Ls := by rw [HLS.out]; exact hm
  have HO := Lib.hid (And.intro hO (And.intro hm' hl1))
  have HB := Lib.hid hb
  clear hO hm hm' hb HSP
  go_wp2_with fail
  go_loopw [11] (fun i wr => ∃ k : Nat, k ≤ l.length ∧ i = .int .i64 k ∧ Hid ([] ∉ Ls.take k) ∧ w1 = wr) (fun i _ => l.length - (intOf i).toNat)
  case atStart => exact ⟨0, Nat.zero_le _, rfl, Lib.hid (by simp), rfl⟩
  case round =>
    obtain ⟨k, hk, rfl, HN, rfl⟩ := hrel
    by_cases hlt : k < l.length
    · obtain ⟨x, hx⟩ : ∃ x, l[k]? = some x := ⟨_, List.getElem?_eq_getElem hlt⟩
      have hLx : Ls[k]? = some (bsOf x) := by rw [← HO.out.2.1, List.getElem?_map, hx]; rfl
      obtain ⟨b, o, rfl, _, hbb, c0⟩ := str_at HO.out.1.rec hx
      have hw1 : IntKind.i64.wrap ((k : Int) + 1) = ((k + 1 : Nat) : Int) := by rw [IntWalk.i64_in _ (by omega)]; omega
      by_cases h0 : x.size = 0
      · obtain rfl := ba_empty h0
        have hmem : [] ∈ Ls := List.mem_of_getElem? hLx
        have HR : Hid (decide ([] ∉ Ls) = false ∧ [] ∈ Ls) := Lib.hid ⟨by simp [hmem], hmem⟩
        clear hx hLx h0 hmem
        go_wp2
        go_ret2
        exact ⟨_, by rw [HR.out.1] <;> rfl, fun h => absurd HR.out.2 h, HB.out⟩
      · have HN2 : Hid ([] ∉ Ls.take (k + 1)) := Lib.hid (by
          rw [List.take_add_one, hLx]
          intro hm
          rcases List.mem_append.1 hm with hm | hm
          · exact HN.out hm
          · have hz : bsOf x = [] := by simpa using hm
            have := bsOf_len x
            rw [hz] at this
            exact h0 this.symm)
        obtain ⟨e1, e2⟩ := ba_ne h0
        clear hx hLx h0
        go_wp2
        go_roundw
        case rel => exact ⟨k + 1, by omega, by go_num, HN2, by first | trivial | rfl⟩
        case measure => simp [intOf]; omega
    · obtain rfl : k = l.length := by omega
      have hLl : Ls.length = l.length := by rw [← HO.out.2.1, List.length_map]
      have hno : [] ∉ Ls := by
        have := HN.out
        rw [← hLl, List.take_length] at this
        exact this
      have HR : Hid (decide ([] ∉ Ls) = true) := Lib.hid (by simp [hno])
      clear hLl hno
      go_wp2
      go_ret2
      exact ⟨_, by rw [HR.out] <;> rfl, fun _ => ⟨l, HO.out⟩, HB.out⟩
theorem linesS_le (t : List UInt8) : ∀ z ∈ (linesK t).1, z.length ≤ t.length := by
  intro z hz
  unfold linesK at hz
  split at hz
  · simp at hz
  · split at hz
    · have := splitS_le 10 _ z hz
      simp at this; omega
    · exact splitS_le 10 _ z hz
theorem linesS_len (t : List UInt8) : (linesK t).1.length ≤ t.length + 1 := by
  unfold linesK
  split
  · simp
  · split
    · have h1 := splitL_len 10 t.dropLast
      have h2 := List.count_le_length (a := (10 : UInt8)) (l := t.dropLast)
      simp only
      rw [h1]
      simp at h2
      omega
    · have h1 := splitL_len 10 t
      have h2 := List.count_le_length (a := (10 : UInt8)) (l := t)
      simp only
      rw [h1]
      omega
end Go.Proofs.YtihgnpobkpnipaaGreatDoor
namespace Go.Proofs.YtihgnpobkpnipaaGreatDoor
open Go.RowKit
section
variable {ops : Array Oper} {Q : Exit → Act → World → Prop}
/-- each operation but one has another one that waits for it. -/
def sinkB (ops : Array Oper) (m : Nat) : Bool := (List.range ops.size).all fun i => decide (i = m) || (List.range ops.size).any fun j => match ops[j]? with
  | some p => decide (i < j) && p.after.toList.any fun e => decide (e.on = i) && Region.binds .any e
  | none => false
def dstB (ops : Array Oper) (m : Nat) : Bool := (List.range ops.size).all fun i => decide (i = m) || (match ops[i]? with
  | some o => o.dst.isSome
  | none => true)
theorem all_listed {m : Nat} (hsk : sinkB ops m = true) {listed : Array Bool} (hcl : ClsD ops listed) (hm : listed.getD m false = true) : ∀ (n i : Nat), ops.size - i ≤ n → i < ops.size → listed.getD i false = true
  | 0, i, h, hi => by omega
  | n + 1, i, h, hi => by
    have h1 := List.all_eq_true.1 hsk i (List.mem_range.2 hi)
    rw [Bool.or_eq_true, decide_eq_true_eq] at h1
    rcases h1 with rfl | h1
    · exact hm
    · obtain ⟨j, hj, h2⟩ := List.any_eq_true.1 h1
      have hj' := List.mem_range.1 hj
      have hoj : ops[j]? = some ops[j] := Array.getElem?_eq_getElem hj'
      rw [hoj] at h2
      simp only [Bool.and_eq_true, decide_eq_true_eq] at h2
      obtain ⟨e, he, h3⟩ := List.any_eq_true.1 h2.2
      rw [Bool.and_eq_true, decide_eq_true_eq] at h3
      have hlj := all_listed hsk hcl hm n j (by omega) hj'
      have := hcl j _ hoj hlj e (Array.mem_toList_iff.1 he) h3.2
      rw [h3.1] at this
      exact this
theorem wp_region_last {id : Nat} {a : Act} {w : World} (hm : Tryz.prog.follows .mixedOrders = true) (D : List Nat) (m : Nat) (Base Post : World → Prop) (Rel : World → World → Prop) (V : Nat → Value → World → Prop)
    (hb : (List.range ops.size).all (fun i => match ops[i]? with | some o => o.after.all (fun e => !Region.binds .any e || decide (e.on < i)) | none => true) = true)
    (hd : (List.range ops.size).all (fun i => match ops[i]? with | some o => (match o.dst with | some d => D.contains d && (List.range ops.size).all (fun j => decide (j = i) || (match ops[j]? with | some p => decide (p.dst ≠ some d) | none => true)) | none => true) | none => true) = true)
    (hsk : sinkB ops m = true) (hds : dstB ops m = true) (hml : m < ops.size)
    (h0 : Base { w with drawn := w.drawn + 1 })
    (hstab : ∀ W W' i v, Base W → Rel W W' → V i v W → V i v W')
    (hstep : ∀ i o f W, ops[i]? = some o → i < ops.size → i ≠ m → Base W → (∀ e ∈ o.after, Region.binds .any e = true → V e.on (f (dof ops e.on)) W) →
      wpOp Tryz.prog ops Q i (fun a' w' => ∃ v, a' = (putsA a D f).put o.dst v ∧ Base w' ∧ Rel W w' ∧ V i v w') (putsA a D f) W)
    (hlast : ∀ o f W, ops[m]? = some o → Base W → (∀ i, i < ops.size → i ≠ m → V i (f (dof ops i)) W) →
      wpOp Tryz.prog ops Q m (fun a' w' => ∃ v, a' = (putsA a D f).put o.dst v ∧ Post w' ∧ True ∧ True) (putsA a D f) W)
    (hend : ∀ f w', Post w' → Q .normal (putsA a D f) w') :
    (Code.region id ops true).wp Tryz.prog Q a w := by
  refine wp_region_ef hm D (fun _ => none) (fun listed f W => (listed.getD m false = false → Base W ∧ ∀ i, i < ops.size → i ≠ m → listed.getD i false = true → V i (f (dof ops i)) W) ∧ (listed.getD m false = true → Post W)) hb hd (fun _ _ _ _ => rfl) ?_ ?_ ?_ ?_ ?_
  · refine ⟨fun _ => ⟨h0, fun i hi _ hl => ?_⟩, fun hl => ?_⟩
    · exfalso
      unfold Array.getD at hl
      simp [hi] at hl
    · exfalso
      unfold Array.getD at hl
      simp [hml] at hl
  · intro listed f i o v W _ hc
    cases hc
  · intro listed f i o v W _ hc
    cases hc
  · intro listed f i o W ho _ hi hs hli hcl hdep hB _
    by_cases him : i = m
    · subst him
      obtain ⟨h1, h2⟩ := hB.1 hli
      have hall : ∀ j, j < ops.size → j ≠ i → listed.getD j false = true := by
        intro j hj hne
        have hcl2 : ClsD ops (listed.setIfInBounds i true) := by
          intro k p hp hlk e he hbd
          rw [getD_set (by omega)] at hlk ⊢
          split at hlk
          · rename_i hk
            subst hk
            rw [ho] at hp
            injection hp with hp
            subst hp
            split
            · rfl
            · exact hdep e he hbd
          · split
            · rfl
            · exact hcl k p hp hlk e he hbd
        have := all_listed hsk hcl2 (by rw [getD_set (by omega), if_pos rfl]) ops.size j (by omega) hj
        rw [getD_set (by omega), if_neg hne] at this
        exact this
      refine wpOp_mono ?_ (hlast o f W ho h1 fun j hj hne => h2 j hj hne (hall j hj hne))
      rintro a' w' ⟨v, e1, e2, _, _⟩
      refine ⟨v, e1, ⟨fun h => ?_, fun _ => e2⟩, trivial, trivial⟩
      rw [getD_set (by omega), if_pos rfl] at h
      cases h
    · have hlm : listed.getD m false = false := by
        cases h : listed.getD m false with
        | false => rfl
        | true =>
          have := all_listed hsk hcl h ops.size i (by omega) hi
          rw [hli] at this
          cases this
      obtain ⟨h1, h2⟩ := hB.1 hlm
      refine wpOp_mono ?_ (hstep i o f W ho hi him h1 fun e he hbd => ?_)
      · rintro a' w' ⟨v, e1, e2, e3, e4⟩
        refine ⟨v, e1, ⟨fun _ => ⟨e2, fun j hj hjm hlj => ?_⟩, fun h => ?_⟩, trivial, trivial⟩
        · have hsm := List.all_eq_true.1 hds i (List.mem_range.2 hi)
          rw [ho] at hsm
          simp only [Bool.or_eq_true, decide_eq_true_eq] at hsm
          have hsm := hsm.resolve_left him
          obtain ⟨d, hdst⟩ := Option.isSome_iff_exists.1 hsm
          have hdi := List.all_eq_true.1 hd i (List.mem_range.2 hi)
          rw [ho] at hdi
          simp only [hdst, Bool.and_eq_true] at hdi
          rw [getD_set (by omega)] at hlj
          by_cases hji : j = i
          · subst hji
            have : dof ops j = d := by unfold dof; rw [ho]; simp [hdst]
            rw [hdst, this, updD_at]
            exact e4
          · rw [if_neg hji] at hlj
            have h5 := hstab W w' j _ h1 e3 (h2 j hj hjm hlj)
            have hoj : ops[j]? = some ops[j] := Array.getElem?_eq_getElem hj
            have h3 := List.all_eq_true.1 hdi.2 j (List.mem_range.2 hj)
            rw [hoj] at h3
            simp only [Bool.or_eq_true, decide_eq_true_eq] at h3
            have hjd : (ops[j]).dst ≠ some d := h3.resolve_left hji
            have hsj := List.all_eq_true.1 hds j (List.mem_range.2 hj)
            rw [hoj] at hsj
            simp only [Bool.or_eq_true, decide_eq_true_eq] at hsj
            obtain ⟨dj, hdj⟩ := Option.isSome_iff_exists.1 (hsj.resolve_left hjm)
            have hdofj : dof ops j = dj := by unfold dof; rw [hoj]; simp [hdj]
            have hne : dj ≠ d := fun e => hjd (by rw [hdj, e])
            rw [hdofj] at h5 ⊢
            rw [hdst, updD_ne hne]
            exact h5
        · rw [getD_set (by omega), if_neg (Ne.symm him), hlm] at h
          cases h
      · have hle := hdep e he hbd
        have hlt : e.on < ops.size := by
          have h3 := List.all_eq_true.1 hb i (List.mem_range.2 hi)
          rw [ho] at h3
          simp only at h3
          have h4 := Array.all_eq_true_iff_forall_mem.1 h3 e he
          rw [hbd] at h4
          simp at h4
          omega
        have hem : e.on ≠ m := fun h => by rw [h, hlm] at hle; cases hle
        exact h2 e.on hlt hem hle
  · intro listed f w' hall hB _
    exact hend f w' (hB.2 (hall m hml))
end
end Go.Proofs.YtihgnpobkpnipaaGreatDoor
namespace Go.Proofs.YtihgnpobkpnipaaGreatDoor
open Go.RowKit Go.Sort
/-- a row of records that lies in memory. -/
def VOf {α : Type} (T : Rty α) (L : List α) : Value → World → Prop := fun v w => RecR T w 0 v L
theorem VOf.low {α : Type} {T : Rty α} {L : List α} {v : Value} {w w' : World} (h : VOf T L v w) (hb : Below w.heap.size w w') : VOf T L v w' := RecR.below h hb
def VOw {α : Type} (T : Rty α) (B : Nat) (L : List α) : Value → World → Prop := fun v w => OwnR T w B v L
theorem VOw.low {α : Type} {T : Rty α} {B : Nat} {L : List α} {v : Value} {w w' : World} (h : VOw T B L v w) (hb : Below w.heap.size w w') : VOw T B L v w' := OwnR.below h hb
end Go.Proofs.YtihgnpobkpnipaaGreatDoor
