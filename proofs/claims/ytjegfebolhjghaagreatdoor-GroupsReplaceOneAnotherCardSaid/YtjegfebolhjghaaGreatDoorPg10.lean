/- Texts of the proof of a law, put together, part 10 of 31. Conditions: none beyond those that each theorem names. -/
import Derived.Test.YtjegfebolhjghaaGreatDoorPg2
import Derived.Test.YtjegfebolhjghaaGreatDoorPg6
import Derived.Test.YtjegfebolhjghaaGreatDoorPg9
namespace Go.Proofs.YtjegfebolhjghaaGreatDoor
open Go.RowKit
section
variable {ops : Array Oper} {Q : Exit → Act → World → Prop}
theorem wp_region_ph {id : Nat} {a : Act} {w : World} (hm : Tryz.prog.follows .mixedOrders = true) (D : List Nat) (c : Nat → Option Value) (ai m sa : Nat) (Pre : Nat → World → Prop) (Rel : World → World → Prop) (Post : World → Prop) (Mid : Value → World → Prop) (V : Nat → Value → World → Prop)
    (hb : (List.range ops.size).all (fun i => match ops[i]? with | some o => o.after.all (fun e => !Region.binds .any e || decide (e.on < i)) | none => true) = true)
    (hd : (List.range ops.size).all (fun i => match ops[i]? with | some o => (match o.dst with | some d => D.contains d && (List.range ops.size).all (fun j => decide (j = i) || (match ops[j]? with | some p => decide (p.dst ≠ some d) | none => true)) | none => true) | none => true) = true)
    (hcn' : (List.range ops.size).all (fun i => match ops[i]? with | some o => o.dst.isSome || ((c i).isNone && decide (i = m)) | none => true) = true)
    (hcx : c ai = none ∧ c m = none) (hne : m ≠ ai) (hlt : ai < ops.size ∧ m < ops.size)
    (hda : (ops[ai]?).bind (·.dst) = some sa) (hdm : (ops[m]?).bind (·.dst) = none)
    (hma : ∀ l, ClsD ops l → l.getD ai false = false → l.getD m false = false)
    (hsp : ∀ i l, i < ops.size → c i = none → i ≠ m → ClsD ops l → l.getD i false = false → l.getD ai false = false)
    (hda2 : ∀ o, ops[m]? = some o → ∃ e, e ∈ o.after ∧ e.on = ai ∧ Region.binds .any e = true)
    (hpre : ∀ u u' W, u' ≤ u → Pre u W → Pre u' W)
    (h0 : Pre ops.size { w with drawn := w.drawn + 1 })
    (hstab : ∀ u W W' i v, Pre u W → Rel W W' → V i v W → V i v W')
    (hval : ∀ (listed : Array Bool) (f : Nat → Value) i o v W, ops[i]? = some o → c i = some v → (∀ e ∈ o.after, Region.binds .any e = true → listed.getD e.on false = true) → (listed.getD ai false = false → ∃ u, Pre u W) → ClsD ops listed → listed.getD i false = false →
      (∀ j v', j < ops.size → listed.getD j false = true → c j = some v' → f (dof ops j) = v') → o.guard = none ∧ ∀ r, Ev a D f r → (execOp r o).run Tryz.prog W = .ok (.value v) W)
    (hS : ∀ (listed : Array Bool) (f : Nat → Value) i o u W, ops[i]? = some o → c i = none → i ≠ ai → i ≠ m → (∀ e ∈ o.after, Region.binds .any e = true → listed.getD e.on false = true) → Pre (u + 1) W →
      (∀ j v', j < ops.size → listed.getD j false = true → c j = some v' → f (dof ops j) = v') → (∀ j, j < ops.size → listed.getD j false = true → c j = none → j ≠ ai → j ≠ m → V j (f (dof ops j)) W) →
      wpOp Tryz.prog ops Q i (fun a' w' => ∃ v, a' = (putsA a D f).put o.dst v ∧ Pre u w' ∧ Rel W w' ∧ V i v w') (putsA a D f) W)
    (hA : ∀ (listed : Array Bool) (f : Nat → Value) o u W, ops[ai]? = some o → (∀ e ∈ o.after, Region.binds .any e = true → listed.getD e.on false = true) → Pre u W →
      (∀ j v', j < ops.size → listed.getD j false = true → c j = some v' → f (dof ops j) = v') → (∀ j, j < ops.size → listed.getD j false = true → c j = none → j ≠ ai → j ≠ m → V j (f (dof ops j)) W) →
      o.guard = none ∧ ∀ K : Act → World → Prop, (∀ v W', Mid v W' → K ((putsA a D f).put o.dst v) W') → Oper.wp Tryz.prog o (putsA a D f) W K Q)
    (hM : ∀ (listed : Array Bool) (f : Nat → Value) o W, ops[m]? = some o → (∀ e ∈ o.after, Region.binds .any e = true → listed.getD e.on false = true) → Mid (f sa) W →
      (∀ j v', j < ops.size → listed.getD j false = true → c j = some v' → f (dof ops j) = v') → o.guard = none ∧ ∃ W', (∀ r, Ev a D f r → (execOp r o).run Tryz.prog W = .ok .skip W') ∧ Post W')
    (hend : ∀ f W, Post W → (∀ j v', j < ops.size → c j = some v' → f (dof ops j) = v') → Q .normal (putsA a D f) W) :
    (Code.region id ops true).wp Tryz.prog Q a w := by
  obtain ⟨cA, cM⟩ := hcx
  obtain ⟨lA, lM⟩ := hlt
  have hcd : ∀ i o, ops[i]? = some o → o.dst = none → c i = none ∧ i = m := fun i o ho h => by
    have h1 := List.all_eq_true.1 hcn' i (List.mem_range.2 (Array.getElem?_eq_some_iff.1 ho).1)
    rw [ho] at h1
    simpa [h] using h1
  have huniq : ∀ (i : Nat) (o : Oper) (j : Nat) (p : Oper) (d : Nat), ops[i]? = some o → ops[j]? = some p → i ≠ j → o.dst = some d → p.dst ≠ some d := fun i o j p d h1 h2 h3 h4 => by
    have hi : i < ops.size := (Array.getElem?_eq_some_iff.1 h1).1
    have hj : j < ops.size := (Array.getElem?_eq_some_iff.1 h2).1
    have hdi := List.all_eq_true.1 hd i (List.mem_range.2 hi)
    rw [h1] at hdi
    simp only at hdi
    rw [h4] at hdi
    simp only [Bool.and_eq_true] at hdi
    have h5 := List.all_eq_true.1 hdi.2 j (List.mem_range.2 hj)
    rw [h2] at h5
    simp only [Bool.or_eq_true, decide_eq_true_eq] at h5
    exact h5.resolve_left (Ne.symm h3)
  have hslot : ∀ (i : Nat) (o : Oper) (j s : Nat), ops[i]? = some o → (ops[j]?).bind (·.dst) = some s → i ≠ j → ∀ f v, updD f o.dst v s = f s := fun i o j s h1 h2 h3 f v => by
    cases hj : ops[j]? with
    | none => rw [hj] at h2; cases h2
    | some p =>
      rw [hj] at h2
      cases hdst : o.dst with
      | none => rfl
      | some d =>
        refine updD_ne fun e => ?_
        subst e
        exact huniq i o j p s h1 hj h3 hdst h2
  have hdst : ∀ j, j < ops.size → j ≠ m → ∃ s, (ops[j]?).bind (·.dst) = some s ∧ dof ops j = s := fun j hj hjm => by
    have ho : ops[j]? = some ops[j] := Array.getElem?_eq_getElem hj
    cases h : (ops[j]).dst with
    | none => exact absurd (hcd j _ ho h).2 hjm
    | some s => exact ⟨s, by rw [ho]; exact h, by unfold dof; rw [ho]; simp [h]⟩
  refine wp_region_ef hm D c (fun (listed : Array Bool) (f : Nat → Value) W => if listed.getD m false = true then Post W else if listed.getD ai false = true then Mid (f sa) W else (Pre (unl ops listed) W ∧ ∀ j, j < ops.size → listed.getD j false = true → c j = none → j ≠ ai → j ≠ m → V j (f (dof ops j)) W)) hb hd (fun i o h1 h2 => (hcd i o h1 h2).1) ?_ ?_ ?_ ?_ ?_
  · have e : ∀ i, (Array.replicate ops.size false).getD i false = false := fun i => by
      unfold Array.getD
      split <;> simp
    simp only [e, Bool.false_eq_true, if_false, false_implies, implies_true, and_true]
    exact hpre ops.size _ _ (Nat.le_trans (List.length_filter_le _ _) (by simp)) h0
  · intro listed f i o v W ho hc hi hs hBs
    have nA : i ≠ ai := fun e => by rw [e, cA] at hc; cases hc
    have nM : i ≠ m := fun e => by rw [e, cM] at hc; cases hc
    simp only [getD_set (show i < listed.size by omega), if_neg (Ne.symm nA), if_neg (Ne.symm nM), hslot i o ai sa ho hda nA]
    split
    · rename_i h; rw [if_pos h] at hBs; exact hBs
    · rename_i h
      rw [if_neg h] at hBs
      split
      · rename_i h2; rw [if_pos h2] at hBs; exact hBs
      · rename_i h2
        rw [if_neg h2] at hBs
        refine ⟨?_, fun j hj hlj hcj h3 h4 => ?_⟩
        · refine hpre _ _ _ ?_ hBs.1
          cases hli : listed.getD i true with
          | false => exact Nat.le_of_lt (unl_set hs hi hli)
          | true =>
            have : listed.setIfInBounds i true = listed := by
              apply Array.ext
              · simp
              · intro k h1 h2
                rw [Array.getElem_setIfInBounds]
                split
                · rename_i e
                  subst e
                  unfold Array.getD at hli
                  rw [dif_pos h2] at hli
                  exact hli.symm
                · rfl
            rw [this]
            exact Nat.le_refl _
        · have hji : j ≠ i := fun e => by rw [e, hc] at hcj; cases hcj
          rw [if_neg hji] at hlj
          obtain ⟨s, h5, h6⟩ := hdst j hj h4
          rw [h6, hslot i o j s ho h5 (Ne.symm hji), ← h6]
          exact hBs.2 j hj hlj hcj h3 h4
  · intro listed f i o v W ho hc hs hli hcl hdep hBs hV
    refine hval listed f i o v W ho hc hdep ?_ hcl hli hV
    intro h2
    rw [if_neg (by rw [hma listed hcl h2]; exact Bool.false_ne_true), if_neg (by rw [h2]; exact Bool.false_ne_true)] at hBs
    exact ⟨_, hBs.1⟩
  · intro listed f i o W ho hc hi hs hli hcl hdep hBs hV
    have hset : ∀ j, (listed.setIfInBounds i true).getD j false = if j = i then true else listed.getD j false := fun j => getD_set (show i < listed.size by omega)
    have hlt : listed.getD i true = false := by rw [getD_eq (by omega) true false]; exact hli
    by_cases him : i = m
    · subst him
      obtain ⟨e1, he1, he2, he3⟩ := hda2 o ho
      have hal : listed.getD ai false = true := by rw [← he2]; exact hdep e1 he1 he3
      rw [if_neg (by rw [hli]; exact Bool.false_ne_true), if_pos hal] at hBs
      obtain ⟨hg, W', hr, hP⟩ := hM listed f o W ho hdep hBs hV
      have e : o.dst = none := by have := hdm; rw [ho] at this; exact this
      refine wpOp_mono ?_ (iv_skip (Bu := fun W => W = W') (Rl := fun _ => True) (Vi := fun _ _ => True) ho hg e W' hr rfl trivial trivial)
      rintro a'' w'' ⟨v', e1, rfl, _, _⟩
      refine ⟨v', e1, ?_, trivial, trivial⟩
      rw [hset, if_pos rfl, if_pos rfl]
      exact hP
    by_cases hia : i = ai
    · subst hia
      have hmm := hma listed hcl hli
      rw [if_neg (by rw [hmm]; exact Bool.false_ne_true), if_neg (by rw [hli]; exact Bool.false_ne_true)] at hBs
      obtain ⟨hg, hw⟩ := hA listed f o _ W ho hdep hBs.1 hV hBs.2
      refine wpOp_mono ?_ (iv_any (Bu := fun _ => True) (Rl := fun _ => True) (Vi := Mid) ho hg fun K hK => hw K fun v W' hm' => hK v W' trivial trivial hm')
      rintro a'' w'' ⟨v', e1, _, _, hmid⟩
      refine ⟨v', e1, ?_, trivial, trivial⟩
      have e : o.dst = some sa := by have := hda; rw [ho] at this; exact this
      rw [hset, hset, if_neg hne, if_pos rfl, if_neg (by rw [hmm]; exact Bool.false_ne_true), if_pos rfl, e, updD_at]
      exact hmid
    · have ha := hsp i listed hi hc him hcl hli
      have hmm := hma listed hcl ha
      rw [if_neg (by rw [hmm]; exact Bool.false_ne_true), if_neg (by rw [ha]; exact Bool.false_ne_true)] at hBs
      obtain ⟨u, hu⟩ : ∃ u, unl ops listed = u + 1 := ⟨unl ops listed - 1, by have := unl_set hs hi hlt; omega⟩
      rw [hu] at hBs
      refine wpOp_mono ?_ (hS listed f i o u W ho hc hia him hdep hBs.1 hV hBs.2)
      rintro a'' w'' ⟨v, e1, b1, b2, b3⟩
      refine ⟨v, e1, ?_, trivial, trivial⟩
      rw [hset, hset, if_neg (Ne.symm him), if_neg (Ne.symm hia), if_neg (by rw [hmm]; exact Bool.false_ne_true), if_neg (by rw [ha]; exact Bool.false_ne_true)]
      refine ⟨hpre u _ _ (by have := unl_set hs hi hlt; omega) b1, fun j hj hlj hcj h3 h4 => ?_⟩
      obtain ⟨s, h5, h6⟩ := hdst j hj h4
      by_cases hji : j = i
      · subst hji
        rw [ho] at h5
        rw [h6, show o.dst = some s from h5, updD_at]
        exact b3
      · rw [hset, if_neg hji] at hlj
        rw [h6, hslot i o j s ho h5 (Ne.symm hji), ← h6]
        exact hstab _ _ _ _ _ hBs.1 b2 (hBs.2 j hj hlj hcj h3 h4)
  · intro listed f W hall hBs hV
    rw [if_pos (hall m lM)] at hBs
    exact hend f W hBs hV
end
end Go.Proofs.YtjegfebolhjghaaGreatDoor
namespace Go.Proofs.YtjegfebolhjghaaGreatDoor
open Go.RowKit Go.Sort
/-- events: when, kind, feeder, reel, how many, board. -/
abbrev Fed := Int × Int × ByteArray × ByteArray × Int × ByteArray
end Go.Proofs.YtjegfebolhjghaaGreatDoor
namespace Go.Proofs.YtjegfebolhjghaaGreatDoor
open Go.RowKit Go.Sort
abbrev Lf := ByteArray → Int
def updL (left : Lf) (k : ByteArray) (n : Int) : Lf := fun x => if x = k then n else left x
theorem updL_at (left : Lf) (k : ByteArray) (n : Int) : updL left k n k = n := if_pos rfl
theorem updL_ne (left : Lf) {k x : ByteArray} (n : Int) (h : x ≠ k) : updL left k n x = left x := if_neg h
theorem updL_upd (left : Lf) (k : ByteArray) (n m : Int) : updL (updL left k n) k m = updL left k m := by
  funext x; unfold updL; by_cases h : x = k <;> simp [h]
/-- empty reels that others follow are taken out. -/
def dropE (left : Lf) : List ByteArray → List ByteArray
  | [] => []
  | [a] => [a]
  | a :: b :: l => if left a = 0 then dropE left (b :: l) else a :: b :: l
def addT : List (ByteArray × Int) → ByteArray → List (ByteArray × Int)
  | [], k => [(k, 1)]
  | (x, m) :: r, k => if x = k then (x, m + 1) :: r else (k, 1) :: (x, m) :: r
/-- one by one. -/
def takeO : Nat → Lf → List ByteArray → List (ByteArray × Int) → Lf × List ByteArray × List (ByteArray × Int)
  | 0, left, l, log => (left, dropE left l, log)
  | n + 1, left, l, log => match dropE left l with
    | [] => (left, [], log)
    | k :: r => takeO n (updL left k (left k - 1)) (k :: r) (addT log k)
/-- reel by reel, of a row that is cleared. -/
def takeP : Nat → Int → Lf → List ByteArray → List (ByteArray × Int) → Lf × List ByteArray × List (ByteArray × Int)
  | 0, _, left, l, log => (left, l, log)
  | fuel + 1, n, left, l, log => if n ≤ 0 then (left, l, log) else match l with
    | [] => (left, l, log)
    | k :: r => takeP fuel (n - min n (left k)) (updL left k (left k - min n (left k))) (dropE (updL left k (left k - min n (left k))) (k :: r)) ((k, min n (left k)) :: log)
def sumL (left : Lf) : List ByteArray → Int
  | [] => 0
  | k :: r => left k + sumL left r
theorem dropE_pos {left : Lf} {k : ByteArray} (r : List ByteArray) (h : left k ≠ 0) : dropE left (k :: r) = k :: r := by
  cases r with
  | nil => rfl
  | cons b l => show (if left k = 0 then _ else _) = _; rw [if_neg h]
theorem dropE_idem (left : Lf) : ∀ l : List ByteArray, dropE left (dropE left l) = dropE left l
  | [] => rfl
  | [a] => rfl
  | a :: b :: l => by
    by_cases h : left a = 0
    · have e : dropE left (a :: b :: l) = dropE left (b :: l) := by show (if left a = 0 then _ else _) = _; rw [if_pos h]
      rw [e]; exact dropE_idem left (b :: l)
    · have e := dropE_pos (b :: l) h
      rw [e, e]
theorem dropE_suffix (left : Lf) : ∀ l : List ByteArray, dropE left l <:+ l
  | [] => List.suffix_refl _
  | [a] => List.suffix_refl _
  | a :: b :: l => by
    by_cases h : left a = 0
    · have e : dropE left (a :: b :: l) = dropE left (b :: l) := by show (if left a = 0 then _ else _) = _; rw [if_pos h]
      rw [e]; exact (dropE_suffix left (b :: l)).trans (List.suffix_cons a _)
    · rw [dropE_pos (b :: l) h]; exact List.suffix_refl _
theorem dropE_sum (left : Lf) : ∀ l : List ByteArray, sumL left (dropE left l) = sumL left l
  | [] => rfl
  | [a] => rfl
  | a :: b :: l => by
    by_cases h : left a = 0
    · have e : dropE left (a :: b :: l) = dropE left (b :: l) := by show (if left a = 0 then _ else _) = _; rw [if_pos h]
      rw [e, dropE_sum left (b :: l)]
      show _ = left a + sumL left (b :: l)
      omega
    · rw [dropE_pos (b :: l) h]
theorem takeO_drop (n : Nat) (left : Lf) (l : List ByteArray) (log : List (ByteArray × Int)) : takeO n left (dropE left l) log = takeO n left l log := by
  cases n with
  | zero => show (left, dropE left (dropE left l), log) = _; rw [dropE_idem]; rfl
  | succ n => rw [takeO, takeO, dropE_idem]
theorem takeO_run (k : ByteArray) (r : List ByteArray) (log : List (ByteArray × Int)) (m : Nat) : ∀ (t : Nat) (left : Lf) (a : Int), (t : Int) ≤ left k → takeO (t + m) left (k :: r) ((k, a) :: log) = takeO m (updL left k (left k - t)) (k :: r) ((k, a + t) :: log)
  | 0, left, a, _ => by
    have e : updL left k (left k - (0 : Nat)) = left := by
      funext x; unfold updL; by_cases h : x = k
      · rw [if_pos h, h]; simp
      · rw [if_neg h]
    rw [e, Nat.zero_add]
    simp
  | t + 1, left, a, h => by
    have hk : left k ≠ 0 := by omega
    rw [show t + 1 + m = (t + m) + 1 by omega, takeO, dropE_pos r hk]
    show takeO (t + m) (updL left k (left k - 1)) (k :: r) (if k = k then (k, a + 1) :: log else _) = _
    rw [if_pos rfl, takeO_run k r log m t (updL left k (left k - 1)) (a + 1) (by rw [updL_at]; omega), updL_upd, updL_at]
    have e1 : left k - 1 - (t : Int) = left k - ((t + 1 : Nat) : Int) := by omega
    have e2 : a + 1 + (t : Int) = a + ((t + 1 : Nat) : Int) := by omega
    rw [e1, e2]
theorem takeO_first (k : ByteArray) (r : List ByteArray) (log : List (ByteArray × Int)) (m t : Nat) (left : Lf) (h : ((t + 1 : Nat) : Int) ≤ left k) (hl : ∀ x, log.head? = some x → x.1 ≠ k) :
    takeO (t + 1 + m) left (k :: r) log = takeO m (updL left k (left k - (t + 1 : Nat))) (k :: r) ((k, ((t + 1 : Nat) : Int)) :: log) := by
  have hk : left k ≠ 0 := by omega
  have ha : addT log k = (k, 1) :: log := by
    cases log with
    | nil => rfl
    | cons x r => obtain ⟨y, c⟩ := x; show (if y = k then _ else _) = _; rw [if_neg (hl (y, c) rfl)]
  rw [show t + 1 + m = (t + m) + 1 by omega, takeO, dropE_pos r hk]
  show takeO (t + m) (updL left k (left k - 1)) (k :: r) (addT log k) = _
  rw [ha, takeO_run k r log m t _ 1 (by rw [updL_at]; omega), updL_upd, updL_at]
  have e1 : left k - 1 - (t : Int) = left k - ((t + 1 : Nat) : Int) := by omega
  have e2 : (1 : Int) + (t : Int) = ((t + 1 : Nat) : Int) := by omega
  rw [e1, e2]
theorem sumL_upd (left : Lf) (k : ByteArray) (n : Int) : ∀ l : List ByteArray, k ∉ l → sumL (updL left k n) l = sumL left l
  | [], _ => rfl
  | x :: r, h => by
    have hx : x ≠ k := fun e => h (by rw [e]; exact List.mem_cons_self ..)
    show updL left k n x + sumL (updL left k n) r = left x + sumL left r
    rw [updL_ne left n hx, sumL_upd left k n r (fun hm => h (List.mem_cons_of_mem _ hm))]
/-- both ways to take leave the same. -/
theorem takeO_P : ∀ (N n : Nat) (fuel : Nat) (left : Lf) (l : List ByteArray) (log : List (ByteArray × Int)), n ≤ N → n ≤ fuel → dropE left l = l → (n : Int) ≤ sumL left l → (∀ x ∈ l, 0 ≤ left x) → l.Nodup → (n = 0 ∨ ∀ x, log.head? = some x → x.1 ∉ l) →
    takeO n left l log = takeP fuel n left l log
  | _, 0, fuel, left, l, log, _, _, hd, _, _, _, _ => by
    show (left, dropE left l, log) = _
    rw [hd]
    cases fuel with
    | zero => rfl
    | succ f => rw [takeP.eq_def]; exact (if_pos (by omega : ((0 : Nat) : Int) ≤ 0)).symm
  | 0, n + 1, _, _, _, _, h, _, _, _, _, _, _ => by omega
  | N + 1, n + 1, 0, _, _, _, _, h, _, _, _, _, _ => by omega
  | N + 1, n + 1, fuel + 1, left, l, log, hN, hf, hd, hs, h0, hnd, hlog => by
    have hlog' : ∀ x, log.head? = some x → x.1 ∉ l := by
      rcases hlog with h | h
      · omega
      · exact h
    cases l with
    | nil => simp only [sumL] at hs; omega
    | cons k r =>
      have hk0 := h0 k (List.mem_cons_self ..)
      have hkr : k ∉ r := (List.nodup_cons.1 hnd).1
      have hkp : 0 < left k := by
        cases r with
        | nil => simp only [sumL] at hs; omega
        | cons b t =>
          by_cases hz : left k = 0
          · have e : dropE left (k :: b :: t) = dropE left (b :: t) := by show (if left k = 0 then _ else _) = _; rw [if_pos hz]
            rw [e] at hd
            have hl := (dropE_suffix left (b :: t)).length_le
            rw [hd] at hl
            simp at hl
            omega
          · omega
      rw [takeP, if_neg (by omega)]
      show _ = takeP fuel _ _ _ _
      obtain ⟨t, ht⟩ : ∃ t : Nat, ((t + 1 : Nat) : Int) = min ((n + 1 : Nat) : Int) (left k) := ⟨(min ((n + 1 : Nat) : Int) (left k)).toNat - 1, by omega⟩
      rw [← ht]
      obtain ⟨m, hm⟩ : ∃ m, n + 1 = t + 1 + m := ⟨n + 1 - (t + 1), by omega⟩
      rw [hm, takeO_first k r log m t left (by omega) (fun x hx e => hlog' x hx (by rw [e]; exact List.mem_cons_self ..)), ← takeO_drop]
      have e3 : ((t + 1 + m : Nat) : Int) - ((t + 1 : Nat) : Int) = (m : Int) := by omega
      rw [e3]
      have hsum : sumL (updL left k (left k - ((t + 1 : Nat) : Int))) (k :: r) = sumL left (k :: r) - ((t + 1 : Nat) : Int) := by
        show updL left k _ k + sumL (updL left k _) r = left k + sumL left r - _
        rw [updL_at, sumL_upd left k _ r hkr]; omega
      have hsf := dropE_suffix (updL left k (left k - ((t + 1 : Nat) : Int))) (k :: r)
      refine takeO_P N m fuel _ _ _ (by omega) (by omega) (dropE_idem _ _) (by rw [dropE_sum, hsum]; omega) ?_ (hnd.sublist hsf.sublist) ?_
      · intro x hx
        have hx' := hsf.subset hx
        by_cases he : x = k
        · rw [he, updL_at]; omega
        · rw [updL_ne left _ he]; exact h0 x hx'
      · by_cases hm0 : m = 0
        · exact .inl hm0
        · refine .inr fun x hx => ?_
          simp only [List.head?_cons, Option.some.injEq] at hx
          subst hx
          have htk : ((t + 1 : Nat) : Int) = left k := by omega
          intro hmem
          cases r with
          | nil => simp only [sumL] at hs; omega
          | cons b u =>
            have e : dropE (updL left k (left k - ((t + 1 : Nat) : Int))) (k :: b :: u) = dropE (updL left k (left k - ((t + 1 : Nat) : Int))) (b :: u) := by
              show (if updL left k _ k = 0 then _ else _) = _
              rw [updL_at, if_pos (by omega)]
            rw [e] at hmem
            exact hkr ((dropE_suffix _ _).subset hmem)
end Go.Proofs.YtjegfebolhjghaaGreatDoor
namespace Go.Proofs.YtjegfebolhjghaaGreatDoor
open Go.RowKit Go.Sort Go.Maps
def rintE : Value → Option (DataW Unit × List MemPlace)
  | .int .i64 n => some (.lit (.int .i64 n), [])
  | _ => none
/-- numbers, by names. -/
def TMi : Mty Int := { t := 88, e := 3, V := .int .i64, d := fun n => .lit (.int .i64 n), R := rintE, z := 0 }
theorem TMi.ok : TMi.Ok := ⟨Tryz.underlying88, fun w => by kernel_rfl, fun _ => rfl, fun v a ps h => by
  unfold TMi rintE at h
  simp only at h
  split at h
  · simp at h; obtain ⟨h, _⟩ := h; subst h; rfl
  · cases h⟩
/-- a row's header: where it begins (none: nowhere), how long it is, how far it may grow. -/
abbrev Hdr := Option (Nat × Nat) × Nat × Nat
def hdrV (h : Hdr) : Value := .slice (h.1.map fun p => ⟨p.1, p.2, none⟩) h.2.1 h.2.2
def hdrE : Value → Option (DataW Unit × List MemPlace)
  | .slice none n c => some (.agg [.nil, .lit (.int .i64 n), .lit (.int .i64 c)], [])
  | .slice (some ⟨b, o, none⟩) n c => some (.agg [.lit (.int .i64 b), .lit (.int .i64 o), .lit (.int .i64 n), .lit (.int .i64 c)], [])
  | _ => none
def hdrD (h : Hdr) : DataW Unit := match h.1 with
  | none => .agg [.nil, .lit (.int .i64 h.2.1), .lit (.int .i64 h.2.2)]
  | some p => .agg [.lit (.int .i64 p.1), .lit (.int .i64 p.2), .lit (.int .i64 h.2.1), .lit (.int .i64 h.2.2)]
theorem hdr_rd (h : Hdr) : hdrE (hdrV h) = some (hdrD h, []) := by
  obtain ⟨a, n, c⟩ := h
  cases a <;> rfl
theorem hdr_inv {v : Value} {a : Hdr} {ps : List MemPlace} (h : hdrE v = some (hdrD a, ps)) : v = hdrV a := by
  obtain ⟨a, n, c⟩ := a
  unfold hdrE at h
  split at h
  · cases a with
    | none =>
      simp only [hdrD, Option.some.injEq, Prod.mk.injEq, DataW.agg.injEq, List.cons.injEq, DataW.lit.injEq, Lit.int.injEq, true_and, and_true] at h
      obtain ⟨⟨h1, h2⟩, _⟩ := h
      rw [show _ = n from Int.ofNat.inj h1, show _ = c from Int.ofNat.inj h2]; rfl
    | some p => simp [hdrD] at h
  · cases a with
    | none => simp [hdrD] at h
    | some p =>
      simp only [hdrD, Option.some.injEq, Prod.mk.injEq, DataW.agg.injEq, List.cons.injEq, DataW.lit.injEq, Lit.int.injEq, true_and, and_true] at h
      obtain ⟨⟨h1, h2, h3, h4⟩, _⟩ := h
      obtain ⟨b, o⟩ := p
      rw [show _ = b from Int.ofNat.inj h1, show _ = o from Int.ofNat.inj h2, show _ = n from Int.ofNat.inj h3, show _ = c from Int.ofNat.inj h4]; rfl
  · cases h
/-- rows of strings, by names; rows of origins. -/
def TMh : Mty Hdr := { t := 86, e := 35, V := hdrV, d := hdrD, R := hdrE, z := (none, 0, 0) }
theorem TMh.ok : TMh.Ok := ⟨Tryz.underlying86, fun w => by kernel_rfl, hdr_rd, fun _ _ _ h => hdr_inv h⟩
end Go.Proofs.YtjegfebolhjghaaGreatDoor
