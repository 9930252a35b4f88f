/- Plain facts on shortest tours: the table over sets and the search through all orders come to one order. No program. -/
import Derived.Test.YtbkglhakhahfpaaGreatDoorNear2
namespace Go.Proofs.YtbkglhakhahfpaaGreatDoor

/-- a set without an element. -/
def clr (s k : Nat) : Nat := s &&& (18446744073709551615 - 2 ^ k)
theorem mask_bit (k i : Nat) (hk : k < 64) : (18446744073709551615 - 2 ^ k).testBit i = (decide (i < 64) && !decide (i = k)) := by
  have h : 18446744073709551615 - 2 ^ k = (2 ^ 64 - 1) ^^^ (2 ^ k) := by
    apply Nat.eq_of_testBit_eq
    intro j
    have h1 : 2 ^ k < 2 ^ 64 := Nat.pow_lt_pow_right (by omega) hk
    rw [show 18446744073709551615 - 2 ^ k = 2 ^ 64 - (2 ^ k + 1) by omega, Nat.testBit_two_pow_sub_succ h1, Nat.testBit_xor, Nat.testBit_two_pow_sub_one, Nat.testBit_two_pow]
    by_cases hj : j < 64 <;> by_cases hjk : k = j <;> simp [hj, hjk]
    omega
  rw [h, Nat.testBit_xor, Nat.testBit_two_pow_sub_one, Nat.testBit_two_pow]
  by_cases hj : i < 64 <;> by_cases hjk : k = i <;> simp [hj, hjk]
  · intro h; exact hjk h.symm
  · omega
theorem clr_bit {s k i : Nat} (hs : s < 2 ^ 64) (hk : k < 64) : (clr s k).testBit i = (s.testBit i && !decide (i = k)) := by
  unfold clr
  rw [Nat.testBit_and, mask_bit k i hk]
  by_cases hi : i < 64
  · simp [hi]
  · have : s.testBit i = false := Nat.testBit_lt_two_pow (Nat.lt_of_lt_of_le hs (Nat.pow_le_pow_right (by omega) (by omega)))
    simp [this]
theorem clr_lt {s k : Nat} (hs : s < 2 ^ 64) (hk : k < 64) (hb : s.testBit k = true) : clr s k < s := by
  have h1 : clr s k ≤ s := Nat.and_le_left
  have h2 : clr s k ≠ s := by
    intro h
    have := clr_bit (i := k) hs hk
    rw [h, hb] at this
    simp at this
  omega

/-- a set of numbers below n. -/
def Sub (n s : Nat) : Prop := ∀ i, s.testBit i = true → i < n
theorem Sub.clr {n s k : Nat} (h : Sub n s) : Sub n (clr s k) := by
  intro i hi
  unfold Proofs.YtbkglhakhahfpaaGreatDoor.clr at hi
  rw [Nat.testBit_and] at hi
  exact h i (by simp at hi; exact hi.1)

theorem nodup_le : ∀ (n : Nat) (o : List Nat), o.Nodup → (∀ k ∈ o, k < n) → o.length ≤ n
  | 0, o, _, h => by
    cases o with
    | nil => simp
    | cons a o => have := h a (by simp); omega
  | n + 1, o, hnd, h => by
    by_cases hn : n ∈ o
    · have ih := nodup_le n (o.erase n) (hnd.erase n) (fun k hk => by
        have h1 := (hnd.mem_erase_iff).1 hk
        have := h k h1.2
        have := h1.1
        omega)
      rw [List.length_erase_of_mem hn] at ih
      omega
    · have := nodup_le n o hnd (fun k hk => by
        have := h k hk
        have : k ≠ n := by rintro rfl; exact hn hk
        omega)
      omega
theorem pigeon_nodup : ∀ (o : List Nat) (n : Nat), o.Nodup → (∀ k ∈ o, k < n) → n ≤ o.length → ∀ i, i < n → i ∈ o := by
  intro o n hnd hlt hle i hi
  apply Classical.byContradiction
  intro hio
  have h1 : (i :: o).Nodup := List.nodup_cons.2 ⟨hio, hnd⟩
  have h2 : ∀ k ∈ i :: o, k < n := by
    intro k hk
    rcases List.mem_cons.1 hk with rfl | h
    · exact hi
    · exact hlt k h
  have h3 := nodup_le n (i :: o) h1 h2
  simp at h3; omega

section
variable (st : Pt) (P : List Pt)

/-- the least of the first k points of a set to which a shortest way leads, by a table of ways; and how long this is. -/
def scanTo (T : Nat → Nat → Int) (a : Pt) (set : Nat) : Nat → Int × Int
  | 0 => (-1, 0)
  | k + 1 =>
    if set.testBit k then
      (if (scanTo T a set k).1 < 0 ∨ dist a (pt P k) + T k (clr set k) < (scanTo T a set k).2 then ((k : Int), dist a (pt P k) + T k (clr set k)) else scanTo T a set k)
    else scanTo T a set k
/-- the table, right for the sets below m. -/
def tab : Nat → Nat → Nat → Int
  | 0 => fun _ _ => 0
  | m + 1 => fun k set => if set = m then (if m = 0 then dist (pt P k) st else (scanTo P (tab m) (pt P k) m P.length).2) else tab m k set
/-- how long the way is from point k through all of a set and back. -/
def W (k set : Nat) : Int := tab st P (set + 1) k set
def nextW (a : Pt) (set : Nat) : Int × Int := scanTo P (W st P) a set P.length
def V (a : Pt) (set : Nat) : Int := if set = 0 then dist a st else (nextW st P a set).2

theorem tab_stable (k set : Nat) : ∀ m, set < m → tab st P m k set = W st P k set
  | 0, h => by omega
  | m + 1, h => by
    by_cases hs : set = m
    · subst hs; rfl
    · have : tab st P (m + 1) k set = tab st P m k set := by simp only [tab]; rw [if_neg hs]
      rw [this]
      exact tab_stable k set m (by omega)
theorem scan_congr {T T' : Nat → Nat → Int} (a : Pt) (set : Nat) : ∀ k, (∀ j, j < k → set.testBit j = true → T j (clr set j) = T' j (clr set j)) → scanTo P T a set k = scanTo P T' a set k
  | 0, _ => rfl
  | k + 1, h => by
    have ih := scan_congr a set k (fun j hj hb => h j (by omega) hb)
    simp only [scanTo]
    by_cases hb : set.testBit k = true
    · rw [if_pos hb, if_pos hb, ih, h k (by omega) hb]
    · rw [if_neg hb, if_neg hb, ih]
theorem W_eq (k set : Nat) (hs : set < 2 ^ 64) (hn : P.length ≤ 64) : W st P k set = V st P (pt P k) set := by
  unfold W V nextW
  show tab st P (set + 1) k set = _
  simp only [tab]
  rw [if_pos trivial]
  by_cases h0 : set = 0
  · rw [if_pos h0, if_pos h0]
  · rw [if_neg h0, if_neg h0]
    rw [scan_congr P (pt P k) set P.length (fun j hj hb => tab_stable st P j (clr set j) set (clr_lt hs (by omega) hb))]

theorem scan_ok (T : Nat → Nat → Int) (a : Pt) (set : Nat) : ∀ k, (-1 ≤ (scanTo P T a set k).1 ∧ (scanTo P T a set k).1 < k) ∧ (0 ≤ (scanTo P T a set k).1 → set.testBit (scanTo P T a set k).1.toNat = true ∧ (scanTo P T a set k).2 = dist a (pt P (scanTo P T a set k).1.toNat) + T (scanTo P T a set k).1.toNat (clr set (scanTo P T a set k).1.toNat)) ∧
    ((scanTo P T a set k).1 < 0 → scanTo P T a set k = (-1, 0) ∧ ∀ j, j < k → set.testBit j = false)
  | 0 => ⟨by simp [scanTo], by simp [scanTo], fun _ => ⟨rfl, fun j h => by omega⟩⟩
  | k + 1 => by
    obtain ⟨h1, h2, h3⟩ := scan_ok T a set k
    simp only [scanTo]
    by_cases hb : set.testBit k = true
    · rw [if_pos hb]
      by_cases hc : (scanTo P T a set k).1 < 0 ∨ dist a (pt P k) + T k (clr set k) < (scanTo P T a set k).2
      · rw [if_pos hc]
        refine ⟨by simp only; omega, fun _ => by simp only [Int.toNat_natCast]; exact ⟨hb, trivial⟩, fun h => by simp only at h; omega⟩
      · rw [if_neg hc]
        refine ⟨by omega, h2, fun h => absurd (.inl h) hc⟩
    · rw [if_neg hb]
      refine ⟨by omega, h2, fun h => ⟨(h3 h).1, fun j hj => ?_⟩⟩
      by_cases hjk : j < k
      · exact (h3 h).2 j hjk
      · obtain rfl : j = k := by omega
        simpa using hb

theorem W_bd (hst : Bd st) (hP : ∀ p ∈ P, Bd p) (hn : P.length ≤ 64) : ∀ (N set : Nat), set < N → N ≤ 2 ^ 64 → Sub P.length set → ∀ k, k < P.length → 0 ≤ W st P k set ∧ W st P k set ≤ ((set : Int) + 1) * 8796093022208 ∧ dist (pt P k) st ≤ W st P k set
  | 0, set, h, _, _, k, hk => by omega
  | N + 1, set, h, hN, hsub, k, hk => by
    rw [W_eq st P k set (by omega) hn]
    have hpk : Bd (pt P k) := hP _ (getD_mem hk)
    unfold V
    by_cases h0 : set = 0
    · rw [if_pos h0]
      have := dist_bd hpk hst
      subst h0
      omega
    · rw [if_neg h0]
      obtain ⟨g1, g2, g3⟩ := scan_ok P (W st P) (pt P k) set P.length
      unfold nextW
      by_cases hp : 0 ≤ (scanTo P (W st P) (pt P k) set P.length).1
      · obtain ⟨e1, e2⟩ := g2 hp
        generalize hj : (scanTo P (W st P) (pt P k) set P.length).1.toNat = j at *
        have hjn : j < P.length := by omega
        have hlt := clr_lt (s := set) (k := j) (by omega) (by omega) e1
        obtain ⟨b1, b2, b3⟩ := W_bd hst hP hn N (clr set j) (by omega) (by omega) hsub.clr j hjn
        have hd := dist_bd hpk (hP _ (getD_mem hjn))
        have ht := dist_tri (pt P k) (pt P j) st
        rw [e2]
        have hc : ((clr set j : Nat) : Int) + 1 ≤ (set : Int) := by omega
        have hd' : dist (pt P k) (pt P j) ≤ 8796093022208 := hd.2
        have hd0 : 0 ≤ dist (pt P k) (pt P j) := hd.1
        refine ⟨by omega, by omega, by omega⟩
      · obtain ⟨e1, e2⟩ := g3 (by omega)
        obtain ⟨i, hi⟩ := Nat.exists_testBit_of_ne_zero h0
        have := e2 i (hsub i hi)
        rw [hi] at this; cases this

theorem V_bd (hst : Bd st) (hP : ∀ p ∈ P, Bd p) (hn : P.length ≤ 16) {set : Nat} (hsub : Sub P.length set) {a : Pt} (ha : Bd a) : 0 ≤ V st P a set ∧ dist a st ≤ V st P a set ∧ (set ≠ 0 → ∃ k : Nat, (nextW st P a set).1 = k ∧ set.testBit k = true ∧ V st P a set = dist a (pt P k) + W st P k (clr set k)) := by
  have hs : set < 2 ^ 16 := Nat.lt_pow_two_of_testBit _ (fun i hi => by
    cases h : set.testBit i with
    | false => rfl
    | true => have := hsub i h; omega)
  unfold V
  by_cases h0 : set = 0
  · rw [if_pos h0]
    exact ⟨dist_nonneg _ _, Int.le_refl _, fun h => absurd h0 h⟩
  · rw [if_neg h0]
    obtain ⟨g1, g2, g3⟩ := scan_ok P (W st P) a set P.length
    unfold nextW
    by_cases hp : 0 ≤ (scanTo P (W st P) a set P.length).1
    · obtain ⟨e1, e2⟩ := g2 hp
      have hk : (scanTo P (W st P) a set P.length).1 = ((scanTo P (W st P) a set P.length).1.toNat : Int) := by omega
      generalize (scanTo P (W st P) a set P.length).1.toNat = j at *
      have hjn := hsub j e1
      have hlt := clr_lt (s := set) (k := j) (by omega) (by omega) e1
      obtain ⟨b1, b2, b3⟩ := W_bd st P hst hP (by omega) (2 ^ 16) (clr set j) (by omega) (by omega) hsub.clr j hjn
      have ht := dist_tri a (pt P j) st
      have hd := dist_nonneg a (pt P j)
      rw [e2]
      exact ⟨by omega, by omega, fun _ => ⟨j, hk, e1, rfl⟩⟩
    · obtain ⟨e1, e2⟩ := g3 (by omega)
      obtain ⟨i, hi⟩ := Nat.exists_testBit_of_ne_zero h0
      have := e2 i (hsub i hi)
      rw [hi] at this; cases this

/-- the order that the table gives: f points at most. -/
def tlist : Nat → Pt → Nat → List Nat
  | 0, _, _ => []
  | f + 1, a, set => if set = 0 then [] else (nextW st P a set).1.toNat :: tlist f (pt P (nextW st P a set).1.toNat) (clr set (nextW st P a set).1.toNat)

/-- the search through all orders: behind an order, at a point, with a sum; the best one till now. -/
def dfs : Nat → List Nat → Pt → Int → List Nat × Int → List Nat × Int
  | 0, o, a, s, acc => if 0 ≤ acc.2 ∧ acc.2 ≤ s + dist a st then acc else (o, s + dist a st)
  | f + 1, o, a, s, acc => if 0 ≤ acc.2 ∧ acc.2 ≤ s + dist a st then acc else
      (List.range P.length).foldl (fun acc (k : Nat) => if memB (k : Int) (nats o) then acc else dfs f (o ++ [k]) (pt P k) (s + dist a (pt P k)) acc) acc

/-- the set of what an order leaves. -/
def Rest (n : Nat) (o : List Nat) (set : Nat) : Prop := ∀ i, set.testBit i = true ↔ i < n ∧ i ∉ o
theorem Rest.sub {n : Nat} {o : List Nat} {set : Nat} (h : Rest n o set) : Sub n set := fun i hi => ((h i).1 hi).1
theorem sub_lt {n set : Nat} (h : Sub n set) (hn : n ≤ 16) : set < 2 ^ 64 := by
  have : set < 2 ^ 16 := Nat.lt_pow_two_of_testBit _ (fun i hi => by
    cases hb : set.testBit i with
    | false => rfl
    | true => have := h i hb; omega)
  omega
theorem Rest.snoc {n : Nat} {o : List Nat} {set k : Nat} (h : Rest n o set) (hn : n ≤ 16) (hk : k < n) : Rest n (o ++ [k]) (clr set k) := by
  intro i
  rw [clr_bit (sub_lt h.sub hn) (by omega)]
  simp only [Bool.and_eq_true, Bool.not_eq_true', decide_eq_false_iff_not, h i, List.mem_append, List.mem_singleton, not_or]
  exact ⟨fun ⟨⟨a, b⟩, c⟩ => ⟨a, b, c⟩, fun ⟨a, b, c⟩ => ⟨⟨a, b⟩, c⟩⟩

theorem dfs_eq (hst : Bd st) (hP : ∀ p ∈ P, Bd p) (hn : P.length ≤ 16) : ∀ (f : Nat) (o : List Nat) (set : Nat) (a : Pt) (s : Int) (acc : List Nat × Int), o.length + f = P.length → o.Nodup → (∀ k ∈ o, k < P.length) → Rest P.length o set → Bd a → 0 ≤ s →
    dfs st P f o a s acc = if acc.2 < 0 ∨ s + V st P a set < acc.2 then (o ++ tlist st P f a set, s + V st P a set) else acc
  | 0, o, set, a, s, acc, hl, hnd, hlt, hr, ha, hs => by
    have h0 : set = 0 := by
      apply Classical.byContradiction
      intro h
      obtain ⟨i, hi⟩ := Nat.exists_testBit_of_ne_zero h
      obtain ⟨h1, h2⟩ := (hr i).1 hi
      have := pigeon_nodup o P.length hnd hlt (by omega) i h1
      exact h2 this
    have hV : V st P a set = dist a st := by unfold V; rw [if_pos h0]
    simp only [dfs, tlist, List.append_nil]
    rw [hV]
    by_cases hc : 0 ≤ acc.2 ∧ acc.2 ≤ s + dist a st
    · rw [if_pos hc, if_neg (by omega)]
    · rw [if_neg hc, if_pos (by omega)]
  | f + 1, o, set, a, s, acc, hl, hnd, hlt, hr, ha, hs => by
    obtain ⟨v1, v2, v3⟩ := V_bd st P hst hP hn hr.sub ha
    simp only [dfs]
    by_cases hc : 0 ≤ acc.2 ∧ acc.2 ≤ s + dist a st
    · rw [if_pos hc, if_neg (by omega)]
    · rw [if_neg hc]
      have hne : set ≠ 0 := by
        intro h0
        have hall : ∀ k, k < P.length → k ∈ o := by
          intro k hk
          apply Classical.byContradiction
          intro hko
          have := (hr k).2 ⟨hk, hko⟩
          rw [h0] at this; simp at this
        have := pigeon P.length o hall
        omega
      have key : ∀ m, m ≤ P.length → (List.range m).foldl (fun acc (k : Nat) => if memB (k : Int) (nats o) then acc else dfs st P f (o ++ [k]) (pt P k) (s + dist a (pt P k)) acc) acc =
          if (scanTo P (W st P) a set m).1 < 0 then acc else if acc.2 < 0 ∨ s + (scanTo P (W st P) a set m).2 < acc.2 then (o ++ (scanTo P (W st P) a set m).1.toNat :: tlist st P f (pt P (scanTo P (W st P) a set m).1.toNat) (clr set (scanTo P (W st P) a set m).1.toNat), s + (scanTo P (W st P) a set m).2) else acc := by
        intro m
        induction m with
        | zero => intro _; simp [scanTo]
        | succ m ih =>
          intro hm
          rw [List.range_succ, List.foldl_append, ih (by omega)]
          simp only [List.foldl_cons, List.foldl_nil]
          obtain ⟨g1, g2, g3⟩ := scan_ok P (W st P) a set m
          by_cases hb : set.testBit m = true
          · obtain ⟨hmn, hmo⟩ := (hr m).1 hb
            have hmem : memB m (nats o) = false := memB_nats.2 hmo
            rw [hmem]
            simp only [Bool.false_eq_true, if_false]
            have hpm : Bd (pt P m) := hP _ (getD_mem hmn)
            have hd := dist_nonneg a (pt P m)
            have hV : V st P (pt P m) (clr set m) = W st P m (clr set m) := (W_eq st P m (clr set m) (sub_lt hr.sub.clr hn) (by omega)).symm
            have hW := (V_bd st P hst hP hn (set := clr set m) hr.sub.clr hpm).1
            rw [hV] at hW
            rw [dfs_eq hst hP hn f (o ++ [m]) (clr set m) (pt P m) (s + dist a (pt P m)) _ (by simp; omega) (by rw [List.nodup_append]; exact ⟨hnd, by simp, fun x hx y hy => by rw [List.mem_singleton.1 hy]; rintro rfl; exact hmo hx⟩)
              (by intro k hk; rcases List.mem_append.1 hk with h | h; exact hlt k h; rw [List.mem_singleton.1 h]; exact hmn) (hr.snoc hn hmn) hpm (by omega), hV]
            have hlong : 0 ≤ (scanTo P (W st P) a set m).1 → 0 ≤ (scanTo P (W st P) a set m).2 := by
              intro h
              obtain ⟨e1, e2⟩ := g2 h
              rw [e2]
              have hj := hr.sub _ e1
              have hpj : Bd (pt P (scanTo P (W st P) a set m).1.toNat) := hP _ (getD_mem hj)
              have := dist_nonneg a (pt P (scanTo P (W st P) a set m).1.toNat)
              have h3 := (V_bd st P hst hP hn (set := clr set (scanTo P (W st P) a set m).1.toNat) hr.sub.clr hpj).1
              rw [← W_eq st P _ _ (sub_lt hr.sub.clr hn) (by omega)] at h3
              omega
            have hunf : scanTo P (W st P) a set (m + 1) = if (scanTo P (W st P) a set m).1 < 0 ∨ dist a (pt P m) + W st P m (clr set m) < (scanTo P (W st P) a set m).2 then ((m : Int), dist a (pt P m) + W st P m (clr set m)) else scanTo P (W st P) a set m := by
              simp only [scanTo]; rw [if_pos hb]
            rw [hunf]
            generalize scanTo P (W st P) a set m = r at *
            obtain ⟨p, long⟩ := r
            simp only at *
            generalize hv : dist a (pt P m) + W st P m (clr set m) = v at *
            have hsv : s + dist a (pt P m) + W st P m (clr set m) = s + v := by omega
            rw [hsv]
            by_cases hp : p < 0
            · have hX : (if p < 0 ∨ v < long then ((m : Int), v) else (p, long)) = ((m : Int), v) := if_pos (.inl hp)
              rw [hX, if_pos hp]
              simp only [List.append_assoc, List.singleton_append, Int.toNat_natCast]
              rw [if_neg (show ¬ (m : Int) < 0 by omega)]
            · rw [if_neg hp]
              have hl0 := hlong (by omega)
              by_cases hvl : v < long
              · have hX : (if p < 0 ∨ v < long then ((m : Int), v) else (p, long)) = ((m : Int), v) := if_pos (.inr hvl)
                rw [hX]
                simp only [Int.toNat_natCast]
                rw [if_neg (show ¬ (m : Int) < 0 by omega)]
                by_cases hacc : acc.2 < 0 ∨ s + long < acc.2
                · rw [if_pos hacc]
                  simp only
                  rw [if_pos (by omega), if_pos (by omega)]
                  simp
                · rw [if_neg hacc]
                  by_cases hacc2 : s + v < acc.2
                  · rw [if_pos (.inr hacc2), if_pos (.inr hacc2)]; simp
                  · rw [if_neg (by omega), if_neg (by omega)]
              · have hX : (if p < 0 ∨ v < long then ((m : Int), v) else (p, long)) = (p, long) := if_neg (by omega)
                rw [hX]
                simp only
                rw [if_neg hp]
                by_cases hacc : acc.2 < 0 ∨ s + long < acc.2
                · rw [if_pos hacc]
                  simp only
                  rw [if_neg (by omega)]
                · rw [if_neg hacc, if_neg (by omega)]
          · have hunf : scanTo P (W st P) a set (m + 1) = scanTo P (W st P) a set m := by simp only [scanTo]; rw [if_neg hb]
            rw [hunf]
            have hmem : memB m (nats o) = true := by
              cases hh : memB m (nats o) with
              | true => rfl
              | false => exact absurd ((hr m).2 ⟨by omega, memB_nats.1 hh⟩) hb
            rw [hmem]; simp
      rw [key P.length (Nat.le_refl _)]
      obtain ⟨k, hk1, hk2, hk3⟩ := v3 hne
      have hVn : V st P a set = (scanTo P (W st P) a set P.length).2 := by unfold V nextW; rw [if_neg hne]
      unfold nextW at hk1
      rw [if_neg (by omega), hVn]
      have ht : tlist st P (f + 1) a set = (scanTo P (W st P) a set P.length).1.toNat :: tlist st P f (pt P (scanTo P (W st P) a set P.length).1.toNat) (clr set (scanTo P (W st P) a set P.length).1.toNat) := by
        simp only [tlist, nextW]; rw [if_neg hne]
      rw [ht]
end
end Go.Proofs.YtbkglhakhahfpaaGreatDoor
