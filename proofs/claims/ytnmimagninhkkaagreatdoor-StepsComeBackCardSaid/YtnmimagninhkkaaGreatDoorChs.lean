/- Plain law of ChosenAreInTime: sets of works by their bits; the best one of the first sets. No program. -/
import Derived.Test.YtnmimagninhkkaaGreatDoorRec
namespace Go.Proofs.YtnmimagninhkkaaGreatDoor

abbrev Wk := ByteArray × Int × Int
def wkM (ws : List Wk) (i : Nat) : Int := ((ws[i]?).map fun x => x.2.1).getD 0
def wkV (ws : List Wk) (i : Nat) : Int := ((ws[i]?).map fun x => x.2.2).getD 0
def sumO (f : Nat → Int) (l : List Nat) : Int := l.foldl (fun a i => a + f i) 0
theorem sumO_snoc (f : Nat → Int) (l : List Nat) (i : Nat) : sumO f (l ++ [i]) = sumO f l + f i := by unfold sumO; rw [List.foldl_append]; rfl
/-- the members of a set below n. -/
def setL (s : Nat) : Nat → List Nat
  | 0 => []
  | n + 1 => if s.testBit n = true then setL s n ++ [n] else setL s n
theorem setL_lt (s : Nat) : ∀ n, ∀ i ∈ setL s n, i < n
  | 0, i, h => by simp [setL] at h
  | n + 1, i, h => by
    unfold setL at h
    split at h
    · rcases List.mem_append.1 h with h | h
      · have := setL_lt s n i h; omega
      · simp at h; omega
    · have := setL_lt s n i h; omega
theorem setL_asc (s : Nat) : ∀ n, (setL s n).Pairwise (· < ·)
  | 0 => List.Pairwise.nil
  | n + 1 => by
    unfold setL
    split
    · rw [List.pairwise_append]
      exact ⟨setL_asc s n, by simp, fun a ha b hb => by simp at hb; have := setL_lt s n a ha; omega⟩
    · exact setL_asc s n
theorem setL_len (s : Nat) : ∀ n, (setL s n).length ≤ n
  | 0 => Nat.le_refl _
  | n + 1 => by
    have := setL_len s n
    unfold setL
    split
    · simp; omega
    · omega
theorem setL_zero : ∀ n, setL 0 n = []
  | 0 => rfl
  | n + 1 => by unfold setL; rw [if_neg (by simp), setL_zero n]
theorem sumO_bound (f : Nat → Int) (M : Int) (_ : 0 ≤ M) (hf : ∀ i, 0 ≤ f i ∧ f i ≤ M) : ∀ l : List Nat, 0 ≤ sumO f l ∧ sumO f l ≤ M * l.length := by
  have : ∀ (l : List Nat) (a : Int), 0 ≤ a → 0 ≤ l.foldl (fun a i => a + f i) a ∧ l.foldl (fun a i => a + f i) a ≤ a + M * l.length := by
    intro l
    induction l with
    | nil => intro a ha; simp; exact ha
    | cons i l ih =>
      intro a ha
      have h := hf i
      obtain ⟨h1, h2⟩ := ih (a + f i) (by omega)
      rw [List.foldl_cons]
      refine ⟨h1, Int.le_trans h2 ?_⟩
      rw [List.length_cons, show ((l.length + 1 : Nat) : Int) = (l.length : Int) + 1 by omega, Int.mul_add]
      omega
  intro l
  have h := this l 0 (Int.le_refl 0)
  unfold sumO
  omega
/-- of the first k sets the one with the greatest value for which there is time. -/
structure BestS (ws : List Wk) (m : Int) (k s : Nat) : Prop where
  lt : s = 0 ∨ s < k
  fits : sumO (wkM ws) (setL s ws.length) ≤ m
  best : ∀ t, t < k → sumO (wkM ws) (setL t ws.length) ≤ m → sumO (wkV ws) (setL t ws.length) ≤ sumO (wkV ws) (setL s ws.length)
theorem BestS.start (ws : List Wk) {m : Int} (h : 0 ≤ m) : BestS ws m 0 0 := ⟨.inl rfl, by rw [setL_zero]; exact h, fun t ht => by omega⟩
theorem BestS.take {ws : List Wk} {m : Int} {k s : Nat} (h : BestS ws m k s) (hf : sumO (wkM ws) (setL k ws.length) ≤ m) (hv : sumO (wkV ws) (setL s ws.length) ≤ sumO (wkV ws) (setL k ws.length)) : BestS ws m (k + 1) k :=
  ⟨.inr (Nat.lt_succ_self k), hf, fun t ht hm => by
    by_cases e : t = k
    · subst e; exact Int.le_refl _
    · exact Int.le_trans (h.best t (by omega) hm) hv⟩
theorem BestS.leave {ws : List Wk} {m : Int} {k s : Nat} (h : BestS ws m k s) (hn : sumO (wkM ws) (setL k ws.length) ≤ m → sumO (wkV ws) (setL k ws.length) ≤ sumO (wkV ws) (setL s ws.length)) : BestS ws m (k + 1) s :=
  ⟨h.lt.imp id fun h => by omega, h.fits, fun t ht hm => by
    by_cases e : t = k
    · subst e; exact hn hm
    · exact h.best t (by omega) hm⟩
theorem BestS.more {ws : List Wk} {m m' : Int} {s s' : Nat} (h : BestS ws m (2 ^ ws.length) s) (h' : BestS ws m' (2 ^ ws.length) s') (hm : m ≤ m') : sumO (wkV ws) (setL s ws.length) ≤ sumO (wkV ws) (setL s' ws.length) := by
  have hp : 0 < 2 ^ ws.length := Nat.two_pow_pos _
  exact h'.best s (by rcases h.lt with h | h <;> omega) (Int.le_trans h.fits hm)
/-- works that are right. -/
structure GoodW (key : ByteArray → Bool) (ws : List Wk) : Prop where
  len : ws.length ≤ 14
  all : ∀ x ∈ ws, key x.1 = true ∧ (0 ≤ x.2.1 ∧ x.2.1 ≤ 10000) ∧ (0 ≤ x.2.2 ∧ x.2.2 ≤ 1000000000)
  one : ∀ (i j : Nat) (x y : Wk), i < j → ws[i]? = some x → ws[j]? = some y → x.1 ≠ y.1
theorem GoodW.boundM {key : ByteArray → Bool} {ws : List Wk} (h : GoodW key ws) (i : Nat) : 0 ≤ wkM ws i ∧ wkM ws i ≤ 10000 := by
  unfold wkM
  cases hx : ws[i]? with
  | none => simp
  | some x => have := h.all x (List.mem_of_getElem? hx); simpa using this.2.1
theorem GoodW.boundV {key : ByteArray → Bool} {ws : List Wk} (h : GoodW key ws) (i : Nat) : 0 ≤ wkV ws i ∧ wkV ws i ≤ 1000000000 := by
  unfold wkV
  cases hx : ws[i]? with
  | none => simp
  | some x => have := h.all x (List.mem_of_getElem? hx); simpa using this.2.2
theorem GoodW.sums {key : ByteArray → Bool} {ws : List Wk} (h : GoodW key ws) (s k : Nat) (hk : k ≤ ws.length) : (0 ≤ sumO (wkM ws) (setL s k) ∧ sumO (wkM ws) (setL s k) ≤ 140000) ∧ (0 ≤ sumO (wkV ws) (setL s k) ∧ sumO (wkV ws) (setL s k) ≤ 14000000000) := by
  have h1 := sumO_bound (wkM ws) 10000 (by omega) h.boundM (setL s k)
  have h2 := sumO_bound (wkV ws) 1000000000 (by omega) h.boundV (setL s k)
  have h3 := setL_len s k
  have h4 := h.len
  omega
end Go.Proofs.YtnmimagninhkkaaGreatDoor
