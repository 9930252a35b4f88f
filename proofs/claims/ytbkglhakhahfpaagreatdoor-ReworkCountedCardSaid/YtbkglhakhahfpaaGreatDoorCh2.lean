/- Plain law of ChosenAreInTime: sets of works by their bits; the best one of the first sets. No program. · The contracts of ChooseFault and worksFault; of choice.better. Conditions: at most 100 works, names of at most 1000 bytes. · The contract of rework.Choose: the best of all sets of works. Conditions: works that are right, minutes from 0 to 10000. -/
import Derived.Test.YtbkglhakhahfpaaGreatDoorRec
import Derived.Test.YtbkglhakhahfpaaGreatDoorCmq
import Derived.Test.YtbkglhakhahfpaaGreatDoorBt
import Derived.Test.YtbkglhakhahfpaaGreatDoorSpan
import Derived.Test.YtbkglhakhahfpaaGreatDoorKey
import Derived.Test.YtbkglhakhahfpaaGreatDoorStrs
import Derived.Deep.RegionHeld2
import Derived.Test.YtbkglhakhahfpaaGreatDoorCond
namespace Go.Proofs.YtbkglhakhahfpaaGreatDoor

abbrev Wk := ByteArray × Int × Int
def wkM (ws : List Wk) (i : Nat) : Int := ((ws[i]?).map fun x => x.2.1).getD 0
def wkV (ws : List Wk) (i : Nat) : Int := ((ws[i]?).map fun x => x.2.2).getD 0
def sumO (f : Nat → Int) (l : List Nat) : Int := l.foldl (fun a i => a + f i) 0
theorem sumO_snoc (f : Nat → Int) (l : List Nat) (i : Nat) : sumO f (l ++ [i]) = sumO f l + f i := by unfold sumO; rw [List.foldl_append]; rfl
/-- the members of a set below n. -/
def setL (s : Nat) : Nat → List Nat
  | 0 => []
  | n + 1 => if s.testBit n = true then setL s n ++ [n] else setL s n
theorem setL_lt (s : Nat) : ∀ n, ∀ i ∈ setL s n, i < n
  | 0, i, h => by simp [setL] at h
  | n + 1, i, h => by
    unfold setL at h
    split at h
    · rcases List.mem_append.1 h with h | h
      · have := setL_lt s n i h; omega
      · simp at h; omega
    · have := setL_lt s n i h; omega
theorem setL_asc (s : Nat) : ∀ n, (setL s n).Pairwise (· < ·)
  | 0 => List.Pairwise.nil
  | n + 1 => by
    unfold setL
    split
    · rw [List.pairwise_append]
      exact ⟨setL_asc s n, by simp, fun a ha b hb => by simp at hb; have := setL_lt s n a ha; omega⟩
    · exact setL_asc s n
theorem setL_len (s : Nat) : ∀ n, (setL s n).length ≤ n
  | 0 => Nat.le_refl _
  | n + 1 => by
    have := setL_len s n
    unfold setL
    split
    · simp; omega
    · omega
theorem setL_zero : ∀ n, setL 0 n = []
  | 0 => rfl
  | n + 1 => by unfold setL; rw [if_neg (by simp), setL_zero n]
theorem sumO_bound (f : Nat → Int) (M : Int) (_ : 0 ≤ M) (hf : ∀ i, 0 ≤ f i ∧ f i ≤ M) : ∀ l : List Nat, 0 ≤ sumO f l ∧ sumO f l ≤ M * l.length := by
  have : ∀ (l : List Nat) (a : Int), 0 ≤ a → 0 ≤ l.foldl (fun a i => a + f i) a ∧ l.foldl (fun a i => a + f i) a ≤ a + M * l.length := by
    intro l
    induction l with
    | nil => intro a ha; simp; exact ha
    | cons i l ih =>
      intro a ha
      have h := hf i
      obtain ⟨h1, h2⟩ := ih (a + f i) (by omega)
      rw [List.foldl_cons]
      refine ⟨h1, Int.le_trans h2 ?_⟩
      rw [List.length_cons, show ((l.length + 1 : Nat) : Int) = (l.length : Int) + 1 by omega, Int.mul_add]
      omega
  intro l
  have h := this l 0 (Int.le_refl 0)
  unfold sumO
  omega
/-- of the first k sets the one with the greatest value for which there is time. -/
structure BestS (ws : List Wk) (m : Int) (k s : Nat) : Prop where
  lt : s = 0 ∨ s < k
  fits : sumO (wkM ws) (setL s ws.length) ≤ m
  best : ∀ t, t < k → sumO (wkM ws) (setL t ws.length) ≤ m → sumO (wkV ws) (setL t ws.length) ≤ sumO (wkV ws) (setL s ws.length)
theorem BestS.start (ws : List Wk) {m : Int} (h : 0 ≤ m) : BestS ws m 0 0 := ⟨.inl rfl, by rw [setL_zero]; exact h, fun t ht => by omega⟩
theorem BestS.take {ws : List Wk} {m : Int} {k s : Nat} (h : BestS ws m k s) (hf : sumO (wkM ws) (setL k ws.length) ≤ m) (hv : sumO (wkV ws) (setL s ws.length) ≤ sumO (wkV ws) (setL k ws.length)) : BestS ws m (k + 1) k :=
  ⟨.inr (Nat.lt_succ_self k), hf, fun t ht hm => by
    by_cases e : t = k
    · subst e; exact Int.le_refl _
    · exact Int.le_trans (h.best t (by omega) hm) hv⟩
theorem BestS.leave {ws : List Wk} {m : Int} {k s : Nat} (h : BestS ws m k s) (hn : sumO (wkM ws) (setL k ws.length) ≤ m → sumO (wkV ws) (setL k ws.length) ≤ sumO (wkV ws) (setL s ws.length)) : BestS ws m (k + 1) s :=
  ⟨h.lt.imp id fun h => by omega, h.fits, fun t ht hm => by
    by_cases e : t = k
    · subst e; exact hn hm
    · exact h.best t (by omega) hm⟩
theorem BestS.more {ws : List Wk} {m m' : Int} {s s' : Nat} (h : BestS ws m (2 ^ ws.length) s) (h' : BestS ws m' (2 ^ ws.length) s') (hm : m ≤ m') : sumO (wkV ws) (setL s ws.length) ≤ sumO (wkV ws) (setL s' ws.length) := by
  have hp : 0 < 2 ^ ws.length := Nat.two_pow_pos _
  exact h'.best s (by rcases h.lt with h | h <;> omega) (Int.le_trans h.fits hm)
/-- works that are right. -/
structure GoodW (key : ByteArray → Bool) (ws : List Wk) : Prop where
  len : ws.length ≤ 14
  all : ∀ x ∈ ws, key x.1 = true ∧ (0 ≤ x.2.1 ∧ x.2.1 ≤ 10000) ∧ (0 ≤ x.2.2 ∧ x.2.2 ≤ 1000000000)
  one : ∀ (i j : Nat) (x y : Wk), i < j → ws[i]? = some x → ws[j]? = some y → x.1 ≠ y.1
theorem GoodW.boundM {key : ByteArray → Bool} {ws : List Wk} (h : GoodW key ws) (i : Nat) : 0 ≤ wkM ws i ∧ wkM ws i ≤ 10000 := by
  unfold wkM
  cases hx : ws[i]? with
  | none => simp
  | some x => have := h.all x (List.mem_of_getElem? hx); simpa using this.2.1
theorem GoodW.boundV {key : ByteArray → Bool} {ws : List Wk} (h : GoodW key ws) (i : Nat) : 0 ≤ wkV ws i ∧ wkV ws i ≤ 1000000000 := by
  unfold wkV
  cases hx : ws[i]? with
  | none => simp
  | some x => have := h.all x (List.mem_of_getElem? hx); simpa using this.2.2
theorem GoodW.sums {key : ByteArray → Bool} {ws : List Wk} (h : GoodW key ws) (s k : Nat) (hk : k ≤ ws.length) : (0 ≤ sumO (wkM ws) (setL s k) ∧ sumO (wkM ws) (setL s k) ≤ 140000) ∧ (0 ≤ sumO (wkV ws) (setL s k) ∧ sumO (wkV ws) (setL s k) ≤ 14000000000) := by
  have h1 := sumO_bound (wkM ws) 10000 (by omega) h.boundM (setL s k)
  have h2 := sumO_bound (wkV ws) 1000000000 (by omega) h.boundV (setL s k)
  have h3 := setL_len s k
  have h4 := h.len
  omega
end Go.Proofs.YtbkglhakhahfpaaGreatDoor
namespace Go.Proofs.YtbkglhakhahfpaaGreatDoor
open Go.RowKit Go.Sort

def TW : Rty Wk := { e := 138, S := 31, k := 3, b := 32, z := .agg #[.string ByteArray.empty, .int .i64 0, .int .i64 0], f := fun x => [.string x.1, .int .i64 x.2.1, .int .i64 x.2.2] }
theorem TW.ok : TW.Ok := ⟨by kernel_rfl, Tryz.underlying31, rfl, by decide, fun _ => rfl, fun x u hu => by simp [TW] at hu; rcases hu with rfl | rfl | rfl <;> rfl, by decide⟩
theorem works_at {w : World} {lo : Nat} {a : Option Addr} {n cap : Nat} {l : List Wk} (h : RecR TW w lo (.slice a n cap) l) {k : Nat} {x : Wk} (hk : l[k]? = some x) :
    ∃ b o, a = some ⟨b, o, none⟩ ∧ lo ≤ b ∧ b < w.heap.size ∧ w.cell? ⟨b, o + k * 3, none⟩ = some (.string x.1) ∧ w.cell? ⟨b, o + k * 3 + 1, none⟩ = some (.int .i64 x.2.1) ∧ w.cell? ⟨b, o + k * 3 + 2, none⟩ = some (.int .i64 x.2.2) := by
  obtain ⟨b, o, rfl, h1, h2, h3⟩ := h.at TW.ok.len hk TW.ok.pos
  exact ⟨b, o, rfl, h1, h2, h3 0 _ rfl, h3 1 _ rfl, h3 2 _ rfl⟩
theorem GoodW.snoc {key : ByteArray → Bool} {ws : List Wk} {k : Nat} {x : Wk} (h : GoodW key (ws.take k)) (hx : ws[k]? = some x) (hk : key x.1 = true) (hm : 0 ≤ x.2.1 ∧ x.2.1 ≤ 10000) (hv : 0 ≤ x.2.2 ∧ x.2.2 ≤ 1000000000) (hl : k + 1 ≤ 14) (ha : ((ws.take k).any fun y => y.1.toList == x.1.toList) = false) : GoodW key (ws.take (k + 1)) := by
  have hkl := (List.getElem?_eq_some_iff.1 hx).1
  rw [take_snoc hx]
  refine ⟨by simp; omega, fun y hy => ?_, fun i j y z hij hy hz => ?_⟩
  · rcases List.mem_append.1 hy with hy | hy
    · exact h.all y hy
    · simp at hy; subst hy; exact ⟨hk, hm, hv⟩
  · have hjl := (List.getElem?_eq_some_iff.1 hz).1
    simp at hjl
    have hi : i < (ws.take k).length := by simp; omega
    rw [List.getElem?_append_left hi] at hy
    by_cases hj : j < (ws.take k).length
    · rw [List.getElem?_append_left hj] at hz
      exact h.one i j y z hij hy hz
    · rw [List.getElem?_append_right (by omega)] at hz
      have hj2 : j - (ws.take k).length = 0 := by simp at hj ⊢; omega
      rw [hj2] at hz
      simp at hz
      subst hz
      intro e
      rw [List.any_eq_false] at ha
      exact ha y (List.mem_of_getElem? hy) (by rw [e]; simp)
theorem GoodW.any_no {key : ByteArray → Bool} {ws : List Wk} {k : Nat} {x : Wk} (h : GoodW key ws) (hx : ws[k]? = some x) : ((ws.take k).any fun y => y.1.toList == x.1.toList) = false := by
  rw [List.any_eq_false]
  intro y hy e
  obtain ⟨i, hi, he⟩ := List.getElem_of_mem hy
  have hik : i < k := by simp at hi; omega
  have hy' : ws[i]? = some y := by
    rw [← he, List.getElem_take]; exact List.getElem?_eq_getElem _
  exact h.one i k y x hik hy' hx ((Lib.bytes_beq_iff _ _).1 e)
theorem rec_take {α : Type} {T : Rty α} {w : World} {lo : Nat} {a : Option Addr} {n cap : Nat} {l : List α} (h : RecR T w lo (.slice a n cap) l) {k : Nat} (hk : k ≤ l.length) : RecR T w lo (.slice a k cap) (l.take k) := by
  obtain ⟨a', cap', hv, h1, h2, h3⟩ := h
  obtain ⟨rfl, rfl, rfl⟩ := Value.slice.inj hv
  have hl : (l.take k).length = k := by rw [List.length_take]; omega
  refine ⟨a, cap, by rw [hl], by omega, h2, fun j x hj => h3 j x ?_⟩
  have hp : (l.take k).flatMap T.f <+: l.flatMap T.f := by
    conv => rhs; rw [← List.take_append_drop k l]
    rw [List.flatMap_append]
    exact List.prefix_append _ _
  obtain ⟨t, ht⟩ := hp
  rw [← ht, List.getElem?_append_left (List.getElem?_eq_some_iff.1 hj).1]
  exact hj
set_option maxHeartbeats 1000000 in
theorem sameR_any (b c : ByteArray) (m v : Int) (X : Nat) (W : World) (hc : W.cell? ⟨X, 0, none⟩ = some (.string c)) :
    Calls Tryz.prog 118 #[.agg #[.string b, .int .i64 m, .int .i64 v], .pointer (some ⟨X, 0, none⟩)] W fun e w' => e = .returned (.bool (b.toList == c.toList)) ∧ Below W.heap.size W w' := by
  have hX := World.block_lt_of_cell? _ _ hc
  simp only at hX
  have c2 : (W.alloc (.cells #[.string b, .int .i64 m, .int .i64 v] 138)).cell? ⟨X, 0, none⟩ = some (.string c) := (World.cell?_alloc_past _ _ _ hX).trans hc
  go_enter Tryz.func118, Tryz.ntmps118
  go_wp2
  go_ret
  exact ⟨rfl, Bl.alloc (Below.refl _ _) _⟩
set_option maxHeartbeats 2000000 in
theorem IndexWR_any (ws : List Wk) (vw : Value) (c : ByteArray) (X : Nat) (w : World) (_ : ws.length ≤ 1000) (rl : RecR TW w 0 vw ws) (hc : w.cell? ⟨X, 0, none⟩ = some (.string c)) :
    Calls Tryz.prog 199 #[vw, .func (.func 118) #[] #[.pointer (some ⟨X, 0, none⟩)]] w fun e w' => (∃ r : Int, e = .returned (.int .i64 r) ∧ decide (0 ≤ r) = ws.any (fun y => y.1.toList == c.toList)) ∧ Below w.heap.size w w' := by
  obtain ⟨a, cap, rfl, hc1, hc2⟩ := rl.form
  have hX := World.block_lt_of_cell? _ _ hc
  simp only at hX
  go_enter Tryz.func199, Tryz.ntmps199
  go_wp2
  go_loopw [8] (fun i wr => ∃ k : Nat, k ≤ ws.length ∧ i = .int .i64 k ∧ Hid ((ws.take k).any (fun y => y.1.toList == c.toList) = false) ∧ Below w.heap.size w wr) (fun i _ => ws.length - (intOf i).toNat)
  case atStart => exact ⟨0, Nat.zero_le _, rfl, Lib.hid rfl, Below.refl _ _⟩
  case round =>
    obtain ⟨k, hk, rfl, hf, hb⟩ := hrel
    by_cases hlt : k < ws.length
    · obtain ⟨x, hx⟩ : ∃ x, ws[k]? = some x := ⟨_, List.getElem?_eq_getElem hlt⟩
      have HS : Hid ((ws.take (k + 1)).any (fun y => y.1.toList == c.toList) = ((ws.take k).any (fun y => y.1.toList == c.toList) || (x.1.toList == c.toList))) := Lib.hid (by rw [take_snoc hx]; simp)
      have HM := Lib.hid (List.mem_of_getElem? hx)
      have HC := Lib.hid (sameR_any x.1 c x.2.1 x.2.2 X wr (((bcell hb).1 X 0 hX).trans hc))
      obtain ⟨b2, o2, rfl, _, hl2, y1, y2, y3⟩ := works_at (rl.below hb) hx
      clear hx
      obtain ⟨xb, xm, xv⟩ := x
      simp only at y1 y2 y3 HS HC
      have HM2 := Lib.hid (fun h : (xb.toList == c.toList) = true => (List.any_eq_true.2 ⟨_, HM.out, h⟩ : ws.any (fun y => y.1.toList == c.toList) = true))
      generalize hp : (xb.toList == c.toList) = pb at *
      have HP := Lib.hid hp
      clear hp
      cases pb
      all_goals
        go_wp2_with fail
        refine HC.out.mono ?_
        rintro e w2 ⟨rfl, hb2⟩
        go_wp2
      · go_roundw
        case rel => exact ⟨k + 1, by omega, by go_num, Lib.hid (by rw [HS.out, hf.out]; rfl), hb.trans (hb2.mono hb.size)⟩
        case measure => simp [intOf]; omega
      · go_ret
        refine ⟨⟨_, rfl, ?_⟩, hb.trans (hb2.mono hb.size)⟩
        rw [HM2.out (by first | rfl | trivial)]; simp
    · have hk2 : k = ws.length := by omega
      subst hk2
      rw [List.take_length] at hf
      go_wp2
      go_ret
      exact ⟨⟨_, rfl, by rw [hf.out]; rfl⟩, hb⟩
set_option maxHeartbeats 1000000 in
theorem ContainsWR_any (ws : List Wk) (vw : Value) (c : ByteArray) (X : Nat) (w : World) (hlen : ws.length ≤ 1000) (rl : RecR TW w 0 vw ws) (hc : w.cell? ⟨X, 0, none⟩ = some (.string c)) :
    Calls Tryz.prog 117 #[vw, .func (.func 118) #[] #[.pointer (some ⟨X, 0, none⟩)]] w fun e w' => e = .returned (.bool (ws.any (fun y => y.1.toList == c.toList))) ∧ Below w.heap.size w w' := by
  go_enter Tryz.func117, Tryz.ntmps117
  go_wp2_with fail
  refine (IndexWR_any ws vw c X _ hlen rl hc).mono ?_
  rintro e w2 ⟨⟨r, rfl, hr⟩, hb⟩
  have HR := Lib.hid hr
  clear hr
  go_wp2
  go_ret
  exact ⟨ret_bool HR.out, hb⟩
set_option maxHeartbeats 1000000 in
theorem sameP_any (b c : ByteArray) (m v : Int) (X : Nat) (W : World) (hc : W.cell? ⟨X, 0, none⟩ = some (.string c)) :
    Calls Tryz.prog 198 #[.agg #[.string b, .int .i64 m, .int .i64 v], .pointer (some ⟨X, 0, none⟩)] W fun e w' => e = .returned (.bool (b.toList == c.toList)) ∧ Below W.heap.size W w' := by
  have hX := World.block_lt_of_cell? _ _ hc
  simp only at hX
  have c2 : (W.alloc (.cells #[.string b, .int .i64 m, .int .i64 v] 138)).cell? ⟨X, 0, none⟩ = some (.string c) := (World.cell?_alloc_past _ _ _ hX).trans hc
  go_enter Tryz.func198, Tryz.ntmps198
  go_wp2
  go_ret
  exact ⟨rfl, Bl.alloc (Below.refl _ _) _⟩
set_option maxHeartbeats 2000000 in
theorem IndexWP_any (ws : List Wk) (vw : Value) (c : ByteArray) (X : Nat) (w : World) (_ : ws.length ≤ 1000) (rl : RecR TW w 0 vw ws) (hc : w.cell? ⟨X, 0, none⟩ = some (.string c)) :
    Calls Tryz.prog 199 #[vw, .func (.func 198) #[] #[.pointer (some ⟨X, 0, none⟩)]] w fun e w' => (∃ r : Int, e = .returned (.int .i64 r) ∧ decide (0 ≤ r) = ws.any (fun y => y.1.toList == c.toList)) ∧ Below w.heap.size w w' := by
  obtain ⟨a, cap, rfl, hc1, hc2⟩ := rl.form
  have hX := World.block_lt_of_cell? _ _ hc
  simp only at hX
  go_enter Tryz.func199, Tryz.ntmps199
  go_wp2
  go_loopw [8] (fun i wr => ∃ k : Nat, k ≤ ws.length ∧ i = .int .i64 k ∧ Hid ((ws.take k).any (fun y => y.1.toList == c.toList) = false) ∧ Below w.heap.size w wr) (fun i _ => ws.length - (intOf i).toNat)
  case atStart => exact ⟨0, Nat.zero_le _, rfl, Lib.hid rfl, Below.refl _ _⟩
  case round =>
    obtain ⟨k, hk, rfl, hf, hb⟩ := hrel
    by_cases hlt : k < ws.length
    · obtain ⟨x, hx⟩ : ∃ x, ws[k]? = some x := ⟨_, List.getElem?_eq_getElem hlt⟩
      have HS : Hid ((ws.take (k + 1)).any (fun y => y.1.toList == c.toList) = ((ws.take k).any (fun y => y.1.toList == c.toList) || (x.1.toList == c.toList))) := Lib.hid (by rw [take_snoc hx]; simp)
      have HM := Lib.hid (List.mem_of_getElem? hx)
      have HC := Lib.hid (sameP_any x.1 c x.2.1 x.2.2 X wr (((bcell hb).1 X 0 hX).trans hc))
      obtain ⟨b2, o2, rfl, _, hl2, y1, y2, y3⟩ := works_at (rl.below hb) hx
      clear hx
      obtain ⟨xb, xm, xv⟩ := x
      simp only at y1 y2 y3 HS HC
      have HM2 := Lib.hid (fun h : (xb.toList == c.toList) = true => (List.any_eq_true.2 ⟨_, HM.out, h⟩ : ws.any (fun y => y.1.toList == c.toList) = true))
      generalize hp : (xb.toList == c.toList) = pb at *
      have HP := Lib.hid hp
      clear hp
      cases pb
      all_goals
        go_wp2_with fail
        refine HC.out.mono ?_
        rintro e w2 ⟨rfl, hb2⟩
        go_wp2
      · go_roundw
        case rel => exact ⟨k + 1, by omega, by go_num, Lib.hid (by rw [HS.out, hf.out]; rfl), hb.trans (hb2.mono hb.size)⟩
        case measure => simp [intOf]; omega
      · go_ret
        refine ⟨⟨_, rfl, ?_⟩, hb.trans (hb2.mono hb.size)⟩
        rw [HM2.out (by first | rfl | trivial)]; simp
    · have hk2 : k = ws.length := by omega
      subst hk2
      rw [List.take_length] at hf
      go_wp2
      go_ret
      exact ⟨⟨_, rfl, by rw [hf.out]; rfl⟩, hb⟩
set_option maxHeartbeats 1000000 in
theorem ContainsWP_any (ws : List Wk) (vw : Value) (c : ByteArray) (X : Nat) (w : World) (hlen : ws.length ≤ 1000) (rl : RecR TW w 0 vw ws) (hc : w.cell? ⟨X, 0, none⟩ = some (.string c)) :
    Calls Tryz.prog 117 #[vw, .func (.func 198) #[] #[.pointer (some ⟨X, 0, none⟩)]] w fun e w' => e = .returned (.bool (ws.any (fun y => y.1.toList == c.toList))) ∧ Below w.heap.size w w' := by
  go_enter Tryz.func117, Tryz.ntmps117
  go_wp2_with fail
  refine (IndexWP_any ws vw c X _ hlen rl hc).mono ?_
  rintro e w2 ⟨⟨r, rfl, hr⟩, hb⟩
  have HR := Lib.hid hr
  clear hr
  go_wp2
  go_ret
  exact ⟨ret_bool HR.out, hb⟩
set_option maxHeartbeats 8000000 in
set_option maxRecDepth 100000 in
theorem ChooseFault_any (ws : List Wk) (m : Int) (vw : Value) (w : World) (hlen : ws.length ≤ 100) (hsz : ∀ x ∈ ws, x.1.size ≤ 1000) (rl : RecR TW w 0 vw ws) :
    Calls Tryz.prog 24 #[vw, .int .i64 m] w fun e w' => (∃ f : Int, e = .returned (.int .i64 f) ∧ (f = 0 → GoodW keyB ws ∧ 0 ≤ m ∧ m ≤ 10000)) ∧ Below w.heap.size w w' := by
  obtain ⟨a, cap, rfl, hc1, hc2⟩ := rl.form
  have hmf : ∀ (fn : Fn) (first cap : Array Value) (w : World), (Instr.makeFunc fn first cap).run Tryz.prog w = .ok (.func fn first cap) w := fun _ _ _ _ => rfl
  have HSZ := Lib.hid hsz
  clear hsz
  by_cases h14 : 14 < ws.length
  · have e1 : (14 : Int) < ws.length := by omega
    go_enter Tryz.func24, Tryz.ntmps24
    go_wp2
    go_ret
    exact ⟨⟨_, rfl, fun h => by cases h⟩, Below.refl _ _⟩
  · have e1 : ¬ (14 : Int) < ws.length := by omega
    go_enter Tryz.func24, Tryz.ntmps24
    go_wp2
    go_loopw [12] (fun i wr => ∃ k : Nat, k ≤ ws.length ∧ i = .int .i64 k ∧ Hid (GoodW keyB (ws.take k)) ∧ Below w.heap.size w wr) (fun i _ => ws.length - (intOf i).toNat)
    case atStart => exact ⟨0, Nat.zero_le _, rfl, Lib.hid ⟨by simp, by simp, fun i j x y _ h => by simp at h⟩, Below.refl _ _⟩
    case round =>
      obtain ⟨k, hk, rfl, hg, hb⟩ := hrel
      by_cases hlt : k < ws.length
      · obtain ⟨x, hx⟩ : ∃ x, ws[k]? = some x := ⟨_, List.getElem?_eq_getElem hlt⟩
        have HX := Lib.hid hx
        obtain ⟨b2, o2, hae, _, hl2, y1, y2, y3⟩ := works_at (rl.below hb) hx
        subst hae
        have hbn := Bl.alloc hb (.cells #[.string x.1, .int .i64 x.2.1, .int .i64 x.2.2] 138)
        have hnb := blk_new wr (.cells #[.string x.1, .int .i64 x.2.1, .int .i64 x.2.2] 138)
        have HK := Lib.hid (fun W => Key_any x.1 W (by have := HSZ.out x (List.mem_of_getElem? hx); omega))
        have HCT := Lib.hid (fun (W : World) (h1 : Below w.heap.size w W) (h2 : W.cell? ⟨wr.heap.size, 0, none⟩ = some (.string x.1)) => ContainsWR_any (ws.take k) (.slice (some ⟨b2, o2, none⟩) k cap) x.1 wr.heap.size W (by simp; omega) (rec_take (rl.below h1) (by omega)) h2)
        clear hx
        obtain ⟨xb, xm, xv⟩ := x
        simp only at y1 y2 y3 hbn hnb HK HCT
        have HN := Lib.hid (fun h1 h2 h3 h4 => hg.out.snoc HX.out h1 h2 h3 (by omega) h4)
        simp only at HN
        cases hkb : keyB xb
        · rw [hkb] at HK
          clear hkb HN
          go_wp2_with fail
          refine (HK.out _).mono ?_
          rintro e w2 ⟨rfl, hb2⟩
          go_wp2
          go_ret
          exact ⟨⟨_, rfl, fun h => by cases h⟩, Bl.trans hbn hb2⟩
        · have HKB := Lib.hid hkb
          rw [hkb] at HK
          clear hkb
          cases hm1 : inB 0 xm 10000
          · go_wp2_with fail
            refine (HK.out _).mono ?_
            rintro e w2 ⟨rfl, hb2⟩
            have hn2 := blk_below hnb hb2
            have z1 := blk_cell hn2 1
            go_wp2_with fail
            refine (in_any xm 0 10000 _).mono ?_
            rintro e w' ⟨rfl, rfl⟩
            go_wp2
            go_ret
            exact ⟨⟨_, rfl, fun h => by cases h⟩, Bl.trans hbn hb2⟩
          · have HM1 : Hid (0 ≤ xm ∧ xm ≤ 10000) := Lib.hid (by unfold inB at hm1; simpa using hm1)
            cases hv1 : inB 0 xv 1000000000
            · go_wp2_with fail
              refine (HK.out _).mono ?_
              rintro e w2 ⟨rfl, hb2⟩
              have hn2 := blk_below hnb hb2
              have z1 := blk_cell hn2 1
              have z2 := blk_cell hn2 2
              go_wp2_with fail
              refine (in_any xm 0 10000 _).mono ?_
              rintro e w' ⟨rfl, rfl⟩
              go_wp2_with fail
              refine (in_any xv 0 1000000000 _).mono ?_
              rintro e w' ⟨rfl, rfl⟩
              go_wp2
              go_ret
              exact ⟨⟨_, rfl, fun h => by cases h⟩, Bl.trans hbn hb2⟩
            · have HV1 : Hid (0 ≤ xv ∧ xv ≤ 1000000000) := Lib.hid (by unfold inB at hv1; simpa using hv1)
              generalize hany : ((ws.take k).any fun y => y.1.toList == xb.toList) = an at *
              have HAN := Lib.hid hany
              clear hany
              cases an
              all_goals
                go_wp2_with fail
                refine (HK.out _).mono ?_
                rintro e w2 ⟨rfl, hb2⟩
                have hn2 := blk_below hnb hb2
                have z0 := blk_cell hn2 0
                have z1 := blk_cell hn2 1
                have z2 := blk_cell hn2 2
                have hb02 := Bl.trans hbn hb2
                go_wp2_with fail
                refine (in_any xm 0 10000 _).mono ?_
                rintro e w' ⟨rfl, rfl⟩
                go_wp2_with fail
                refine (in_any xv 0 1000000000 _).mono ?_
                rintro e w' ⟨rfl, rfl⟩
                go_wp2_with fail
                refine (HCT.out w2 hb02 z0).mono ?_
                rintro e w3 ⟨rfl, hb3⟩
                go_wp2
              · go_roundw
                case rel => exact ⟨k + 1, by omega, by go_num, Lib.hid (HN.out HKB.out HM1.out HV1.out (by first | rfl | trivial)), Bl.trans hb02 hb3⟩
                case measure => simp [intOf]; omega
              · go_ret
                exact ⟨⟨_, rfl, fun h => by cases h⟩, Bl.trans hb02 hb3⟩
      · have hk2 : k = ws.length := by omega
        subst hk2
        rw [List.take_length] at hg
        go_wp2_with fail
        refine (SpanFault_any m 0 10000 _).mono ?_
        rintro e w' ⟨rfl, rfl⟩
        have HM : Hid (spanF m 0 10000 = 0 → 0 ≤ m ∧ m ≤ 10000) := Lib.hid (fun h => by
          unfold spanF at h
          by_cases hc : 0 ≤ m ∧ m ≤ 10000
          · exact hc
          · rw [if_neg hc] at h; cases h)
        go_wp2
        go_ret
        exact ⟨⟨_, rfl, fun h => ⟨hg.out, HM.out h⟩⟩, hb⟩
set_option maxHeartbeats 8000000 in
set_option maxRecDepth 100000 in
theorem worksFault_any (ws : List Wk) (m : Int) (vw : Value) (w : World) (hG : GoodW keyB ws) (hm0 : 0 ≤ m) (hm1 : m ≤ 10000) (hsz : ∀ x ∈ ws, x.1.size ≤ 1000) (rl : RecR TW w 0 vw ws) :
    Calls Tryz.prog 115 #[vw, .int .i64 m] w fun e w' => e = .returned (.int .i64 0) ∧ Below w.heap.size w w' := by
  obtain ⟨a, cap, rfl, hc1, hc2⟩ := rl.form
  have hmf : ∀ (fn : Fn) (first cap : Array Value) (w : World), (Instr.makeFunc fn first cap).run Tryz.prog w = .ok (.func fn first cap) w := fun _ _ _ _ => rfl
  have HSZ := Lib.hid hsz
  have hlen := hG.len
  have HG := Lib.hid hG
  clear hsz hG
  have e1 : ¬ (14 : Int) < ws.length := by omega
  go_enter Tryz.func115, Tryz.ntmps115
  go_wp2
  go_loopw [12] (fun i wr => ∃ k : Nat, k ≤ ws.length ∧ i = .int .i64 k ∧ Below w.heap.size w wr) (fun i _ => ws.length - (intOf i).toNat)
  case atStart => exact ⟨0, Nat.zero_le _, rfl, Below.refl _ _⟩
  case round =>
    obtain ⟨k, hk, rfl, hb⟩ := hrel
    by_cases hlt : k < ws.length
    · obtain ⟨x, hx⟩ : ∃ x, ws[k]? = some x := ⟨_, List.getElem?_eq_getElem hlt⟩
      have HX := Lib.hid hx
      obtain ⟨b2, o2, hae, _, hl2, y1, y2, y3⟩ := works_at (rl.below hb) hx
      subst hae
      have hbn := Bl.alloc hb (.cells #[.string x.1, .int .i64 x.2.1, .int .i64 x.2.2] 138)
      have hnb := blk_new wr (.cells #[.string x.1, .int .i64 x.2.1, .int .i64 x.2.2] 138)
      have HK := Lib.hid (fun W => IsKey_any x.1 W (by have := HSZ.out x (List.mem_of_getElem? hx); omega))
      have HCT := Lib.hid (fun (W : World) (h1 : Below w.heap.size w W) (h2 : W.cell? ⟨wr.heap.size, 0, none⟩ = some (.string x.1)) => ContainsWP_any (ws.take k) (.slice (some ⟨b2, o2, none⟩) k cap) x.1 wr.heap.size W (by simp; omega) (rec_take (rl.below h1) (by omega)) h2)
      clear hx
      obtain ⟨g1, g2, g3⟩ := HG.out.all x (List.mem_of_getElem? HX.out)
      have g4 := HG.out.any_no HX.out
      obtain ⟨xb, xm, xv⟩ := x
      simp only at y1 y2 y3 hbn hnb HK HCT g1 g2 g3 g4
      rw [g1] at HK
      rw [g4] at HCT
      have i1 : inB 0 xm 10000 = true := by unfold inB; simp; omega
      have i2 : inB 0 xv 1000000000 = true := by unfold inB; simp; omega
      have HO1 := Lib.hid (fun W => Outside_any xm 0 10000 W)
      have HO2 := Lib.hid (fun W => Outside_any xv 0 1000000000 W)
      rw [i1] at HO1
      rw [i2] at HO2
      clear g1 g2 g3 g4 i1 i2
      go_wp2_with fail
      refine (HK.out _).mono ?_
      rintro e w2 ⟨rfl, hb2⟩
      have hn2 := blk_below hnb hb2
      have z0 := blk_cell hn2 0
      have z1 := blk_cell hn2 1
      have z2 := blk_cell hn2 2
      have hb02 := Bl.trans hbn hb2
      go_wp2_with fail
      refine (HO1.out _).mono ?_
      rintro e w' ⟨rfl, rfl⟩
      go_wp2_with fail
      refine (HO2.out _).mono ?_
      rintro e w' ⟨rfl, rfl⟩
      go_wp2_with fail
      refine (HCT.out w2 hb02 z0).mono ?_
      rintro e w3 ⟨rfl, hb3⟩
      go_wp2
      go_roundw
      case rel => exact ⟨k + 1, by omega, by go_num, Bl.trans hb02 hb3⟩
      case measure => simp [intOf]; omega
    · have hk2 : k = ws.length := by omega
      subst hk2
      have HO := Lib.hid (fun W => Outside_any m 0 10000 W)
      rw [show inB 0 m 10000 = true by unfold inB; simp; omega] at HO
      go_wp2_with fail
      refine (HO.out _).mono ?_
      rintro e w' ⟨rfl, rfl⟩
      go_wp2
      go_ret
      exact ⟨rfl, hb⟩
theorem OrQ_any (l : List Int) (v : Value) (w : World) (h : l.length ≤ 1000) (rl : Ints w 0 v l) :
    Calls Tryz.prog 102 #[v] w fun e w' => e = .returned (.int .i64 (orF l)) ∧ w = w' := (OrInt_any l v w h rl).mono fun _ _ ⟨h1, h2⟩ => ⟨h1, h2.symm⟩
set_option maxHeartbeats 4000000 in
set_option maxRecDepth 100000 in
theorem better_any (la lb : List Int) (a1 a2 b1 b2 : Int) (va vb : Value) (w : World) (hla : la.length ≤ 1000) (hlb : lb.length ≤ 1000) (ra : Ints w 0 va la) (rb : Ints w 0 vb lb) :
    Calls Tryz.prog 116 #[.agg #[va, .int .i64 a1, .int .i64 a2], .agg #[vb, .int .i64 b1, .int .i64 b2]] w fun e w' => e = .returned (.bool (decide (orF [cmpI b1 a1, cmpI a2 b2, cmpL la lb] < 0))) ∧ Below w.heap.size w w' := by
  have hA := blk_old (blk_new w (.cells #[va, .int .i64 a1, .int .i64 a2] 185)) (.cells #[vb, .int .i64 b1, .int .i64 b2] 185)
  have hB := blk_new' (w.alloc (.cells #[va, .int .i64 a1, .int .i64 a2] 185)) (.cells #[vb, .int .i64 b1, .int .i64 b2] 185) (g := w.heap.size + 1) (by simp)
  have hb2 := Bl.alloc (Bl.alloc (Below.refl w.heap.size w) (.cells #[va, .int .i64 a1, .int .i64 a2] 185)) (.cells #[vb, .int .i64 b1, .int .i64 b2] 185)
  have ra2 := (ra.alloc (.cells #[va, .int .i64 a1, .int .i64 a2] 185)).alloc (.cells #[vb, .int .i64 b1, .int .i64 b2] 185)
  have rb2 := (rb.alloc (.cells #[va, .int .i64 a1, .int .i64 a2] 185)).alloc (.cells #[vb, .int .i64 b1, .int .i64 b2] 185)
  obtain ⟨aa, ac, rfl, _, _⟩ := Ints.form ra
  obtain ⟨ba, bc, rfl, _, _⟩ := Ints.form rb
  go_enter Tryz.func116, Tryz.ntmps116
  go_wp2
  generalize (w.alloc (.cells #[.slice aa la.length ac, .int .i64 a1, .int .i64 a2] 185)).alloc (.cells #[.slice ba lb.length bc, .int .i64 b1, .int .i64 b2] 185) = w2 at *
  have c1 := blk_cell hA 0
  have c2 := blk_cell hA 1
  have c3 := blk_cell hA 2
  have c4 := blk_cell hB 0
  have c5 := blk_cell hB 1
  have c6 := blk_cell hB 2
  have HOR := Lib.hid (OrQ_any [cmpI b1 a1, cmpI a2 b2, cmpL la lb] (.slice (some ⟨w2.heap.size, 0, none⟩) 3 3) (w2.alloc (.cells #[.int .i64 (cmpI b1 a1), .int .i64 (cmpI a2 b2), .int .i64 (cmpL la lb)] 3)).drew (by simp)
          (Ints.of_blk (show (w2.alloc (.cells #[.int .i64 (cmpI b1 a1), .int .i64 (cmpI a2 b2), .int .i64 (cmpL la lb)] 3)).drew.heap[w2.heap.size]? = _ from blk_new w2 _) rfl rfl (Nat.le_refl _) (by simp) (Nat.zero_le _)))
  have HCL := Lib.hid (CompareI_any la lb _ _ w2.drew (by omega) (by omega) (show Ints w2.drew 0 _ _ from ra2.below (Below.drew (Below.refl _ _))) (show Ints w2.drew 0 _ _ from rb2.below (Below.drew (Below.refl _ _))))
  clear hA hB ra rb ra2 rb2
  generalize hcl : cmpL la lb = cl at *
  have HCLE := Lib.hid hcl
  clear hcl
  go_region_held2 (fun W : World => W.cell? ⟨w.heap.size, 0, none⟩ = some (.slice aa la.length ac) ∧ W.cell? ⟨w.heap.size, 1, none⟩ = some (.int .i64 a1) ∧ W.cell? ⟨w.heap.size, 2, none⟩ = some (.int .i64 a2) ∧ W.cell? ⟨w.heap.size + 1, 0, none⟩ = some (.slice ba lb.length bc) ∧ W.cell? ⟨w.heap.size + 1, 1, none⟩ = some (.int .i64 b1) ∧ W.cell? ⟨w.heap.size + 1, 2, none⟩ = some (.int .i64 b2))
    (go_keep)
    (first
      | (go_at_call 103; refine (cmpInt_any _ _ _).mono ?_; rintro e w' ⟨rfl, rfl⟩)
      | (go_at_call 120; refine HCL.out.mono ?_; rintro e w' ⟨rfl, rfl⟩)
      | (go_at_call 102; refine HOR.out.mono ?_; rintro e w' ⟨rfl, rfl⟩))
  all_goals (
    go_wp2
    go_ret
    exact ⟨by rw [HCLE.out] <;> rfl, Below.drew (Bl.alloc hb2 _)⟩)
theorem better_yes {a1 a2 b1 b2 cl : Int} (h : decide (orF [cmpI b1 a1, cmpI a2 b2, cl] < 0) = true) : b1 ≤ a1 := by
  have h' := of_decide_eq_true h
  unfold cmpI orF at h'
  by_cases e : b1 < a1
  · omega
  · by_cases e2 : a1 < b1
    · simp [e, e2] at h'
    · omega
theorem better_no {a1 a2 b1 b2 cl : Int} (h : decide (orF [cmpI b1 a1, cmpI a2 b2, cl] < 0) = false) : a1 ≤ b1 := by
  have h' := of_decide_eq_false h
  unfold cmpI orF at h'
  by_cases e : b1 < a1
  · simp [e] at h'
  · omega
end Go.Proofs.YtbkglhakhahfpaaGreatDoor
namespace Go.Proofs.YtbkglhakhahfpaaGreatDoor
open Go.RowKit Go.Sort

theorem bitN_is {s k : Nat} (h : s.testBit k = true) : (((bitN s k : Nat) : Int) == 1) = true := by unfold bitN; rw [h]; rfl
theorem bitN_not {s k : Nat} (h : s.testBit k = false) : (((bitN s k : Nat) : Int) == 1) = false := by unfold bitN; rw [h]; rfl
theorem setL_yes {s n : Nat} (h : s.testBit n = true) : setL s (n + 1) = setL s n ++ [n] := by rw [setL, if_pos h]
theorem setL_no {s n : Nat} (h : s.testBit n = false) : setL s (n + 1) = setL s n := by rw [setL, if_neg (by rw [h]; simp)]
theorem nats_app (l : List Nat) (b : Nat) : nats (l ++ [b]) = nats l ++ [(b : Int)] := by simp [nats]
theorem own_aboveI {w : World} {B : Nat} {v : Value} {l : List Int} (h : Own w B v l) : ∀ k, v.ownBlock = some k → B ≤ k ∧ k < w.heap.size := World.ownsRow.lt h
theorem own_formI {w : World} {B : Nat} {v : Value} {l : List Nat} (h : Own w B v (nats l)) : ∃ a c, v = .slice a l.length c := by
  obtain ⟨a, c, hv, _, _⟩ := Ints.form h.ints
  rw [nats_len] at hv
  exact ⟨a, c, hv⟩
set_option maxHeartbeats 16000000 in
set_option maxRecDepth 100000 in
theorem Choose_any (ws : List Wk) (m : Int) (vw : Value) (w : World) (hG : GoodW keyB ws) (hm0 : 0 ≤ m) (hm1 : m ≤ 10000) (hsz : ∀ x ∈ ws, x.1.size ≤ 1000) (rl : RecR TW w 0 vw ws) :
    Calls Tryz.prog 23 #[vw, .int .i64 m] w fun e w' => (∃ (s : Nat) (vr : Value), e = .returned (.tuple #[vr, .int .i64 (sumO (wkV ws) (setL s ws.length)), .int .i64 0]) ∧ Own w' w.heap.size vr (nats (setL s ws.length)) ∧ BestS ws m (2 ^ ws.length) s) ∧ Below w.heap.size w w' := by
  obtain ⟨a, cap, rfl, hc1, hc2⟩ := rl.form
  have hn := hG.len
  have HG := Lib.hid hG
  have HWF := Lib.hid (worksFault_any ws m _ w hG hm0 hm1 hsz rl)
  have hpw : pw ws.length ≤ 16384 := by
    unfold pw
    exact Nat.le_trans (Nat.pow_le_pow_right (by omega) hn) (by simp)
  have hshl := wrap_pw ws.length (by omega)
  have HZ : Hid (setL 0 ws.length = []) := Lib.hid (setL_zero _)
  have HM0 := Lib.hid hm0
  clear hG hsz
  go_enter Tryz.func23, Tryz.ntmps23
  go_wp2_with fail
  refine HWF.out.mono ?_
  rintro e w1 ⟨rfl, hb1⟩
  have rl1 := rl.below hb1
  have hbx := blk_new w1 (.cells #[.slice none 0 0, .int .i64 0, .int .i64 0] 185)
  have hba := Bl.alloc (Below.refl w1.heap.size w1) (.cells #[.slice none 0 0, .int .i64 0, .int .i64 0] 185)
  have hza : w1.heap.size + 1 ≤ (w1.alloc (.cells #[.slice none 0 0, .int .i64 0, .int .i64 0] 185)).heap.size := by simp
  clear rl HWF
  go_wp2_with fail
  go_loopg [22] (pw ws.length) (fun gk i wr => ∃ (k s : Nat) (ba : Option Addr) (bc : Nat), gk = pw ws.length - k ∧ k ≤ pw ws.length ∧ i = .int .i64 k ∧ wr.heap[w1.heap.size]? = some (.cells #[.slice ba (setL s ws.length).length bc, .int .i64 (sumO (wkV ws) (setL s ws.length)), .int .i64 (sumO (wkM ws) (setL s ws.length))] 185 (0, 0)) ∧ Own wr (w1.heap.size + 1) (.slice ba (setL s ws.length).length bc) (nats (setL s ws.length)) ∧ Hid (BestS ws m k s) ∧ Below w1.heap.size w1 wr ∧ w1.heap.size + 1 ≤ wr.heap.size)
  case atStart => exact ⟨0, 0, none, 0, rfl, Nat.zero_le _, rfl, by rw [HZ.out]; exact hbx, by rw [HZ.out]; exact Own.nil _ _, Lib.hid (BestS.start ws HM0.out), hba, hza⟩
  case round =>
    obtain ⟨k, s, ba, bc, rfl, hk, rfl, hB, hO, hbest, hbr, hzr⟩ := hrel
    obtain ⟨bl, hbl⟩ : ∃ bl, bl = setL s ws.length := ⟨_, rfl⟩
    obtain ⟨bv, hbv⟩ : ∃ bv, bv = sumO (wkV ws) (setL s ws.length) := ⟨_, rfl⟩
    obtain ⟨bm, hbm⟩ : ∃ bm, bm = sumO (wkM ws) (setL s ws.length) := ⟨_, rfl⟩
    have hbll : bl.length ≤ 14 := by rw [hbl]; exact Nat.le_trans (setL_len s ws.length) hn
    rw [← hbv, ← hbm, ← hbl] at hB
    rw [← hbl] at hO
    have HBL := Lib.hid hbl
    have HBV := Lib.hid hbv
    have HBM := Lib.hid hbm
    clear hbl hbv hbm
    by_cases hlt : k < pw ws.length
    · have hltI : (k : Int) < ((pw ws.length : Nat) : Int) := by omega
      have hw0 : IntKind.i64.wrap ((k : Int) + 1) = ((k + 1 : Nat) : Int) := by rw [IntWalk.i64_in _ (by omega)]; omega
      obtain ⟨wo, rfl⟩ : ∃ wo : World, wo = wr := ⟨_, rfl⟩
      go_wp2
      go_loopg [27] ws.length (fun gq j wx => ∃ (q : Nat) (ca : Option Addr) (cc : Nat), gq = ws.length - q ∧ q ≤ ws.length ∧ j = .int .i64 q ∧ wx.heap[wo.heap.size]? = some (.cells #[.slice ca (setL k q).length cc, .int .i64 (sumO (wkV ws) (setL k q)), .int .i64 (sumO (wkM ws) (setL k q))] 185 (0, 0)) ∧ Own wx (wo.heap.size + 1) (.slice ca (setL k q).length cc) (nats (setL k q)) ∧ Below wo.heap.size wo wx ∧ wo.heap.size + 1 ≤ wx.heap.size)
      case atStart => exact ⟨0, none, 0, rfl, Nat.zero_le _, rfl, blk_new wo _, Own.nil _ _, Bl.alloc (Below.refl _ _) _, by simp⟩
      case round =>
        obtain ⟨q, ca, cc, rfl, hq, rfl, hC, hOc, hbx, hzx⟩ := hrel
        have hsum := HG.out.sums k q hq
        have hcl0 := setL_len k q
        by_cases hqn : q < ws.length
        · obtain ⟨x, hx⟩ : ∃ x, ws[q]? = some x := ⟨_, List.getElem?_eq_getElem hqn⟩
          obtain ⟨b2, o2, hae, _, hl2, y1, y2, y3⟩ := works_at (rl1.below (Bl.trans hbr hbx)) hx
          subst hae
          have hxb := HG.out.all x (List.mem_of_getElem? hx)
          have HWM : Hid (wkM ws q = x.2.1) := Lib.hid (by unfold wkM; rw [hx]; rfl)
          have HWV : Hid (wkV ws q = x.2.2) := Lib.hid (by unfold wkV; rw [hx]; rfl)
          have r1 := op_shr k q (by omega)
          have r2 := bits_and1' k q (by omega)
          have hw1 : IntKind.i64.wrap ((q : Int) + 1) = ((q + 1 : Nat) : Int) := by rw [IntWalk.i64_in _ (by omega)]; omega
          obtain ⟨xb, xm, xv⟩ := x
          simp only at y1 y2 y3 HWM HWV hxb
          have hnb := blk_new wr (.cells #[.string xb, .int .i64 xm, .int .i64 xv] 138)
          have hCb := blk_old hC (.cells #[.string xb, .int .i64 xm, .int .i64 xv] 138)
          have hOb := hOc.alloc (.cells #[.string xb, .int .i64 xm, .int .i64 xv] 138)
          have hbb := Bl.alloc hbx (.cells #[.string xb, .int .i64 xm, .int .i64 xv] 138)
          have hzb : wo.heap.size + 1 ≤ (wr.alloc (.cells #[.string xb, .int .i64 xm, .int .i64 xv] 138)).heap.size := by simp; omega
          clear hx
          cases hbit : k.testBit q
          · have r3 := bitN_not hbit
            have HS := Lib.hid (setL_no hbit)
            clear hbit
            go_wp2
            go_roundg (ws.length - (q + 1))
            case rel => exact ⟨q + 1, ca, cc, rfl, by omega, by go_num, by rw [HS.out]; exact hCb, by rw [HS.out]; exact hOb, hbb, hzb⟩
            case measure => omega
          · have r3 := bitN_is hbit
            have HS := Lib.hid (setL_yes hbit)
            have HSV := Lib.hid (sumO_snoc (wkV ws) (setL k q) q)
            have HSM := Lib.hid (sumO_snoc (wkM ws) (setL k q) q)
            rw [HWV.out] at HSV
            rw [HWM.out] at HSM
            have hovn : ∀ g, (Value.slice ca (setL k q).length cc).ownBlock = some g → g < wr.heap.size := fun g e => (own_aboveI hOc g e).2
            have HOV := Lib.hid hovn
            clear hbit hovn hOc
            generalize setL k q = cl at *
            generalize sumO (wkV ws) cl = cv at *
            generalize sumO (wkM ws) cl = cm at *
            have hw2 : IntKind.i64.wrap (cv + xv) = cv + xv := IntWalk.i64_in _ (by omega)
            have hw3 : IntKind.i64.wrap (cm + xm) = cm + xm := IntWalk.i64_in _ (by omega)
            have k0 := blk_cell hCb 0
            go_wp2_with (at_builtin; refine wp_app_int rfl _ _ rfl (wo.heap.size + 1) _ (nats cl) rfl (hOb.alloc _) (wr.heap.size + 1) 1 (q : Int) rfl (by rw [blk_cell (blk_new' _ _ (by simp)) 0]; rfl) (by rw [nats_len]; omega) (by simp; omega) ?_)
            intro v3 w3 hO3 hg3 hb3
            have hC3 : w3.heap[wo.heap.size]? = _ := (hb3.block wo.heap.size (Nat.lt_succ_self _)).trans (blk_old hCb (.cells #[.int .i64 q] 3))
            have hn3 : w3.heap[wr.heap.size]? = _ := (hg3.block wr.heap.size (by simp; omega) (fun e => by have := HOV.out _ e.symm; omega)).trans (blk_old hnb (.cells #[.int .i64 q] 3))
            rw [← nats_app] at hO3
            obtain ⟨da, dc, hv3⟩ := own_formI hO3
            rw [List.length_append, List.length_singleton] at hv3
            subst hv3
            have k1 := blk_cell hC3 1
            have k2 := blk_cell hC3 2
            have k00 := blk_cell hC3 0
            have f0 := blk_free hC3 0
            have f1 := blk_free hC3 1
            have f2 := blk_free hC3 2
            have z1 := blk_cell hn3 1
            have z2 := blk_cell hn3 2
            have hCs := blk_set (blk_set (blk_set hC3 0 (.slice da (cl.length + 1) dc)) 1 (.int .i64 (cv + xv))) 2 (.int .i64 (cm + xm))
            have hOs := own_far (own_far (own_far hO3 (Nat.lt_succ_self wo.heap.size) 0 (.slice da (cl.length + 1) dc)) (Nat.lt_succ_self wo.heap.size) 1 (.int .i64 (cv + xv))) (Nat.lt_succ_self wo.heap.size) 2 (.int .i64 (cm + xm))
            have hb13 : Below wo.heap.size wo w3 := (Bl.alloc hbb (.cells #[.int .i64 q] 3)).trans (hb3.mono (by omega))
            have hbs := Bl.set (Bl.set (Bl.set hb13 wo.heap.size 0 (Nat.le_refl _) (.slice da (cl.length + 1) dc)) wo.heap.size 1 (Nat.le_refl _) (.int .i64 (cv + xv))) wo.heap.size 2 (Nat.le_refl _) (.int .i64 (cm + xm))
            have hzs : wo.heap.size + 1 ≤ (((w3.setCell ⟨wo.heap.size, 0, none⟩ (.slice da (cl.length + 1) dc)).setCell ⟨wo.heap.size, 1, none⟩ (.int .i64 (cv + xv))).setCell ⟨wo.heap.size, 2, none⟩ (.int .i64 (cm + xm))).heap.size := by have := blk_lt hC3; simp; omega
            clear hO3 hg3 hb3 hb13
            go_wp2
            go_roundg (ws.length - (q + 1))
            case rel => exact ⟨q + 1, da, dc, rfl, by omega, by go_num, by rw [HS.out, HSV.out, HSM.out, List.length_append, List.length_singleton]; exact hCs, by rw [HS.out, List.length_append, List.length_singleton]; exact hOs, hbs, hzs⟩
            case measure => omega
        · have hq2 : q = ws.length := by omega
          subst hq2
          have hB2 : wr.heap[w1.heap.size]? = _ := (hbx.block w1.heap.size (blk_lt hB)).trans hB
          have hO2 := hO.below hbx
          have HLV : Hid (∀ h : ¬ sumO (wkM ws) (setL k ws.length) ≤ m, BestS ws m (k + 1) s) := Lib.hid (fun h => hbest.out.leave fun h' => absurd h' h)
          have HLV2 : Hid (sumO (wkV ws) (setL k ws.length) ≤ bv → BestS ws m (k + 1) s) := Lib.hid (fun h => hbest.out.leave fun _ => by rw [← HBV.out]; exact h)
          have HTK : Hid (sumO (wkM ws) (setL k ws.length) ≤ m → bv ≤ sumO (wkV ws) (setL k ws.length) → BestS ws m (k + 1) k) := Lib.hid (fun h h' => hbest.out.take h (by rw [← HBV.out]; exact h'))
          have hbw := Bl.trans hbr hbx
          have hzw : w1.heap.size + 1 ≤ wr.heap.size := by omega
          obtain ⟨cl, hcl⟩ : ∃ cl, cl = setL k ws.length := ⟨_, rfl⟩
          obtain ⟨cv, hcv⟩ : ∃ cv, cv = sumO (wkV ws) (setL k ws.length) := ⟨_, rfl⟩
          obtain ⟨cm, hcm⟩ : ∃ cm, cm = sumO (wkM ws) (setL k ws.length) := ⟨_, rfl⟩
          rw [← hcv, ← hcm, ← hcl] at hC
          rw [← hcl] at hOc
          rw [← hcm] at HLV HTK
          rw [← hcv] at HLV2 HTK
          have HCLQ := Lib.hid hcl
          have HCV := Lib.hid hcv
          have HCM := Lib.hid hcm
          have hcll : cl.length ≤ 14 := by rw [hcl]; omega
          clear hcl hcv hcm hsum hcl0
          have c0 := blk_cell hC 0
          have c1 := blk_cell hC 1
          have c2 := blk_cell hC 2
          have b0 := blk_cell hB2 0
          have b1 := blk_cell hB2 1
          have b2 := blk_cell hB2 2
          have HBT := Lib.hid (better_any (nats cl) (nats bl) cv cm bv bm _ _ wr (by rw [nats_len]; omega) (by rw [nats_len]; omega) hOc.ints0 hO2.ints0)
          by_cases hfe : cm ≤ m
          · generalize hbt : decide (orF [cmpI bv cv, cmpI cm bm, cmpL (nats cl) (nats bl)] < 0) = bt at *
            have HT := Lib.hid hbt
            clear hbt
            go_wp2_with fail
            refine HBT.out.mono ?_
            rintro e w5 ⟨rfl, hb5⟩
            have hC5 := blk_below hC hb5
            have hB5 := blk_below hB2 hb5
            have hO5 := hO2.below hb5
            have hOc5 := hOc.below hb5
            have hbw5 := Bl.trans hbw hb5
            have hz5 : w1.heap.size + 1 ≤ w5.heap.size := Nat.le_trans hzw hb5.size
            cases bt
            · have HL := Lib.hid (HLV2.out (better_no HT.out))
              go_wp2
              go_roundg (pw ws.length - (k + 1))
              case rel => exact ⟨k + 1, s, ba, bc, rfl, by omega, by go_num, by rw [← HBV.out, ← HBM.out, ← HBL.out]; exact hB5, by rw [← HBL.out]; exact hO5, HL, hbw5, hz5⟩
              case measure => omega
            · have HL := Lib.hid (HTK.out hfe (better_yes HT.out))
              have d0 := blk_cell hC5 0
              have d1 := blk_cell hC5 1
              have d2 := blk_cell hC5 2
              have g0 := blk_cell hB5 0
              have g1 := blk_cell hB5 1
              have g2 := blk_cell hB5 2
              have f0 := blk_free hB5 0
              have f1 := blk_free hB5 1
              have f2 := blk_free hB5 2
              have hBs := blk_set (blk_set (blk_set hB5 0 (.slice ca cl.length cc)) 1 (.int .i64 cv)) 2 (.int .i64 cm)
              have hOd := own_base hOc5 (show w1.heap.size + 1 ≤ wo.heap.size + 1 by omega)
              have hOs := own_far (own_far (own_far hOd (Nat.lt_succ_self w1.heap.size) 0 (.slice ca cl.length cc)) (Nat.lt_succ_self w1.heap.size) 1 (.int .i64 cv)) (Nat.lt_succ_self w1.heap.size) 2 (.int .i64 cm)
              have hbs := Bl.set (Bl.set (Bl.set hbw5 w1.heap.size 0 (Nat.le_refl _) (.slice ca cl.length cc)) w1.heap.size 1 (Nat.le_refl _) (.int .i64 cv)) w1.heap.size 2 (Nat.le_refl _) (.int .i64 cm)
              have hzs : w1.heap.size + 1 ≤ (((w5.setCell ⟨w1.heap.size, 0, none⟩ (.slice ca cl.length cc)).setCell ⟨w1.heap.size, 1, none⟩ (.int .i64 cv)).setCell ⟨w1.heap.size, 2, none⟩ (.int .i64 cm)).heap.size := by simp; omega
              go_wp2
              go_roundg (pw ws.length - (k + 1))
              case rel => exact ⟨k + 1, k, ca, cc, rfl, by omega, by go_num, by rw [← HCV.out, ← HCM.out, ← HCLQ.out]; exact hBs, by rw [← HCLQ.out]; exact hOs, HL, hbs, hzs⟩
              case measure => omega
          · have HL := Lib.hid (HLV.out hfe)
            go_wp2
            go_roundg (pw ws.length - (k + 1))
            case rel => exact ⟨k + 1, s, ba, bc, rfl, by omega, by go_num, by rw [← HBV.out, ← HBM.out, ← HBL.out]; exact hB2, by rw [← HBL.out]; exact hO2, HL, hbw, hzw⟩
            case measure => omega
    · obtain rfl : k = pw ws.length := by omega
      have b0 := blk_cell hB 0
      have b1 := blk_cell hB 1
      have hbw := Bl.trans hb1 hbr
      have hbz := hb1.size
      have HBS : Hid (BestS ws m (2 ^ ws.length) s) := Lib.hid hbest.out
      go_wp2
      go_region
      all_goals (
        go_wp2
        go_ret3
        exact ⟨⟨s, _, by rw [← HBV.out] <;> rfl, by rw [← HBL.out]; exact own_base (hO.below (Below.drew (Below.refl _ _))) (by omega), HBS.out⟩, Below.drew hbw⟩)
end Go.Proofs.YtbkglhakhahfpaaGreatDoor
