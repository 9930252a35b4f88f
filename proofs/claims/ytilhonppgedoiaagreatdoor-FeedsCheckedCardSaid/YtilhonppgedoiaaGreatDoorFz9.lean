/- Texts of the proof of a law, put together, part 9 of 46. Conditions: none beyond those that each theorem names. -/
import Derived.Test.YtilhonppgedoiaaGreatDoorFz1
import Derived.Test.YtilhonppgedoiaaGreatDoorFz3
import Derived.Test.YtilhonppgedoiaaGreatDoorFz8
namespace Go.Proofs.YtilhonppgedoiaaGreatDoor
open Go.RowKit Go.Sort
def spanF (n lo hi : Int) : Int := if lo ≤ n ∧ n ≤ hi then 0 else 1
theorem SpanFault_any (n lo hi : Int) (w : World) :
    Calls Tryz.prog 92 #[.int .i64 n, .int .i64 lo, .int .i64 hi] w fun e w' => e = .returned (.int .i64 (spanF n lo hi)) ∧ w = w' := by
  by_cases h1 : lo ≤ n
  · by_cases h2 : n ≤ hi
    · have H : Hid (spanF n lo hi = 0) := Lib.hid (by unfold spanF; rw [if_pos ⟨h1, h2⟩])
      go_enter Tryz.func92, Tryz.ntmps92
      go_wp2
      go_ret
      exact ⟨ret_int H.out.symm, rfl⟩
    · have H : Hid (spanF n lo hi = 1) := Lib.hid (by unfold spanF; rw [if_neg (fun h => h2 h.2)])
      go_enter Tryz.func92, Tryz.ntmps92
      go_wp2
      go_ret
      exact ⟨ret_int H.out.symm, rfl⟩
  · have H : Hid (spanF n lo hi = 1) := Lib.hid (by unfold spanF; rw [if_neg (fun h => h1 h.1)])
    go_enter Tryz.func92, Tryz.ntmps92
    go_wp2
    go_ret
    exact ⟨ret_int H.out.symm, rfl⟩
end Go.Proofs.YtilhonppgedoiaaGreatDoor
namespace Go.Proofs.YtilhonppgedoiaaGreatDoor
open Go.RowKit Go.Sort
/-- events: when, kind, feeder, reel, how many, board. -/
abbrev Fed := Int × Int × ByteArray × ByteArray × Int × ByteArray
def TFe : Rty Fed := { e := 37, S := 27, k := 6, b := 72, z := .agg #[.int .i64 0, .int .i64 0, .string ByteArray.empty, .string ByteArray.empty, .int .i64 0, .string ByteArray.empty], f := fun x => [.int .i64 x.1, .int .i64 x.2.1, .string x.2.2.1, .string x.2.2.2.1, .int .i64 x.2.2.2.2.1, .string x.2.2.2.2.2] }
theorem TFe.ok : TFe.Ok := ⟨by kernel_rfl, Tryz.underlying27, rfl, by decide, fun _ => rfl, fun x u hu => by simp [TFe] at hu; rcases hu with rfl | rfl | rfl | rfl | rfl | rfl <;> rfl, by decide⟩
def uF (k : Int) : Bool := decide (k = 1) || decide (k = 2) || decide (k = 3) || decide (k = 4)
def uR (k : Int) : Bool := decide (k = 1) || decide (k = 2) || decide (k = 5)
def uM (k : Int) : Bool := decide (k = 4) || decide (k = 5)
def uB (k : Int) : Bool := decide (k = 4)
set_option maxHeartbeats 2000000 in
set_option maxRecDepth 100000 in
theorem usesOf_any (k : Int) (w : World) (h1 : 1 ≤ k) (h5 : k ≤ 5) :
    Calls Tryz.prog 73 #[.int .i64 k] w fun e w' => e = .returned (.agg #[.bool (uF k), .bool (uR k), .bool (uM k), .bool (uB k)]) ∧ Below w.heap.size w w' := by
  have q0 : ∀ a b c d : Bool, (w.alloc (.cells #[.bool a, .bool b, .bool c, .bool d] 123)).cell? ⟨w.heap.size, 0, none⟩ = some (.bool a) := fun a b c d => blk_cell (blk_new w _) 0
  have q1 : ∀ a b c d : Bool, (w.alloc (.cells #[.bool a, .bool b, .bool c, .bool d] 123)).cell? ⟨w.heap.size, 1, none⟩ = some (.bool b) := fun a b c d => blk_cell (blk_new w _) 1
  have q2 : ∀ a b c d : Bool, (w.alloc (.cells #[.bool a, .bool b, .bool c, .bool d] 123)).cell? ⟨w.heap.size, 2, none⟩ = some (.bool c) := fun a b c d => blk_cell (blk_new w _) 2
  have q3 : ∀ a b c d : Bool, (w.alloc (.cells #[.bool a, .bool b, .bool c, .bool d] 123)).cell? ⟨w.heap.size, 3, none⟩ = some (.bool d) := fun a b c d => blk_cell (blk_new w _) 3
  have Q := Lib.hid (And.intro q0 (And.intro q1 (And.intro q2 q3)))
  have hk : k = 1 ∨ k = 2 ∨ k = 3 ∨ k = 4 ∨ k = 5 := by omega
  clear h1 h5 q0 q1 q2 q3
  rcases hk with rfl | rfl | rfl | rfl | rfl
  all_goals (
    go_enter Tryz.func73, Tryz.ntmps73
    go_wp2)
  · refine bodyPost_ret (v := .agg #[.bool true, .bool true, .bool false, .bool false]) (by simp [results, Tryz.results73, go_sem, Q.out.1, Q.out.2.1, Q.out.2.2.1, Q.out.2.2.2]) rfl ?_
    exact ⟨rfl, Bl.alloc (Below.refl _ _) _⟩
  · refine bodyPost_ret (v := .agg #[.bool true, .bool true, .bool false, .bool false]) (by simp [results, Tryz.results73, go_sem, Q.out.1, Q.out.2.1, Q.out.2.2.1, Q.out.2.2.2]) rfl ?_
    exact ⟨rfl, Bl.alloc (Below.refl _ _) _⟩
  · refine bodyPost_ret (v := .agg #[.bool true, .bool false, .bool false, .bool false]) (by simp [results, Tryz.results73, go_sem, Q.out.1, Q.out.2.1, Q.out.2.2.1, Q.out.2.2.2]) rfl ?_
    exact ⟨rfl, Bl.alloc (Below.refl _ _) _⟩
  · refine bodyPost_ret (v := .agg #[.bool true, .bool false, .bool true, .bool true]) (by simp [results, Tryz.results73, go_sem, Q.out.1, Q.out.2.1, Q.out.2.2.1, Q.out.2.2.2]) rfl ?_
    exact ⟨rfl, Bl.alloc (Below.refl _ _) _⟩
  · refine bodyPost_ret (v := .agg #[.bool false, .bool true, .bool true, .bool false]) (by simp [results, Tryz.results73, go_sem, Q.out.1, Q.out.2.1, Q.out.2.2.1, Q.out.2.2.2]) rfl ?_
    exact ⟨rfl, Bl.alloc (Below.refl _ _) _⟩
theorem uses_any (k : Int) (w : World) (h1 : 1 ≤ k) (h5 : k ≤ 5) :
    Calls Tryz.prog 46 #[.int .i64 k] w fun e w' => e = .returned (.tuple #[.bool (uF k), .bool (uR k), .bool (uM k), .bool (uB k)]) ∧ w = w' := by
  have hk : k = 1 ∨ k = 2 ∨ k = 3 ∨ k = 4 ∨ k = 5 := by omega
  clear h1 h5
  rcases hk with rfl | rfl | rfl | rfl | rfl
  all_goals (
    go_enter Tryz.func46, Tryz.ntmps46
    go_wp2
    refine bodyPost_ret (by simp [results, Tryz.results46, go_sem]; rfl) rfl ?_
    exact ⟨rfl, rfl⟩)
/-- whether an event has its form. -/
def formB (x : Fed) : Bool :=
  (uF x.2.1 || x.2.2.1.toList.isEmpty) && (uR x.2.1 || x.2.2.2.1.toList.isEmpty) && (uM x.2.1 || decide (x.2.2.2.2.1 = 0)) && (uB x.2.1 || x.2.2.2.2.2.toList.isEmpty)
end Go.Proofs.YtilhonppgedoiaaGreatDoor
namespace Go.Proofs.YtilhonppgedoiaaGreatDoor
open Go.RowKit Go.Sort
abbrev Lf := ByteArray → Int
def updL (left : Lf) (k : ByteArray) (n : Int) : Lf := fun x => if x = k then n else left x
theorem updL_at (left : Lf) (k : ByteArray) (n : Int) : updL left k n k = n := if_pos rfl
theorem updL_ne (left : Lf) {k x : ByteArray} (n : Int) (h : x ≠ k) : updL left k n x = left x := if_neg h
theorem updL_upd (left : Lf) (k : ByteArray) (n m : Int) : updL (updL left k n) k m = updL left k m := by
  funext x; unfold updL; by_cases h : x = k <;> simp [h]
/-- empty reels that others follow are taken out. -/
def dropE (left : Lf) : List ByteArray → List ByteArray
  | [] => []
  | [a] => [a]
  | a :: b :: l => if left a = 0 then dropE left (b :: l) else a :: b :: l
def addT : List (ByteArray × Int) → ByteArray → List (ByteArray × Int)
  | [], k => [(k, 1)]
  | (x, m) :: r, k => if x = k then (x, m + 1) :: r else (k, 1) :: (x, m) :: r
/-- one by one. -/
def takeO : Nat → Lf → List ByteArray → List (ByteArray × Int) → Lf × List ByteArray × List (ByteArray × Int)
  | 0, left, l, log => (left, dropE left l, log)
  | n + 1, left, l, log => match dropE left l with
    | [] => (left, [], log)
    | k :: r => takeO n (updL left k (left k - 1)) (k :: r) (addT log k)
/-- reel by reel, of a row that is cleared. -/
def takeP : Nat → Int → Lf → List ByteArray → List (ByteArray × Int) → Lf × List ByteArray × List (ByteArray × Int)
  | 0, _, left, l, log => (left, l, log)
  | fuel + 1, n, left, l, log => if n ≤ 0 then (left, l, log) else match l with
    | [] => (left, l, log)
    | k :: r => takeP fuel (n - min n (left k)) (updL left k (left k - min n (left k))) (dropE (updL left k (left k - min n (left k))) (k :: r)) ((k, min n (left k)) :: log)
def sumL (left : Lf) : List ByteArray → Int
  | [] => 0
  | k :: r => left k + sumL left r
theorem dropE_pos {left : Lf} {k : ByteArray} (r : List ByteArray) (h : left k ≠ 0) : dropE left (k :: r) = k :: r := by
  cases r with
  | nil => rfl
  | cons b l => show (if left k = 0 then _ else _) = _; rw [if_neg h]
theorem dropE_idem (left : Lf) : ∀ l : List ByteArray, dropE left (dropE left l) = dropE left l
  | [] => rfl
  | [a] => rfl
  | a :: b :: l => by
    by_cases h : left a = 0
    · have e : dropE left (a :: b :: l) = dropE left (b :: l) := by show (if left a = 0 then _ else _) = _; rw [if_pos h]
      rw [e]; exact dropE_idem left (b :: l)
    · have e := dropE_pos (b :: l) h
      rw [e, e]
theorem dropE_suffix (left : Lf) : ∀ l : List ByteArray, dropE left l <:+ l
  | [] => List.suffix_refl _
  | [a] => List.suffix_refl _
  | a :: b :: l => by
    by_cases h : left a = 0
    · have e : dropE left (a :: b :: l) = dropE left (b :: l) := by show (if left a = 0 then _ else _) = _; rw [if_pos h]
      rw [e]; exact (dropE_suffix left (b :: l)).trans (List.suffix_cons a _)
    · rw [dropE_pos (b :: l) h]; exact List.suffix_refl _
theorem dropE_sum (left : Lf) : ∀ l : List ByteArray, sumL left (dropE left l) = sumL left l
  | [] => rfl
  | [a] => rfl
  | a :: b :: l => by
    by_cases h : left a = 0
    · have e : dropE left (a :: b :: l) = dropE left (b :: l) := by show (if left a = 0 then _ else _) = _; rw [if_pos h]
      rw [e, dropE_sum left (b :: l)]
      show _ = left a + sumL left (b :: l)
      omega
    · rw [dropE_pos (b :: l) h]
theorem takeO_drop (n : Nat) (left : Lf) (l : List ByteArray) (log : List (ByteArray × Int)) : takeO n left (dropE left l) log = takeO n left l log := by
  cases n with
  | zero => show (left, dropE left (dropE left l), log) = _; rw [dropE_idem]; rfl
  | succ n => rw [takeO, takeO, dropE_idem]
theorem takeO_run (k : ByteArray) (r : List ByteArray) (log : List (ByteArray × Int)) (m : Nat) : ∀ (t : Nat) (left : Lf) (a : Int), (t : Int) ≤ left k → takeO (t + m) left (k :: r) ((k, a) :: log) = takeO m (updL left k (left k - t)) (k :: r) ((k, a + t) :: log)
  | 0, left, a, _ => by
    have e : updL left k (left k - (0 : Nat)) = left := by
      funext x; unfold updL; by_cases h : x = k
      · rw [if_pos h, h]; simp
      · rw [if_neg h]
    rw [e, Nat.zero_add]
    simp
  | t + 1, left, a, h => by
    have hk : left k ≠ 0 := by omega
    rw [show t + 1 + m = (t + m) + 1 by omega, takeO, dropE_pos r hk]
    show takeO (t + m) (updL left k (left k - 1)) (k :: r) (if k = k then (k, a + 1) :: log else _) = _
    rw [if_pos rfl, takeO_run k r log m t (updL left k (left k - 1)) (a + 1) (by rw [updL_at]; omega), updL_upd, updL_at]
    have e1 : left k - 1 - (t : Int) = left k - ((t + 1 : Nat) : Int) := by omega
    have e2 : a + 1 + (t : Int) = a + ((t + 1 : Nat) : Int) := by omega
    rw [e1, e2]
theorem takeO_first (k : ByteArray) (r : List ByteArray) (log : List (ByteArray × Int)) (m t : Nat) (left : Lf) (h : ((t + 1 : Nat) : Int) ≤ left k) (hl : ∀ x, log.head? = some x → x.1 ≠ k) :
    takeO (t + 1 + m) left (k :: r) log = takeO m (updL left k (left k - (t + 1 : Nat))) (k :: r) ((k, ((t + 1 : Nat) : Int)) :: log) := by
  have hk : left k ≠ 0 := by omega
  have ha : addT log k = (k, 1) :: log := by
    cases log with
    | nil => rfl
    | cons x r => obtain ⟨y, c⟩ := x; show (if y = k then _ else _) = _; rw [if_neg (hl (y, c) rfl)]
  rw [show t + 1 + m = (t + m) + 1 by omega, takeO, dropE_pos r hk]
  show takeO (t + m) (updL left k (left k - 1)) (k :: r) (addT log k) = _
  rw [ha, takeO_run k r log m t _ 1 (by rw [updL_at]; omega), updL_upd, updL_at]
  have e1 : left k - 1 - (t : Int) = left k - ((t + 1 : Nat) : Int) := by omega
  have e2 : (1 : Int) + (t : Int) = ((t + 1 : Nat) : Int) := by omega
  rw [e1, e2]
theorem sumL_upd (left : Lf) (k : ByteArray) (n : Int) : ∀ l : List ByteArray, k ∉ l → sumL (updL left k n) l = sumL left l
  | [], _ => rfl
  | x :: r, h => by
    have hx : x ≠ k := fun e => h (by rw [e]; exact List.mem_cons_self ..)
    show updL left k n x + sumL (updL left k n) r = left x + sumL left r
    rw [updL_ne left n hx, sumL_upd left k n r (fun hm => h (List.mem_cons_of_mem _ hm))]
/-- both ways to take leave the same. -/
theorem takeO_P : ∀ (N n : Nat) (fuel : Nat) (left : Lf) (l : List ByteArray) (log : List (ByteArray × Int)), n ≤ N → n ≤ fuel → dropE left l = l → (n : Int) ≤ sumL left l → (∀ x ∈ l, 0 ≤ left x) → l.Nodup → (n = 0 ∨ ∀ x, log.head? = some x → x.1 ∉ l) →
    takeO n left l log = takeP fuel n left l log
  | _, 0, fuel, left, l, log, _, _, hd, _, _, _, _ => by
    show (left, dropE left l, log) = _
    rw [hd]
    cases fuel with
    | zero => rfl
    | succ f => rw [takeP.eq_def]; exact (if_pos (by omega : ((0 : Nat) : Int) ≤ 0)).symm
  | 0, n + 1, _, _, _, _, h, _, _, _, _, _, _ => by omega
  | N + 1, n + 1, 0, _, _, _, _, h, _, _, _, _, _ => by omega
  | N + 1, n + 1, fuel + 1, left, l, log, hN, hf, hd, hs, h0, hnd, hlog => by
    have hlog' : ∀ x, log.head? = some x → x.1 ∉ l := by
      rcases hlog with h | h
      · omega
      · exact h
    cases l with
    | nil => simp only [sumL] at hs; omega
    | cons k r =>
      have hk0 := h0 k (List.mem_cons_self ..)
      have hkr : k ∉ r := (List.nodup_cons.1 hnd).1
      have hkp : 0 < left k := by
        cases r with
        | nil => simp only [sumL] at hs; omega
        | cons b t =>
          by_cases hz : left k = 0
          · have e : dropE left (k :: b :: t) = dropE left (b :: t) := by show (if left k = 0 then _ else _) = _; rw [if_pos hz]
            rw [e] at hd
            have hl := (dropE_suffix left (b :: t)).length_le
            rw [hd] at hl
            simp at hl
            omega
          · omega
      rw [takeP, if_neg (by omega)]
      show _ = takeP fuel _ _ _ _
      obtain ⟨t, ht⟩ : ∃ t : Nat, ((t + 1 : Nat) : Int) = min ((n + 1 : Nat) : Int) (left k) := ⟨(min ((n + 1 : Nat) : Int) (left k)).toNat - 1, by omega⟩
      rw [← ht]
      obtain ⟨m, hm⟩ : ∃ m, n + 1 = t + 1 + m := ⟨n + 1 - (t + 1), by omega⟩
      rw [hm, takeO_first k r log m t left (by omega) (fun x hx e => hlog' x hx (by rw [e]; exact List.mem_cons_self ..)), ← takeO_drop]
      have e3 : ((t + 1 + m : Nat) : Int) - ((t + 1 : Nat) : Int) = (m : Int) := by omega
      rw [e3]
      have hsum : sumL (updL left k (left k - ((t + 1 : Nat) : Int))) (k :: r) = sumL left (k :: r) - ((t + 1 : Nat) : Int) := by
        show updL left k _ k + sumL (updL left k _) r = left k + sumL left r - _
        rw [updL_at, sumL_upd left k _ r hkr]; omega
      have hsf := dropE_suffix (updL left k (left k - ((t + 1 : Nat) : Int))) (k :: r)
      refine takeO_P N m fuel _ _ _ (by omega) (by omega) (dropE_idem _ _) (by rw [dropE_sum, hsum]; omega) ?_ (hnd.sublist hsf.sublist) ?_
      · intro x hx
        have hx' := hsf.subset hx
        by_cases he : x = k
        · rw [he, updL_at]; omega
        · rw [updL_ne left _ he]; exact h0 x hx'
      · by_cases hm0 : m = 0
        · exact .inl hm0
        · refine .inr fun x hx => ?_
          simp only [List.head?_cons, Option.some.injEq] at hx
          subst hx
          have htk : ((t + 1 : Nat) : Int) = left k := by omega
          intro hmem
          cases r with
          | nil => simp only [sumL] at hs; omega
          | cons b u =>
            have e : dropE (updL left k (left k - ((t + 1 : Nat) : Int))) (k :: b :: u) = dropE (updL left k (left k - ((t + 1 : Nat) : Int))) (b :: u) := by
              show (if updL left k _ k = 0 then _ else _) = _
              rw [updL_at, if_pos (by omega)]
            rw [e] at hmem
            exact hkr ((dropE_suffix _ _).subset hmem)
end Go.Proofs.YtilhonppgedoiaaGreatDoor
