/- Plain facts on tours: their lengths as sums over lists of points; a part that is turned. No program, no conditions. · The contracts of turn and shorter: the first part of an order whose turn makes the tour shorter. Condition: orders of at most 1000 places. -/
import Derived.Test.YtbkglhakhahfpaaGreatDoorSl
import Derived.Test.YtbkglhakhahfpaaGreatDoorMake2
namespace Go.Proofs.YtbkglhakhahfpaaGreatDoor

def pl : List Pt → Int
  | [] => 0
  | [_] => 0
  | a :: b :: r => dist a b + pl (b :: r)

theorem iabs_neg (n : Int) : iabs (-n) = iabs n := by unfold iabs; omega
theorem dist_comm (a b : Pt) : dist a b = dist b a := by
  unfold dist
  rw [show a.1 - b.1 = -(b.1 - a.1) by omega, show a.2 - b.2 = -(b.2 - a.2) by omega, iabs_neg, iabs_neg]
theorem dist_nonneg (a b : Pt) : 0 ≤ dist a b := by unfold dist iabs; omega
theorem dist_self (a : Pt) : dist a a = 0 := by unfold dist iabs; omega
theorem dist_tri (a b c : Pt) : dist a c ≤ dist a b + dist b c := by unfold dist iabs; omega

theorem pl_append : ∀ (A B : List Pt) (hA : A ≠ []) (hB : B ≠ []), pl (A ++ B) = pl A + dist (A.getLast hA) (B.head hB) + pl B
  | [], _, hA, _ => absurd rfl hA
  | [a], B, _, hB => by
    cases B with
    | nil => exact absurd rfl hB
    | cons b r => simp [pl]
  | a :: a' :: A, B, _, hB => by
    have ih := pl_append (a' :: A) B (by simp) hB
    simp only [List.cons_append, pl, List.getLast_cons_cons] at ih ⊢
    rw [ih]; omega
theorem pl_reverse (l : List Pt) : pl l.reverse = pl l := by
  induction l with
  | nil => rfl
  | cons a l ih =>
    cases l with
    | nil => rfl
    | cons b r =>
      rw [List.reverse_cons, pl_append _ _ (by simp) (by simp), ih]
      simp only [List.getLast_reverse, List.head_cons, pl]
      rw [dist_comm b a]; omega

def pt (P : List Pt) (k : Nat) : Pt := P.getD k (0, 0)
theorem walkTo_pl (P : List Pt) : ∀ (o : List Nat) (a : Pt) (n : Int), (walkTo P a n o).2 = n + pl (a :: o.map (pt P)) ∧ (walkTo P a n o).1 = (a :: o.map (pt P)).getLast (by simp)
  | [], a, n => by simp [walkTo, pl]
  | k :: o, a, n => by
    obtain ⟨h1, h2⟩ := walkTo_pl P o (pt P k) (n + dist a (pt P k))
    simp only [walkTo, List.map_cons]
    refine ⟨?_, ?_⟩
    · show (walkTo P (pt P k) (n + dist a (pt P k)) o).2 = _
      rw [h1]; simp only [pl]; omega
    · show (walkTo P (pt P k) (n + dist a (pt P k)) o).1 = _
      rw [h2, List.getLast_cons_cons]
theorem lenOf_pl (st : Pt) (P : List Pt) (o : List Nat) : lenOf st P o = pl (st :: o.map (pt P) ++ [st]) := by
  obtain ⟨h1, h2⟩ := walkTo_pl P o st 0
  unfold lenOf
  rw [h1, h2, pl_append _ _ (by simp) (by simp)]
  simp [pl]
theorem pl_nonneg : ∀ l : List Pt, 0 ≤ pl l
  | [] => Int.le_refl _
  | [_] => Int.le_refl _
  | a :: b :: r => by
    have := pl_nonneg (b :: r)
    have := dist_nonneg a b
    simp only [pl]; omega
theorem lenOf_nonneg (st : Pt) (P : List Pt) (o : List Nat) : 0 ≤ lenOf st P o := by rw [lenOf_pl]; exact pl_nonneg _

/-- the point at a place of an order: the start ahead of it and behind it. -/
def pointAt (st : Pt) (P : List Pt) (o : List Nat) (place : Int) : Pt := if place < 0 ∨ place = o.length then st else pt P (o.getD place.toNat 0)

/-- what the turn of the part from i to k changes. -/
def gain (st : Pt) (P : List Pt) (o : List Nat) (i k : Nat) : Prop :=
  dist (pointAt st P o ((i : Int) - 1)) (pointAt st P o k) + dist (pointAt st P o i) (pointAt st P o ((k : Int) + 1)) < dist (pointAt st P o ((i : Int) - 1)) (pointAt st P o i) + dist (pointAt st P o k) (pointAt st P o ((k : Int) + 1))

theorem turn_pl (A B C : List Pt) (hA : A ≠ []) (hB : B ≠ []) (hC : C ≠ []) :
    pl (A ++ B.reverse ++ C) = pl (A ++ B ++ C) + (dist (A.getLast hA) (B.getLast hB) + dist (B.head hB) (C.head hC)) - (dist (A.getLast hA) (B.head hB) + dist (B.getLast hB) (C.head hC)) := by
  rw [pl_append (A ++ B.reverse) C (by simp [hA]) hC, pl_append A B.reverse hA (by simpa using hB), pl_append (A ++ B) C (by simp [hA]) hC, pl_append A B hA hB, pl_reverse]
  rw [List.getLast_append_of_ne_nil _ (show B.reverse ≠ [] by simpa using hB), List.getLast_append_of_ne_nil _ hB, List.head_reverse, List.getLast_reverse]
  omega

theorem rev_len (st : Pt) (P : List Pt) (o : List Nat) (i k : Nat) (hik : i ≤ k) (hk : k < o.length) :
    lenOf st P (revSeg o i (k + 1 - i)) < lenOf st P o ↔ gain st P o i k := by
  have ho : o = o.take i ++ (o.drop i).take (k + 1 - i) ++ o.drop (k + 1) := by
    conv => lhs; rw [← List.take_append_drop i o, ← List.take_append_drop (k + 1 - i) (o.drop i), List.drop_drop, show i + (k + 1 - i) = k + 1 by omega]
    rw [List.append_assoc]
  have hr : revSeg o i (k + 1 - i) = o.take i ++ ((o.drop i).take (k + 1 - i)).reverse ++ o.drop (k + 1) := by
    unfold revSeg splice
    rw [List.length_reverse, List.length_take, List.length_drop, show i + min (k + 1 - i) (o.length - i) = k + 1 by omega]
  have hB : (o.drop i).take (k + 1 - i) ≠ [] := by
    intro h
    have := congrArg List.length h
    rw [List.length_take, List.length_drop] at this
    simp at this; omega
  have hA' : (st :: (o.take i).map (pt P)) ≠ [] := by simp
  have hB' : ((o.drop i).take (k + 1 - i)).map (pt P) ≠ [] := by simpa using hB
  have hC' : ((o.drop (k + 1)).map (pt P) ++ [st]) ≠ [] := by simp
  have key := turn_pl _ _ _ hA' hB' hC'
  have e1 : lenOf st P (revSeg o i (k + 1 - i)) = pl ((st :: (o.take i).map (pt P)) ++ (((o.drop i).take (k + 1 - i)).map (pt P)).reverse ++ ((o.drop (k + 1)).map (pt P) ++ [st])) := by
    rw [lenOf_pl, hr]; simp
  have e2 : lenOf st P o = pl ((st :: (o.take i).map (pt P)) ++ ((o.drop i).take (k + 1 - i)).map (pt P) ++ ((o.drop (k + 1)).map (pt P) ++ [st])) := by
    rw [lenOf_pl]; conv => lhs; rw [ho]
    simp
  have hi : i < o.length := by omega
  have f1 : (st :: (o.take i).map (pt P)).getLast hA' = pointAt st P o ((i : Int) - 1) := by
    unfold pointAt
    cases i with
    | zero => simp
    | succ j =>
      rw [if_neg (by omega)]
      rw [List.getLast_cons (by simp; intro h; rw [h] at hk; simp at hk), List.getLast_map, List.getLast_eq_getElem]
      congr 1
      simp only [List.length_take]
      rw [List.getElem_take]
      rw [List.getD_eq_getElem?_getD, List.getElem?_eq_getElem (by omega)]
      simp only [Option.getD_some]
      congr 1; omega
  have f2 : (((o.drop i).take (k + 1 - i)).map (pt P)).head hB' = pointAt st P o i := by
    unfold pointAt
    rw [if_neg (by omega), List.head_map, List.head_take, List.head_drop]
    congr 1
    rw [List.getD_eq_getElem?_getD, Int.toNat_natCast, List.getElem?_eq_getElem hi]; rfl
  have f3 : (((o.drop i).take (k + 1 - i)).map (pt P)).getLast hB' = pointAt st P o k := by
    unfold pointAt
    rw [if_neg (by omega), List.getLast_map, List.getLast_eq_getElem]
    congr 1
    simp only [List.length_take, List.length_drop]
    rw [List.getElem_take, List.getElem_drop, List.getD_eq_getElem?_getD, Int.toNat_natCast, List.getElem?_eq_getElem hk]
    simp only [Option.getD_some]
    congr 1; omega
  have f4 : ((o.drop (k + 1)).map (pt P) ++ [st]).head hC' = pointAt st P o ((k : Int) + 1) := by
    unfold pointAt
    by_cases h : k + 1 < o.length
    · rw [if_neg (by omega)]
      have hne : o.drop (k + 1) ≠ [] := by intro h'; have := congrArg List.length h'; simp at this; omega
      rw [List.head_append_of_ne_nil (by simpa using hne), List.head_map, List.head_drop]
      congr 1
      rw [List.getD_eq_getElem?_getD, show ((k : Int) + 1).toNat = k + 1 by omega, List.getElem?_eq_getElem h]; rfl
    · rw [if_pos (by omega)]
      have : o.drop (k + 1) = [] := List.drop_eq_nil_of_le (by omega)
      simp [this]
  rw [f1, f2, f3, f4] at key
  unfold gain
  rw [e1, e2, key]
  omega
end Go.Proofs.YtbkglhakhahfpaaGreatDoor
namespace Go.Proofs.YtbkglhakhahfpaaGreatDoor
open Go.RowKit Go.Sort

theorem distance_xy (ax ay bx bY : Int) (w : World) (ha : Bd (ax, ay)) (hb : Bd (bx, bY)) :
    Calls Tryz.prog 212 #[.agg #[.int .i64 ax, .int .i64 ay], .agg #[.int .i64 bx, .int .i64 bY]] w fun e w' => e = .returned (.int .i64 (dist (ax, ay) (bx, bY))) ∧ Below w.heap.size w w' := distance_any (ax, ay) (bx, bY) w ha hb
theorem blk2 {w : World} {g : Nat} {x y : Value} {t : TypeId} (h : w.heap[g]? = some (.cells #[x, y] t (0, 0))) : w.cell? ⟨g, 0, none⟩ = some x ∧ w.cell? ⟨g, 1, none⟩ = some y :=
  ⟨blk_cell h 0, blk_cell h 1⟩
theorem pointAt_out {st : Pt} {P : List Pt} {o : List Nat} {place : Int} (h : place < 0 ∨ place = o.length) : pointAt st P o place = st := by unfold pointAt; rw [if_pos h]
theorem pointAt_in {st : Pt} {P : List Pt} {o : List Nat} {k i : Nat} {p : Pt} (h1 : o[k]? = some i) (h2 : P[i]? = some p) : pointAt st P o k = p := by
  have hk := (List.getElem?_eq_some_iff.1 h1).1
  unfold pointAt
  rw [if_neg (by omega), Int.toNat_natCast, List.getD_eq_getElem?_getD, h1]
  simp only [Option.getD_some, pt]
  rw [List.getD_eq_getElem?_getD, h2]; rfl

set_option maxHeartbeats 1000000 in
theorem tpoint_any (st : Pt) (P : List Pt) (o : List Nat) (vo vp : Value) (gO gS gP : Nat) (place : Int) (w : World) (hO : w.heap[gO]? = some (.cells #[vo] 22 (0, 0)))
    (hS : w.heap[gS]? = some (.cells #[.int .i64 st.1, .int .i64 st.2] 81 (0, 0))) (hP : w.heap[gP]? = some (.cells #[vp] 82 (0, 0))) (ro : Ints w 0 vo (nats o)) (rp : Pts w 0 vp P)
    (hin : ∀ k ∈ o, k < P.length) (h1 : -1 ≤ place) (h2 : place ≤ o.length) (hlen : o.length ≤ 1000) :
    Calls Tryz.prog 217 #[.int .i64 place, .pointer (some ⟨gO, 0, none⟩), .pointer (some ⟨gS, 0, none⟩), .pointer (some ⟨gP, 0, none⟩)] w fun e w' => e = .returned (ptv (pointAt st P o place)) ∧ Below w.heap.size w w' := by
  obtain ⟨a, cap, rfl, hc1, hc2⟩ := Pts.form rp
  obtain ⟨a', cap', rfl, hc1', hc2'⟩ := Ints.form ro
  obtain ⟨sx, sy⟩ := st
  rw [nats_len] at *
  have lO := blk_lt hO
  have lS := blk_lt hS
  have lP := blk_lt hP
  have kO := blk_cell hO 0
  have kP := blk_cell hP 0
  have k0 := blk_cell hS 0
  have k1 := blk_cell hS 1
  simp only [List.getElem?_toArray, List.getElem?_cons_zero, List.getElem?_cons_succ] at kO kP k0 k1
  clear hO hS hP
  by_cases hout : place < 0 ∨ place = o.length
  · have HV := Lib.hid (pointAt_out (st := (sx, sy)) (P := P) hout)
    by_cases hneg : place < 0
    all_goals
      first
        | have hd : (place == (o.length : Int)) = true := by (simp; omega)
        | skip
      go_enter Tryz.func217, Tryz.ntmps217
      go_wp2
      have q0 := blk_cell (blk_new w (.cells #[.int .i64 sx, .int .i64 sy] 81)) 0
      have q1 := blk_cell (blk_new w (.cells #[.int .i64 sx, .int .i64 sy] 81)) 1
      refine bodyPost_ret (v := ptv (sx, sy)) (by simp [results, Tryz.results217, go_sem, ptv, q0, q1]) rfl ⟨by rw [HV.out], ?_⟩
      exact Bl.alloc (Below.refl _ _) _
  · obtain ⟨k, rfl⟩ := Int.eq_ofNat_of_zero_le (show 0 ≤ place by omega)
    have hk : k < o.length := by omega
    obtain ⟨i, hi⟩ : ∃ i, o[k]? = some i := ⟨_, List.getElem?_eq_getElem hk⟩
    have hiP : i < P.length := hin i (List.mem_of_getElem? hi)
    obtain ⟨⟨px, py⟩, hp⟩ : ∃ p, P[i]? = some p := ⟨_, List.getElem?_eq_getElem hiP⟩
    have HV := Lib.hid (pointAt_in (st := (sx, sy)) hi hp)
    obtain ⟨b1, o1, rfl, _, hl1, hx1⟩ := Ints.at ro (nats_at hi)
    obtain ⟨b2, o2, rfl, _, hl2, hx2, hx3⟩ := Pts.at rp hp
    have hd : ((k : Int) == (o.length : Int)) = false := by simp; omega
    clear hi hp
    go_enter Tryz.func217, Tryz.ntmps217
    go_wp2
    go_region
    go_wp2
    have q0 := blk_cell (blk_new w (.cells #[.int .i64 px, .int .i64 py] 81)) 0
    have q1 := blk_cell (blk_new w (.cells #[.int .i64 px, .int .i64 py] 81)) 1
    refine bodyPost_ret (v := ptv (px, py)) (by simp [results, Tryz.results217, go_sem, ptv, q0, q1]) rfl ⟨by rw [HV.out], ?_⟩
    exact Below.drew (Bl.alloc (Below.refl _ _) _)

def First (st : Pt) (P : List Pt) (o : List Nat) (i k : Nat) : Prop :=
  i < k ∧ k < o.length ∧ gain st P o i k ∧ ∀ i' k', i' < k' → k' < o.length → (i' < i ∨ (i' = i ∧ k' < k)) → ¬ gain st P o i' k'
def NoGain (st : Pt) (P : List Pt) (o : List Nat) : Prop := ∀ i' k', i' < k' → k' < o.length → ¬ gain st P o i' k'
theorem nats_rev (o : List Nat) (i m : Nat) : nats (revSeg o i m) = revSeg (nats o) i m := by
  simp [nats, revSeg, splice, List.map_take, List.map_drop]
theorem pointAt_bd {st : Pt} {P : List Pt} {o : List Nat} {place : Int} (hst : Bd st) (hP : ∀ p ∈ P, Bd p) (hin : ∀ k ∈ o, k < P.length) (h2 : place ≤ o.length) : Bd (pointAt st P o place) := by
  unfold pointAt
  split
  · exact hst
  · have hk : place.toNat < o.length := by omega
    refine hP _ (getD_mem (hin _ ?_))
    rw [List.getD_eq_getElem?_getD, List.getElem?_eq_getElem hk]
    exact List.getElem_mem hk

set_option maxHeartbeats 2000000 in
set_option maxRecDepth 100000 in
theorem turn_any (st : Pt) (P : List Pt) (o : List Nat) (B : Nat) (vo vp : Value) (w : World) (hst : Bd st) (hPb : ∀ p ∈ P, Bd p) (hin : ∀ k ∈ o, k < P.length) (hlen : o.length ≤ 1000)
    (hOw : Own w B vo (nats o)) (hB : B ≤ w.heap.size) (rp : Pts w 0 vp P) :
    Calls Tryz.prog 144 #[ptv st, vp, vo] w fun e w' => ((∃ i k, First st P o i k ∧ e = .returned (.bool true) ∧ Own w' B vo (nats (revSeg o i (k + 1 - i)))) ∨ (NoGain st P o ∧ e = .returned (.bool false) ∧ Own w' B vo (nats o))) ∧ Below B w w' := by
  have hmf : ∀ (fn : Fn) (first cap : Array Value) (w : World), (Instr.makeFunc fn first cap).run Tryz.prog w = .ok (.func fn first cap) w := fun _ _ _ _ => rfl
  obtain ⟨a', cap', hvo, hc1', hc2'⟩ := Ints.form hOw.ints
  subst hvo
  obtain ⟨a, cap, hvp, hc1, hc2⟩ := Pts.form rp
  subst hvp
  obtain ⟨sx, sy⟩ := st
  rw [nats_len] at hOw hc1' ⊢
  unfold ptv
  go_enter Tryz.func144, Tryz.ntmps144
  go_wp2
  go_loopg [17] o.length (fun gk i wr => ∃ k : Nat, gk = o.length - k ∧ k ≤ o.length ∧ i = .int .i64 k ∧ Hid (∀ i' k', i' < k' → k' < o.length → i' < k → ¬ gain (sx, sy) P o i' k') ∧ Below w.heap.size w wr ∧
      wr.heap[w.heap.size]? = some (.cells #[.int .i64 sx, .int .i64 sy] 81 (0, 0)) ∧
      wr.heap[w.heap.size + 1]? = some (.cells #[.slice a P.length cap] 82 (0, 0)) ∧
      wr.heap[w.heap.size + 1 + 1]? = some (.cells #[.slice a' o.length cap'] 22 (0, 0)))
  case atStart =>
    refine ⟨0, by omega, Nat.zero_le _, rfl, Lib.hid (by intro i' k' _ _ h; omega), Bl.alloc (Bl.alloc (Bl.alloc (Below.refl _ _) _) _) _, blk_old (blk_old (blk_new w _) _) _, blk_old (blk_new' (w.alloc _) _ (by simp)) _, blk_new' ((w.alloc _).alloc _) _ (by simp)⟩
  case round =>
    obtain ⟨i, rfl, hi, rfl, hno, hb, hS, hPx, hO⟩ := hrel
    have hsz := hb.size
    have ro : Ints wr 0 (.slice a' o.length cap') (nats o) := hOw.ints0.below hb
    have rpr : Pts wr 0 (.slice a P.length cap) P := rp.below hb
    have kO := blk_cell hO 0
    simp only [List.getElem?_toArray, List.getElem?_cons_zero] at kO
    have lO := blk_lt hO
    by_cases hlt : i < o.length
    · go_wp2_with fail
      refine (tpoint_any (sx, sy) P o _ _ (w.heap.size + 1 + 1) w.heap.size (w.heap.size + 1) ((i : Int) - 1) wr hO hS hPx ro rpr hin (by omega) (by omega) hlen).mono ?_
      rintro e w1 ⟨rfl, hb1⟩
      have dB := pointAt_bd (o := o) (place := (i : Int) - 1) hst hPb hin (by omega)
      generalize hpB : pointAt (sx, sy) P o ((i : Int) - 1) = pb at *
      have HPB := Lib.hid hpB
      clear hpB
      obtain ⟨bx, bY⟩ := pb
      unfold ptv
      go_wp2_with fail
      refine (tpoint_any (sx, sy) P o _ _ (w.heap.size + 1 + 1) w.heap.size (w.heap.size + 1) (i : Int) w1 (blk_below hO hb1) (blk_below hS hb1) (blk_below hPx hb1) (ro.below hb1) (rpr.below hb1) hin (by omega) (by omega) hlen).mono ?_
      rintro e w2 ⟨rfl, hb2⟩
      have dF := pointAt_bd (o := o) (place := (i : Int)) hst hPb hin (by omega)
      generalize hpF : pointAt (sx, sy) P o (i : Int) = pf at *
      have HPF := Lib.hid hpF
      clear hpF
      obtain ⟨fx, fY⟩ := pf
      unfold ptv
      have hb12 := Bl.trans hb1 hb2
      have hO2 := blk_below hO hb12
      have hS2 := blk_below hS hb12
      have hP2 := blk_below hPx hb12
      have hw2 : Below w.heap.size w w2 := Bl.trans hb hb12
      have hz2 := hw2.size
      have lO2 := blk_lt hO2
      clear hO hS hPx kO ro rpr hb1 hb2 hb12 hb hsz lO
      go_wp2
      go_loopg [11] (o.length - (i + 1)) (fun gk kk wi => ∃ k : Nat, gk = o.length - k ∧ i + 1 ≤ k ∧ k ≤ o.length ∧ kk = .int .i64 k ∧ Hid (∀ k', i < k' → k' < k → ¬ gain (sx, sy) P o i k') ∧ Below w.heap.size w wi ∧
          wi.heap[w.heap.size]? = some (.cells #[.int .i64 sx, .int .i64 sy] 81 (0, 0)) ∧
          wi.heap[w.heap.size + 1]? = some (.cells #[.slice a P.length cap] 82 (0, 0)) ∧
          wi.heap[w.heap.size + 1 + 1]? = some (.cells #[.slice a' o.length cap'] 22 (0, 0)) ∧
          wi.heap[w2.heap.size]? = some (.cells #[.int .i64 bx, .int .i64 bY] 81 (0, 0)) ∧
          wi.heap[w2.heap.size + 1]? = some (.cells #[.int .i64 fx, .int .i64 fY] 81 (0, 0)))
      case atStart =>
        refine ⟨i + 1, by omega, Nat.le_refl _, by omega, by go_num, Lib.hid (by intro k' h1 h2; omega), Bl.alloc (Bl.alloc hw2 _) _, blk_old (blk_old hS2 _) _, blk_old (blk_old hP2 _) _, blk_old (blk_old hO2 _) _, blk_old (blk_new w2 _) _, blk_new' (w2.alloc _) _ (by simp)⟩
      case round =>
        obtain ⟨k, rfl, hk1, hk2, rfl, hnk, hb, hS, hPx, hO, hBx, hFx⟩ := hrel
        have hsz := hb.size
        have ro : Ints wr 0 (.slice a' o.length cap') (nats o) := hOw.ints0.below hb
        have rpr : Pts wr 0 (.slice a P.length cap) P := rp.below hb
        have kO := blk_cell hO 0
        simp only [List.getElem?_toArray, List.getElem?_cons_zero] at kO
        have lO := blk_lt hO
        by_cases hltk : k < o.length
        · go_wp2_with fail
          refine (tpoint_any (sx, sy) P o _ _ (w.heap.size + 1 + 1) w.heap.size (w.heap.size + 1) (k : Int) wr hO hS hPx ro rpr hin (by omega) (by omega) hlen).mono ?_
          rintro e w3 ⟨rfl, hb3⟩
          have dL := pointAt_bd (o := o) (place := (k : Int)) hst hPb hin (by omega)
          generalize hpL : pointAt (sx, sy) P o (k : Int) = pq at *
          have HPL := Lib.hid hpL
          clear hpL
          obtain ⟨lx, lY⟩ := pq
          unfold ptv
          go_wp2_with fail
          refine (tpoint_any (sx, sy) P o _ _ (w.heap.size + 1 + 1) w.heap.size (w.heap.size + 1) ((k : Int) + 1) w3 (blk_below hO hb3) (blk_below hS hb3) (blk_below hPx hb3) (ro.below hb3) (rpr.below hb3) hin (by omega) (by omega) hlen).mono ?_
          rintro e w4 ⟨rfl, hb4⟩
          have dH := pointAt_bd (o := o) (place := (k : Int) + 1) hst hPb hin (by omega)
          generalize hpH : pointAt (sx, sy) P o ((k : Int) + 1) = ph at *
          have HPH := Lib.hid hpH
          clear hpH
          obtain ⟨hx, hY⟩ := ph
          unfold ptv
          have hb34 := Bl.trans hb3 hb4
          have hO4 := blk_below hO hb34
          have hS4 := blk_below hS hb34
          have hP4 := blk_below hPx hb34
          have hB4 := blk_below hBx hb34
          have hF4 := blk_below hFx hb34
          have hw4 : Below w.heap.size w w4 := Bl.trans hb hb34
          clear hO hS hPx kO ro rpr hb3 hb4 hb34 hb hsz lO hBx hFx
          go_wp2
          have zB := blk2 (blk_old (blk_old hB4 (.cells #[.int .i64 lx, .int .i64 lY] 81)) (.cells #[.int .i64 hx, .int .i64 hY] 81))
          have zF := blk2 (blk_old (blk_old hF4 (.cells #[.int .i64 lx, .int .i64 lY] 81)) (.cells #[.int .i64 hx, .int .i64 hY] 81))
          have zL := blk2 (blk_old (blk_new w4 (.cells #[.int .i64 lx, .int .i64 lY] 81)) (.cells #[.int .i64 hx, .int .i64 hY] 81))
          have zH := blk2 (blk_new' (w4.alloc (.cells #[.int .i64 lx, .int .i64 lY] 81)) (.cells #[.int .i64 hx, .int .i64 hY] 81) (g := w4.heap.size + 1) (by simp))
          have e1 := cell_regrown zB.1
          have e2 := cell_regrown zB.2
          have e3 := cell_regrown zF.1
          have e4 := cell_regrown zF.2
          have e5 := cell_regrown zL.1
          have e6 := cell_regrown zL.2
          have e7 := cell_regrown zH.1
          have e8 := cell_regrown zH.2
          have hO5 := blk_old (blk_old hO4 (.cells #[.int .i64 lx, .int .i64 lY] 81)) (.cells #[.int .i64 hx, .int .i64 hY] 81)
          have hS5 := blk_old (blk_old hS4 (.cells #[.int .i64 lx, .int .i64 lY] 81)) (.cells #[.int .i64 hx, .int .i64 hY] 81)
          have hP5 := blk_old (blk_old hP4 (.cells #[.int .i64 lx, .int .i64 lY] 81)) (.cells #[.int .i64 hx, .int .i64 hY] 81)
          have hB5 := blk_old (blk_old hB4 (.cells #[.int .i64 lx, .int .i64 lY] 81)) (.cells #[.int .i64 hx, .int .i64 hY] 81)
          have hF5 := blk_old (blk_old hF4 (.cells #[.int .i64 lx, .int .i64 lY] 81)) (.cells #[.int .i64 hx, .int .i64 hY] 81)
          have hw5 := Bl.alloc (Bl.alloc hw4 (.cells #[.int .i64 lx, .int .i64 lY] 81)) (.cells #[.int .i64 hx, .int .i64 hY] 81)
          clear hO4 hS4 hP4 hB4 hF4 hw4 zB zF zL zH
          have b1 := dist_bd dB dL
          have b2 := dist_bd dF dH
          have b3 := dist_bd dB dF
          have b4 := dist_bd dL dH
          have hdec : ∀ x, x = decide (dist (bx, bY) (lx, lY) + dist (fx, fY) (hx, hY) < dist (bx, bY) (fx, fY) + dist (lx, lY) (hx, hY)) → (x = true ↔ gain (sx, sy) P o i k) := by
            intro x hx'
            unfold gain
            rw [HPB.out, HPL.out, HPF.out, HPH.out, hx', decide_eq_true_iff]
          have HDEC := Lib.hid hdec
          clear hdec
          refine wp_region_quiet_below (by kernel_rfl) (by kernel_rfl) ?_
          repeat (go_big_quiet_step ((go_at_call 212; exact Calls.regrown_of (distance_xy _ _ _ _ _ (by with_reducible assumption) (by with_reducible assumption)))))
          refine wpQuiet_nil ?_
          intro w6 hw'
          obtain ⟨⟨dq, osq⟩, hw''⟩ := hw'
          have hb6 := hw'' ▸ below_regrown ((w4.alloc (.cells #[.int .i64 lx, .int .i64 lY] 81)).alloc (.cells #[.int .i64 hx, .int .i64 hY] 81)) dq osq
          clear hw'' e1 e2 e3 e4 e5 e6 e7 e8
          have hO6 := blk_below hO5 hb6
          have hS6 := blk_below hS5 hb6
          have hP6 := blk_below hP5 hb6
          have hB6 := blk_below hB5 hb6
          have hF6 := blk_below hF5 hb6
          have hw6 : Below w.heap.size w w6 := Bl.trans hw5 hb6
          clear hO5 hS5 hP5 hB5 hF5 hw5 hb6
          by_cases hgain : dist (bx, bY) (lx, lY) + dist (fx, fY) (hx, hY) < dist (bx, bY) (fx, fY) + dist (lx, lY) (hx, hY)
          · have HG := (HDEC.out _ rfl).1 (decide_eq_true hgain)
            have HG' := Lib.hid HG
            clear HG
            obtain ⟨g, cg, hv, hg1, hg2, hcg⟩ := Own.nonnil hOw (by intro e; have := congrArg List.length e; rw [nats_len, List.length_nil] at this; omega)
            obtain ⟨rfl, _, rfl⟩ := Value.slice.inj hv
            have hne : ¬ cap' = i := by omega
            have kO := blk_cell hO6 0
            simp only [List.getElem?_toArray, List.getElem?_cons_zero] at kO
            clear hv hg2 hcg
            go_wp2_with fail
            refine (Reverse_own (nats o) B g o.length cap' i (k + 1 - i) _ w6 (hOw.below hw6) (nats_len o).symm (by rw [nats_len]; omega) (by omega)).mono ?_
            rintro e w7 ⟨rfl, hO7, hG7⟩
            go_wp2
            go_ret
            refine ⟨.inl ⟨i, k, ⟨by omega, hltk, HG'.out, ?_⟩, rfl, ?_⟩, (hw6.mono hB).trans (Gr.below hG7 hg1 (by have := hw6.size; omega))⟩
            · intro i' k' h1 h2 h3
              rcases h3 with h3 | ⟨rfl, h3⟩
              · exact hno.out i' k' h1 h2 h3
              · exact hnk.out k' h1 h3
            · rw [nats_rev]; exact hO7
          · have HG : Hid (¬ gain (sx, sy) P o i k) := Lib.hid (fun h => hgain (of_decide_eq_true ((HDEC.out _ rfl).2 h)))
            go_wp2
            go_roundg (o.length - (k + 1))
            case rel => exact ⟨k + 1, rfl, by omega, by omega, by go_num, Lib.hid (by
              intro k' h1 h2
              by_cases h : k' = k
              · subst h; exact HG.out
              · exact hnk.out k' h1 (by omega)), hw6, hS6, hP6, hO6, hB6, hF6⟩
            case measure => omega
        · have hkn : k = o.length := by omega
          go_wp2
          go_roundg (o.length - (i + 1))
          case rel => exact ⟨i + 1, rfl, by omega, by go_num, Lib.hid (by
              intro i' k' h1 h2 h3
              by_cases h : i' = i
              · subst h; exact hnk.out k' h1 (by omega)
              · exact hno.out i' k' h1 h2 (by omega)), hb, hS, hPx, hO⟩
          case measure => omega
    · have hin2 : i = o.length := by omega
      subst hin2
      go_wp2
      go_ret
      exact ⟨.inr ⟨fun i' k' h1 h2 => hno.out i' k' h1 h2 (by omega), rfl, hOw.below hb⟩, hb.mono hB⟩

end Go.Proofs.YtbkglhakhahfpaaGreatDoor
