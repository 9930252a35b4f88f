/- The contracts of length and LengthOf: what each computes. Condition: coordinates within 2^41, right orders. -/
import Derived.Test.YtbkglhakhahfpaaGreatDoorDist
namespace Go.Proofs.YtbkglhakhahfpaaGreatDoor
open Go.RowKit Go.Sort

/-- where the head stands, and how far it has gone, behind an order. -/
def walkTo (P : List Pt) : Pt → Int → List Nat → Pt × Int
  | at', n, [] => (at', n)
  | at', n, k :: r => walkTo P (P.getD k (0, 0)) (n + dist at' (P.getD k (0, 0))) r
def lenOf (st : Pt) (P : List Pt) (o : List Nat) : Int := (walkTo P st 0 o).2 + dist (walkTo P st 0 o).1 st

def nats (o : List Nat) : List Int := o.map fun (k : Nat) => (k : Int)
theorem nats_at {o : List Nat} {k i : Nat} (h : o[k]? = some i) : (nats o)[k]? = some (i : Int) := by simp [nats, h]
theorem nats_len (o : List Nat) : (nats o).length = o.length := by simp [nats]
theorem dist_bd {a b : Pt} (ha : Bd a) (hb : Bd b) : 0 ≤ dist a b ∧ dist a b ≤ 8796093022208 := by
  obtain ⟨h1, h2, h3, h4⟩ := ha
  obtain ⟨g1, g2, g3, g4⟩ := hb
  unfold dist iabs
  omega
theorem walkTo_snoc (P : List Pt) (k : Nat) : ∀ (l : List Nat) (a : Pt) (n : Int), walkTo P a n (l ++ [k]) = (P.getD k (0, 0), (walkTo P a n l).2 + dist (walkTo P a n l).1 (P.getD k (0, 0)))
  | [], a, n => rfl
  | i :: l, a, n => by simp only [List.cons_append, walkTo]; exact walkTo_snoc P k l _ _
theorem getD_mem {P : List Pt} {k : Nat} (h : k < P.length) : P.getD k (0, 0) ∈ P := by
  rw [List.getD_eq_getElem?_getD, List.getElem?_eq_getElem h]; exact List.getElem_mem h
theorem walkTo_bd {P : List Pt} (hP : ∀ p ∈ P, Bd p) : ∀ (l : List Nat) (a : Pt) (n : Int), Bd a → (∀ k ∈ l, k < P.length) → Bd (walkTo P a n l).1 ∧ n ≤ (walkTo P a n l).2 ∧ (walkTo P a n l).2 ≤ n + l.length * 8796093022208
  | [], a, n, ha, _ => ⟨ha, Int.le_refl _, by simp [walkTo]⟩
  | i :: l, a, n, ha, h => by
    have hi := hP _ (getD_mem (h i (by simp)))
    have hd := dist_bd ha hi
    obtain ⟨h1, h2, h3⟩ := walkTo_bd hP l (P.getD i (0, 0)) (n + dist a (P.getD i (0, 0))) hi (fun k hk => h k (by simp [hk]))
    simp only [walkTo, List.length_cons]
    refine ⟨h1, by omega, by omega⟩
theorem take_snoc {α : Type} {l : List α} {k : Nat} {x : α} (h : l[k]? = some x) : l.take (k + 1) = l.take k ++ [x] := by
  rw [List.take_add_one, h]; rfl

set_option maxHeartbeats 400000 in
set_option maxRecDepth 100000 in
theorem length_any (st : Pt) (P : List Pt) (o : List Nat) (vp vo : Value) (w : World) (hst : Bd st) (hP : ∀ p ∈ P, Bd p) (ho : ∀ k ∈ o, k < P.length) (hlen : o.length ≤ 1000)
    (rp : Pts w 0 vp P) (ro : Ints w 0 vo (nats o)) :
    Calls Tryz.prog 145 #[ptv st, vp, vo] w fun e w' => e = .returned (.int .i64 (lenOf st P o)) ∧ Below w.heap.size w w' := by
  obtain ⟨a, cap, rfl, hc1, hc2⟩ := Pts.form rp
  obtain ⟨a', cap', rfl, hc1', hc2'⟩ := Ints.form ro
  obtain ⟨sx, sy⟩ := st
  rw [nats_len] at *
  unfold ptv
  go_enter Tryz.func145, Tryz.ntmps145
  go_wp2
  go_region
  go_wp2
  go_loopw [7, 14] (fun n i wr => ∃ k : Nat, k ≤ o.length ∧ i = .int .i64 k ∧ n = .int .i64 (walkTo P (sx, sy) 0 (o.take k)).2 ∧ Below w.heap.size w wr ∧
      wr.heap[w.heap.size]? = some (.cells #[.int .i64 sx, .int .i64 sy] 81 (0, 0)) ∧
      wr.heap[w.heap.size + 1]? = some (.cells #[.int .i64 (walkTo P (sx, sy) 0 (o.take k)).1.1, .int .i64 (walkTo P (sx, sy) 0 (o.take k)).1.2] 81 (0, 0)))
    (fun _ i _ => o.length - (intOf i).toNat)
  case atStart =>
    refine ⟨0, Nat.zero_le _, rfl, rfl, ?_, ?_, ?_⟩
    · exact Below.drew (((Below.refl _ _).alloc (Nat.le_refl _) _).alloc (by simp) _)
    · exact blk_old (blk_new w _) _
    · exact blk_new' (w.alloc _) _ (by simp)
  case round =>
    obtain ⟨k, hk, rfl, rfl, hb, h0, h1⟩ := hrel
    have hbd := walkTo_bd hP (o.take k) (sx, sy) 0 hst (fun i hi => ho i (List.mem_of_mem_take hi))
    by_cases hlt : k < o.length
    · obtain ⟨i, hi⟩ : ∃ i, o[k]? = some i := ⟨_, List.getElem?_eq_getElem hlt⟩
      have hiP : i < P.length := ho i (List.mem_of_getElem? hi)
      obtain ⟨p, hp⟩ : ∃ p, P[i]? = some p := ⟨_, List.getElem?_eq_getElem hiP⟩
      have hpB : Bd p := hP p (List.mem_of_getElem? hp)
      have hsn : walkTo P (sx, sy) 0 (o.take (k + 1)) = (p, (walkTo P (sx, sy) 0 (o.take k)).2 + dist (walkTo P (sx, sy) 0 (o.take k)).1 p) := by
        rw [take_snoc hi, walkTo_snoc, List.getD_eq_getElem?_getD, hp]; rfl
      have hln : (o.take k).length ≤ 1000 := by rw [List.length_take]; omega
      generalize hr : walkTo P (sx, sy) 0 (o.take k) = r at *
      obtain ⟨⟨ax, ay⟩, n⟩ := r
      obtain ⟨px, py⟩ := p
      obtain ⟨b1, o1, rfl, _, hl1, hx1⟩ := Ints.at ro (nats_at hi)
      obtain ⟨b2, o2, rfl, _, hl2, hx2, hx3⟩ := Pts.at rp hp
      simp only at *
      have y1 := ((bcell hb).1 b1 (o1 + k) hl1).trans hx1
      have y2 := ((bcell hb).1 b2 (o2 + i * 2) hl2).trans hx2
      have y3 := ((bcell hb).1 b2 (o2 + i * 2 + 1) hl2).trans hx3
      have z0 := blk_cell h0 0
      have z1 := blk_cell h0 1
      have z2 := blk_cell h1 0
      have z3 := blk_cell h1 1
      simp only [List.getElem?_toArray, List.getElem?_cons_zero, List.getElem?_cons_succ] at z0 z1 z2 z3
      have f0 := blk_free h1 0
      have f1 := blk_free h1 1
      have HS := Lib.hid hsn
      have HR := Lib.hid hr
      have HB := Lib.hid hbd.1
      have hn1 : 0 ≤ n := hbd.2.1
      have hn2 : n ≤ 9000000000000000 := by have := hbd.2.2; omega
      clear hsn hr hx1 hx2 hx3 hi hp hbd
      have e1 := cell_regrown y2
      have e2 := cell_regrown y3
      have e3 := cell_regrown z2
      have e4 := cell_regrown z3
      have hA : Hid (Bd (ax, ay)) := HB
      have hd := dist_bd HB.out hpB
      go_wp2
      refine wp_region_quiet_below (by kernel_rfl) (by kernel_rfl) ?_
      repeat (go_big_quiet_step ((go_at_call 212; exact Calls.regrown_of (distance_any (ax, ay) (px, py) _ hA.out hpB))))
      refine wpQuiet_nil ?_
      intro w2 hw'
      obtain ⟨⟨dq, osq⟩, hw''⟩ := hw'
      have hb2 : Below wr.heap.size wr w2 := by rw [hw'']; exact below_regrown _ _ _
      clear hw'' e1 e2 e3 e4
      have hs := hb.size
      have y2' := ((bcell hb2).1 b2 (o2 + i * 2) (by omega)).trans y2
      have y3' := ((bcell hb2).1 b2 (o2 + i * 2 + 1) (by omega)).trans y3
      have h0' := blk_below h0 hb2
      have h1' := blk_below h1 hb2
      have g2 := blk_cell h1' 0
      have g3 := blk_cell h1' 1
      simp only [List.getElem?_toArray, List.getElem?_cons_zero, List.getElem?_cons_succ] at g2 g3
      have f2 := blk_free h1' 0
      have f3 := blk_free h1' 1
      have HS2 := hb2.size
      clear f0 f1 z0 z1 z2 z3 y1 y2 y3
      go_wp2
      go_roundw
      case rel =>
        refine ⟨k + 1, by omega, by go_num, by rw [HS.out], Below.setCell (Below.setCell (hb.trans (hb2.mono hs)) (by simp) _) (by simp) _, ?_, ?_⟩
        · exact (Below.heap_setCell _ _ _ _ (by simp)).trans ((Below.heap_setCell _ _ _ _ (by simp)).trans h0')
        · rw [HS.out]
          exact blk_set (blk_set h1' 0 _) 1 _
      case measure => simp [intOf]; omega
    · have hk2 : k = o.length := by omega
      subst hk2
      rw [List.take_length] at *
      generalize hr : walkTo P (sx, sy) 0 o = r at *
      obtain ⟨⟨ax, ay⟩, n⟩ := r
      simp only at *
      have hn1 : 0 ≤ n := hbd.2.1
      have hn2 : n ≤ 9000000000000000 := by have := hbd.2.2; omega
      have hA : Hid (Bd (ax, ay)) := Lib.hid hbd.1
      have hd := dist_bd hA.out hst
      have HR := Lib.hid hr
      have z0 := blk_cell h0 0
      have z1 := blk_cell h0 1
      have z2 := blk_cell h1 0
      have z3 := blk_cell h1 1
      simp only [List.getElem?_toArray, List.getElem?_cons_zero, List.getElem?_cons_succ] at z0 z1 z2 z3
      clear hr hbd
      go_wp2_with (go_at_call 212; refine (distance_any (ax, ay) (sx, sy) _ hA.out hst).mono ?_; rintro e w2 ⟨rfl, hb2⟩)
      go_ret
      refine ⟨ret_int ?_, hb.trans (hb2.mono hb.size)⟩
      unfold lenOf
      rw [HR.out]
end Go.Proofs.YtbkglhakhahfpaaGreatDoor
