/- Texts of the proof of a law, put together, part 44 of 46. Conditions: none beyond those that each theorem names. -/
import Derived.Test.YteojmljggoplkaaGreatDoorPz2
import Derived.Test.YteojmljggoplkaaGreatDoorPz4
import Derived.Test.YteojmljggoplkaaGreatDoorPz5
import Derived.Test.YteojmljggoplkaaGreatDoorPz6
import Derived.Test.YteojmljggoplkaaGreatDoorPz7
import Derived.Test.YteojmljggoplkaaGreatDoorPz13
import Derived.Test.YteojmljggoplkaaGreatDoorPz26
import Derived.Test.YteojmljggoplkaaGreatDoorPz29
import Derived.Test.YteojmljggoplkaaGreatDoorPz32
import Derived.Test.YteojmljggoplkaaGreatDoorPz35
import Derived.Test.YteojmljggoplkaaGreatDoorPz40
import Derived.Test.YteojmljggoplkaaGreatDoorPz43
import Derived.Lib.Hide
import Derived.Deep.RegionWith
import Derived.Maps.Own
import Derived.BigQuiet
import Derived.Lib.QuietBelow
import Derived.Deep.LoopGhost
import Derived.Maps.AppendAt
import Derived.Deep.Cut
import Derived.Deep.CutRange
import Derived.Deep.QuietTactic
import Derived.Laws.Runes
namespace Go.Proofs.YteojmljggoplkaaGreatDoor
open Go.RowKit Go.Sort
theorem PrtS.z {ps : List Prt} (h : ∀ x ∈ ps, PrtS x) : PrtZ ps := fun x hx => ⟨Nat.le_trans (h x hx).1 (by decide), Nat.le_trans (h x hx).2.1 (by decide)⟩
theorem AltS.z {l : List Alt} (h : ∀ x ∈ l, AltS x) : AltZ l := fun x hx => ⟨Nat.le_trans (h x hx).1 (by decide), Nat.le_trans (h x hx).2 (by decide)⟩
end Go.Proofs.YteojmljggoplkaaGreatDoor
namespace Go.Proofs.YteojmljggoplkaaGreatDoor
open Go.RowKit Go.Sort
theorem keys_in {ps : List Prt} {x : Prt} (h : x ∈ ps) : bsOf x.1 ∈ keysP ps := List.mem_map.2 ⟨x, h, rfl⟩
theorem allB_len {ps : List Prt} {l : List Alt} (h : catsF ps l = 0) {a : Bs} (ha : a ∈ keysP ps) : (allB ps l a).length ≤ ps.length := by
  obtain ⟨j, h1, _, h3, h4⟩ := bfsR_law (nextL l) a (keysP ps) ha fun p s hs => (next_in h hs).2.1
  have h5 : (allB ps l a).Nodup := by
    unfold allB
    exact Sm.keys_nodup (h1.ok.del _)
  have h6 := List.Nodup.length_le_of_subset h5 (l₂ := keysP ps) fun s hs => by
    have := ((allB_mem h ha s).1 hs).2
    exact h3 s ((h1.mem s).1 ((h4 s).2 this))
  have h7 : (keysP ps).length = ps.length := List.length_map _
  omega
/-- the answer of a call that gives a list of keys. -/
def VDr (L : List ByteArray) : Value → World → Prop := fun v w => ∃ v', v = .tuple #[v', .int .i64 0] ∧ RecR TS w 0 v' L
theorem VDr.low {L : List ByteArray} {v : Value} {w w' : World} (h : VDr L v w) (hb : Below w.heap.size w w') : VDr L v w' := by
  obtain ⟨v', h1, h2⟩ := h
  exact ⟨v', h1, h2.below hb⟩
/-- the catalogue of a law: its box and what it holds. -/
structure CatB (w : World) (C B : Nat) (vp va : Value) (ps : List Prt) (l : List Alt) : Prop where
  c : w.heap[C]? = some (.cells #[vp, va] 29 (0, 0))
  p : OwnR TPt w B vp ps
  a : OwnR TAl w B va l
theorem CatB.low {w w' : World} {C B : Nat} {vp va : Value} {ps : List Prt} {l : List Alt} (h : CatB w C B vp va ps l) (hb : Below w.heap.size w w') : CatB w' C B vp va ps l := ⟨blk_below h.c hb, h.p.below hb, h.a.below hb⟩
theorem CatB.gr {w w' : World} {C B s : Nat} {vp va : Value} {ps : List Prt} {l : List Alt} (h : CatB w C B vp va ps l) (hC : C ≠ s) (hs : s < B) (hb : w.grownBy w' (some s)) : CatB w' C B vp va ps l := ⟨Gr.blk hb h.c hC, h.p.grown hb hs, h.a.grown hb hs⟩
theorem CatB.r {w : World} {C B : Nat} {vp va : Value} {ps : List Prt} {l : List Alt} (h : CatB w C B vp va ps l) : CatR w vp va ps l := ⟨h.p.rec0, h.a.rec0⟩
end Go.Proofs.YteojmljggoplkaaGreatDoor
namespace Go.Proofs.YteojmljggoplkaaGreatDoor
open Go.RowKit Go.Sort
/-- what a feeder should have: feeder, part. -/
abbrev Wnt := ByteArray × ByteArray
def TWn : Rty Wnt := { e := 61, S := 32, k := 2, b := 32, z := .agg #[.string ByteArray.empty, .string ByteArray.empty], f := fun x => [.string x.1, .string x.2] }
theorem TWn.ok : TWn.Ok := ⟨by kernel_rfl, Tryz.underlying32, rfl, by decide, fun _ => rfl, fun x u hu => by simp [TWn] at hu; rcases hu with rfl | rfl <;> rfl, by decide⟩
theorem NoneFaultR_any (b : Bool) (w : World) : Calls Tryz.prog 16 #[.bool b] w fun e w' => e = .returned (.int .i64 (if b = true then 8 else 0)) ∧ w = w' := by
  cases b
  all_goals (
    go_enter Tryz.func16, Tryz.ntmps16
    go_wp2
    go_ret
    exact ⟨rfl, rfl⟩)
end Go.Proofs.YteojmljggoplkaaGreatDoor
namespace Go.Proofs.YteojmljggoplkaaGreatDoor
abbrev Sty := Int × Int
def lvN : Int := 345686400000
/-- stays in order, each at a moment. -/
def AscS : List Sty → Prop
  | [] => True
  | [x] => 0 ≤ x.2 ∧ x.2 < lvN
  | x :: y :: r => 0 ≤ x.2 ∧ x.2 < y.2 ∧ AscS (y :: r)
theorem AscS.tail {x : Sty} {r : List Sty} (h : AscS (x :: r)) : AscS r := by
  cases r with
  | nil => trivial
  | cons y r => exact h.2.2
theorem AscS.head {x : Sty} {r : List Sty} (h : AscS (x :: r)) : 0 ≤ x.2 ∧ x.2 < lvN := by
  induction r generalizing x with
  | nil => exact h
  | cons y r ih =>
    have h2 := ih h.2.2
    exact ⟨h.1, by have := h.2.1; omega⟩
end Go.Proofs.YteojmljggoplkaaGreatDoor
namespace Go.Proofs.YteojmljggoplkaaGreatDoor
open Go.RowKit Go.Sort
def lifeV (lv : Int) : Int := if lv = 2 then 31536000000 else if lv = 3 then 604800000 else if lv = 4 then 259200000 else if lv = 5 then 86400000 else if lv = 6 then 21600000 else 0
theorem six {lv : Int} (h : 1 ≤ lv ∧ lv ≤ 6) : lv = 1 ∨ lv = 2 ∨ lv = 3 ∨ lv = 4 ∨ lv = 5 ∨ lv = 6 := by omega
theorem inB_iff {l n h : Int} : inB l n h = true ↔ l ≤ n ∧ n ≤ h := by unfold inB; simp
set_option maxHeartbeats 2000000 in
theorem life_any (lv : Int) (w : World) (h : 1 ≤ lv ∧ lv ≤ 6) : Calls Tryz.prog 101 #[.int .i64 lv] w fun e w' => e = .returned (.int .i64 (lifeV lv)) ∧ w = w' := by
  rcases six h with rfl | rfl | rfl | rfl | rfl | rfl
  all_goals (
    go_enter Tryz.func101, Tryz.ntmps101
    go_wp2
    go_ret
    exact ⟨ret_int (by decide), rfl⟩)
def lifR (lv : Int) : Int × Bool × Int := if inB 1 lv 6 = true then (lifeV lv, decide (lv ≠ 1), 0) else (0, false, 1)
set_option maxHeartbeats 2000000 in
theorem Life_any (lv : Int) (w : World) : Calls Tryz.prog 58 #[.int .i64 lv] w fun e w' => e = .returned (.tuple #[.int .i64 (lifR lv).1, .bool (lifR lv).2.1, .int .i64 (lifR lv).2.2]) ∧ w = w' := by
  cases h : inB 1 lv 6
  · have HR : Hid (lifR lv = (0, false, 1)) := Lib.hid (by unfold lifR; rw [h]; rfl)
    go_enter Tryz.func58, Tryz.ntmps58
    go_wp2_with (go_at_call 100; refine (Outside_any _ _ _ _).mono ?_; rintro e w' ⟨rfl, rfl⟩; rw [h])
    go_ret3
    exact ⟨by rw [HR.out] <;> rfl, rfl⟩
  · have HR : Hid (lifR lv = (lifeV lv, decide (lv ≠ 1), 0)) := Lib.hid (by unfold lifR; rw [h]; rfl)
    have hlv := inB_iff.1 h
    have HL := Lib.hid (life_any lv w hlv)
    have hd : (lv != 1) = decide (lv ≠ 1) := by rw [Bool.eq_iff_iff]; simp
    have HD := Lib.hid hd
    clear hd
    go_enter Tryz.func58, Tryz.ntmps58
    go_wp2_with (first | (go_at_call 100; refine (Outside_any _ _ _ _).mono ?_; rintro e w' ⟨rfl, rfl⟩; rw [h]) | (go_at_call 101; refine HL.out.mono ?_; rintro e w' ⟨rfl, rfl⟩))
    go_ret3
    exact ⟨by
      rw [HR.out]
      show Ending.returned (.tuple #[.int .i64 (lifeV lv), .bool (lv != 1), .int .i64 0]) = _
      rw [HD.out], rfl⟩
end Go.Proofs.YteojmljggoplkaaGreatDoor
namespace Go.Proofs.YteojmljggoplkaaGreatDoor
open Go.RowKit Go.Sort
/-- what lies in memory from the first steps of Usable on. -/
structure Ub (w : World) (P W : Nat) (key : ByteArray) (lv bk lo hi : Int) : Prop where
  p0 : w.cell? ⟨P, 0, none⟩ = some (.string key)
  p1 : w.cell? ⟨P, 1, none⟩ = some (.string ⟨#[113]⟩)
  p2 : w.cell? ⟨P, 2, none⟩ = some (.int .i64 lv)
  p3 : w.cell? ⟨P, 3, none⟩ = some (.int .i64 bk)
  q0 : w.cell? ⟨W, 0, none⟩ = some (.int .i64 lo)
  q1 : w.cell? ⟨W, 1, none⟩ = some (.int .i64 hi)
  lP : P < w.heap.size
  lW : W < w.heap.size
theorem Ub.below {w w' : World} {P W : Nat} {key : ByteArray} {lv bk lo hi : Int} (h : Ub w P W key lv bk lo hi) (hb : Below w.heap.size w w') : Ub w' P W key lv bk lo hi := by
  obtain ⟨bc, _⟩ := bcell hb
  exact ⟨(bc _ _ h.lP).trans h.p0, (bc _ _ h.lP).trans h.p1, (bc _ _ h.lP).trans h.p2, (bc _ _ h.lP).trans h.p3, (bc _ _ h.lW).trans h.q0, (bc _ _ h.lW).trans h.q1, Nat.lt_of_lt_of_le h.lP hb.size, Nat.lt_of_lt_of_le h.lW hb.size⟩
end Go.Proofs.YteojmljggoplkaaGreatDoor
namespace Go.Proofs.YteojmljggoplkaaGreatDoor
open Go.RowKit Go.Sort
theorem Ub.belowB {w w' : World} {P W B : Nat} {key : ByteArray} {lv bk lo hi : Int} (h : Ub w P W key lv bk lo hi) (hb : Below B w w') (h1 : P < B) (h2 : W < B) : Ub w' P W key lv bk lo hi :=
  ⟨(hb.cell (p := ⟨P, 0, none⟩) h1).trans h.p0, (hb.cell (p := ⟨P, 1, none⟩) h1).trans h.p1, (hb.cell (p := ⟨P, 2, none⟩) h1).trans h.p2, (hb.cell (p := ⟨P, 3, none⟩) h1).trans h.p3, (hb.cell (p := ⟨W, 0, none⟩) h2).trans h.q0, (hb.cell (p := ⟨W, 1, none⟩) h2).trans h.q1, Nat.lt_of_lt_of_le h.lP hb.size, Nat.lt_of_lt_of_le h.lW hb.size⟩
end Go.Proofs.YteojmljggoplkaaGreatDoor
namespace Go.Proofs.YteojmljggoplkaaGreatDoor
open Go.RowKit Go.Sort
theorem Str.start {w : World} {a : Option Addr} {cap : Nat} {l : List Int} (rl : Ints w 0 (.slice a l.length cap) l) (hl : ∀ x ∈ l, -9223372036854775808 ≤ x ∧ x ≤ 9223372036854775807) :
    Str (w.alloc (.cells #[.slice a l.length cap, .int .i64 0] 25)) w.heap.size 0 := by
  obtain ⟨a', cap', hv, h1, h2⟩ := Ints.form rl
  injection hv with _ _ hcap
  refine ⟨a, l.length, cap, 0, blk_new w _, Int.le_refl _, Int.le_refl _, by omega, fun k hk => ?_⟩
  obtain ⟨b, o, ha, _, hb, hc⟩ := rl.at (k := k) (x := l[k]) (List.getElem?_eq_getElem hk)
  have hx := hl l[k] (List.getElem_mem hk)
  exact ⟨b, o, l[k], ha, hb, by simp; omega, ((bcell (Bl.alloc (Below.refl _ _) _)).1 _ _ hb).trans hc, hx.1, hx.2⟩
theorem aged_any (w : World) : Calls Tryz.prog 15 #[] w fun e w' => e = .returned (.bool true) ∧ w = w' := by
  have h := Life_any 4 w
  rw [show lifR 4 = (259200000, true, 0) by decide] at h
  have HL := Lib.hid h
  clear h
  go_enter Tryz.func15, Tryz.ntmps15
  go_wp2_with fail
  refine HL.out.mono ?_
  rintro e w' ⟨rfl, rfl⟩
  go_wp2
  go_ret
  exact ⟨rfl, rfl⟩
end Go.Proofs.YteojmljggoplkaaGreatDoor
namespace Go.Proofs.YteojmljggoplkaaGreatDoor
open Go.RowKit Go.Sort
/-- the builder at b holds these bytes. -/
def Bd8 (B b : Nat) (l : List UInt8) (w : World) : Prop := Lib.IsBuilder 128 5 B b (Lib.byteCells l) w
end Go.Proofs.YteojmljggoplkaaGreatDoor
namespace Go.Proofs.YteojmljggoplkaaGreatDoor
open Go.RowKit Go.Sort
theorem Bd8.below {B b : Nat} {l : List UInt8} {w w' : World} (h : Bd8 B b l w) (hb : Below w.heap.size w w') : Bd8 B b l w' := by
  rcases h with ⟨h0, v, h1, h2, h3⟩ | ⟨h0, v, h1, h2, h3⟩
  · exact .inl ⟨h0, v, blk_below h1 hb, own_belowA h2 hb, h3⟩
  · exact .inr ⟨h0, v, blk_below h1 hb, own_belowA h2 hb, h3⟩
end Go.Proofs.YteojmljggoplkaaGreatDoor
namespace Go.Proofs.YteojmljggoplkaaGreatDoor
open Go.RowKit Go.Sort
end Go.Proofs.YteojmljggoplkaaGreatDoor
namespace Go.Proofs.YteojmljggoplkaaGreatDoor
open Go.RowKit Go.Sort
end Go.Proofs.YteojmljggoplkaaGreatDoor
namespace Go.Proofs.YteojmljggoplkaaGreatDoor
open Go.RowKit Go.Sort
theorem ics_set (l : List Int) (j : Nat) (x : Int) : (ics l).set j (.int .i64 x) = ics (l.set j x) := by simp [ics, List.map_set]
theorem Own.set {w : World} {B g n cap : Nat} {l : List Int} (h : Own w B (.slice (some ⟨g, 0, none⟩) n cap) l) (hn : n = l.length) (j : Nat) (x : Int) : Own (w.setCell ⟨g, j, none⟩ (.int .i64 x)) B (.slice (some ⟨g, 0, none⟩) n cap) (l.set j x) := by
  subst hn
  have hs := (World.ownsRow.stored h j (.int .i64 x)).1
  rw [ics_set] at hs
  unfold Own
  rw [List.length_set]; exact hs
theorem Own.cell {w : World} {B g n cap : Nat} {l : List Int} (h : Own w B (.slice (some ⟨g, 0, none⟩) n cap) l) {j : Nat} {x : Int} (hx : l[j]? = some x) : w.cell? ⟨g, j, none⟩ = some (.int .i64 x) := by
  have hj := (List.getElem?_eq_some_iff.1 hx).1
  have := Ints.cells h.ints j hj
  rw [Nat.zero_add] at this
  rw [this, List.getD_eq_getElem?_getD, hx]; rfl
end Go.Proofs.YteojmljggoplkaaGreatDoor
namespace Go.Proofs.YteojmljggoplkaaGreatDoor
open Go.RowKit Go.Sort
end Go.Proofs.YteojmljggoplkaaGreatDoor
namespace Go.Proofs.YteojmljggoplkaaGreatDoor
open Go.RowKit Go.Sort
theorem TxW.grown {w w' : World} {s : Nat} (h : TxW w) (hg : w.grownBy w' (some s)) (h1 : 1 < s) (h2 : 0 < s) (hs : s ≤ w.heap.size) : TxW w' := h.belowB (Gr.below hg (Nat.le_refl _) hs) h1 h2
end Go.Proofs.YteojmljggoplkaaGreatDoor
namespace Go.Proofs.YteojmljggoplkaaGreatDoor
open Go.RowKit Go.Sort
theorem Str.begin {w : World} {a : Option Addr} {cap : Nat} {l : List Int} (rl : Ints w 0 (.slice a l.length cap) l) (hl : ∀ x ∈ l, -9223372036854775808 ≤ x ∧ x ≤ 9223372036854775807) :
    Str (w.alloc (.cells #[.slice a l.length cap, .int .i64 0] 25)) w.heap.size 0 := by
  obtain ⟨a', cap', hv, h1, h2⟩ := Ints.form rl
  injection hv with _ _ hcap
  refine ⟨a, l.length, cap, 0, blk_new w _, Int.le_refl _, Int.le_refl _, by omega, fun k hk => ?_⟩
  obtain ⟨b, o, ha, _, hb, hc⟩ := rl.at (k := k) (x := l[k]) (List.getElem?_eq_getElem hk)
  have hx := hl l[k] (List.getElem_mem hk)
  exact ⟨b, o, l[k], ha, hb, by simp; omega, ((bcell (Bl.alloc (Below.refl _ _) _)).1 _ _ hb).trans hc, hx.1, hx.2⟩
end Go.Proofs.YteojmljggoplkaaGreatDoor
