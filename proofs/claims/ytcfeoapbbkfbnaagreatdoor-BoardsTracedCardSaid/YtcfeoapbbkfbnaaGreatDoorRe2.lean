/- What kinds of events use; the form of an event; its number: the program's and the reference's answers. Conditions: kinds from 1 to 5. -/
import Derived.Test.YtcfeoapbbkfbnaaGreatDoorRe1
import Derived.Test.YtcfeoapbbkfbnaaGreatDoorSpan
import Derived.Test.YtcfeoapbbkfbnaaGreatDoorLen
namespace Go.Proofs.YtcfeoapbbkfbnaaGreatDoor
open Go.RowKit Go.Sort

/-- events: when, kind, feeder, reel, how many, board. -/
abbrev Fed := Int × Int × ByteArray × ByteArray × Int × ByteArray
def TFe : Rty Fed := { e := 76, S := 28, k := 6, b := 72, z := .agg #[.int .i64 0, .int .i64 0, .string ByteArray.empty, .string ByteArray.empty, .int .i64 0, .string ByteArray.empty], f := fun x => [.int .i64 x.1, .int .i64 x.2.1, .string x.2.2.1, .string x.2.2.2.1, .int .i64 x.2.2.2.2.1, .string x.2.2.2.2.2] }
theorem TFe.ok : TFe.Ok := ⟨by kernel_rfl, Tryz.underlying28, rfl, by decide, fun _ => rfl, fun x u hu => by simp [TFe] at hu; rcases hu with rfl | rfl | rfl | rfl | rfl | rfl <;> rfl, by decide⟩
def uF (k : Int) : Bool := decide (k = 1) || decide (k = 2) || decide (k = 3) || decide (k = 4)
def uR (k : Int) : Bool := decide (k = 1) || decide (k = 2) || decide (k = 5)
def uM (k : Int) : Bool := decide (k = 4) || decide (k = 5)
def uB (k : Int) : Bool := decide (k = 4)
set_option maxHeartbeats 2000000 in
set_option maxRecDepth 100000 in
theorem usesOf_any (k : Int) (w : World) (h1 : 1 ≤ k) (h5 : k ≤ 5) :
    Calls Tryz.prog 167 #[.int .i64 k] w fun e w' => e = .returned (.agg #[.bool (uF k), .bool (uR k), .bool (uM k), .bool (uB k)]) ∧ Below w.heap.size w w' := by
  have q0 : ∀ a b c d : Bool, (w.alloc (.cells #[.bool a, .bool b, .bool c, .bool d] 218)).cell? ⟨w.heap.size, 0, none⟩ = some (.bool a) := fun a b c d => blk_cell (blk_new w _) 0
  have q1 : ∀ a b c d : Bool, (w.alloc (.cells #[.bool a, .bool b, .bool c, .bool d] 218)).cell? ⟨w.heap.size, 1, none⟩ = some (.bool b) := fun a b c d => blk_cell (blk_new w _) 1
  have q2 : ∀ a b c d : Bool, (w.alloc (.cells #[.bool a, .bool b, .bool c, .bool d] 218)).cell? ⟨w.heap.size, 2, none⟩ = some (.bool c) := fun a b c d => blk_cell (blk_new w _) 2
  have q3 : ∀ a b c d : Bool, (w.alloc (.cells #[.bool a, .bool b, .bool c, .bool d] 218)).cell? ⟨w.heap.size, 3, none⟩ = some (.bool d) := fun a b c d => blk_cell (blk_new w _) 3
  have Q := Lib.hid (And.intro q0 (And.intro q1 (And.intro q2 q3)))
  have hk : k = 1 ∨ k = 2 ∨ k = 3 ∨ k = 4 ∨ k = 5 := by omega
  clear h1 h5 q0 q1 q2 q3
  rcases hk with rfl | rfl | rfl | rfl | rfl
  all_goals (
    go_enter Tryz.func167, Tryz.ntmps167
    go_wp2)
  · refine bodyPost_ret (v := .agg #[.bool true, .bool true, .bool false, .bool false]) (by simp [results, Tryz.results167, go_sem, Q.out.1, Q.out.2.1, Q.out.2.2.1, Q.out.2.2.2]) rfl ?_
    exact ⟨rfl, Bl.alloc (Below.refl _ _) _⟩
  · refine bodyPost_ret (v := .agg #[.bool true, .bool true, .bool false, .bool false]) (by simp [results, Tryz.results167, go_sem, Q.out.1, Q.out.2.1, Q.out.2.2.1, Q.out.2.2.2]) rfl ?_
    exact ⟨rfl, Bl.alloc (Below.refl _ _) _⟩
  · refine bodyPost_ret (v := .agg #[.bool true, .bool false, .bool false, .bool false]) (by simp [results, Tryz.results167, go_sem, Q.out.1, Q.out.2.1, Q.out.2.2.1, Q.out.2.2.2]) rfl ?_
    exact ⟨rfl, Bl.alloc (Below.refl _ _) _⟩
  · refine bodyPost_ret (v := .agg #[.bool true, .bool false, .bool true, .bool true]) (by simp [results, Tryz.results167, go_sem, Q.out.1, Q.out.2.1, Q.out.2.2.1, Q.out.2.2.2]) rfl ?_
    exact ⟨rfl, Bl.alloc (Below.refl _ _) _⟩
  · refine bodyPost_ret (v := .agg #[.bool false, .bool true, .bool true, .bool false]) (by simp [results, Tryz.results167, go_sem, Q.out.1, Q.out.2.1, Q.out.2.2.1, Q.out.2.2.2]) rfl ?_
    exact ⟨rfl, Bl.alloc (Below.refl _ _) _⟩
theorem uses_any (k : Int) (w : World) (h1 : 1 ≤ k) (h5 : k ≤ 5) :
    Calls Tryz.prog 66 #[.int .i64 k] w fun e w' => e = .returned (.tuple #[.bool (uF k), .bool (uR k), .bool (uM k), .bool (uB k)]) ∧ w = w' := by
  have hk : k = 1 ∨ k = 2 ∨ k = 3 ∨ k = 4 ∨ k = 5 := by omega
  clear h1 h5
  rcases hk with rfl | rfl | rfl | rfl | rfl
  all_goals (
    go_enter Tryz.func66, Tryz.ntmps66
    go_wp2
    refine bodyPost_ret (by simp [results, Tryz.results66, go_sem]; rfl) rfl ?_
    exact ⟨rfl, rfl⟩)
/-- whether an event has its form. -/
def formB (x : Fed) : Bool :=
  (uF x.2.1 || x.2.2.1.toList.isEmpty) && (uR x.2.1 || x.2.2.2.1.toList.isEmpty) && (uM x.2.1 || decide (x.2.2.2.2.1 = 0)) && (uB x.2.1 || x.2.2.2.2.2.toList.isEmpty)
end Go.Proofs.YtcfeoapbbkfbnaaGreatDoor
