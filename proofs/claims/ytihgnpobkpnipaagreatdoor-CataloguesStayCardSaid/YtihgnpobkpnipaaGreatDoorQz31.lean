/- Texts of the proof of a law, put together, part 31 of 41. Conditions: none beyond those that each theorem names. -/
import Derived.Test.YtihgnpobkpnipaaGreatDoorQz30
namespace Go.Proofs.YtihgnpobkpnipaaGreatDoor
open Go.RowKit Go.Sort Go.Maps
/-- what Read has told. -/
def RdR (t : Bs) (w : World) (e : Ending) (w' : World) : Prop := ∃ pv av, e = .returned (.tuple #[.agg #[pv, av], .int .i64 (catRead t).2.1, .int .i64 (catRead t).2.2]) ∧ CatR w' pv av (catRead t).1.1 (catRead t).1.2 ∧ Below w.heap.size w w'
theorem RdR.mk {t : Bs} {w w' : World} {pv av : Value} {c : Cst} {i F : Int} (h : catRead t = (c, i, F)) (hc : CatR w' pv av c.1 c.2) (hb : Below w.heap.size w w') : RdR t w (.returned (.tuple #[.agg #[pv, av], .int .i64 i, .int .i64 F])) w' := ⟨pv, av, by rw [h], by rw [h]; exact hc, hb⟩
theorem CatR.nil (w : World) : CatR w (.slice none 0 0) (.slice none 0 0) [] [] := ⟨RecR.nil _ _, RecR.nil _ _⟩
theorem readKt_bad {en : Bool} {i : Nat} {c : Cst} {x : Bs} {r : List Bs} (h : rdC c x = none ∨ (en = false ∧ r = [])) : readKt rdC en i c (x :: r) = .error i := by
  rw [readKt]
  cases hx : rdC c x with
  | none => rfl
  | some d =>
    rcases h with h | h
    · rw [hx] at h; cases h
    · simp only [if_pos h]
theorem readKt_good {en : Bool} {i : Nat} {c d : Cst} {x : Bs} {r : List Bs} (hx : rdC c x = some d) (h : ¬(en = false ∧ r = [])) : readKt rdC en i c (x :: r) = readKt rdC en (i + 1) d r := by
  rw [readKt, hx]
  simp only [if_neg h]
theorem CatBox.new {w : World} {b : Nat} (h : w.heap[b]? = some (.cells #[.slice none 0 0, .slice none 0 0] 29 (0, 0))) : CatBox w b ([], []) := ⟨_, _, h, OwnR.nil _ _, OwnR.nil _ _⟩
theorem SmC.z {n k : Nat} {c : Cst} (h : SmC n c k) (hn : n ≤ 140737488355328) : PrtZ c.1 ∧ AltZ c.2 := ⟨fun x hx => ⟨Nat.le_trans (h.2.1 x hx).1 hn, Nat.le_trans (h.2.1 x hx).2.1 hn⟩, fun x hx => ⟨Nat.le_trans (h.2.2 x hx).1 hn, Nat.le_trans (h.2.2 x hx).2 hn⟩⟩
end Go.Proofs.YtihgnpobkpnipaaGreatDoor
