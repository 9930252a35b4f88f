/- A call of a Go function as one step of a region that draws its order. No conditions. -/
import Derived.Test.YtcfeoapbbkfbnaaGreatDoorBase
import Derived.Deep.RegionLaw
namespace Go.Proofs.YtcfeoapbbkfbnaaGreatDoor
open Go.RowKit Go.Sort

/-- a call of a Go function, as one step of a region that draws. -/
theorem step_goN {ops : Array Oper} {o : Oper} {a : Act} {w : World} {K : Act → World → Prop} {Q : Exit → Act → World → Prop} {E : Prop}
    (hg : o.guard = none) (f : Nat) (xs : Array Operand) (ts : Array TypeId) (hop : o.op = Op.call { callee := Callee.value (Operand.func f), args := xs, argTypes := ts }) (hent : ∀ args w, (callFunc f args).run Tryz.prog w = .ok (.enter f args) w)
    (vs : Array Value) (hx : xs.map a.eval = vs) (R : Ending → World → Prop) (hc : Calls Tryz.prog f vs w R) (hR : ∀ e w', R e w' → ∃ v, e = .returned v ∧ K (a.put o.dst v) w') :
    if Region.wanted o (yielded ops a.tmps) = true then Oper.wp Tryz.prog o a w K Q else E := by
  have hw : Region.wanted o (yielded ops a.tmps) = true := by simp [Region.wanted, hg]
  rw [if_pos hw]
  have hrun : (execOp a.eval o).run Tryz.prog w = .ok (.enter f vs) w := by
    rw [← hx]
    simp [execOp, hop, resolve, invoke, go_sem, hent]
  unfold Oper.wp
  rw [hrun, Oper.upon_enter]
  refine hc.mono fun e w' h => ?_
  obtain ⟨v, rfl, hk⟩ := hR e w' h
  exact hk
end Go.Proofs.YtcfeoapbbkfbnaaGreatDoor
