/- The contract of ShortestOf. Condition: at most 9 points, coordinates within 2^41. -/
import Derived.Test.YtgcmlhpocbgkaaaGreatDoorTry
import Derived.Laws.EntriesVeiled
namespace Go.Proofs.YtgcmlhpocbgkaaaGreatDoor
open Go.RowKit Go.Sort

theorem full_bit (n i : Nat) : (pw n - 1).testBit i = decide (i < n) := Nat.testBit_two_pow_sub_one n i
theorem dfs_all (st : Pt) (P : List Pt) (hst : Bd st) (hPb : ∀ p ∈ P, Bd p) (hn : P.length ≤ 9) : dfs st P P.length [] st 0 ([], -1) = (tlist st P P.length st (pw P.length - 1), V st P st (pw P.length - 1)) := by
  rw [dfs_eq st P hst hPb (by omega) P.length [] (pw P.length - 1) st 0 ([], -1) (by simp) List.nodup_nil (by simp) (fun i => by rw [full_bit]; simp) hst (Int.le_refl _)]
  rw [if_pos (.inl (by decide))]
  simp

end Go.Proofs.YtgcmlhpocbgkaaaGreatDoor
