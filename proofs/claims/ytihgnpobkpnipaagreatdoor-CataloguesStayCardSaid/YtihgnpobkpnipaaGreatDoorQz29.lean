/- Texts of the proof of a law, put together, part 29 of 41. Conditions: none beyond those that each theorem names. -/
import Derived.Test.YtihgnpobkpnipaaGreatDoorQz3
import Derived.Test.YtihgnpobkpnipaaGreatDoorQz15
import Derived.Test.YtihgnpobkpnipaaGreatDoorQz21
import Derived.Test.YtihgnpobkpnipaaGreatDoorQz22
import Derived.Test.YtihgnpobkpnipaaGreatDoorQz28
namespace Go.Proofs.YtihgnpobkpnipaaGreatDoor
open Go.RowKit Go.Sort
/-- rows of pairs. -/
def TPa : Rty (ByteArray × ByteArray) := { e := 50, S := 42, k := 2, b := 32, z := .agg #[.string ByteArray.empty, .string ByteArray.empty], f := fun s => [.string s.1, .string s.2] }
theorem TPa.ok : TPa.Ok := ⟨by kernel_rfl, Tryz.underlying42, rfl, by decide, fun _ => rfl, fun x u hu => by simp [TPa] at hu; rcases hu with rfl | rfl <;> rfl, by decide⟩
def OddR (ps : List Prt) (l : List Alt) (B : Nat) (F : Int) (e : Ending) (w' : World) : Prop := ∃ v out, e = .returned (.tuple #[v, .int .i64 F]) ∧ OwnR TPa w' B v out ∧ (F = 0 → out = oddP ps l) ∧ (F ≠ 0 → out = [])
theorem OddR.mk {ps : List Prt} {l : List Alt} {B : Nat} {F : Int} {w' : World} {v : Value} (out : List (ByteArray × ByteArray)) (h1 : OwnR TPa w' B v out) (h2 : F = 0 → out = oddP ps l) (h3 : F ≠ 0 → out = []) : OddR ps l B F (.returned (.tuple #[v, .int .i64 F])) w' := ⟨v, out, rfl, h1, h2, h3⟩
end Go.Proofs.YtihgnpobkpnipaaGreatDoor
