/- What the stream gives for floor lives: Some, Hours, OnePart, Stays, ATime. Conditions: a stream that has been asked fewer than 10^6 times. · Slices of strings: cells, Contains. Conditions: at most 100000 strings. -/
import Derived.Test.YtfhfncnnendnfaaGreatDoorStream
import Derived.Test.YtfhfncnnendnfaaGreatDoorRec
import Derived.Deep.RegionHeld3
import Derived.Test.YtfhfncnnendnfaaGreatDoorShelf
namespace Go.Proofs.YtfhfncnnendnfaaGreatDoor
open Go.RowKit Go.Sort

def TS : Rty ByteArray := { e := 9, S := 70, k := 1, b := 16, z := .string ByteArray.empty, f := fun s => [.string s] }
theorem TS.ok : TS.Ok := ⟨by kernel_rfl, Tryz.underlying70, rfl, by decide, fun _ => rfl, fun x u hu => by simp [TS] at hu; subst hu; rfl, by decide⟩
def TY : Rty (Int × Int) := { e := 32, S := 33, k := 2, b := 16, z := .agg #[.int .i64 0, .int .i64 0], f := fun p => [.int .i64 p.1, .int .i64 p.2] }
theorem TY.ok : TY.Ok := ⟨by kernel_rfl, Tryz.underlying33, rfl, by decide, fun _ => rfl, fun x u hu => by simp [TY] at hu; rcases hu with rfl | rfl <;> rfl, by decide⟩
theorem RecR.of_blk {α : Type} {T : Rty α} {w : World} {g : Nat} {cs : Array Value} {t : TypeId} (h : w.heap[g]? = some (.cells cs t (0, 0))) {lo n cap : Nat} {l : List α} (hx : cs.toList = l.flatMap T.f) (hn : n = l.length) (h1 : n ≤ cap) (h2 : cap ≤ 9223372036854775807) (hl : lo ≤ g) :
    RecR T w lo (.slice (some ⟨g, 0, none⟩) n cap) l := by subst hn; exact Rd.of_blk h hx h1 h2 hl

set_option maxHeartbeats 1000000 in
theorem Hours_any (s : Nat) (c : Int) (w : World) (h : Str w s c) (hc : c ≤ 999990) :
    Calls Tryz.prog 6 #[.pointer (some ⟨s, 0, none⟩)] w fun e w' => ∃ r : Int, e = .returned (.int .i64 r) ∧ (3599999 ≤ r ∧ r ≤ 1440000001) ∧ Str w' s (c + 2) ∧ w.grownBy w' (some s) := by
  have ls := h.lt
  have h1 := h.alloc (.cells #[.int .i64 1, .int .i64 2, .int .i64 6, .int .i64 10, .int .i64 12, .int .i64 24, .int .i64 50, .int .i64 60, .int .i64 72, .int .i64 120, .int .i64 168, .int .i64 400] 3)
  go_enter Tryz.func6, Tryz.ntmps6
  go_wp2_with fail
  refine (Pick_any s c [1, 2, 6, 10, 12, 24, 50, 60, 72, 120, 168, 400] _ _ h1 (by omega) (Ints.of_blk (blk_new _ _) rfl rfl (by simp) (by omega) ls) (by simp) (by simp)).mono ?_
  rintro e w1 ⟨r, rfl, hr, hS1, hG1⟩
  have hr1 : 1 ≤ r ∧ r ≤ 400 := by
    simp only [List.mem_cons, List.not_mem_nil, or_false] at hr
    omega
  clear hr
  have hg1 := Gr.trans (Gr.alloc (Gr.refl w (some s)) _) hG1
  go_wp2_with fail
  refine (Pick_any s (c + 1) [0, 0, 0, 1, -1] _ _ (hS1.alloc _) (by omega) (Ints.of_blk (blk_new _ _) rfl rfl (by simp) (by omega) hS1.lt) (by simp) (by simp)).mono ?_
  rintro e w2 ⟨r2, rfl, hr2, hS2, hG2⟩
  have hr3 : -1 ≤ r2 ∧ r2 ≤ 1 := by
    simp only [List.mem_cons, List.not_mem_nil, or_false] at hr2
    omega
  go_wp2
  go_ret
  exact ⟨_, rfl, by omega, hS2.mono (by omega), Gr.trans (Gr.alloc hg1 _) hG2⟩
def partV (key pkg : ByteArray) (lv bk : Int) : Value := .agg #[.string key, .string pkg, .int .i64 lv, .int .i64 bk]
theorem dummy : True := trivial
end Go.Proofs.YtfhfncnnendnfaaGreatDoor
namespace Go.Proofs.YtfhfncnnendnfaaGreatDoor
open Go.RowKit Go.Sort

theorem str_at {w : World} {lo : Nat} {a : Option Addr} {n cap : Nat} {l : List ByteArray} (h : RecR TS w lo (.slice a n cap) l) {k : Nat} {x : ByteArray} (hk : l[k]? = some x) :
    ∃ b o, a = some ⟨b, o, none⟩ ∧ lo ≤ b ∧ b < w.heap.size ∧ w.cell? ⟨b, o + k, none⟩ = some (.string x) := by
  obtain ⟨b, o, rfl, h1, h2, h3⟩ := h.at TS.ok.len hk TS.ok.pos
  refine ⟨b, o, rfl, h1, h2, ?_⟩
  have := h3 0 _ rfl
  simpa [TS] using this
theorem str_cells {w : World} {lo : Nat} {b o n cap : Nat} {l : List ByteArray} (h : RecR TS w lo (.slice (some ⟨b, o, none⟩) n cap) l) : ∀ j, j < l.length → w.cell? ⟨b, o + j, none⟩ = some (.string (l.getD j ByteArray.empty)) := by
  intro j hj
  obtain ⟨b', o', e, _, _, hc⟩ := str_at h (k := j) (x := l.getD j ByteArray.empty) (by simp [List.getD_eq_getElem?_getD, hj])
  injection e with e; injection e with e1 e2 _; subst e1 e2
  exact hc
theorem ba_inj {a b : ByteArray} (h : a.toList = b.toList) : a = b := ByteArray.ext (Array.toList_inj.1 (by rw [ByteArray.toList_eq, ByteArray.toList_eq] at h; exact h))
end Go.Proofs.YtfhfncnnendnfaaGreatDoor
