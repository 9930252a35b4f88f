/- The walk of the law PartsExposed: whatever the input: true. -/
import Derived.Test.YtpfichbhhpnioaaGreatDoorLEx
import Derived.Deep.Cut
import Derived.Deep.CutRange
namespace Go.Proofs.YtpfichbhhpnioaaGreatDoor
open Go.RowKit Go.Sort

theorem Str.start {w : World} {a : Option Addr} {cap : Nat} {l : List Int} (rl : Ints w 0 (.slice a l.length cap) l) (hl : ∀ x ∈ l, -9223372036854775808 ≤ x ∧ x ≤ 9223372036854775807) :
    Str (w.alloc (.cells #[.slice a l.length cap, .int .i64 0] 25)) w.heap.size 0 := by
  obtain ⟨a', cap', hv, h1, h2⟩ := Ints.form rl
  injection hv with _ _ hcap
  refine ⟨a, l.length, cap, 0, blk_new w _, Int.le_refl _, Int.le_refl _, by omega, fun k hk => ?_⟩
  obtain ⟨b, o, ha, _, hb, hc⟩ := rl.at (k := k) (x := l[k]) (List.getElem?_eq_getElem hk)
  have hx := hl l[k] (List.getElem_mem hk)
  exact ⟨b, o, l[k], ha, hb, by simp; omega, ((bcell (Bl.alloc (Below.refl _ _) _)).1 _ _ hb).trans hc, hx.1, hx.2⟩
def spE (lo n hi : Int) : Int := if inB lo n hi = true then 0 else 1
theorem Or2_any (key : ByteArray) (lv t : Int) (l : List Sty) (w : World) :
    Calls Tryz.prog 49 #[.slice (some ⟨w.heap.size, 0, none⟩) 2 2] (w.alloc (.cells #[.int .i64 (livF key lv l), .int .i64 (spE 0 t 345686399999)] 31)).drew fun e w' => e = .returned (.int .i64 (momF key lv l t)) ∧ (w.alloc (.cells #[.int .i64 (livF key lv l), .int .i64 (spE 0 t 345686399999)] 31)).drew = w' := by
  refine (OrErrno_any [livF key lv l, spE 0 t 345686399999] (.slice (some ⟨w.heap.size, 0, none⟩) 2 2) _ (by simp) (Ints.of_blk (show (w.alloc (.cells #[.int .i64 (livF key lv l), .int .i64 (spE 0 t 345686399999)] 31)).drew.heap[w.heap.size]? = _ from blk_new w _) rfl rfl (Nat.le_refl _) (by omega) (Nat.zero_le _))).mono ?_
  rintro e w' ⟨rfl, rfl⟩
  refine ⟨ret_int ?_, rfl⟩
  unfold momF orF orF orF spE
  by_cases h0 : livF key lv l = 0
  · rw [if_pos h0, if_pos h0]; repeat' split <;> omega
  · rw [if_neg h0, if_neg h0]
theorem Or3_any (key : ByteArray) (lv lo hi : Int) (l : List Sty) (w : World) (g : Nat) (hg : g = w.heap.size) :
    Calls Tryz.prog 49 #[.slice (some ⟨g, 0, none⟩) 3 3] (w.alloc (.cells #[.int .i64 (livF key lv l), .int .i64 (spE 0 lo hi), .int .i64 (spE 0 hi 345686399999)] 31)).drew fun e w' => e = .returned (.int .i64 (useF key lv l lo hi)) ∧ (w.alloc (.cells #[.int .i64 (livF key lv l), .int .i64 (spE 0 lo hi), .int .i64 (spE 0 hi 345686399999)] 31)).drew = w' := by
  subst hg
  refine (OrErrno_any [livF key lv l, spE 0 lo hi, spE 0 hi 345686399999] (.slice (some ⟨w.heap.size, 0, none⟩) 3 3) _ (by simp) (Ints.of_blk (show (w.alloc (.cells #[.int .i64 (livF key lv l), .int .i64 (spE 0 lo hi), .int .i64 (spE 0 hi 345686399999)] 31)).drew.heap[w.heap.size]? = _ from blk_new w _) rfl rfl (Nat.le_refl _) (by omega) (Nat.zero_le _))).mono ?_
  rintro e w' ⟨rfl, rfl⟩
  refine ⟨ret_int ?_, rfl⟩
  unfold useF orF orF orF orF spE
  by_cases h0 : livF key lv l = 0
  · rw [if_pos h0, if_pos h0]
    by_cases h1 : inB 0 lo hi = true
    · by_cases h2 : inB 0 hi 345686399999 = true
      · simp [h1, h2]
      · simp [h1, h2]
    · simp [h1]
  · rw [if_neg h0, if_neg h0]
theorem aged_any (w : World) : Calls Tryz.prog 38 #[] w fun e w' => e = .returned (.bool true) ∧ w = w' := by
  have h := Life_any 4 w
  rw [show lifR 4 = (259200000, true, 0) by decide] at h
  have HL := Lib.hid h
  clear h
  go_enter Tryz.func38, Tryz.ntmps38
  go_wp2_with fail
  refine HL.out.mono ?_
  rintro e w' ⟨rfl, rfl⟩
  go_wp2
  go_ret
  exact ⟨rfl, rfl⟩
theorem OwnR.far2 {α : Type} {T : Rty α} {w : World} {B b : Nat} {v : Value} {l : List α} (h : OwnR T w B v l) (hne : v.ownBlock ≠ some b) (j : Nat) (u : Value) : OwnR T (w.setCell ⟨b, j, none⟩ u) B v l := by
  refine ⟨h.1, h.2.imp id ?_⟩
  rintro ⟨g, cap, cur, hv, hB, hc, rest⟩
  exact ⟨g, cap, cur, hv, hB, blk_far hc b j u (by rintro rfl; exact hne (by rw [hv]; rfl)), rest⟩
/-- what stands from the first parts of the law on. -/
structure Cx (W0 : World) (P W : Nat) (key : ByteArray) (lv bk lo hi : Int) (v : Value) (l : List Sty) (w : World) : Prop where
  hP : PartAt w P key lv bk
  hW : w.heap[W]? = some (.cells #[.int .i64 lo, .int .i64 hi] 46 (0, 0))
  rl : RecR TY w 0 v l
  hb : Below W0.heap.size W0 w
theorem Cx.below {W0 : World} {P W : Nat} {key : ByteArray} {lv bk lo hi : Int} {v : Value} {l : List Sty} {w w' : World} (h : Cx W0 P W key lv bk lo hi v l w) (hb : Below w.heap.size w w') : Cx W0 P W key lv bk lo hi v l w' :=
  ⟨blk_below h.hP hb, blk_below h.hW hb, h.rl.below hb, Bl.trans h.hb hb⟩
theorem Cx.ub {W0 : World} {P W : Nat} {key : ByteArray} {lv bk lo hi : Int} {v : Value} {l : List Sty} {w : World} (h : Cx W0 P W key lv bk lo hi v l w) : Ub w P W key lv bk lo hi := Ub.of h.hP h.hW

end Go.Proofs.YtpfichbhhpnioaaGreatDoor
