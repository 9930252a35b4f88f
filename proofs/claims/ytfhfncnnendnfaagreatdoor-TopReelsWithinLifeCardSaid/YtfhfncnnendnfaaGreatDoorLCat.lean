/- The contracts of CheckCatalogue and CatalogueFault at one part without alternates, and of the errors of a part with stays. Conditions: a short key, a bake time in its range. -/
import Derived.Test.YtfhfncnnendnfaaGreatDoorLSt
import Derived.Test.YtfhfncnnendnfaaGreatDoorKey
import Derived.Maps.Own
namespace Go.Proofs.YtfhfncnnendnfaaGreatDoor
open Go.RowKit Go.Sort

def catF (key : ByteArray) (lv : Int) : Int := if keyB key = true then (if inB 1 lv 6 = true then 0 else 1) else 5
theorem keyQ : keyB ⟨#[113]⟩ = true := by decide +kernel
theorem isKeyQ (w : World) : Calls Tryz.prog 46 #[.string ⟨#[113]⟩] w fun e w' => e = .returned (.bool true) ∧ Below w.heap.size w w' := by
  have := IsKey_any ⟨#[113]⟩ w (by show 1 ≤ 140737488355328; omega)
  rw [keyQ] at this
  exact this
/-- a part in memory. -/
def PartAt (w : World) (g : Nat) (key : ByteArray) (lv bk : Int) : Prop := w.heap[g]? = some (.cells #[.string key, .string ⟨#[113]⟩, .int .i64 lv, .int .i64 bk] 29 (0, 0))
set_option maxHeartbeats 4000000 in
set_option maxRecDepth 100000 in
theorem partFault_one (g : Nat) (key : ByteArray) (lv bk : Int) (w : World) (hk : key.size ≤ 1000) (hbk : 0 ≤ bk ∧ bk ≤ 720000000) (hP : PartAt w g key lv bk) :
    Calls Tryz.prog 42 #[.slice (some ⟨g, 0, none⟩) 1 1, .int .i64 0] w fun e w' => e = .returned (.int .i64 (catF key lv)) ∧ Below w.heap.size w w' := by
  have p0 : w.cell? ⟨g, 0, none⟩ = some (.string key) := blk_cell hP 0
  have p1 : w.cell? ⟨g, 1, none⟩ = some (.string ⟨#[113]⟩) := blk_cell hP 1
  have p2 : w.cell? ⟨g, 2, none⟩ = some (.int .i64 lv) := blk_cell hP 2
  have p3 : w.cell? ⟨g, 3, none⟩ = some (.int .i64 bk) := blk_cell hP 3
  have hX := blk_new w (.cells #[.string key, .string ⟨#[113]⟩, .int .i64 lv, .int .i64 bk] 29)
  have hb0 := Bl.alloc (Below.refl w.heap.size w) (.cells #[.string key, .string ⟨#[113]⟩, .int .i64 lv, .int .i64 bk] 29)
  have hbi : inB 0 bk 720000000 = true := inB_true hbk.1 hbk.2
  have HK := Lib.hid (fun w => IsKey_any key w (by omega))
  go_enter Tryz.func42, Tryz.ntmps42
  go_wp2_with fail
  refine (HK.out _).mono ?_
  rintro e w1 ⟨rfl, hb1⟩
  have hb01 := Bl.trans hb0 hb1
  have hX1 := blk_below hX hb1
  have x1 : w1.cell? ⟨w.heap.size, 1, none⟩ = some (.string ⟨#[113]⟩) := blk_cell hX1 1
  clear hb1 hb0 hX HK
  cases hkb : keyB key
  · have HV : Hid (catF key lv = 5) := Lib.hid (by unfold catF; rw [hkb]; rfl)
    go_wp2
    go_ret
    exact ⟨ret_int HV.out.symm, hb01⟩
  · go_wp2_with fail
    refine (isKeyQ _).mono ?_
    rintro e w2 ⟨rfl, hb2⟩
    have hb02 := Bl.trans hb01 hb2
    have hX2 := blk_below hX1 hb2
    have y0 : w2.cell? ⟨w.heap.size, 0, none⟩ = some (.string key) := blk_cell hX2 0
    have y2 : w2.cell? ⟨w.heap.size, 2, none⟩ = some (.int .i64 lv) := blk_cell hX2 2
    have y3 : w2.cell? ⟨w.heap.size, 3, none⟩ = some (.int .i64 bk) := blk_cell hX2 3
    cases hl : inB 1 lv 6
    · have HV : Hid (catF key lv = 1) := Lib.hid (by unfold catF; rw [hkb, hl]; rfl)
      clear hb2 hb01 hX1
      go_wp2_with (go_at_call 18; refine (Outside_any _ _ _ _).mono ?_; rintro e w' ⟨rfl, rfl⟩; first | rw [hl] | rw [hbi])
      go_ret
      exact ⟨ret_int HV.out.symm, hb02⟩
    · have HV : Hid (catF key lv = 0) := Lib.hid (by unfold catF; rw [hkb, hl]; rfl)
      clear hb2 hb01 hX1
      go_wp2_with (go_at_call 18; refine (Outside_any _ _ _ _).mono ?_; rintro e w' ⟨rfl, rfl⟩; first | rw [hl] | rw [hbi])
      go_region
      go_wp2
      go_ret
      exact ⟨ret_int HV.out.symm, Below.drew hb02⟩
set_option maxHeartbeats 8000000 in
set_option maxRecDepth 100000 in
theorem CheckCatalogue_one (g : Nat) (key : ByteArray) (lv bk : Int) (w : World) (hk : key.size ≤ 1000) (hbk : 0 ≤ bk ∧ bk ≤ 720000000) (hP : PartAt w g key lv bk) :
    Calls Tryz.prog 28 #[.agg #[.slice (some ⟨g, 0, none⟩) 1 1, .slice none 0 0]] w fun e w' => e = .returned (.int .i64 (catF key lv)) ∧ Below w.heap.size w w' := by
  have hmm := @run_makeMap Tryz.prog
  have hb0 := Bl.alloc (Below.refl w.heap.size w) (.cells #[.slice (some ⟨g, 0, none⟩) 1 1, .slice none 0 0] 90)
  have hC0 := blk_new w (.cells #[.slice (some ⟨g, 0, none⟩) 1 1, .slice none 0 0] 90)
  have hP0 : PartAt _ g key lv bk := blk_old hP (.cells #[.slice (some ⟨g, 0, none⟩) 1 1, .slice none 0 0] 90)
  have HPF := Lib.hid (partFault_one g key lv bk _ hk hbk hP0)
  clear hP hP0
  go_enter Tryz.func28, Tryz.ntmps28
  go_wp2
  generalize w.alloc (.cells #[.slice (some ⟨g, 0, none⟩) 1 1, .slice none 0 0] 90) = w1 at *
  have q0 : w1.cell? ⟨w.heap.size, 0, none⟩ = some (.slice (some ⟨g, 0, none⟩) 1 1) := blk_cell hC0 0
  go_loopw [19] (fun i wr => (i = .int .i64 0 ∧ w1 = wr) ∨ (i = .int .i64 1 ∧ Hid (catF key lv = 0) ∧ Below w1.heap.size w1 wr)) (fun i _ => 1 - (intOf i).toNat)
  case atStart => exact .inl ⟨rfl, rfl⟩
  case round =>
    rcases hrel with ⟨rfl, rfl⟩ | ⟨rfl, hV, hb⟩
    · go_wp2_with fail
      refine HPF.out.mono ?_
      rintro e w2 ⟨rfl, hb2⟩
      by_cases h0 : catF key lv = 0
      · rw [h0]
        have H0 := Lib.hid h0
        clear h0
        go_wp2
        go_roundw
        case rel => exact .inr ⟨rfl, H0, hb2⟩
        case measure => simp [intOf]
      · have hne : (catF key lv != 0) = true := by simpa using h0
        clear h0
        go_wp2
        go_ret
        exact ⟨rfl, Bl.trans hb0 hb2⟩
    · have hC2 := blk_below hC0 hb
      have r1 : wr.cell? ⟨w.heap.size, 1, none⟩ = some (.slice none 0 0) := blk_cell hC2 1
      have hbm := Bl.trans hb0 (Bl.alloc hb (.map #[] 0))
      have lC := blk_lt hC2
      clear HPF
      go_wp2
      go_loop [37] (fun i => i = .int .i64 0) (fun _ => 0)
      case atStart => rfl
      case round =>
        subst hrel
        go_wp2
        go_loop [51] (fun i => i = .int .i64 0) (fun _ => 0)
        case atStart => rfl
        case round =>
          subst hrel
          go_wp2
          go_ret
          exact ⟨ret_int hV.out.symm, hbm⟩
end Go.Proofs.YtfhfncnnendnfaaGreatDoor
