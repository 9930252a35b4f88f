/- What the stream gives for floor lives: Some, Hours, OnePart, Stays, ATime. Conditions: a stream that has been asked fewer than 10^6 times. -/
import Derived.Test.YtpfichbhhpnioaaGreatDoorStream
import Derived.Test.YtpfichbhhpnioaaGreatDoorRec
import Derived.Deep.RegionHeld3
namespace Go.Proofs.YtpfichbhhpnioaaGreatDoor
open Go.RowKit Go.Sort

def TS : Rty ByteArray := { e := 9, S := 75, k := 1, b := 16, z := .string ByteArray.empty, f := fun s => [.string s] }
theorem TS.ok : TS.Ok := ⟨by kernel_rfl, Tryz.underlying75, rfl, by decide, fun _ => rfl, fun x u hu => by simp [TS] at hu; subst hu; rfl, by decide⟩
def TY : Rty (Int × Int) := { e := 39, S := 29, k := 2, b := 16, z := .agg #[.int .i64 0, .int .i64 0], f := fun p => [.int .i64 p.1, .int .i64 p.2] }
theorem TY.ok : TY.Ok := ⟨by kernel_rfl, Tryz.underlying29, rfl, by decide, fun _ => rfl, fun x u hu => by simp [TY] at hu; rcases hu with rfl | rfl <;> rfl, by decide⟩
theorem RecR.of_blk {α : Type} {T : Rty α} {w : World} {g : Nat} {cs : Array Value} {t : TypeId} (h : w.heap[g]? = some (.cells cs t (0, 0))) {lo n cap : Nat} {l : List α} (hx : cs.toList = l.flatMap T.f) (hn : n = l.length) (h1 : n ≤ cap) (h2 : cap ≤ 9223372036854775807) (hl : lo ≤ g) :
    RecR T w lo (.slice (some ⟨g, 0, none⟩) n cap) l := by subst hn; exact Rd.of_blk h hx h1 h2 hl

set_option maxHeartbeats 1000000 in
theorem Some_any (s : Nat) (c : Int) (l : List ByteArray) (v : Value) (w : World) (h : Str w s c) (hc : c ≤ 1000000) (rl : RecR TS w (s + 1) v l) (h0 : 0 < l.length) (hl : l.length ≤ 1000) :
    Calls Tryz.prog 72 #[.pointer (some ⟨s, 0, none⟩), v] w fun e w' => ∃ r : ByteArray, e = .returned (.string r) ∧ r ∈ l ∧ Str w' s (c + 1) ∧ w.grownBy w' (some s) := by
  obtain ⟨a, cap, rfl, hc1, hc2⟩ := RecR.form rl
  go_enter Tryz.func72, Tryz.ntmps72
  go_wp2_with fail
  refine (Next_any s c l.length w h hc (by omega)).mono ?_
  rintro e w1 ⟨r, rfl, ⟨hr0, hr1, _⟩, hS, hG⟩
  have hr2 := hr1 (by omega)
  clear hr1
  obtain ⟨r, rfl⟩ := Int.eq_ofNat_of_zero_le hr0
  have rl1 := rl.grown hG (Nat.lt_succ_self s)
  obtain ⟨x, hx⟩ : ∃ x, l[r]? = some x := ⟨_, List.getElem?_eq_getElem (by omega)⟩
  obtain ⟨b, o, rfl, _, _, hcell⟩ := rl1.at TS.ok.len hx TS.ok.pos
  have hc0 : w1.cell? ⟨b, o + r, none⟩ = some (.string x) := by
    have := hcell 0 _ rfl
    simpa [TS] using this
  have HX := Lib.hid (List.mem_of_getElem? hx)
  clear hcell hx rl rl1
  go_wp2
  go_ret
  exact ⟨x, rfl, HX.out, hS, hG⟩
set_option maxHeartbeats 1000000 in
theorem Hours_any (s : Nat) (c : Int) (w : World) (h : Str w s c) (hc : c ≤ 999990) :
    Calls Tryz.prog 25 #[.pointer (some ⟨s, 0, none⟩)] w fun e w' => ∃ r : Int, e = .returned (.int .i64 r) ∧ (3599999 ≤ r ∧ r ≤ 1440000001) ∧ Str w' s (c + 2) ∧ w.grownBy w' (some s) := by
  have ls := h.lt
  have h1 := h.alloc (.cells #[.int .i64 1, .int .i64 2, .int .i64 6, .int .i64 10, .int .i64 12, .int .i64 24, .int .i64 50, .int .i64 60, .int .i64 72, .int .i64 120, .int .i64 168, .int .i64 400] 3)
  go_enter Tryz.func25, Tryz.ntmps25
  go_wp2_with fail
  refine (Pick_any s c [1, 2, 6, 10, 12, 24, 50, 60, 72, 120, 168, 400] _ _ h1 (by omega) (Ints.of_blk (blk_new _ _) rfl rfl (by simp) (by omega) ls) (by simp) (by simp)).mono ?_
  rintro e w1 ⟨r, rfl, hr, hS1, hG1⟩
  have hr1 : 1 ≤ r ∧ r ≤ 400 := by
    simp only [List.mem_cons, List.not_mem_nil, or_false] at hr
    omega
  clear hr
  have hg1 := Gr.trans (Gr.alloc (Gr.refl w (some s)) _) hG1
  go_wp2_with fail
  refine (Pick_any s (c + 1) [0, 0, 0, 1, -1] _ _ (hS1.alloc _) (by omega) (Ints.of_blk (blk_new _ _) rfl rfl (by simp) (by omega) hS1.lt) (by simp) (by simp)).mono ?_
  rintro e w2 ⟨r2, rfl, hr2, hS2, hG2⟩
  have hr3 : -1 ≤ r2 ∧ r2 ≤ 1 := by
    simp only [List.mem_cons, List.not_mem_nil, or_false] at hr2
    omega
  go_wp2
  go_ret
  exact ⟨_, rfl, by omega, hS2.mono (by omega), Gr.trans (Gr.alloc hg1 _) hG2⟩
def partV (key pkg : ByteArray) (lv bk : Int) : Value := .agg #[.string key, .string pkg, .int .i64 lv, .int .i64 bk]
set_option maxHeartbeats 4000000 in
set_option maxRecDepth 100000 in
theorem OnePart_any (s : Nat) (c : Int) (w : World) (h : Str w s c) (hc : c ≤ 999990) :
    Calls Tryz.prog 13 #[.pointer (some ⟨s, 0, none⟩)] w fun e w' => ∃ (key : ByteArray) (lv bk : Int), e = .returned (partV key ⟨#[113]⟩ lv bk) ∧ (key = ⟨#[112]⟩ ∨ key = ⟨#[]⟩) ∧ (0 ≤ lv ∧ lv ≤ 7) ∧ (0 ≤ bk ∧ bk ≤ 86400000) ∧ Str w' s (c + 5) ∧ w.grownBy w' (some s) := by
  have ls := h.lt
  have h1 := (h.alloc (.cells #[.string ⟨#[]⟩, .string ⟨#[]⟩, .int .i64 0, .int .i64 0] 27)).alloc (.cells #[.int .i64 1, .int .i64 2, .int .i64 3, .int .i64 4, .int .i64 5, .int .i64 6, .int .i64 4] 3)
  have hR0 := blk_old (blk_new w (.cells #[.string ⟨#[]⟩, .string ⟨#[]⟩, .int .i64 0, .int .i64 0] 27)) (.cells #[.int .i64 1, .int .i64 2, .int .i64 3, .int .i64 4, .int .i64 5, .int .i64 6, .int .i64 4] 3)
  have hI0 := blk_new' (w.alloc (.cells #[.string ⟨#[]⟩, .string ⟨#[]⟩, .int .i64 0, .int .i64 0] 27)) (.cells #[.int .i64 1, .int .i64 2, .int .i64 3, .int .i64 4, .int .i64 5, .int .i64 6, .int .i64 4] 3) (g := w.heap.size + 1) (by simp)
  have hg0 := Gr.alloc (Gr.alloc (Gr.refl w (some s)) (.cells #[.string ⟨#[]⟩, .string ⟨#[]⟩, .int .i64 0, .int .i64 0] 27)) (.cells #[.int .i64 1, .int .i64 2, .int .i64 3, .int .i64 4, .int .i64 5, .int .i64 6, .int .i64 4] 3)
  go_enter Tryz.func13, Tryz.ntmps13
  go_wp2_with fail
  refine (Pick_any s c [1, 2, 3, 4, 5, 6, 4] _ _ h1 (by omega) (Ints.of_blk hI0 rfl rfl (by simp) (by omega) (by omega)) (by simp) (by simp)).mono ?_
  rintro e w1 ⟨r, rfl, hr, hS1, hG1⟩
  have hr1 : 1 ≤ r ∧ r ≤ 6 := by
    simp only [List.mem_cons, List.not_mem_nil, or_false] at hr
    omega
  have hg1 := Gr.trans hg0 hG1
  have hR1 := Gr.blk hG1 hR0 (by omega)
  clear hr hG1 hg0 hR0 hI0 h1
  go_wp2_with fail
  refine (Pick_any s (c + 1) [0, 28800000, 86400000] _ _ (hS1.alloc _) (by omega) (Ints.of_blk (blk_new _ _) rfl rfl (by simp) (by omega) hS1.lt) (by simp) (by simp)).mono ?_
  rintro e w2 ⟨b, rfl, hb, hS2, hG2⟩
  have hb1 : 0 ≤ b ∧ b ≤ 86400000 := by
    simp only [List.mem_cons, List.not_mem_nil, or_false] at hb
    omega
  have hg2 := Gr.trans (Gr.alloc hg1 _) hG2
  have hR2 := Gr.blk hG2 (blk_old hR1 _) (by omega)
  have hS3 := hS2.alloc (.cells #[.string ⟨#[112]⟩, .string ⟨#[113]⟩, .int .i64 r, .int .i64 b] 27)
  have hR3 := blk_old hR2 (.cells #[.string ⟨#[112]⟩, .string ⟨#[113]⟩, .int .i64 r, .int .i64 b] 27)
  have hP3 := blk_new w2 (.cells #[.string ⟨#[112]⟩, .string ⟨#[113]⟩, .int .i64 r, .int .i64 b] 27)
  have hg3 := Gr.alloc hg2 (.cells #[.string ⟨#[112]⟩, .string ⟨#[113]⟩, .int .i64 r, .int .i64 b] 27)
  have l2 := hS2.lt
  have z2 := hg2.size
  have lR := blk_lt hR2
  clear hb hG2 hg1 hR1 hR2 hS1 hS2 hg2
  go_wp2_with fail
  refine (Flip_any s _ 30 _ hS3 (by omega) (by omega)).mono ?_
  rintro e w4 ⟨fl, rfl, hS4, hG4⟩
  have hg4 := Gr.trans hg3 hG4
  have hR4 := Gr.blk hG4 hR3 (by omega)
  have hP4 := Gr.blk hG4 hP3 (by omega)
  clear hG4 hg3 hR3 hP3 hS3
  cases fl
  · have c0 : w4.cell? ⟨w2.heap.size, 0, none⟩ = some (.string ⟨#[112]⟩) := blk_cell hP4 0
    have c1 : w4.cell? ⟨w2.heap.size, 1, none⟩ = some (.string ⟨#[113]⟩) := blk_cell hP4 1
    have c2 : w4.cell? ⟨w2.heap.size, 2, none⟩ = some (.int .i64 r) := blk_cell hP4 2
    have c3 : w4.cell? ⟨w2.heap.size, 3, none⟩ = some (.int .i64 b) := blk_cell hP4 3
    have k0 : w4.cell? ⟨w.heap.size, 0, none⟩ = some (.string ⟨#[]⟩) := blk_cell hR4 0
    have k1 : w4.cell? ⟨w.heap.size, 1, none⟩ = some (.string ⟨#[]⟩) := blk_cell hR4 1
    have k2 : w4.cell? ⟨w.heap.size, 2, none⟩ = some (.int .i64 0) := blk_cell hR4 2
    have k3 : w4.cell? ⟨w.heap.size, 3, none⟩ = some (.int .i64 0) := blk_cell hR4 3
    have f0 := blk_free hR4 0
    have f1 := blk_free hR4 1
    have f2 := blk_free hR4 2
    have f3 := blk_free hR4 3
    have hR5 := blk_set (blk_set (blk_set (blk_set hR4 0 (.string ⟨#[112]⟩)) 1 (.string ⟨#[113]⟩)) 2 (.int .i64 r)) 3 (.int .i64 b)
    have hg5 := Gr.set (Gr.set (Gr.set (Gr.set hg4 w.heap.size 0 (.inr (Nat.le_refl _)) (.string ⟨#[112]⟩)) w.heap.size 1 (.inr (Nat.le_refl _)) (.string ⟨#[113]⟩)) w.heap.size 2 (.inr (Nat.le_refl _)) (.int .i64 r)) w.heap.size 3 (.inr (Nat.le_refl _)) (.int .i64 b)
    have hS5 := Str.far (Str.far (Str.far (Str.far hS4 w.heap.size 0 (by omega) (.string ⟨#[112]⟩)) w.heap.size 1 (by omega) (.string ⟨#[113]⟩)) w.heap.size 2 (by omega) (.int .i64 r)) w.heap.size 3 (by omega) (.int .i64 b)
    go_wp2
    generalize (((w4.setCell ⟨w.heap.size, 0, none⟩ (.string ⟨#[112]⟩)).setCell ⟨w.heap.size, 1, none⟩ (.string ⟨#[113]⟩)).setCell ⟨w.heap.size, 2, none⟩ (.int .i64 r)).setCell ⟨w.heap.size, 3, none⟩ (.int .i64 b) = w5 at *
    have r0 : w5.cell? ⟨w.heap.size, 0, none⟩ = some (.string ⟨#[112]⟩) := blk_cell hR5 0
    have r1 : w5.cell? ⟨w.heap.size, 1, none⟩ = some (.string ⟨#[113]⟩) := blk_cell hR5 1
    have r2 : w5.cell? ⟨w.heap.size, 2, none⟩ = some (.int .i64 r) := blk_cell hR5 2
    have r3 : w5.cell? ⟨w.heap.size, 3, none⟩ = some (.int .i64 b) := blk_cell hR5 3
    refine bodyPost_ret (v := .agg #[.string ⟨#[112]⟩, .string ⟨#[113]⟩, .int .i64 r, .int .i64 b]) (by simp [results, Tryz.results13, go_sem, r0, r1, r2, r3]) rfl ?_
    exact ⟨⟨#[112]⟩, r, b, rfl, .inl rfl, by omega, hb1, hS5.mono (by omega), hg5⟩
  · go_wp2_with fail
    refine (Some_any s _ [⟨#[112]⟩, ⟨#[]⟩] _ _ (hS4.alloc _) (by omega) (RecR.of_blk (blk_new _ _) rfl rfl (by simp) (by omega) hS4.lt) (by simp) (by simp)).mono ?_
    rintro e w5 ⟨key, rfl, hk, hS5, hG5⟩
    have hk1 : key = ⟨#[112]⟩ ∨ key = ⟨#[]⟩ := by simpa using hk
    have hg5 := Gr.trans (Gr.alloc hg4 _) hG5
    have hR5 := Gr.blk hG5 (blk_old hR4 _) (by omega)
    have hP5 := Gr.blk hG5 (blk_old hP4 _) (by omega)
    clear hk hG5 hg4 hR4 hP4 hS4
    go_wp2_with fail
    refine (Pick_any s _ [0, 7] _ _ (hS5.alloc _) (by omega) (Ints.of_blk (blk_new _ _) rfl rfl (by simp) (by omega) hS5.lt) (by simp) (by simp)).mono ?_
    rintro e w6 ⟨lv, rfl, hlv, hS6, hG6⟩
    have hlv1 : 0 ≤ lv ∧ lv ≤ 7 := by
      simp only [List.mem_cons, List.not_mem_nil, or_false] at hlv
      omega
    have hg6 := Gr.trans (Gr.alloc hg5 _) hG6
    have hR6 := Gr.blk hG6 (blk_old hR5 _) (by omega)
    have hP6 := Gr.blk hG6 (blk_old hP5 _) (by omega)
    clear hlv hG6 hg5 hR5 hP5 hS5
    have p0 : w6.cell? ⟨w2.heap.size, 0, none⟩ = some (.string ⟨#[112]⟩) := blk_cell hP6 0
    have p2 : w6.cell? ⟨w2.heap.size, 2, none⟩ = some (.int .i64 r) := blk_cell hP6 2
    have q0 := blk_free hP6 0
    have q2 := blk_free hP6 2
    have hP7 := blk_set (blk_set hP6 0 (.string key)) 2 (.int .i64 lv)
    have hR7 := blk_far (blk_far hR6 w2.heap.size 0 (.string key) (by omega)) w2.heap.size 2 (.int .i64 lv) (by omega)
    have hg7 := Gr.set (Gr.set hg6 w2.heap.size 0 (.inr (by omega)) (.string key)) w2.heap.size 2 (.inr (by omega)) (.int .i64 lv)
    have hS7 := Str.far (Str.far hS6 w2.heap.size 0 (by omega) (.string key)) w2.heap.size 2 (by omega) (.int .i64 lv)
    have p1 : w6.cell? ⟨w2.heap.size, 1, none⟩ = some (.string ⟨#[113]⟩) := blk_cell hP6 1
    have p3 : w6.cell? ⟨w2.heap.size, 3, none⟩ = some (.int .i64 b) := blk_cell hP6 3
    have k0 : w6.cell? ⟨w.heap.size, 0, none⟩ = some (.string ⟨#[]⟩) := blk_cell hR6 0
    have k1 : w6.cell? ⟨w.heap.size, 1, none⟩ = some (.string ⟨#[]⟩) := blk_cell hR6 1
    have k2 : w6.cell? ⟨w.heap.size, 2, none⟩ = some (.int .i64 0) := blk_cell hR6 2
    have k3 : w6.cell? ⟨w.heap.size, 3, none⟩ = some (.int .i64 0) := blk_cell hR6 3
    have f0 := blk_free hR6 0
    have f1 := blk_free hR6 1
    have f2 := blk_free hR6 2
    have f3 := blk_free hR6 3
    have hR8 := blk_set (blk_set (blk_set (blk_set hR7 0 (.string key)) 1 (.string ⟨#[113]⟩)) 2 (.int .i64 lv)) 3 (.int .i64 b)
    have hg8 := Gr.set (Gr.set (Gr.set (Gr.set hg7 w.heap.size 0 (.inr (Nat.le_refl _)) (.string key)) w.heap.size 1 (.inr (Nat.le_refl _)) (.string ⟨#[113]⟩)) w.heap.size 2 (.inr (Nat.le_refl _)) (.int .i64 lv)) w.heap.size 3 (.inr (Nat.le_refl _)) (.int .i64 b)
    have hS8 := Str.far (Str.far (Str.far (Str.far hS7 w.heap.size 0 (by omega) (.string key)) w.heap.size 1 (by omega) (.string ⟨#[113]⟩)) w.heap.size 2 (by omega) (.int .i64 lv)) w.heap.size 3 (by omega) (.int .i64 b)
    go_wp2
    generalize (((((w6.setCell ⟨w2.heap.size, 0, none⟩ (.string key)).setCell ⟨w2.heap.size, 2, none⟩ (.int .i64 lv)).setCell ⟨w.heap.size, 0, none⟩ (.string key)).setCell ⟨w.heap.size, 1, none⟩ (.string ⟨#[113]⟩)).setCell ⟨w.heap.size, 2, none⟩ (.int .i64 lv)).setCell ⟨w.heap.size, 3, none⟩ (.int .i64 b) = w8 at *
    have r0 : w8.cell? ⟨w.heap.size, 0, none⟩ = some (.string key) := blk_cell hR8 0
    have r1 : w8.cell? ⟨w.heap.size, 1, none⟩ = some (.string ⟨#[113]⟩) := blk_cell hR8 1
    have r2 : w8.cell? ⟨w.heap.size, 2, none⟩ = some (.int .i64 lv) := blk_cell hR8 2
    have r3 : w8.cell? ⟨w.heap.size, 3, none⟩ = some (.int .i64 b) := blk_cell hR8 3
    refine bodyPost_ret (v := .agg #[.string key, .string ⟨#[113]⟩, .int .i64 lv, .int .i64 b]) (by simp [results, Tryz.results13, go_sem, r0, r1, r2, r3]) rfl ?_
    exact ⟨key, lv, b, rfl, hk1, hlv1, hb1, hS8.mono (by omega), hg8⟩
theorem dummy : True := trivial
end Go.Proofs.YtpfichbhhpnioaaGreatDoor
