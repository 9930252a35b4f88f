/- Texts of the proof of a law, put together, part 30 of 31. Conditions: none beyond those that each theorem names. -/
import Derived.Test.YtjegfebolhjghaaGreatDoorPc27
import Derived.Test.YtjegfebolhjghaaGreatDoorPc29
namespace Go.Proofs.YtjegfebolhjghaaGreatDoor
open Go.RowKit Go.Sort
theorem Bl.mono' {a b : World} {n : Nat} (h : Below a.heap.size a b) (hn : n ≤ a.heap.size) : Below n a b := h.mono hn
set_option maxHeartbeats 16000000 in
set_option maxRecDepth 100000 in
theorem ChainsAreChains_any (li : List Int) (v : Value) (w : World) (rl : Ints w 0 v li) (hl : ∀ x ∈ li, -9223372036854775808 ≤ x ∧ x ≤ 9223372036854775807) :
    Calls Tryz.prog 3 #[v] w fun e w' => e = .returned (.bool true) ∧ Below w.heap.size w w' := by
  obtain ⟨xa, xcap, rfl, hc1, hc2⟩ := Ints.form rl
  obtain ⟨w0, hw0⟩ : ∃ w0, w0 = w.alloc (.cells #[.slice xa li.length xcap, .int .i64 0] 25) := ⟨_, rfl⟩
  have hs0 : Str w0 w.heap.size 0 := by rw [hw0]; exact Str.begin rl hl
  have hb0 : Below w.heap.size w w0 := by rw [hw0]; exact Bl.alloc (Below.refl w.heap.size w) _
  have hz0 : w.heap.size < w0.heap.size := hs0.lt
  have HW0 := Lib.hid hw0
  have HB0 := Lib.hid hb0
  clear rl hl hw0 hb0
  go_enter Tryz.func3, Tryz.ntmps3
  go_wp2_with fail
  rw [← HW0.out]
  refine (RightCatalogue_any w.heap.size 0 w0 hs0 (by omega)).mono ?_
  rintro e w2 ⟨⟨vp, va, ps, l, rfl, hOp, hOa, hp5, hl25, hkp, hka, hcf⟩, hS2, hG2⟩
  obtain ⟨pa, pcap, rfl, _, hpc⟩ := hOp.form
  obtain ⟨aa, an, acap, rfl⟩ : ∃ a n c, va = .slice a n c := by obtain ⟨a, c, h, _, _⟩ := hOa.form; exact ⟨a, _, c, h⟩
  obtain ⟨C, hC⟩ : ∃ C, C = w2.heap.size := ⟨_, rfl⟩
  obtain ⟨w3, hw3⟩ : ∃ w3, w3 = w2.alloc (.cells #[.slice pa ps.length pcap, .slice aa an acap] 29) := ⟨_, rfl⟩
  have hb3 : Below w2.heap.size w2 w3 := by rw [hw3]; exact Bl.alloc (Below.refl _ _) _
  have HCB : Hid (CatB w3 C w0.heap.size (.slice pa ps.length pcap) (.slice aa an acap) ps l) := Lib.hid ⟨by rw [hw3, hC]; exact blk_new w2 _, hOp.below hb3, hOa.below hb3⟩
  have HS3 := Lib.hid (hS2.below hb3)
  have hG3 := Gr.trans hG2 (Gr.of_below hb3 (some w.heap.size))
  have HB3 : Hid (Below w.heap.size w w3) := Lib.hid (Below.trans HB0.out (Gr.below hG3 (Nat.le_refl _) (by omega)))
  have HK := Lib.hid (And.intro hp5 (And.intro hl25 (And.intro hkp hka)))
  have HC0 := Lib.hid hcf
  have HR3 := Lib.hid (And.intro hC hw3)
  have hzC : w0.heap.size ≤ C := by rw [hC]; exact hG2.size
  have q0 : w3.cell? ⟨C, 0, none⟩ = some (.slice pa ps.length pcap) := blk_cell HCB.out.c 0
  have lC : C < w3.heap.size := blk_lt HCB.out.c
  clear hOp hOa hp5 hl25 hkp hka hcf hS2 hG2 hG3 hb3 hC hw3
  by_cases h0 : ps = []
  · have hl0 : ps.length = 0 := by rw [h0]; rfl
    clear h0
    have HR4 : Hid (w3 = w2.alloc (.cells #[.slice pa 0 pcap, .slice aa an acap] 29)) := Lib.hid (by rw [HR3.out.2, hl0])
    go_wp2_with fail
    rw [← HR4.out]
    refine (ready_any w3).mono ?_
    rintro e w9 ⟨rfl, hb9⟩
    have HB9 := Lib.hid (HB3.out.trans (hb9.mono HB3.out.size))
    clear hb9
    go_wp2
    go_ret
    exact ⟨rfl, HB9.out⟩
  · have hne : ¬ ps.length = 0 := fun e => h0 (List.length_eq_zero_iff.1 e)
    obtain ⟨go, cap, cur, hoa, hgo, _, _, _⟩ := HCB.out.p.blk h0
    injection hoa with hoa1 _ hoa2
    subst hoa1 hoa2
    obtain ⟨va, hva⟩ : ∃ va, va = Value.slice aa an acap := ⟨_, rfl⟩
    have HVA := Lib.hid hva
    rw [← hva] at HCB
    have HPOS : PosL ps.length := by unfold PosL; omega
    have HK1 : OwnK (fun W => CatB W C w0.heap.size (.slice (some ⟨go, 0, none⟩) ps.length pcap) va ps l) w.heap.size := ⟨fun W W' h hb => h.low hb, fun W W' h hg => h.gr (by omega) (by omega) hg⟩
    clear h0 hva
    go_wp2_with fail
    rw [← HR3.out.2]
    rw [← HR3.out.1]
    refine wp_region_inv (by kernel_rfl) [25, 26, 27, 28, 29, 30, 31, 32, 33, 34, 35, 36, 37, 38, 39, 40, 41, 42, 43, 44, 5, 6] (RB (fun W => CatB W C w0.heap.size (.slice (some ⟨go, 0, none⟩) ps.length pcap) va ps l) w3 w.heap.size (w3.heap.size) (300 + 49990)) (RR (w3.heap.size)) (fun i => [VE (.pointer (some ⟨C, 0, none⟩)), VE (.slice (some ⟨go, 0, none⟩) ps.length pcap), VE (.pointer (some ⟨w.heap.size, 0, none⟩)), VE (.pointer (some ⟨C, 0, none⟩)), VE (.slice (some ⟨go, 0, none⟩) ps.length pcap), VE (.int .i64 ps.length), VJq ps.length, VPq go ps.length 4, VPq go ps.length 4, VKy ps, VE (.pointer (some ⟨C, 0, none⟩)), VE (.slice (some ⟨go, 0, none⟩) ps.length pcap), VE (.pointer (some ⟨w.heap.size, 0, none⟩)), VE (.pointer (some ⟨C, 0, none⟩)), VE (.slice (some ⟨go, 0, none⟩) ps.length pcap), VE (.int .i64 ps.length), VJq ps.length, VPq go ps.length 4, VPq go ps.length 4, VKy ps, VKy ps, VKy ps].getD i VT) (by kernel_rfl) (by kernel_rfl) (fun u u' W hu h => h.mono hu) ?_ ?_ ?_ ?_ ?_
    · exact ⟨(HS3.out.drew).mono (by show _ ≤ (300 : Int) + 49990 - 10 * ((22 : Nat) : Int); omega), HCB.out.low (Below.drew (Below.refl _ _)), Nat.le_refl _, Gr.of_below (Below.drew (Below.refl _ _)) _⟩
    · intro u W W' i v hB hR hV
      exact match i, hV with
        | 0, h => h
        | 1, h => h
        | 2, h => h
        | 3, h => h
        | 4, h => h
        | 5, h => h
        | 6, h => h
        | 7, h => h
        | 8, h => h
        | 9, h => h
        | 10, h => h
        | 11, h => h
        | 12, h => h
        | 13, h => h
        | 14, h => h
        | 15, h => h
        | 16, h => h
        | 17, h => h
        | 18, h => h
        | 19, h => h
        | 20, h => h
        | 21, h => h
        | (_ + 22), _ => trivial
    · intro i o v W ho hd
      match i, ho with
        | 0, ho => (obtain rfl := Option.some.inj ho; cases hd)
        | 1, ho => (obtain rfl := Option.some.inj ho; cases hd)
        | 2, ho => (obtain rfl := Option.some.inj ho; cases hd)
        | 3, ho => (obtain rfl := Option.some.inj ho; cases hd)
        | 4, ho => (obtain rfl := Option.some.inj ho; cases hd)
        | 5, ho => (obtain rfl := Option.some.inj ho; cases hd)
        | 6, ho => (obtain rfl := Option.some.inj ho; cases hd)
        | 7, ho => (obtain rfl := Option.some.inj ho; cases hd)
        | 8, ho => (obtain rfl := Option.some.inj ho; cases hd)
        | 9, ho => (obtain rfl := Option.some.inj ho; cases hd)
        | 10, ho => (obtain rfl := Option.some.inj ho; cases hd)
        | 11, ho => (obtain rfl := Option.some.inj ho; cases hd)
        | 12, ho => (obtain rfl := Option.some.inj ho; cases hd)
        | 13, ho => (obtain rfl := Option.some.inj ho; cases hd)
        | 14, ho => (obtain rfl := Option.some.inj ho; cases hd)
        | 15, ho => (obtain rfl := Option.some.inj ho; cases hd)
        | 16, ho => (obtain rfl := Option.some.inj ho; cases hd)
        | 17, ho => (obtain rfl := Option.some.inj ho; cases hd)
        | 18, ho => (obtain rfl := Option.some.inj ho; cases hd)
        | 19, ho => (obtain rfl := Option.some.inj ho; cases hd)
        | 20, ho => (obtain rfl := Option.some.inj ho; cases hd)
        | 21, ho => (obtain rfl := Option.some.inj ho; cases hd)
        | (_ + 22), _ => trivial
    · intro i o u f W ho hi hB hdep
      have hi' : i = 0 ∨ i = 1 ∨ i = 2 ∨ i = 3 ∨ i = 4 ∨ i = 5 ∨ i = 6 ∨ i = 7 ∨ i = 8 ∨ i = 9 ∨ i = 10 ∨ i = 11 ∨ i = 12 ∨ i = 13 ∨ i = 14 ∨ i = 15 ∨ i = 16 ∨ i = 17 ∨ i = 18 ∨ i = 19 ∨ i = 20 ∨ i = 21 := by
        have : i < 22 := hi
        omega
      rcases hi' with rfl | rfl | rfl | rfl | rfl | rfl | rfl | rfl | rfl | rfl | rfl | rfl | rfl | rfl | rfl | rfl | rfl | rfl | rfl | rfl | rfl | rfl
      · refine iv_val ho (by obtain rfl := Option.some.inj ho; rfl) (.pointer (some ⟨C, 0, none⟩)) W ?_ (hB.below HK1 (Below.refl _ _)) (RR.refl _ _) rfl
        · intro q hq
          obtain rfl := Option.some.inj ho
          have e4 := hq.tmp 4
          simp at e4
          simp [execOp, e4, go_sem]
      · have d25 : f 25 = .pointer (some ⟨C, 0, none⟩) := hdep ⟨0, .data⟩ (by obtain rfl := Option.some.inj ho; simp) rfl
        have y0 := blk_cell hB.own.c 0
        refine iv_val ho (by obtain rfl := Option.some.inj ho; rfl) (.slice (some ⟨go, 0, none⟩) ps.length pcap) W ?_ (hB.below HK1 (Below.refl _ _)) (RR.refl _ _) rfl
        · intro q hq
          obtain rfl := Option.some.inj ho
          have e25 := hq.tmp 25
          simp at e25
          simp [execOp, e25, d25, go_sem, y0]
      · refine iv_val ho (by obtain rfl := Option.some.inj ho; rfl) (.pointer (some ⟨w.heap.size, 0, none⟩)) W ?_ (hB.below HK1 (Below.refl _ _)) (RR.refl _ _) rfl
        · intro q hq
          obtain rfl := Option.some.inj ho
          have e3 := hq.tmp 3
          simp at e3
          simp [execOp, e3, go_sem]
      · refine iv_val ho (by obtain rfl := Option.some.inj ho; rfl) (.pointer (some ⟨C, 0, none⟩)) W ?_ (hB.below HK1 (Below.refl _ _)) (RR.refl _ _) rfl
        · intro q hq
          obtain rfl := Option.some.inj ho
          have e4 := hq.tmp 4
          simp at e4
          simp [execOp, e4, go_sem]
      · have d28 : f 28 = .pointer (some ⟨C, 0, none⟩) := hdep ⟨3, .data⟩ (by obtain rfl := Option.some.inj ho; simp) rfl
        have y0 := blk_cell hB.own.c 0
        refine iv_val ho (by obtain rfl := Option.some.inj ho; rfl) (.slice (some ⟨go, 0, none⟩) ps.length pcap) W ?_ (hB.below HK1 (Below.refl _ _)) (RR.refl _ _) rfl
        · intro q hq
          obtain rfl := Option.some.inj ho
          have e28 := hq.tmp 28
          simp at e28
          simp [execOp, e28, d28, go_sem, y0]
      · have d29 : f 29 = .slice (some ⟨go, 0, none⟩) ps.length pcap := hdep ⟨4, .data⟩ (by obtain rfl := Option.some.inj ho; simp) rfl
        refine iv_val ho (by obtain rfl := Option.some.inj ho; rfl) (.int .i64 ps.length) W ?_ (hB.below HK1 (Below.refl _ _)) (RR.refl _ _) rfl
        · intro q hq
          obtain rfl := Option.some.inj ho
          have e29 := hq.tmp 29
          simp at e29
          simp [execOp, e29, d29, go_sem, resolve, invoke, builtin]
      · have d27 : f 27 = .pointer (some ⟨w.heap.size, 0, none⟩) := hdep ⟨2, .data⟩ (by obtain rfl := Option.some.inj ho; simp) rfl
        have d30 : f 30 = .int .i64 ps.length := hdep ⟨5, .data⟩ (by obtain rfl := Option.some.inj ho; simp) rfl
        refine iv_call ho (by obtain rfl := Option.some.inj ho; rfl) 8 #[.tmp 27, .tmp 30] _ (by obtain rfl := Option.some.inj ho; rfl) (enters_of Tryz.func8 (by kernel_rfl) rfl) #[.pointer (some ⟨w.heap.size, 0, none⟩), .int .i64 ps.length] (by intro q hq; have e27 := hq.tmp 27; simp at e27; have e30 := hq.tmp 30; simp at e30; simp [e27, e30, d27, d30]) _ (Next_any w.heap.size _ ps.length W hB.str (by omega) (by omega)) ?_
        rintro e W' ⟨r, rfl, ⟨hr0, hr1, _⟩, hs', hg'⟩
        exact ⟨_, rfl, hB.call HK1 hs' (by omega) hg', RR.of_gr hg' (by omega), ⟨r.toNat, by have hps := HPOS; unfold PosL at hps; have := hr1 (by omega); omega, by rw [Int.toNat_of_nonneg hr0]⟩⟩
      · have d26 : f 26 = .slice (some ⟨go, 0, none⟩) ps.length pcap := hdep ⟨1, .data⟩ (by obtain rfl := Option.some.inj ho; simp) rfl
        obtain ⟨jj, hjj, d31⟩ : VJq ps.length (f 31) W := hdep ⟨6, .data⟩ (by obtain rfl := Option.some.inj ho; simp) rfl
        have i1 : (0 : Int) ≤ (jj : Int) := by omega
        have i2 : (jj : Int) < (ps.length : Int) := by omega
        refine iv_val ho (by obtain rfl := Option.some.inj ho; rfl) (.pointer (some ⟨go, jj * 4, none⟩)) W ?_ (hB.below HK1 (Below.refl _ _)) (RR.refl _ _) ⟨jj, hjj, rfl⟩
        · intro q hq
          obtain rfl := Option.some.inj ho
          have e26 := hq.tmp 26
          have e31 := hq.tmp 31
          simp at e26 e31
          simp [execOp, e26, e31, d26, d31, go_sem, i1, i2]
      · obtain ⟨jj, hjj, d32⟩ : VPq go ps.length 4 (f 32) W := hdep ⟨7, .data⟩ (by obtain rfl := Option.some.inj ho; simp) rfl
        refine iv_val ho (by obtain rfl := Option.some.inj ho; rfl) (.pointer (some ⟨go, jj * 4, none⟩)) W ?_ (hB.below HK1 (Below.refl _ _)) (RR.refl _ _) ⟨jj, hjj, rfl⟩
        · intro q hq
          obtain rfl := Option.some.inj ho
          have e32 := hq.tmp 32
          simp at e32
          simp [execOp, e32, d32, go_sem]
      · obtain ⟨jj, hjj, d33⟩ : VPq go ps.length 4 (f 33) W := hdep ⟨8, .data⟩ (by obtain rfl := Option.some.inj ho; simp) rfl
        obtain ⟨x0, hx0⟩ : ∃ x, ps[jj]? = some x := ⟨_, List.getElem?_eq_getElem hjj⟩
        have y0 : W.cell? ⟨go, jj * 4, none⟩ = some (.string x0.1) := (OwnR.cellf TPt.ok hB.own.p rfl hx0 (fo := 0) rfl).1
        refine iv_val ho (by obtain rfl := Option.some.inj ho; rfl) (.string x0.1) W ?_ (hB.below HK1 (Below.refl _ _)) (RR.refl _ _) ⟨x0, List.mem_of_getElem? hx0, rfl⟩
        · intro q hq
          obtain rfl := Option.some.inj ho
          have e33 := hq.tmp 33
          simp at e33
          simp [execOp, e33, d33, go_sem, y0]
      · refine iv_val ho (by obtain rfl := Option.some.inj ho; rfl) (.pointer (some ⟨C, 0, none⟩)) W ?_ (hB.below HK1 (Below.refl _ _)) (RR.refl _ _) rfl
        · intro q hq
          obtain rfl := Option.some.inj ho
          have e4 := hq.tmp 4
          simp at e4
          simp [execOp, e4, go_sem]
      · have d35 : f 35 = .pointer (some ⟨C, 0, none⟩) := hdep ⟨10, .data⟩ (by obtain rfl := Option.some.inj ho; simp) rfl
        have y0 := blk_cell hB.own.c 0
        refine iv_val ho (by obtain rfl := Option.some.inj ho; rfl) (.slice (some ⟨go, 0, none⟩) ps.length pcap) W ?_ (hB.below HK1 (Below.refl _ _)) (RR.refl _ _) rfl
        · intro q hq
          obtain rfl := Option.some.inj ho
          have e35 := hq.tmp 35
          simp at e35
          simp [execOp, e35, d35, go_sem, y0]
      · refine iv_val ho (by obtain rfl := Option.some.inj ho; rfl) (.pointer (some ⟨w.heap.size, 0, none⟩)) W ?_ (hB.below HK1 (Below.refl _ _)) (RR.refl _ _) rfl
        · intro q hq
          obtain rfl := Option.some.inj ho
          have e3 := hq.tmp 3
          simp at e3
          simp [execOp, e3, go_sem]
      · refine iv_val ho (by obtain rfl := Option.some.inj ho; rfl) (.pointer (some ⟨C, 0, none⟩)) W ?_ (hB.below HK1 (Below.refl _ _)) (RR.refl _ _) rfl
        · intro q hq
          obtain rfl := Option.some.inj ho
          have e4 := hq.tmp 4
          simp at e4
          simp [execOp, e4, go_sem]
      · have d38 : f 38 = .pointer (some ⟨C, 0, none⟩) := hdep ⟨13, .data⟩ (by obtain rfl := Option.some.inj ho; simp) rfl
        have y0 := blk_cell hB.own.c 0
        refine iv_val ho (by obtain rfl := Option.some.inj ho; rfl) (.slice (some ⟨go, 0, none⟩) ps.length pcap) W ?_ (hB.below HK1 (Below.refl _ _)) (RR.refl _ _) rfl
        · intro q hq
          obtain rfl := Option.some.inj ho
          have e38 := hq.tmp 38
          simp at e38
          simp [execOp, e38, d38, go_sem, y0]
      · have d39 : f 39 = .slice (some ⟨go, 0, none⟩) ps.length pcap := hdep ⟨14, .data⟩ (by obtain rfl := Option.some.inj ho; simp) rfl
        refine iv_val ho (by obtain rfl := Option.some.inj ho; rfl) (.int .i64 ps.length) W ?_ (hB.below HK1 (Below.refl _ _)) (RR.refl _ _) rfl
        · intro q hq
          obtain rfl := Option.some.inj ho
          have e39 := hq.tmp 39
          simp at e39
          simp [execOp, e39, d39, go_sem, resolve, invoke, builtin]
      · have d37 : f 37 = .pointer (some ⟨w.heap.size, 0, none⟩) := hdep ⟨12, .data⟩ (by obtain rfl := Option.some.inj ho; simp) rfl
        have d40 : f 40 = .int .i64 ps.length := hdep ⟨15, .data⟩ (by obtain rfl := Option.some.inj ho; simp) rfl
        refine iv_call ho (by obtain rfl := Option.some.inj ho; rfl) 8 #[.tmp 37, .tmp 40] _ (by obtain rfl := Option.some.inj ho; rfl) (enters_of Tryz.func8 (by kernel_rfl) rfl) #[.pointer (some ⟨w.heap.size, 0, none⟩), .int .i64 ps.length] (by intro q hq; have e37 := hq.tmp 37; simp at e37; have e40 := hq.tmp 40; simp at e40; simp [e37, e40, d37, d40]) _ (Next_any w.heap.size _ ps.length W hB.str (by omega) (by omega)) ?_
        rintro e W' ⟨r, rfl, ⟨hr0, hr1, _⟩, hs', hg'⟩
        exact ⟨_, rfl, hB.call HK1 hs' (by omega) hg', RR.of_gr hg' (by omega), ⟨r.toNat, by have hps := HPOS; unfold PosL at hps; have := hr1 (by omega); omega, by rw [Int.toNat_of_nonneg hr0]⟩⟩
      · have d36 : f 36 = .slice (some ⟨go, 0, none⟩) ps.length pcap := hdep ⟨11, .data⟩ (by obtain rfl := Option.some.inj ho; simp) rfl
        obtain ⟨jj, hjj, d41⟩ : VJq ps.length (f 41) W := hdep ⟨16, .data⟩ (by obtain rfl := Option.some.inj ho; simp) rfl
        have i1 : (0 : Int) ≤ (jj : Int) := by omega
        have i2 : (jj : Int) < (ps.length : Int) := by omega
        refine iv_val ho (by obtain rfl := Option.some.inj ho; rfl) (.pointer (some ⟨go, jj * 4, none⟩)) W ?_ (hB.below HK1 (Below.refl _ _)) (RR.refl _ _) ⟨jj, hjj, rfl⟩
        · intro q hq
          obtain rfl := Option.some.inj ho
          have e36 := hq.tmp 36
          have e41 := hq.tmp 41
          simp at e36 e41
          simp [execOp, e36, e41, d36, d41, go_sem, i1, i2]
      · obtain ⟨jj, hjj, d42⟩ : VPq go ps.length 4 (f 42) W := hdep ⟨17, .data⟩ (by obtain rfl := Option.some.inj ho; simp) rfl
        refine iv_val ho (by obtain rfl := Option.some.inj ho; rfl) (.pointer (some ⟨go, jj * 4, none⟩)) W ?_ (hB.below HK1 (Below.refl _ _)) (RR.refl _ _) ⟨jj, hjj, rfl⟩
        · intro q hq
          obtain rfl := Option.some.inj ho
          have e42 := hq.tmp 42
          simp at e42
          simp [execOp, e42, d42, go_sem]
      · obtain ⟨jj, hjj, d43⟩ : VPq go ps.length 4 (f 43) W := hdep ⟨18, .data⟩ (by obtain rfl := Option.some.inj ho; simp) rfl
        obtain ⟨x0, hx0⟩ : ∃ x, ps[jj]? = some x := ⟨_, List.getElem?_eq_getElem hjj⟩
        have y0 : W.cell? ⟨go, jj * 4, none⟩ = some (.string x0.1) := (OwnR.cellf TPt.ok hB.own.p rfl hx0 (fo := 0) rfl).1
        refine iv_val ho (by obtain rfl := Option.some.inj ho; rfl) (.string x0.1) W ?_ (hB.below HK1 (Below.refl _ _)) (RR.refl _ _) ⟨x0, List.mem_of_getElem? hx0, rfl⟩
        · intro q hq
          obtain rfl := Option.some.inj ho
          have e43 := hq.tmp 43
          simp at e43
          simp [execOp, e43, d43, go_sem, y0]
      · obtain ⟨xk, hxk, d34⟩ : VKy ps (f 34) W := hdep ⟨9, .data⟩ (by obtain rfl := Option.some.inj ho; simp) rfl
        refine iv_val ho (by obtain rfl := Option.some.inj ho; rfl) (.string xk.1) W ?_ (hB.below HK1 (Below.refl _ _)) (RR.refl _ _) ⟨xk, hxk, rfl⟩
        · intro q hq
          obtain rfl := Option.some.inj ho
          have e34 := hq.tmp 34
          simp at e34
          simp [execOp, e34, d34, go_sem]
      · obtain ⟨xk, hxk, d44⟩ : VKy ps (f 44) W := hdep ⟨19, .data⟩ (by obtain rfl := Option.some.inj ho; simp) rfl
        refine iv_val ho (by obtain rfl := Option.some.inj ho; rfl) (.string xk.1) W ?_ (hB.below HK1 (Below.refl _ _)) (RR.refl _ _) ⟨xk, hxk, rfl⟩
        · intro q hq
          obtain rfl := Option.some.inj ho
          have e44 := hq.tmp 44
          simp at e44
          simp [execOp, e44, d44, go_sem]
    intro f wz hB' hV
    obtain ⟨x, hx, hfx⟩ : VKy ps (f 5) wz := hV 20 (by decide)
    obtain ⟨y, hy, hfy⟩ : VKy ps (f 6) wz := hV 21 (by decide)
    clear hV
    unfold putsA
    simp only [List.mapIdx_toArray, List.mapIdx_cons, List.mapIdx_nil, List.contains_cons]
    simp
    rw [hfx, hfy]
    obtain ⟨a, ha⟩ : ∃ a, a = x.1 := ⟨_, rfl⟩
    obtain ⟨b, hb⟩ : ∃ b, b = y.1 := ⟨_, rfl⟩
    rw [← ha, ← hb]
    have HKA : Hid (bsOf a ∈ keysP ps) := Lib.hid (by rw [ha]; exact keys_in hx)
    have HKB : Hid (bsOf b ∈ keysP ps) := Lib.hid (by rw [hb]; exact keys_in hy)
    have HSA : Hid (a.size ≤ maxLen ∧ b.size ≤ maxLen) := Lib.hid (by rw [ha, hb]; exact ⟨Nat.le_trans (HK.out.2.2.1 x hx).1 (by decide), Nat.le_trans (HK.out.2.2.1 y hy).1 (by decide)⟩)
    clear hfx hfy ha hb hx hy
    obtain ⟨_, hCz, _, hGz⟩ := hB'
    have HBz : Hid (Below w.heap.size w wz) := Lib.hid (Below.trans HB3.out (Gr.below hGz (Nat.le_refl _) (by omega)))
    have HCBz := Lib.hid hCz
    have HCW : Hid (∀ W, Below wz.heap.size wz W → W.cell? ⟨C, 0, none⟩ = some (.slice (some ⟨go, 0, none⟩) ps.length pcap) ∧ W.cell? ⟨C, 1, none⟩ = some va ∧ C < W.heap.size) := Lib.hid fun W hW => ⟨blk_cell (HCBz.out.low hW).c 0, blk_cell (HCBz.out.low hW).c 1, blk_lt (HCBz.out.low hW).c⟩
    have HCR : Hid (∀ W, Below wz.heap.size wz W → CatR W (.slice (some ⟨go, 0, none⟩) ps.length pcap) va ps l) := Lib.hid fun W hW => (HCBz.out.low hW).r
    have HCH0 := Chain_any ps l (.slice (some ⟨go, 0, none⟩) ps.length pcap) va a b wz (by have := HK.out.1; omega) (by have := HK.out.2.1; omega) (PrtS.z HK.out.2.2.1) (AltS.z HK.out.2.2.2) (HCR.out wz (Below.refl _ _)) HSA.out.1 HSA.out.2
    rw [known2 HC0.out HKA.out HKB.out] at HCH0
    have HCH := Lib.hid HCH0
    obtain ⟨q0, q1, lC⟩ := HCW.out wz (Below.refl _ _)
    clear HCH0 hGz hCz HK1
    go_wp2_with fail
    refine HCH.out.mono ?_
    rintro e w5 ⟨⟨v5, is, out, rfl, hR5, hP5, _⟩, hb5⟩
    obtain ⟨g, hg, his, h1, h2⟩ := hP5 rfl
    have HIS : Hid (is = true ↔ a = b ∨ bsOf b ∈ allB ps l (bsOf a)) := Lib.hid (by
      rw [his, chain_is HC0.out hg HKA.out HKB.out]
      exact ⟨fun h => h.imp_left bsC_inj, fun h => h.imp_left fun e => by rw [e]⟩)
    have HT := Lib.hid h1
    have HE := Lib.hid h2
    have HG5 := Lib.hid hg
    have HBW5 := Lib.hid hb5
    obtain ⟨va5, ocap, hv5, hcp1, hcp2⟩ := hR5.form
    rw [List.length_map] at hv5 hcp1
    subst hv5
    have HR5 := Lib.hid hR5
    have HAL0 := All_any ps l (.slice (some ⟨go, 0, none⟩) ps.length pcap) va a w5 (by have := HK.out.1; omega) (by have := HK.out.2.1; omega) (PrtS.z HK.out.2.2.1) (AltS.z HK.out.2.2.2) (HCR.out w5 hb5) HSA.out.1
    rw [known1 HC0.out HKA.out, allS_0 HC0.out HKA.out] at HAL0
    have HAL := Lib.hid HAL0
    obtain ⟨q0, q1, lC⟩ := HCW.out w5 hb5
    clear HAL0 hP5 hg his h1 h2 hR5 hb5 HCH
    go_wp2_with fail
    refine HAL.out.mono ?_
    rintro e w6 ⟨⟨v6, rfl, hR6⟩, hb6⟩
    have HB67 := Lib.hid hb6
    have HBW := Lib.hid (Bl.trans HBW5.out hb6)
    have HR6 := Lib.hid hR6
    clear hR6 hb6 HAL q0 q1
    by_cases hab : a = b
    · obtain rfl : is = true := HIS.out.2 (.inl hab)
      subst hab
      have hne2 : ¬ out.length = 0 := by
        obtain ⟨d, hd, ho⟩ := HT.out (by trivial)
        obtain ⟨q1, _, _⟩ := chain_good HC0.out HG5.out HKB.out hd
        rw [← ho] at q1
        intro e
        rw [List.length_eq_zero_iff.1 e] at q1
        cases q1
      obtain ⟨d, hd, ho⟩ := HT.out (by trivial)
      obtain ⟨q1, q2, q3⟩ := chain_good HC0.out HG5.out HKB.out hd
      rw [← ho] at q1 q2 q3
      clear hd ho
      obtain ⟨m, hm⟩ : ∃ m, out.length = m + 1 := by
        cases out with
        | nil => cases q1
        | cons x r => exact ⟨r.length, rfl⟩
      have hk0 : (out.map baOf)[0]? = some a := by
        rw [List.getElem?_map, ← List.head?_eq_getElem?, q1]
        show some (baOf (bsOf a)) = some a
        rw [baC_bsOf]
      have hkz : (out.map baOf)[m]? = some a := by
        rw [List.getElem?_map, show m = out.length - 1 by omega, ← List.getLast?_eq_getElem?, q2]
        show some (baOf (bsOf a)) = some a
        rw [baC_bsOf]
      have HQ3 := Lib.hid q3
      have hR7 := (HR5.out.below HB67.out)
      obtain ⟨ob, oo, rfl, _, lob, z0⟩ := str_at hR7 hk0
      obtain ⟨ob2, oo2, e2, _, _, z1⟩ := str_at hR7 hkz
      injection e2 with e2
      injection e2 with e3 e4 _
      subst e3 e4
      obtain ⟨n, hn⟩ : ∃ n, n = out.length := ⟨_, rfl⟩
      rw [← hn] at hcp1 hR7
      rw [← hn]
      have HR7 := Lib.hid hR7
      have HN := Lib.hid hn
      have hn0 : 0 < n := by omega
      have hmn : m < n := by omega
      have hwm : IntKind.i64.wrap ((n : Int) - 1) = (m : Int) := by rw [IntWalk.i64_in _ (by omega)]; omega
      have hne : ¬ n = 0 := by omega
      have hne3 : ((n : Int) == 0) = false := by simp; omega
      have hb0 : ob < w6.heap.size := lob
      replace z0 : w6.cell? ⟨ob, oo, none⟩ = some (.string a) := z0
      clear q1 q2 q3 hk0 hkz hR7 hm hn
      go_wp2_with fail
      clear z0 z1 hwm hmn hb0
      go_loopw [12] (fun i wr => ∃ k : Nat, 1 ≤ k ∧ k ≤ n ∧ i = .int .i64 k ∧ Hid (Below w6.heap.size w6 wr)) (fun i _ => n - (intOf i).toNat)
      case atStart => exact ⟨1, Nat.le_refl _, hn0, rfl, Lib.hid (Below.refl _ _)⟩
      case round =>
        obtain ⟨k, hk1, hkn, rfl, HBr⟩ := hrel
        by_cases hlt : k < n
        · obtain ⟨j, hj⟩ : ∃ j, k = j + 1 := ⟨k - 1, by omega⟩
          have hjn : j < n := by omega
          have hsub : IntKind.i64.wrap ((k : Int) - 1) = (j : Int) := by rw [IntWalk.i64_in _ (by omega)]; omega
          have hadd : IntKind.i64.wrap ((k : Int) + 1) = ((k + 1 : Nat) : Int) := by rw [IntWalk.i64_in _ (by omega)]; omega
          obtain ⟨p, hp⟩ : ∃ p, out[j]? = some p := ⟨_, List.getElem?_eq_getElem (by have := HN.out; omega)⟩
          obtain ⟨q, hq⟩ : ∃ q, out[j + 1]? = some q := ⟨_, List.getElem?_eq_getElem (by have := HN.out; omega)⟩
          have hqp := HQ3.out j p q hp hq
          rw [← hj] at hq
          have hpk := (next_in HC0.out hqp).1
          have HPK : Hid (bsOf (baOf p) ∈ keysP ps) := Lib.hid (by rw [bsOf_baOf]; exact hpk)
          have HPQ : Hid (∀ W, Below wr.heap.size wr W → W.cell? ⟨ob, oo + j, none⟩ = some (.string (baOf p))) := Lib.hid fun W hW => by
            obtain ⟨b2, o2, e2, _, _, z⟩ := str_at ((HR7.out.below HBr.out).below hW) (show (out.map baOf)[j]? = some (baOf p) by rw [List.getElem?_map, hp]; rfl)
            injection e2 with e2
            injection e2 with e3 e4 _
            subst e3 e4
            exact z
          have HPR : Hid (∀ W, Below wr.heap.size wr W → W.cell? ⟨ob, oo + k, none⟩ = some (.string (baOf q)) ∧ ob < W.heap.size) := Lib.hid fun W hW => by
            obtain ⟨b2, o2, e2, _, hl, z⟩ := str_at ((HR7.out.below HBr.out).below hW) (show (out.map baOf)[k]? = some (baOf q) by rw [List.getElem?_map, hq]; rfl)
            injection e2 with e2
            injection e2 with e3 e4 _
            subst e3 e4
            exact ⟨z, hl⟩
          have HCC : Hid (∀ W, Below wr.heap.size wr W → W.cell? ⟨C, 0, none⟩ = some (.slice (some ⟨go, 0, none⟩) ps.length pcap) ∧ W.cell? ⟨C, 1, none⟩ = some va ∧ C < W.heap.size) := Lib.hid fun W hW => HCW.out W (HBW.out.trans ((HBr.out.trans (hW.mono HBr.out.size)).mono HBW.out.size))
          have HDI : Hid (∀ W, Below wr.heap.size wr W → Calls Tryz.prog 12 #[.agg #[.slice (some ⟨go, 0, none⟩) ps.length pcap, va], .string (baOf p)] W fun e w' => (∃ v, e = .returned (.tuple #[v, .int .i64 0]) ∧ RecR TS w' 0 v (dirS ps l (baOf p))) ∧ Below W.heap.size W w') := Lib.hid fun W hW => by
            have h1 := Direct_any ps l (.slice (some ⟨go, 0, none⟩) ps.length pcap) va (baOf p) W (by have := HK.out.1; omega) (by have := HK.out.2.1; omega) (PrtS.z HK.out.2.2.1) (AltS.z HK.out.2.2.2) (HCR.out W (HBW.out.trans ((HBr.out.trans (hW.mono HBr.out.size)).mono HBW.out.size))) (by
              obtain ⟨x, hx, hxp⟩ := List.mem_map.1 hpk
              rw [← hxp, baC_bsOf]
              exact Nat.le_trans (HK.out.2.2.1 x hx).1 (by decide))
            rw [known1 HC0.out HPK.out] at h1
            exact h1
          have HCO : Hid (Lib.containsS (dirS ps l (baOf p)) (baOf q) = true) := Lib.hid (by
            rw [dirS_0 HC0.out HPK.out, has_map, bsOf_baOf, bsOf_baOf]
            exact decide_eq_true hqp)
          have HDL : Hid ((dirS ps l (baOf p)).length ≤ 100000) := Lib.hid (by
            rw [dirS_0 HC0.out HPK.out, List.length_map]
            have := nextL_len l (bsOf (baOf p))
            have := HK.out.2.1
            omega)
          clear hp hq hqp hpk hj
          go_wp2
          refine wp_region_inv (by kernel_rfl) [112, 113, 114, 115, 116, 117, 118, 111, 119, 120, 13, 14] (fun _ W => Below wr.heap.size wr W) (fun W W' => Below W.heap.size W W') (fun i => [VE (.agg #[.slice (some ⟨go, 0, none⟩) ps.length pcap, va]), VE (.slice (some ⟨ob, oo, none⟩) n ocap), VE (.int .i64 k), VE (.int .i64 j), VE (.pointer (some ⟨ob, oo + j, none⟩)), VE (.string (baOf p)), VDr (dirS ps l (baOf p)), VDr (dirS ps l (baOf p)), VLs (dirS ps l (baOf p)), VE (.int .i64 0), VLs (dirS ps l (baOf p)), VE (.int .i64 0)].getD i VT) (by kernel_rfl) (by kernel_rfl) (fun u u' W hu h => h) (Below.drew (Below.refl _ _)) ?_ ?_ ?_ ?_
          · intro u W W' i v hB hR hV
            exact match i, hV with
              | 0, h => h
              | 1, h => h
              | 2, h => h
              | 3, h => h
              | 4, h => h
              | 5, h => h
              | 6, h => VDr.low h hR
              | 7, h => VDr.low h hR
              | 8, h => RecR.below h hR
              | 9, h => h
              | 10, h => RecR.below h hR
              | 11, h => h
              | (_ + 12), _ => trivial
          · intro i o v W ho hd
            match i, ho with
              | 0, ho => (obtain rfl := Option.some.inj ho; cases hd)
              | 1, ho => (obtain rfl := Option.some.inj ho; cases hd)
              | 2, ho => (obtain rfl := Option.some.inj ho; cases hd)
              | 3, ho => (obtain rfl := Option.some.inj ho; cases hd)
              | 4, ho => (obtain rfl := Option.some.inj ho; cases hd)
              | 5, ho => (obtain rfl := Option.some.inj ho; cases hd)
              | 6, ho => (obtain rfl := Option.some.inj ho; cases hd)
              | 7, ho => (obtain rfl := Option.some.inj ho; cases hd)
              | 8, ho => (obtain rfl := Option.some.inj ho; cases hd)
              | 9, ho => (obtain rfl := Option.some.inj ho; cases hd)
              | 10, ho => (obtain rfl := Option.some.inj ho; cases hd)
              | 11, ho => (obtain rfl := Option.some.inj ho; cases hd)
              | (_ + 12), _ => trivial
          · intro i o u f W ho hi hB hdep
            have hi' : i = 0 ∨ i = 1 ∨ i = 2 ∨ i = 3 ∨ i = 4 ∨ i = 5 ∨ i = 6 ∨ i = 7 ∨ i = 8 ∨ i = 9 ∨ i = 10 ∨ i = 11 := by
              have : i < 12 := hi
              omega
            rcases hi' with rfl | rfl | rfl | rfl | rfl | rfl | rfl | rfl | rfl | rfl | rfl | rfl
            · obtain ⟨y0, y1, _⟩ := HCC.out W hB
              refine iv_val ho (by obtain rfl := Option.some.inj ho; rfl) (.agg #[.slice (some ⟨go, 0, none⟩) ps.length pcap, va]) W ?_ hB (Below.refl _ _) rfl
              · intro q hq
                obtain rfl := Option.some.inj ho
                have e4 := hq.tmp 4
                simp at e4
                simp [execOp, e4, go_sem, y0, y1]
            · refine iv_val ho (by obtain rfl := Option.some.inj ho; rfl) (.slice (some ⟨ob, oo, none⟩) n ocap) W ?_ hB (Below.refl _ _) rfl
              · intro q hq
                obtain rfl := Option.some.inj ho
                have e7 := hq.tmp 7
                simp at e7
                simp [execOp, e7, go_sem]
            · refine iv_val ho (by obtain rfl := Option.some.inj ho; rfl) (.int .i64 k) W ?_ hB (Below.refl _ _) rfl
              · intro q hq
                obtain rfl := Option.some.inj ho
                have e12 := hq.tmp 12
                simp at e12
                simp [execOp, e12, go_sem]
            · have d114 : f 114 = .int .i64 k := hdep ⟨2, .data⟩ (by obtain rfl := Option.some.inj ho; simp) rfl
              have y0 := hsub
              refine iv_val ho (by obtain rfl := Option.some.inj ho; rfl) (.int .i64 j) W ?_ hB (Below.refl _ _) rfl
              · intro q hq
                obtain rfl := Option.some.inj ho
                have e114 := hq.tmp 114
                simp at e114
                simp [execOp, hq.const, e114, d114, go_sem, y0]
            · have d113 : f 113 = .slice (some ⟨ob, oo, none⟩) n ocap := hdep ⟨1, .data⟩ (by obtain rfl := Option.some.inj ho; simp) rfl
              have d115 : f 115 = .int .i64 j := hdep ⟨3, .data⟩ (by obtain rfl := Option.some.inj ho; simp) rfl
              have y0 := hjn
              refine iv_val ho (by obtain rfl := Option.some.inj ho; rfl) (.pointer (some ⟨ob, oo + j, none⟩)) W ?_ hB (Below.refl _ _) rfl
              · intro q hq
                obtain rfl := Option.some.inj ho
                have e113 := hq.tmp 113
                have e115 := hq.tmp 115
                simp at e113 e115
                simp [execOp, e113, e115, d113, d115, go_sem, y0]
            · have d116 : f 116 = .pointer (some ⟨ob, oo + j, none⟩) := hdep ⟨4, .data⟩ (by obtain rfl := Option.some.inj ho; simp) rfl
              have y0 := HPQ.out W hB
              refine iv_val ho (by obtain rfl := Option.some.inj ho; rfl) (.string (baOf p)) W ?_ hB (Below.refl _ _) rfl
              · intro q hq
                obtain rfl := Option.some.inj ho
                have e116 := hq.tmp 116
                simp at e116
                simp [execOp, e116, d116, go_sem, y0]
            · have d112 : f 112 = .agg #[.slice (some ⟨go, 0, none⟩) ps.length pcap, va] := hdep ⟨0, .data⟩ (by obtain rfl := Option.some.inj ho; simp) rfl
              have d117 : f 117 = .string (baOf p) := hdep ⟨5, .data⟩ (by obtain rfl := Option.some.inj ho; simp) rfl
              refine iv_call ho (by obtain rfl := Option.some.inj ho; rfl) 12 #[.tmp 112, .tmp 117] _ (by obtain rfl := Option.some.inj ho; rfl) (enters_of Tryz.func12 (by kernel_rfl) rfl) #[.agg #[.slice (some ⟨go, 0, none⟩) ps.length pcap, va], .string (baOf p)] (by intro q hq; have e112 := hq.tmp 112; simp at e112; have e117 := hq.tmp 117; simp at e117; simp [e112, e117, d112, d117]) _ (HDI.out W hB) ?_
              rintro e W' ⟨⟨v', rfl, hr'⟩, hb'⟩
              exact ⟨_, rfl, Below.trans hB (Bl.mono' hb' hB.size), hb', v', rfl, hr'⟩
            · obtain ⟨vd, d118, hvd⟩ : VDr (dirS ps l (baOf p)) (f 118) W := hdep ⟨6, .data⟩ (by obtain rfl := Option.some.inj ho; simp) rfl
              refine iv_val ho (by obtain rfl := Option.some.inj ho; rfl) (.tuple #[vd, .int .i64 0]) W ?_ hB (Below.refl _ _) (⟨vd, rfl, hvd⟩)
              · intro q hq
                obtain rfl := Option.some.inj ho
                have e118 := hq.tmp 118
                simp at e118
                simp [execOp, e118, d118, go_sem]
            · obtain ⟨vd, d111, hvd⟩ : VDr (dirS ps l (baOf p)) (f 111) W := hdep ⟨7, .data⟩ (by obtain rfl := Option.some.inj ho; simp) rfl
              refine iv_val ho (by obtain rfl := Option.some.inj ho; rfl) (vd) W ?_ hB (Below.refl _ _) hvd
              · intro q hq
                obtain rfl := Option.some.inj ho
                have e111 := hq.tmp 111
                simp at e111
                simp [execOp, e111, d111, go_sem]
            · obtain ⟨vd, d111, hvd⟩ : VDr (dirS ps l (baOf p)) (f 111) W := hdep ⟨7, .data⟩ (by obtain rfl := Option.some.inj ho; simp) rfl
              refine iv_val ho (by obtain rfl := Option.some.inj ho; rfl) (.int .i64 0) W ?_ hB (Below.refl _ _) rfl
              · intro q hq
                obtain rfl := Option.some.inj ho
                have e111 := hq.tmp 111
                simp at e111
                simp [execOp, e111, d111, go_sem]
            · have l119 : VLs (dirS ps l (baOf p)) (f 119) W := hdep ⟨8, .data⟩ (by obtain rfl := Option.some.inj ho; simp) rfl
              refine iv_val ho (by obtain rfl := Option.some.inj ho; rfl) (f 119) W ?_ hB (Below.refl _ _) l119
              · intro q hq
                obtain rfl := Option.some.inj ho
                have e119 := hq.tmp 119
                simp at e119
                simp [execOp, e119, go_sem]
            · have d120 : f 120 = .int .i64 0 := hdep ⟨9, .data⟩ (by obtain rfl := Option.some.inj ho; simp) rfl
              refine iv_val ho (by obtain rfl := Option.some.inj ho; rfl) (.int .i64 0) W ?_ hB (Below.refl _ _) rfl
              · intro q hq
                obtain rfl := Option.some.inj ho
                have e120 := hq.tmp 120
                simp at e120
                simp [execOp, e120, d120, go_sem]
          intro f wz hbz hV
          have HLZ : Hid (RecR TS wz 0 (f 13) (dirS ps l (baOf p))) := Lib.hid (show VLs (dirS ps l (baOf p)) (f 13) wz from hV 10 (by decide))
          have hf14 : f 14 = .int .i64 0 := show VE _ (f 14) wz from hV 11 (by decide)
          clear hV
          unfold putsA
          simp only [List.mapIdx_toArray, List.mapIdx_cons, List.mapIdx_nil, List.contains_cons]
          simp
          rw [hf14]
          obtain ⟨vl, hvl⟩ : ∃ vl, vl = f 13 := ⟨_, rfl⟩
          rw [← hvl] at HLZ ⊢
          obtain ⟨zc, lob⟩ := HPR.out wz hbz
          have HBZ := Lib.hid (Bl.trans HBr.out hbz)
          clear hbz hvl hf14
          have HCS := Lib.hid (HasS_any (dirS ps l (baOf p)) vl (baOf q) wz HDL.out HLZ.out)
          rw [HCO.out] at HCS
          go_wp2_with fail
          refine HCS.out.mono ?_
          rintro e w8 ⟨rfl, rfl⟩
          clear HCS
          go_wp2
          go_roundw
          case rel => exact ⟨k + 1, by omega, by omega, by go_num, HBZ⟩
          case measure => simp [intOf]; omega
        · have HBF := Lib.hid (HBW.out.trans (HBr.out.mono HBW.out.size))
          go_wp2_with fail
          refine (ready_any wr).mono ?_
          rintro e w9 ⟨rfl, hb9⟩
          have HB9 := Lib.hid (HBF.out.trans (hb9.mono HBF.out.size))
          have HBE := Lib.hid (HBz.out.trans (HB9.out.mono HBz.out.size))
          clear hb9
          go_wp2
          go_ret
          exact ⟨rfl, HBE.out⟩
    · have hab2 : (a.toList == b.toList) = false := by
        rw [beq_eq_false_iff_ne]
        exact fun e => hab (ba_inj e)
      have HCS := Lib.hid (HasS_any ((allB ps l (bsOf a)).map baOf) v6 b w6 (by
        rw [List.length_map]
        have := allB_len HC0.out HKA.out
        have := HK.out.1
        omega) HR6.out)
      rw [has_map] at HCS
      have hci : decide (bsOf b ∈ allB ps l (bsOf a)) = is := by
        rw [Bool.eq_iff_iff, decide_eq_true_eq, HIS.out]
        exact ⟨.inr, fun h => h.resolve_left hab⟩
      rw [hci] at HCS
      clear hci
      cases is
      · have ho := HE.out rfl
        have hl0 : out.length = 0 := by rw [ho]; rfl
        rw [hl0]
        clear ho hl0
        go_wp2_with fail
        refine HCS.out.mono ?_
        rintro e w7 ⟨rfl, rfl⟩
        clear HCS
        go_wp2_with fail
        refine (ready_any w6).mono ?_
        rintro e w9 ⟨rfl, hb9⟩
        have HB9 := Lib.hid (HBW.out.trans (hb9.mono HBW.out.size))
        have HBE := Lib.hid (HBz.out.trans (HB9.out.mono HBz.out.size))
        clear hb9
        go_wp2
        go_ret
        exact ⟨rfl, HBE.out⟩
      · go_wp2_with fail
        refine HCS.out.mono ?_
        rintro e w7 ⟨rfl, rfl⟩
        clear HCS
        obtain ⟨d, hd, ho⟩ := HT.out (by trivial)
        obtain ⟨q1, q2, q3⟩ := chain_good HC0.out HG5.out HKB.out hd
        rw [← ho] at q1 q2 q3
        clear hd ho
        obtain ⟨m, hm⟩ : ∃ m, out.length = m + 1 := by
          cases out with
          | nil => cases q1
          | cons x r => exact ⟨r.length, rfl⟩
        have hk0 : (out.map baOf)[0]? = some a := by
          rw [List.getElem?_map, ← List.head?_eq_getElem?, q1]
          show some (baOf (bsOf a)) = some a
          rw [baC_bsOf]
        have hkz : (out.map baOf)[m]? = some b := by
          rw [List.getElem?_map, show m = out.length - 1 by omega, ← List.getLast?_eq_getElem?, q2]
          show some (baOf (bsOf b)) = some b
          rw [baC_bsOf]
        have HQ3 := Lib.hid q3
        have hR7 := (HR5.out.below HB67.out)
        obtain ⟨ob, oo, rfl, _, lob, z0⟩ := str_at hR7 hk0
        obtain ⟨ob2, oo2, e2, _, _, z1⟩ := str_at hR7 hkz
        injection e2 with e2
        injection e2 with e3 e4 _
        subst e3 e4
        obtain ⟨n, hn⟩ : ∃ n, n = out.length := ⟨_, rfl⟩
        rw [← hn] at hcp1 hR7
        rw [← hn]
        have HR7 := Lib.hid hR7
        have HN := Lib.hid hn
        have hn0 : 0 < n := by omega
        have hmn : m < n := by omega
        have hwm : IntKind.i64.wrap ((n : Int) - 1) = (m : Int) := by rw [IntWalk.i64_in _ (by omega)]; omega
        have hne : ¬ n = 0 := by omega
        have hne3 : ((n : Int) == 0) = false := by simp; omega
        have hb0 : ob < w6.heap.size := lob
        replace z0 : w6.cell? ⟨ob, oo, none⟩ = some (.string a) := z0
        clear q1 q2 q3 hk0 hkz hR7 hm hn
        go_wp2_with fail
        clear z0 z1 hwm hmn hb0
        go_loopw [12] (fun i wr => ∃ k : Nat, 1 ≤ k ∧ k ≤ n ∧ i = .int .i64 k ∧ Hid (Below w6.heap.size w6 wr)) (fun i _ => n - (intOf i).toNat)
        case atStart => exact ⟨1, Nat.le_refl _, hn0, rfl, Lib.hid (Below.refl _ _)⟩
        case round =>
          obtain ⟨k, hk1, hkn, rfl, HBr⟩ := hrel
          by_cases hlt : k < n
          · obtain ⟨j, hj⟩ : ∃ j, k = j + 1 := ⟨k - 1, by omega⟩
            have hjn : j < n := by omega
            have hsub : IntKind.i64.wrap ((k : Int) - 1) = (j : Int) := by rw [IntWalk.i64_in _ (by omega)]; omega
            have hadd : IntKind.i64.wrap ((k : Int) + 1) = ((k + 1 : Nat) : Int) := by rw [IntWalk.i64_in _ (by omega)]; omega
            obtain ⟨p, hp⟩ : ∃ p, out[j]? = some p := ⟨_, List.getElem?_eq_getElem (by have := HN.out; omega)⟩
            obtain ⟨q, hq⟩ : ∃ q, out[j + 1]? = some q := ⟨_, List.getElem?_eq_getElem (by have := HN.out; omega)⟩
            have hqp := HQ3.out j p q hp hq
            rw [← hj] at hq
            have hpk := (next_in HC0.out hqp).1
            have HPK : Hid (bsOf (baOf p) ∈ keysP ps) := Lib.hid (by rw [bsOf_baOf]; exact hpk)
            have HPQ : Hid (∀ W, Below wr.heap.size wr W → W.cell? ⟨ob, oo + j, none⟩ = some (.string (baOf p))) := Lib.hid fun W hW => by
              obtain ⟨b2, o2, e2, _, _, z⟩ := str_at ((HR7.out.below HBr.out).below hW) (show (out.map baOf)[j]? = some (baOf p) by rw [List.getElem?_map, hp]; rfl)
              injection e2 with e2
              injection e2 with e3 e4 _
              subst e3 e4
              exact z
            have HPR : Hid (∀ W, Below wr.heap.size wr W → W.cell? ⟨ob, oo + k, none⟩ = some (.string (baOf q)) ∧ ob < W.heap.size) := Lib.hid fun W hW => by
              obtain ⟨b2, o2, e2, _, hl, z⟩ := str_at ((HR7.out.below HBr.out).below hW) (show (out.map baOf)[k]? = some (baOf q) by rw [List.getElem?_map, hq]; rfl)
              injection e2 with e2
              injection e2 with e3 e4 _
              subst e3 e4
              exact ⟨z, hl⟩
            have HCC : Hid (∀ W, Below wr.heap.size wr W → W.cell? ⟨C, 0, none⟩ = some (.slice (some ⟨go, 0, none⟩) ps.length pcap) ∧ W.cell? ⟨C, 1, none⟩ = some va ∧ C < W.heap.size) := Lib.hid fun W hW => HCW.out W (HBW.out.trans ((HBr.out.trans (hW.mono HBr.out.size)).mono HBW.out.size))
            have HDI : Hid (∀ W, Below wr.heap.size wr W → Calls Tryz.prog 12 #[.agg #[.slice (some ⟨go, 0, none⟩) ps.length pcap, va], .string (baOf p)] W fun e w' => (∃ v, e = .returned (.tuple #[v, .int .i64 0]) ∧ RecR TS w' 0 v (dirS ps l (baOf p))) ∧ Below W.heap.size W w') := Lib.hid fun W hW => by
              have h1 := Direct_any ps l (.slice (some ⟨go, 0, none⟩) ps.length pcap) va (baOf p) W (by have := HK.out.1; omega) (by have := HK.out.2.1; omega) (PrtS.z HK.out.2.2.1) (AltS.z HK.out.2.2.2) (HCR.out W (HBW.out.trans ((HBr.out.trans (hW.mono HBr.out.size)).mono HBW.out.size))) (by
                obtain ⟨x, hx, hxp⟩ := List.mem_map.1 hpk
                rw [← hxp, baC_bsOf]
                exact Nat.le_trans (HK.out.2.2.1 x hx).1 (by decide))
              rw [known1 HC0.out HPK.out] at h1
              exact h1
            have HCO : Hid (Lib.containsS (dirS ps l (baOf p)) (baOf q) = true) := Lib.hid (by
              rw [dirS_0 HC0.out HPK.out, has_map, bsOf_baOf, bsOf_baOf]
              exact decide_eq_true hqp)
            have HDL : Hid ((dirS ps l (baOf p)).length ≤ 100000) := Lib.hid (by
              rw [dirS_0 HC0.out HPK.out, List.length_map]
              have := nextL_len l (bsOf (baOf p))
              have := HK.out.2.1
              omega)
            clear hp hq hqp hpk hj
            go_wp2
            refine wp_region_inv (by kernel_rfl) [112, 113, 114, 115, 116, 117, 118, 111, 119, 120, 13, 14] (fun _ W => Below wr.heap.size wr W) (fun W W' => Below W.heap.size W W') (fun i => [VE (.agg #[.slice (some ⟨go, 0, none⟩) ps.length pcap, va]), VE (.slice (some ⟨ob, oo, none⟩) n ocap), VE (.int .i64 k), VE (.int .i64 j), VE (.pointer (some ⟨ob, oo + j, none⟩)), VE (.string (baOf p)), VDr (dirS ps l (baOf p)), VDr (dirS ps l (baOf p)), VLs (dirS ps l (baOf p)), VE (.int .i64 0), VLs (dirS ps l (baOf p)), VE (.int .i64 0)].getD i VT) (by kernel_rfl) (by kernel_rfl) (fun u u' W hu h => h) (Below.drew (Below.refl _ _)) ?_ ?_ ?_ ?_
            · intro u W W' i v hB hR hV
              exact match i, hV with
                | 0, h => h
                | 1, h => h
                | 2, h => h
                | 3, h => h
                | 4, h => h
                | 5, h => h
                | 6, h => VDr.low h hR
                | 7, h => VDr.low h hR
                | 8, h => RecR.below h hR
                | 9, h => h
                | 10, h => RecR.below h hR
                | 11, h => h
                | (_ + 12), _ => trivial
            · intro i o v W ho hd
              match i, ho with
                | 0, ho => (obtain rfl := Option.some.inj ho; cases hd)
                | 1, ho => (obtain rfl := Option.some.inj ho; cases hd)
                | 2, ho => (obtain rfl := Option.some.inj ho; cases hd)
                | 3, ho => (obtain rfl := Option.some.inj ho; cases hd)
                | 4, ho => (obtain rfl := Option.some.inj ho; cases hd)
                | 5, ho => (obtain rfl := Option.some.inj ho; cases hd)
                | 6, ho => (obtain rfl := Option.some.inj ho; cases hd)
                | 7, ho => (obtain rfl := Option.some.inj ho; cases hd)
                | 8, ho => (obtain rfl := Option.some.inj ho; cases hd)
                | 9, ho => (obtain rfl := Option.some.inj ho; cases hd)
                | 10, ho => (obtain rfl := Option.some.inj ho; cases hd)
                | 11, ho => (obtain rfl := Option.some.inj ho; cases hd)
                | (_ + 12), _ => trivial
            · intro i o u f W ho hi hB hdep
              have hi' : i = 0 ∨ i = 1 ∨ i = 2 ∨ i = 3 ∨ i = 4 ∨ i = 5 ∨ i = 6 ∨ i = 7 ∨ i = 8 ∨ i = 9 ∨ i = 10 ∨ i = 11 := by
                have : i < 12 := hi
                omega
              rcases hi' with rfl | rfl | rfl | rfl | rfl | rfl | rfl | rfl | rfl | rfl | rfl | rfl
              · obtain ⟨y0, y1, _⟩ := HCC.out W hB
                refine iv_val ho (by obtain rfl := Option.some.inj ho; rfl) (.agg #[.slice (some ⟨go, 0, none⟩) ps.length pcap, va]) W ?_ hB (Below.refl _ _) rfl
                · intro q hq
                  obtain rfl := Option.some.inj ho
                  have e4 := hq.tmp 4
                  simp at e4
                  simp [execOp, e4, go_sem, y0, y1]
              · refine iv_val ho (by obtain rfl := Option.some.inj ho; rfl) (.slice (some ⟨ob, oo, none⟩) n ocap) W ?_ hB (Below.refl _ _) rfl
                · intro q hq
                  obtain rfl := Option.some.inj ho
                  have e7 := hq.tmp 7
                  simp at e7
                  simp [execOp, e7, go_sem]
              · refine iv_val ho (by obtain rfl := Option.some.inj ho; rfl) (.int .i64 k) W ?_ hB (Below.refl _ _) rfl
                · intro q hq
                  obtain rfl := Option.some.inj ho
                  have e12 := hq.tmp 12
                  simp at e12
                  simp [execOp, e12, go_sem]
              · have d114 : f 114 = .int .i64 k := hdep ⟨2, .data⟩ (by obtain rfl := Option.some.inj ho; simp) rfl
                have y0 := hsub
                refine iv_val ho (by obtain rfl := Option.some.inj ho; rfl) (.int .i64 j) W ?_ hB (Below.refl _ _) rfl
                · intro q hq
                  obtain rfl := Option.some.inj ho
                  have e114 := hq.tmp 114
                  simp at e114
                  simp [execOp, hq.const, e114, d114, go_sem, y0]
              · have d113 : f 113 = .slice (some ⟨ob, oo, none⟩) n ocap := hdep ⟨1, .data⟩ (by obtain rfl := Option.some.inj ho; simp) rfl
                have d115 : f 115 = .int .i64 j := hdep ⟨3, .data⟩ (by obtain rfl := Option.some.inj ho; simp) rfl
                have y0 := hjn
                refine iv_val ho (by obtain rfl := Option.some.inj ho; rfl) (.pointer (some ⟨ob, oo + j, none⟩)) W ?_ hB (Below.refl _ _) rfl
                · intro q hq
                  obtain rfl := Option.some.inj ho
                  have e113 := hq.tmp 113
                  have e115 := hq.tmp 115
                  simp at e113 e115
                  simp [execOp, e113, e115, d113, d115, go_sem, y0]
              · have d116 : f 116 = .pointer (some ⟨ob, oo + j, none⟩) := hdep ⟨4, .data⟩ (by obtain rfl := Option.some.inj ho; simp) rfl
                have y0 := HPQ.out W hB
                refine iv_val ho (by obtain rfl := Option.some.inj ho; rfl) (.string (baOf p)) W ?_ hB (Below.refl _ _) rfl
                · intro q hq
                  obtain rfl := Option.some.inj ho
                  have e116 := hq.tmp 116
                  simp at e116
                  simp [execOp, e116, d116, go_sem, y0]
              · have d112 : f 112 = .agg #[.slice (some ⟨go, 0, none⟩) ps.length pcap, va] := hdep ⟨0, .data⟩ (by obtain rfl := Option.some.inj ho; simp) rfl
                have d117 : f 117 = .string (baOf p) := hdep ⟨5, .data⟩ (by obtain rfl := Option.some.inj ho; simp) rfl
                refine iv_call ho (by obtain rfl := Option.some.inj ho; rfl) 12 #[.tmp 112, .tmp 117] _ (by obtain rfl := Option.some.inj ho; rfl) (enters_of Tryz.func12 (by kernel_rfl) rfl) #[.agg #[.slice (some ⟨go, 0, none⟩) ps.length pcap, va], .string (baOf p)] (by intro q hq; have e112 := hq.tmp 112; simp at e112; have e117 := hq.tmp 117; simp at e117; simp [e112, e117, d112, d117]) _ (HDI.out W hB) ?_
                rintro e W' ⟨⟨v', rfl, hr'⟩, hb'⟩
                exact ⟨_, rfl, Below.trans hB (Bl.mono' hb' hB.size), hb', v', rfl, hr'⟩
              · obtain ⟨vd, d118, hvd⟩ : VDr (dirS ps l (baOf p)) (f 118) W := hdep ⟨6, .data⟩ (by obtain rfl := Option.some.inj ho; simp) rfl
                refine iv_val ho (by obtain rfl := Option.some.inj ho; rfl) (.tuple #[vd, .int .i64 0]) W ?_ hB (Below.refl _ _) (⟨vd, rfl, hvd⟩)
                · intro q hq
                  obtain rfl := Option.some.inj ho
                  have e118 := hq.tmp 118
                  simp at e118
                  simp [execOp, e118, d118, go_sem]
              · obtain ⟨vd, d111, hvd⟩ : VDr (dirS ps l (baOf p)) (f 111) W := hdep ⟨7, .data⟩ (by obtain rfl := Option.some.inj ho; simp) rfl
                refine iv_val ho (by obtain rfl := Option.some.inj ho; rfl) (vd) W ?_ hB (Below.refl _ _) hvd
                · intro q hq
                  obtain rfl := Option.some.inj ho
                  have e111 := hq.tmp 111
                  simp at e111
                  simp [execOp, e111, d111, go_sem]
              · obtain ⟨vd, d111, hvd⟩ : VDr (dirS ps l (baOf p)) (f 111) W := hdep ⟨7, .data⟩ (by obtain rfl := Option.some.inj ho; simp) rfl
                refine iv_val ho (by obtain rfl := Option.some.inj ho; rfl) (.int .i64 0) W ?_ hB (Below.refl _ _) rfl
                · intro q hq
                  obtain rfl := Option.some.inj ho
                  have e111 := hq.tmp 111
                  simp at e111
                  simp [execOp, e111, d111, go_sem]
              · have l119 : VLs (dirS ps l (baOf p)) (f 119) W := hdep ⟨8, .data⟩ (by obtain rfl := Option.some.inj ho; simp) rfl
                refine iv_val ho (by obtain rfl := Option.some.inj ho; rfl) (f 119) W ?_ hB (Below.refl _ _) l119
                · intro q hq
                  obtain rfl := Option.some.inj ho
                  have e119 := hq.tmp 119
                  simp at e119
                  simp [execOp, e119, go_sem]
              · have d120 : f 120 = .int .i64 0 := hdep ⟨9, .data⟩ (by obtain rfl := Option.some.inj ho; simp) rfl
                refine iv_val ho (by obtain rfl := Option.some.inj ho; rfl) (.int .i64 0) W ?_ hB (Below.refl _ _) rfl
                · intro q hq
                  obtain rfl := Option.some.inj ho
                  have e120 := hq.tmp 120
                  simp at e120
                  simp [execOp, e120, d120, go_sem]
            intro f wz hbz hV
            have HLZ : Hid (RecR TS wz 0 (f 13) (dirS ps l (baOf p))) := Lib.hid (show VLs (dirS ps l (baOf p)) (f 13) wz from hV 10 (by decide))
            have hf14 : f 14 = .int .i64 0 := show VE _ (f 14) wz from hV 11 (by decide)
            clear hV
            unfold putsA
            simp only [List.mapIdx_toArray, List.mapIdx_cons, List.mapIdx_nil, List.contains_cons]
            simp
            rw [hf14]
            obtain ⟨vl, hvl⟩ : ∃ vl, vl = f 13 := ⟨_, rfl⟩
            rw [← hvl] at HLZ ⊢
            obtain ⟨zc, lob⟩ := HPR.out wz hbz
            have HBZ := Lib.hid (Bl.trans HBr.out hbz)
            clear hbz hvl hf14
            have HCS := Lib.hid (HasS_any (dirS ps l (baOf p)) vl (baOf q) wz HDL.out HLZ.out)
            rw [HCO.out] at HCS
            go_wp2_with fail
            refine HCS.out.mono ?_
            rintro e w8 ⟨rfl, rfl⟩
            clear HCS
            go_wp2
            go_roundw
            case rel => exact ⟨k + 1, by omega, by omega, by go_num, HBZ⟩
            case measure => simp [intOf]; omega
          · have HBF := Lib.hid (HBW.out.trans (HBr.out.mono HBW.out.size))
            go_wp2_with fail
            refine (ready_any wr).mono ?_
            rintro e w9 ⟨rfl, hb9⟩
            have HB9 := Lib.hid (HBF.out.trans (hb9.mono HBF.out.size))
            have HBE := Lib.hid (HBz.out.trans (HB9.out.mono HBz.out.size))
            clear hb9
            go_wp2
            go_ret
            exact ⟨rfl, HBE.out⟩
end Go.Proofs.YtjegfebolhjghaaGreatDoor
