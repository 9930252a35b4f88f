/- Texts of the proof of a law, put together, part 34 of 35. Conditions: none beyond those that each theorem names. -/
import Derived.Test.YtihgnpobkpnipaaGreatDoorMz23
import Derived.Test.YtihgnpobkpnipaaGreatDoorMz24
import Derived.Test.YtihgnpobkpnipaaGreatDoorMz28
import Derived.Test.YtihgnpobkpnipaaGreatDoorMz29
import Derived.Test.YtihgnpobkpnipaaGreatDoorMz31
import Derived.Test.YtihgnpobkpnipaaGreatDoorMz33
namespace Go.Proofs.YtihgnpobkpnipaaGreatDoor
open Go.RowKit Go.Sort
def VSm (B : Nat) : Value → World → Prop := fun v W => ∃ l : List (ByteArray × ByteArray), OwnR TPa W B v l ∧ l.length ≤ 5 ∧ ∀ x ∈ l, StkOk x
theorem VSm.gr {B s : Nat} {v : Value} {w w' : World} (h : VSm B v w) (hs : s < B) (hg : w.grownBy w' (some s)) : VSm B v w' := by
  obtain ⟨l, h1, h2⟩ := h
  exact ⟨l, h1.grown hg hs, h2⟩
theorem StkOk.zm {l : List Stk} (h : ∀ x ∈ l, StkOk x) : StkZ l := fun x hx => ⟨Nat.le_trans (h x hx).1 (by decide), Nat.le_trans (h x hx).2.1 (by decide)⟩
theorem msho {ps : List Prt} {l : List Alt} {need hv : List Stk} (h : catsF ps l = 0) (h1 : stksF ps need = 0) (h2 : stksF ps hv = 0) : shoF ps l need hv = 0 := by
  unfold shoF
  rw [if_neg (by simp [h]), if_neg (by simp [h1]), h2]
theorem mshr {ps : List Prt} {need hv : List Stk} (h : shrF ps need hv = 0) : stksF ps need = 0 ∧ stksF ps hv = 0 := by
  unfold shrF at h
  by_cases h1 : stksF ps need = 0
  · refine ⟨h1, ?_⟩
    by_cases h2 : stksF ps hv = 0
    · exact h2
    · simp [orF, h1, h2] at h
  · simp [orF, h1] at h
theorem shortM_len (nx : Bs → List Bs) (nd : Bs → Int) : ∀ (ks : List Bs) (m : Sm Int), (shortG nx nd m ks).length ≤ ks.length
  | [], _ => Nat.le_refl _
  | p :: r, m => by
    rw [shortG, List.length_append, List.length_cons]
    have := shortM_len nx nd r (takeS (nd p) m (p :: nx p)).2
    split <;> simp <;> omega
theorem shortKm_len (l : List Alt) (need hv : List Stk) : (shortK l need hv).length ≤ need.length := by
  unfold shortK
  refine Nat.le_trans (shortM_len _ _ _ _) ?_
  unfold keysK
  rw [List.length_map]
  exact Nat.le_refl _
set_option maxHeartbeats 32000000 in
set_option maxRecDepth 100000 in
theorem MoreStockIsNoShorter_any (li : List Int) (v : Value) (w : World) (rl : Ints w 0 v li) (hl : ∀ x ∈ li, -9223372036854775808 ≤ x ∧ x ≤ 9223372036854775807) (hT : TxW w) :
    Calls Tryz.prog 5 #[v] w fun e w' => e = .returned (.bool true) ∧ Below w.heap.size w w' := by
  obtain ⟨xa, xcap, rfl, hc1, hc2⟩ := Ints.form rl
  obtain ⟨w0, hw0⟩ : ∃ w0, w0 = w.alloc (.cells #[.slice xa li.length xcap, .int .i64 0] 25) := ⟨_, rfl⟩
  have hs0 : Str w0 w.heap.size 0 := by rw [hw0]; exact Str.begin rl hl
  have hb0 : Below w.heap.size w w0 := by rw [hw0]; exact Bl.alloc (Below.refl w.heap.size w) _
  have hz0 : w.heap.size < w0.heap.size := hs0.lt
  have HW0 := Lib.hid hw0
  have HB0 := Lib.hid hb0
  have HT0 : Hid (∀ W, w0.grownBy W (some w.heap.size) → TxW W) := Lib.hid fun W hW => (hT.below hb0).grown hW hT.size.1 hT.size.2 (Nat.le_of_lt hz0)
  clear rl hl hw0 hb0 hT
  go_enter Tryz.func5, Tryz.ntmps5
  go_wp2_with fail
  rw [← HW0.out]
  refine (RightCatalogue_any w.heap.size 0 w0 hs0 (by omega)).mono ?_
  rintro e w4 ⟨⟨vp, va, ps, l, rfl, hO4, hA4, hp5, hl25, hkp, hka, hF0⟩, hS4, hG4⟩
  have hcf := catsF_noAlt hF0
  obtain ⟨pa, pc, rfl, _, hpc⟩ := hO4.form
  obtain ⟨aa, ac, rfl, _, hac⟩ := hA4.form
  obtain ⟨C, hC⟩ : ∃ C, C = w4.heap.size := ⟨_, rfl⟩
  obtain ⟨w5, hw5⟩ : ∃ w5, w5 = w4.alloc (.cells #[.slice pa ps.length pc, .slice none 0 0] 29) := ⟨_, rfl⟩
  have hb5 : Below w4.heap.size w4 w5 := by rw [hw5]; exact Bl.alloc (Below.refl _ _) _
  have hx5 : w5.heap[C]? = some (.cells #[.slice pa ps.length pc, .slice none 0 0] 29 (0, 0)) := by rw [hw5, hC]; exact blk_new w4 _
  have HG5 := Lib.hid (Gr.trans hG4 (Gr.of_below hb5 (some w.heap.size)))
  have hsC : w.heap.size < C := by rw [hC]; have := hG4.size; omega
  have hsB : w.heap.size < w5.heap.size := by have := HG5.out.size; omega
  have HOW : Hid (∀ W, w5.grownBy W (some w.heap.size) → OwnR TPt W w0.heap.size (.slice pa ps.length pc) ps) := Lib.hid fun W hW => (hO4.below hb5).grown hW hz0
  have HCW : Hid (∀ W, w5.grownBy W (some w.heap.size) → W.cell? ⟨C, 0, none⟩ = some (.slice pa ps.length pc) ∧ W.cell? ⟨C, 1, none⟩ = some (.slice none 0 0) ∧ C < W.heap.size) := Lib.hid fun W hW => by
    have h := (hW.block C (blk_lt hx5) (by intro e; injection e with e; omega)).trans hx5
    exact ⟨blk_cell h 0, blk_cell h 1, blk_lt h⟩
  have HST : Hid (∀ W c, Str W w.heap.size c → c ≤ 900000 → w5.grownBy W (some w.heap.size) → Calls Tryz.prog 19 #[.pointer (some ⟨w.heap.size, 0, none⟩), .agg #[.slice pa ps.length pc, .slice none 0 0]] W fun e w' => ∃ v l, e = .returned v ∧ OwnR TPa w' W.heap.size v l ∧ l.length ≤ 5 ∧ (∀ x ∈ l, StkOk x) ∧ Str w' w.heap.size (c + 6000) ∧ W.grownBy w' (some w.heap.size)) := Lib.hid fun W c hS hc hW =>
    StockOf_any w.heap.size w0.heap.size c ps _ _ W hS hc hz0 (HOW.out W hW) hp5 hkp fun U hU => HT0.out U (Gr.trans HG5.out (Gr.trans hW hU))
  have HS5 : Hid (Str w5 w.heap.size 50000) := Lib.hid (by rw [hw5]; exact (hS4.alloc _).mono (by omega))
  have HWX := Lib.hid (And.intro hC hw5)
  have HK := Lib.hid (And.intro hp5 (And.intro hkp hcf))
  clear hS4 hG4 hO4 hA4 hC hw5 hb5 hx5 hp5 hl25 hkp hka hF0 hcf hc1 hc2 hpc hac
  go_upto_region 4 with fail
  rw [← HWX.out.2, ← HWX.out.1]
  go_wp2_with fail
  refine wp_region_inv (by kernel_rfl) [23, 24, 25, 26, 27, 28, 5, 6] (fun u W => Str W w.heap.size (110000 - 6000 * (u : Int)) ∧ w5.grownBy W (some w.heap.size)) (fun W W' => W.grownBy W' (some w.heap.size)) (fun i => [VE (.pointer (some ⟨w.heap.size, 0, none⟩)), VE (.agg #[.slice pa ps.length pc, .slice none 0 0]), VSm w5.heap.size, VE (.pointer (some ⟨w.heap.size, 0, none⟩)), VE (.agg #[.slice pa ps.length pc, .slice none 0 0]), VSm w5.heap.size, VSm w5.heap.size, VSm w5.heap.size].getD i VT) (by kernel_rfl) (by kernel_rfl) (fun u u' W hu h => ⟨h.1.mono (by omega), h.2⟩) ⟨(HS5.out.drew).mono (by show _ ≤ 110000 - 6000 * ((8 : Nat) : Int); omega), Gr.of_below (Below.drew (Below.refl _ _)) _⟩ ?_ ?_ ?_ ?_
  · intro u W W' i v hB hR hV
    exact match i, hV with
      | 0, h => h
      | 1, h => h
      | 2, h => h.gr hsB hR
      | 3, h => h
      | 4, h => h
      | 5, h => h.gr hsB hR
      | 6, h => h.gr hsB hR
      | 7, h => h.gr hsB hR
      | (_ + 8), _ => trivial
  · intro i o v W ho hd
    match i, ho with
      | 0, ho => (obtain rfl := Option.some.inj ho; cases hd)
      | 1, ho => (obtain rfl := Option.some.inj ho; cases hd)
      | 2, ho => (obtain rfl := Option.some.inj ho; cases hd)
      | 3, ho => (obtain rfl := Option.some.inj ho; cases hd)
      | 4, ho => (obtain rfl := Option.some.inj ho; cases hd)
      | 5, ho => (obtain rfl := Option.some.inj ho; cases hd)
      | 6, ho => (obtain rfl := Option.some.inj ho; cases hd)
      | 7, ho => (obtain rfl := Option.some.inj ho; cases hd)
      | (_ + 8), _ => trivial
  · intro i o u f W ho hi hB hdep
    have hi' : i = 0 ∨ i = 1 ∨ i = 2 ∨ i = 3 ∨ i = 4 ∨ i = 5 ∨ i = 6 ∨ i = 7 := by
      have : i < 8 := hi
      omega
    rcases hi' with rfl | rfl | rfl | rfl | rfl | rfl | rfl | rfl
    · refine iv_val ho (by obtain rfl := Option.some.inj ho; rfl) (.pointer (some ⟨w.heap.size, 0, none⟩)) W ?_ ⟨hB.1.mono (by omega), hB.2⟩ (Gr.refl _ _) rfl
      · intro q hq
        obtain rfl := Option.some.inj ho
        have e3 := hq.tmp 3
        simp at e3
        simp [execOp, e3, go_sem]
    · obtain ⟨y0, y1, _⟩ := HCW.out W hB.2
      refine iv_val ho (by obtain rfl := Option.some.inj ho; rfl) (.agg #[.slice pa ps.length pc, .slice none 0 0]) W ?_ ⟨hB.1.mono (by omega), hB.2⟩ (Gr.refl _ _) rfl
      · intro q hq
        obtain rfl := Option.some.inj ho
        have e4 := hq.tmp 4
        simp at e4
        simp [execOp, e4, go_sem, y0, y1]
    · have d23 : f 23 = .pointer (some ⟨w.heap.size, 0, none⟩) := hdep ⟨0, .data⟩ (by obtain rfl := Option.some.inj ho; simp) rfl
      have d24 : f 24 = .agg #[.slice pa ps.length pc, .slice none 0 0] := hdep ⟨1, .data⟩ (by obtain rfl := Option.some.inj ho; simp) rfl
      refine iv_call ho (by obtain rfl := Option.some.inj ho; rfl) 19 #[.tmp 23, .tmp 24] _ (by obtain rfl := Option.some.inj ho; rfl) (enters_of Tryz.func19 (by kernel_rfl) rfl) #[.pointer (some ⟨w.heap.size, 0, none⟩), .agg #[.slice pa ps.length pc, .slice none 0 0]] (by intro q hq; have e23 := hq.tmp 23; simp at e23; have e24 := hq.tmp 24; simp at e24; simp [e23, e24, d23, d24]) _ (HST.out W _ hB.1 (by omega) hB.2) ?_
      rintro e W' ⟨v', l', rfl, hO', hl', hk', hS', hg'⟩
      exact ⟨_, rfl, ⟨hS'.mono (by omega), Gr.trans hB.2 hg'⟩, hg', l', OwnR.base hO' hB.2.size, hl', hk'⟩
    · refine iv_val ho (by obtain rfl := Option.some.inj ho; rfl) (.pointer (some ⟨w.heap.size, 0, none⟩)) W ?_ ⟨hB.1.mono (by omega), hB.2⟩ (Gr.refl _ _) rfl
      · intro q hq
        obtain rfl := Option.some.inj ho
        have e3 := hq.tmp 3
        simp at e3
        simp [execOp, e3, go_sem]
    · obtain ⟨y0, y1, _⟩ := HCW.out W hB.2
      refine iv_val ho (by obtain rfl := Option.some.inj ho; rfl) (.agg #[.slice pa ps.length pc, .slice none 0 0]) W ?_ ⟨hB.1.mono (by omega), hB.2⟩ (Gr.refl _ _) rfl
      · intro q hq
        obtain rfl := Option.some.inj ho
        have e4 := hq.tmp 4
        simp at e4
        simp [execOp, e4, go_sem, y0, y1]
    · have d26 : f 26 = .pointer (some ⟨w.heap.size, 0, none⟩) := hdep ⟨3, .data⟩ (by obtain rfl := Option.some.inj ho; simp) rfl
      have d27 : f 27 = .agg #[.slice pa ps.length pc, .slice none 0 0] := hdep ⟨4, .data⟩ (by obtain rfl := Option.some.inj ho; simp) rfl
      refine iv_call ho (by obtain rfl := Option.some.inj ho; rfl) 19 #[.tmp 26, .tmp 27] _ (by obtain rfl := Option.some.inj ho; rfl) (enters_of Tryz.func19 (by kernel_rfl) rfl) #[.pointer (some ⟨w.heap.size, 0, none⟩), .agg #[.slice pa ps.length pc, .slice none 0 0]] (by intro q hq; have e26 := hq.tmp 26; simp at e26; have e27 := hq.tmp 27; simp at e27; simp [e26, e27, d26, d27]) _ (HST.out W _ hB.1 (by omega) hB.2) ?_
      rintro e W' ⟨v', l', rfl, hO', hl', hk', hS', hg'⟩
      exact ⟨_, rfl, ⟨hS'.mono (by omega), Gr.trans hB.2 hg'⟩, hg', l', OwnR.base hO' hB.2.size, hl', hk'⟩
    · have x25 : VSm w5.heap.size (f 25) W := hdep ⟨2, .data⟩ (by obtain rfl := Option.some.inj ho; simp) rfl
      refine iv_val ho (by obtain rfl := Option.some.inj ho; rfl) (f 25) W ?_ ⟨hB.1.mono (by omega), hB.2⟩ (Gr.refl _ _) x25
      · intro q hq
        obtain rfl := Option.some.inj ho
        have e25 := hq.tmp 25
        simp at e25
        simp [execOp, e25, go_sem]
    · have x28 : VSm w5.heap.size (f 28) W := hdep ⟨5, .data⟩ (by obtain rfl := Option.some.inj ho; simp) rfl
      refine iv_val ho (by obtain rfl := Option.some.inj ho; rfl) (f 28) W ?_ ⟨hB.1.mono (by omega), hB.2⟩ (Gr.refl _ _) x28
      · intro q hq
        obtain rfl := Option.some.inj ho
        have e28 := hq.tmp 28
        simp at e28
        simp [execOp, e28, go_sem]
  intro f0 w6 hB6 hV
  have x5 : VSm w5.heap.size (f0 5) w6 := show VSm w5.heap.size (f0 5) w6 from hV 6 (by decide)
  have x6 : VSm w5.heap.size (f0 6) w6 := show VSm w5.heap.size (f0 6) w6 from hV 7 (by decide)
  clear hV
  unfold putsA
  simp only [List.mapIdx_toArray, List.mapIdx_cons, List.mapIdx_nil, List.contains_cons]
  simp
  obtain ⟨hS6, hG6⟩ := hB6
  obtain ⟨need, hO7, hn5, hkn⟩ := x5
  obtain ⟨hv, hO8, hh5, hkh⟩ := x6
  generalize f0 5 = v5 at *
  generalize f0 6 = v6 at *
  obtain ⟨na, nc, rfl, _, _⟩ := hO7.form
  obtain ⟨ha, hcp, rfl, _, _⟩ := hO8.form
  obtain ⟨hp5, hkp, hcf⟩ := HK.out
  have hG06 := Gr.trans HG5.out hG6
  have HG06 := Lib.hid hG06
  have HTX : Hid (∀ W, w6.grownBy W (some w.heap.size) → TxW W) := Lib.hid fun W hW => HT0.out W (Gr.trans hG06 hW)
  have HCC : Hid (∀ W, w6.grownBy W (some w.heap.size) → W.cell? ⟨C, 0, none⟩ = some (.slice pa ps.length pc) ∧ W.cell? ⟨C, 1, none⟩ = some (.slice none 0 0) ∧ C < W.heap.size) := Lib.hid fun W hW => HCW.out W (Gr.trans hG6 hW)
  have HCR : Hid (∀ W, w6.grownBy W (some w.heap.size) → CatR W (.slice pa ps.length pc) (.slice none 0 0) ps []) := Lib.hid fun W hW => ⟨(HOW.out W (Gr.trans hG6 hW)).rec0, RecR.nil _ _⟩
  have HNE : Hid (∀ W, w6.grownBy W (some w.heap.size) → RecR TPa W 0 (.slice na need.length nc) need) := Lib.hid fun W hW => (hO7.grown hW hsB).rec0
  have HHV : Hid (∀ W, w6.grownBy W (some w.heap.size) → RecR TPa W 0 (.slice ha hv.length hcp) hv) := Lib.hid fun W hW => (hO8.grown hW hsB).rec0
  have hzp : PrtZ ps := fun x hx => ⟨Nat.le_trans (hkp x hx).1 (by decide), Nat.le_trans (hkp x hx).2.1 (by decide)⟩
  have hza : AltZ [] := fun x hx => absurd hx List.not_mem_nil
  have HSZ := Lib.hid (And.intro hp5 (And.intro hzp (And.intro hza (And.intro (StkOk.zm hkn) (And.intro (StkOk.zm hkh) (And.intro hn5 hh5))))))
  have HKH := Lib.hid hkh
  have HCF := Lib.hid hcf
  have HS6 := Lib.hid hS6
  have HB6 : Hid (Below w.heap.size w w6) := Lib.hid (Below.trans HB0.out (Gr.below hG06 (Nat.le_refl _) (by omega)))
  obtain ⟨K, hK⟩ : ∃ F, F = shrF ps need hv := ⟨_, rfl⟩
  have HSF0 := ShortFault_any ps [] (.slice pa ps.length pc) (.slice none 0 0) need hv (.slice na need.length nc) (.slice ha hv.length hcp) w6 (HTX.out w6 (Gr.refl _ _)) (by omega) (HCR.out w6 (Gr.refl _ _)) (by omega) (by omega) (HNE.out w6 (Gr.refl _ _)) (HHV.out w6 (Gr.refl _ _)) HSZ.out.2.2.2.1 HSZ.out.2.2.2.2.1
  rw [← hK] at HSF0
  have HSF := Lib.hid HSF0
  have HKK := Lib.hid hK
  obtain ⟨pn, hpn⟩ : ∃ q, q = ps.length := ⟨_, rfl⟩
  obtain ⟨nn, hnn⟩ : ∃ q, q = need.length := ⟨_, rfl⟩
  obtain ⟨hn, hhn⟩ : ∃ q, q = hv.length := ⟨_, rfl⟩
  have hq1 : hn ≤ 5 := by omega
  have hq2 : nn ≤ 5 := by omega
  rw [← hpn] at HCC HCR HSF
  rw [← hnn, ← hhn] at HSF
  rw [← hnn] at HNE
  rw [← hhn] at HHV
  rw [← hpn, ← hnn, ← hhn]
  have HN := Lib.hid (And.intro hpn (And.intro hnn hhn))
  obtain ⟨q0, q1, lC⟩ := HCC.out w6 (Gr.refl _ _)
  clear HST HCW HOW HWX HK hG6 hO7 hO8 hn5 hh5 hkn hkh hp5 hkp hcf hzp hza HT0 HG5 HS5 hsC hS6 hK HSF0 hpn hnn hhn hG06
  go_wp2_with fail
  refine HSF.out.mono ?_
  rintro e w7 ⟨rfl, hb7⟩
  have HB7 := Lib.hid (Bl.trans HB6.out hb7)
  have HG7 := Lib.hid (Gr.of_below hb7 (some w.heap.size))
  have HS7 := Lib.hid (HS6.out.below hb7)
  obtain ⟨r0, r1, lC7⟩ := HCC.out w7 HG7.out
  clear hb7 q0 q1 lC HSF
  by_cases h0 : K = 0
  case neg =>
    have h0' : (K != 0) = true := by simpa using h0
    go_wp2_with fail
    refine (ready_any _).mono ?_
    rintro e w8 ⟨rfl, hb8⟩
    go_wp2
    go_ret
    exact ⟨rfl, Bl.trans HB7.out hb8⟩
  obtain ⟨hsn, hsh⟩ := mshr (HKK.out.symm.trans h0)
  have HSN := Lib.hid hsn
  have HSH := Lib.hid hsh
  have HSO0 := Short_any ps [] (.slice pa pn pc) (.slice none 0 0) need hv (.slice na nn nc) (.slice ha hn hcp) w7 (by have := HSZ.out.1; omega) (by simp) HSZ.out.2.1 HSZ.out.2.2.1 (HCR.out w7 HG7.out) (by have := HN.out.2.1; omega) (by have := HN.out.2.2; omega) (HNE.out w7 HG7.out) (HHV.out w7 HG7.out) HSZ.out.2.2.2.1 HSZ.out.2.2.2.2.1
  rw [msho HCF.out hsn hsh] at HSO0
  have HSO := Lib.hid HSO0
  subst h0
  clear hsn hsh HSO0
  go_wp2_with fail
  refine HSO.out.mono ?_
  rintro e w8 ⟨⟨va, is, out, rfl, hOa, hq, _⟩, hb8⟩
  obtain ⟨hqo, hqi⟩ := hq rfl
  obtain ⟨oa, oc, rfl, _, _⟩ := hOa.form
  obtain ⟨on, hon⟩ : ∃ q, q = (out.map baOf).length := ⟨_, rfl⟩
  have hon2 : on = out.length := by rw [hon, List.length_map]
  obtain ⟨P, hP⟩ : ∃ P, P = w8.heap.size := ⟨_, rfl⟩
  obtain ⟨w9, hw9⟩ : ∃ w9, w9 = w8.alloc (.cells #[.slice oa on oc] 45) := ⟨_, rfl⟩
  have hb9a : Below w8.heap.size w8 w9 := by rw [hw9]; exact Bl.alloc (Below.refl _ _) _
  have hb9 := Bl.trans hb8 hb9a
  have hx9 : w9.heap[P]? = some (.cells #[.slice oa on oc] 45 (0, 0)) := by rw [hw9, hP]; exact blk_new w8 _
  have hsP : w.heap.size < P := by rw [hP]; have := hb8.size; have := HS7.out.lt; omega
  have HPC : Hid (∀ W, w9.grownBy W (some w.heap.size) → W.cell? ⟨P, 0, none⟩ = some (.slice oa on oc) ∧ P < W.heap.size) := Lib.hid fun W hW => by
    have h := (hW.block P (blk_lt hx9) (by intro e; injection e with e; omega)).trans hx9
    exact ⟨blk_cell h 0, blk_lt h⟩
  rw [← hon] at hOa
  have hs7 := HS7.out.lt
  have HOA : Hid (∀ W, w9.grownBy W (some w.heap.size) → RecR TS W 0 (.slice oa on oc) (out.map baOf)) := Lib.hid fun W hW => ((hOa.below hb9a).grown hW hs7).rec0
  have HB9 := Lib.hid (Bl.trans HB7.out hb9)
  have HG9 := Lib.hid (Gr.trans HG7.out (Gr.of_below hb9 (some w.heap.size)))
  have HS9 := Lib.hid (HS7.out.below hb9)
  have HW9 := Lib.hid (And.intro hw9 hP)
  have HQO := Lib.hid hqo
  have HOL : Hid (out.length ≤ 5) := Lib.hid (by rw [hqo]; have := shortKm_len [] need hv; have := HN.out.2.1; omega)
  have HQI : Hid (is = (decide (on = 0))) := Lib.hid (by rw [hqi, hon2])
  have HON := Lib.hid hon
  rw [show (out.map baOf).length = on from hon.symm]
  obtain ⟨s0, s1, lC9⟩ := HCC.out w9 HG9.out
  obtain ⟨t0, lP9⟩ := HPC.out w9 (Gr.refl _ _)
  clear hOa hq hb8 hb9a hb9 hw9 hP hx9 hqo hqi hon hon2 r0 r1 lC7 HSO hs7
  go_upto_region 8 with fail
  rw [← HW9.out.1, ← HW9.out.2]
  have hbo : is = ((on : Int) == 0) := by
    rw [HQI.out]
    by_cases h : on = 0
    · simp [h]
    · have h' : ¬ (on : Int) = 0 := by omega
      simp [h]
  obtain ⟨bq, hbq⟩ : ∃ q, q = ((on : Int) == 0) := ⟨_, rfl⟩
  rw [← hbq] at hbo
  subst hbo
  have hbq' := hbq.symm
  clear hbq
  by_cases hz : hn = 0
  case' pos =>
    have hz' : ¬ (0 : Int) < (hn : Int) := by omega
    clear hz
    obtain ⟨wE, hwE⟩ : ∃ q, q = w9 := ⟨_, rfl⟩
    obtain ⟨hv2, hhv2⟩ : ∃ q, q = hv := ⟨_, rfl⟩
    obtain ⟨ea, hea⟩ : ∃ q, q = ha := ⟨_, rfl⟩
    obtain ⟨ec, hec⟩ : ∃ q, q = hcp := ⟨_, rfl⟩
    have HRE : Hid (RecR TPa wE 0 (.slice ea hn ec) hv2) := Lib.hid (by rw [hwE, hhv2, hea, hec]; exact HHV.out w9 HG9.out)
    have HKE : Hid (stksF ps hv2 = 0 ∧ hv2.length ≤ 5 ∧ StkZ hv2) := Lib.hid (by rw [hhv2]; exact ⟨HSH.out, HSZ.out.2.2.2.2.2.2, HSZ.out.2.2.2.2.1⟩)
    have HGE : Hid (w6.grownBy wE (some w.heap.size)) := Lib.hid (by rw [hwE]; exact HG9.out)
    have HBE : Hid (Below w.heap.size w wE) := Lib.hid (by rw [hwE]; exact HB9.out)
    rw [← hwE] at s0 s1 lC9 t0 lP9
    rw [← hwE, ← hea, ← hec]
    clear hwE hhv2 hea hec HS9 HPC HOA
  case' neg =>
    have hz' : (0 : Int) < (hn : Int) := by omega
    have HCL := Lib.hid (ClonePa_any (l := hv) (.slice ha hn hcp) w9 (by have := HN.out.2.2; omega) (HHV.out w9 HG9.out))
    go_wp2_with fail
    refine HCL.out.mono ?_
    rintro e w10 ⟨vc, rfl, hOc, hb10⟩
    obtain ⟨ca, cc, rfl, _, _⟩ := hOc.form
    have hhn := HN.out.2.2
    rw [← hhn] at hOc ⊢
    have HB10 := Lib.hid (Bl.trans HB9.out hb10)
    have HG10 := Lib.hid (Gr.trans HG9.out (Gr.of_below hb10 (some w.heap.size)))
    have HG910 := Lib.hid (Gr.of_below hb10 (some w.heap.size))
    have HS10 := Lib.hid (HS9.out.below hb10)
    have HOC := Lib.hid hOc
    have hsz9 := HS9.out.lt
    have hz910 := hb10.size
    clear hOc hb10 HCL s0 s1 lC9 t0 lP9 hhn HS9
    go_wp2_with fail
    refine (Next_any w.heap.size _ hn w10 HS10.out (by omega) (by omega)).mono ?_
    rintro e w11 ⟨r, rfl, ⟨hr0, hr1, _⟩, hS11, hG11⟩
    have hr2 := hr1 (by omega)
    clear hr1
    obtain ⟨j, rfl⟩ := Int.eq_ofNat_of_zero_le hr0
    have hjn : j < hn := by omega
    obtain ⟨x, hx⟩ : ∃ x, hv[j]? = some x := ⟨_, List.getElem?_eq_getElem (by have := HN.out.2.2; omega)⟩
    obtain ⟨hxg, hxk⟩ : stkG x.2 = true ∧ StkOk x := ⟨((stksF_ok HSH.out).2 x (List.mem_of_getElem? hx)).2, HKH.out x (List.mem_of_getElem? hx)⟩
    obtain ⟨hx1, hx2, hx3⟩ := stkG_is hxg
    have hx4 := hxk.2.2 hxg
    obtain ⟨xn, xv⟩ := x
    have HXF : Hid (numT 7 xv.data.toList = some (stkN xv) ∧ 0 ≤ stkN xv ∧ stkN xv ≤ 10 ∧ xv.size ≤ 8) := Lib.hid ⟨hx1, hx2, hx4, hxk.2.1⟩
    have HXI := Lib.hid hx
    have HO11 := Lib.hid (HOC.out.grown hG11 (show w.heap.size < w9.heap.size from hsz9))
    obtain ⟨g, hca⟩ : ∃ g, ca = some ⟨g, 0, none⟩ := by
      obtain ⟨g, c2, cur, hv9, _⟩ := HO11.out.blk (fun e => by have := HN.out.2.2; rw [e] at this; simp at this; omega)
      injection hv9 with e1 _ _
      exact ⟨g, e1⟩
    subst hca
    obtain ⟨y9, g9⟩ := OwnR.cellf TPa.ok HO11.out HN.out.2.2 hx (fo := 1) rfl
    replace y9 : w11.cell? ⟨g, j * 2 + 1, none⟩ = some (.string xv) := y9
    have HG11 := Lib.hid (Gr.trans HG10.out hG11)
    have HG911 := Lib.hid (Gr.trans HG910.out hG11)
    have HB11 := Lib.hid (Below.trans HB10.out (Gr.below hG11 (Nat.le_refl _) HB10.out.size))
    have HS11 := Lib.hid hS11
    have HRN := Lib.hid (RNumber_any xv 7 w11 (HTX.out w11 HG11.out) (by have := HXF.out.2.2.2; omega) (by decide))
    have hj0 : (0 : Int) ≤ (j : Int) := by omega
    have hj1 : (j : Int) < (hn : Int) := by omega
    have hz1011 := hG11.size
    clear hS11 hG11 hx hxg hxk hx1 hx2 hx3 hx4 g9 HOC HS10 hr0 hr2
    go_wp2_with fail
    refine HRN.out.mono ?_
    rintro e w12 ⟨n, rfl, hn1, hb12⟩
    obtain rfl : stkN xv = n := hn1 _ HXF.out.1
    have HG12 := Lib.hid (Gr.trans HG11.out (Gr.of_below hb12 (some w.heap.size)))
    have HG912 := Lib.hid (Gr.trans HG911.out (Gr.of_below hb12 (some w.heap.size)))
    have HB12 := Lib.hid (Bl.trans HB11.out hb12)
    have HS12 := Lib.hid (HS11.out.below hb12)
    have HO12 := Lib.hid (HO11.out.below hb12)
    have hz1112 := hb12.size
    generalize (numT 7 xv.data.toList).isSome = nb at *
    clear hn1 hb12 HRN y9 HS11 HO11
    go_wp2_with fail
    refine (Range_any w.heap.size _ 1 5 w12 HS12.out (by omega) (by omega) (by omega) (by omega) (by omega)).mono ?_
    rintro e w13 ⟨r, rfl, ⟨hr1, hr2, _⟩, hS13, hG13⟩
    have hr3 := hr2 (by omega)
    clear hr2
    have HG13 := Lib.hid (Gr.trans HG12.out hG13)
    have HG913 := Lib.hid (Gr.trans HG912.out hG13)
    have HB13 := Lib.hid (Below.trans HB12.out (Gr.below hG13 (Nat.le_refl _) HB12.out.size))
    have HO13 := Lib.hid (HO12.out.grown hG13 (show w.heap.size < w9.heap.size from hsz9))
    have hsn1 := HXF.out.2.1
    have hsn2 := HXF.out.2.2.1
    obtain ⟨nv, hnv⟩ : ∃ q, q = stkN xv := ⟨_, rfl⟩
    rw [← hnv] at hsn1 hsn2 ⊢
    have HIT := Lib.hid (Itoa_any (nv + r) w13 (HTX.out w13 HG13.out) (by omega) (by omega))
    have HNV := Lib.hid hnv
    have hwr : IntKind.i64.wrap (nv + r) = nv + r := IntWalk.i64_in _ (by omega)
    have hz1213 := hG13.size
    clear hS13 hG13 hnv HS12 HO12
    go_wp2_with fail
    refine HIT.out.mono ?_
    rintro e w14 ⟨rfl, hb14⟩
    obtain ⟨yt, hyt⟩ : ∃ q : ByteArray, q = ⟨(Lib.itoa (nv + r)).toArray⟩ := ⟨_, rfl⟩
    obtain ⟨hy1, hy2, hy3⟩ := itoa_stk (n := nv + r) ⟨by omega, by omega⟩
    rw [← hyt] at hy1 hy2 hy3
    rw [← hyt]
    have hO14 := HO13.out.below hb14
    obtain ⟨y9, g9⟩ := OwnR.cellf TPa.ok hO14 HN.out.2.2 HXI.out (fo := 1) rfl
    replace y9 : w14.cell? ⟨g, j * 2 + 1, none⟩ = some (.string xv) := y9
    replace g9 : w14.frozen? ⟨g, j * 2 + 1, none⟩ = false := g9
    have hO15 : OwnR TPa (w14.setCell ⟨g, j * 2 + 1, none⟩ (.string yt)) w9.heap.size (.slice (some ⟨g, 0, none⟩) hn cc) (hv.set j (xn, yt)) := OwnR.setf TPa.ok hO14 HN.out.2.2 HXI.out (fo := 1) (by decide) rfl
    have hgB : w9.heap.size ≤ g := by
      obtain ⟨g2, c2, cur, hv9, hBg, _⟩ := hO14.blk (fun e => by have := HN.out.2.2; rw [e] at this; simp at this; omega)
      injection hv9 with e1 _ _
      injection e1 with e1
      injection e1 with e1
      omega
    have hz6 : w6.heap.size ≤ w9.heap.size := HG9.out.size
    have hzw : w.heap.size ≤ w9.heap.size := HB9.out.size
    have HG15 := Lib.hid (Gr.set (Gr.trans HG13.out (Gr.of_below hb14 (some w.heap.size))) g (j * 2 + 1) (.inr (by omega)) (.string yt))
    have HG915 := Lib.hid (Gr.set (Gr.trans HG913.out (Gr.of_below hb14 (some w.heap.size))) g (j * 2 + 1) (.inr hgB) (.string yt))
    have HB15 := Lib.hid (Bl.set (Bl.trans HB13.out hb14) g (j * 2 + 1) (by omega) (.string yt))
    have HO15 := Lib.hid hO15
    have HYT : Hid (stkG yt = true ∧ stkN xv ≤ stkN yt ∧ yt.size ≤ 8) := Lib.hid ⟨hy1, by rw [hy2, ← HNV.out]; omega, hy3⟩
    have lg : g < w14.heap.size := (World.ownsRow.lt hO14 g rfl).2
    clear hO14 hO15 hb14 hyt hy1 hy2 hy3 HIT HO13 hgB
    go_upto_region 15 with fail
    generalize w14.setCell ⟨g, j * 2 + 1, none⟩ (.string yt) = w15 at *
    have hset0 : stksF ps (hv.set j (xn, yt)) = 0 := stksF1_set (x := (xn, xv)) HYT.out.1 hv none j HXI.out HSH.out
    have HMO := Lib.hid (ms_more (need := need) (y := yt) HSN.out HSH.out HXI.out HYT.out.2.1)
    have HZ2 : Hid (StkZ (hv.set j (xn, yt))) := Lib.hid fun z hz => by
      rcases List.mem_or_eq_of_mem_set hz with q | rfl
      · exact HSZ.out.2.2.2.2.1 z q
      · have h1 := (HKH.out _ (List.mem_of_getElem? HXI.out)).1
        have h2 := HYT.out.2.2
        exact ⟨Nat.le_trans h1 (by decide), Nat.le_trans h2 (by decide)⟩
    have hl2 : (hv.set j (xn, yt)).length ≤ 5 := by rw [List.length_set]; exact HSZ.out.2.2.2.2.2.2
    have HRE : Hid (∀ W, Below w15.heap.size w15 W → RecR TPa W 0 (.slice (some ⟨g, 0, none⟩) hn cc) (hv.set j (xn, yt))) := Lib.hid fun W hW => (HO15.out.below hW).rec0
    have HSO0 := Short_any ps [] (.slice pa pn pc) (.slice none 0 0) need (hv.set j (xn, yt)) (.slice na nn nc) (.slice (some ⟨g, 0, none⟩) hn cc) w15 (by have := HSZ.out.1; omega) (by simp) HSZ.out.2.1 HSZ.out.2.2.1 (HCR.out w15 HG15.out) (by have := HN.out.2.1; omega) (by omega) (HNE.out w15 HG15.out) (HRE.out w15 (Below.refl _ _)) HSZ.out.2.2.2.1 HZ2.out
    rw [msho HCF.out HSN.out hset0] at HSO0
    have HSO := Lib.hid HSO0
    have HKE0 : Hid (stksF ps (hv.set j (xn, yt)) = 0 ∧ (hv.set j (xn, yt)).length ≤ 5 ∧ StkZ (hv.set j (xn, yt))) := Lib.hid ⟨hset0, hl2, HZ2.out⟩
    obtain ⟨q0, q1, lC15⟩ := HCC.out w15 HG15.out
    clear hset0 hl2 HSO0 HO15 y9 g9
    go_wp2_with fail
    refine HSO.out.mono ?_
    rintro e w16 ⟨⟨vb, is2, out2, rfl, hOb, hq2, _⟩, hb16⟩
    obtain ⟨hq3, _⟩ := hq2 rfl
    obtain ⟨ob, obc, rfl, _, _⟩ := hOb.form
    obtain ⟨obn, hobn⟩ : ∃ q, q = (out2.map baOf).length := ⟨_, rfl⟩
    rw [← hobn] at hOb ⊢
    clear hobn
    have HGE16 := Lib.hid (Gr.trans HG15.out (Gr.of_below hb16 (some w.heap.size)))
    have HG916 := Lib.hid (Gr.trans HG915.out (Gr.of_below hb16 (some w.heap.size)))
    have HB16 := Lib.hid (Bl.trans HB15.out hb16)
    obtain ⟨t1, lP16⟩ := HPC.out w16 HG916.out
    have hk2 : ∀ k ∈ out2.map baOf, k ∈ out.map baOf := by rw [hq3, HQO.out]; exact HMO.out
    have HMS := Lib.hid (msH_any w16 P (out2.map baOf) (out.map baOf) _ _ (by rw [List.length_map, hq3]; have := shortKm_len [] need (hv.set j (xn, yt)); have := HN.out.2.1; omega) (by rw [List.length_map]; have := HOL.out; omega) hOb.rec0 t1 (HOA.out w16 HG916.out) hk2)
    have HR16 := Lib.hid fun W (hW : Below w16.heap.size w16 W) => HRE.out W (Bl.trans hb16 hW)
    clear hOb hq2 hq3 hb16 hk2 q0 q1 lC15 HRE HMO HSO
    go_wp2_with fail
    refine HMS.out.mono ?_
    rintro e wE ⟨rfl, hbE⟩
    obtain ⟨hv2, hhv2⟩ : ∃ q, q = hv.set j (xn, yt) := ⟨_, rfl⟩
    rw [← hhv2] at HR16 HKE0
    obtain ⟨ea, hea⟩ : ∃ q : Option Addr, q = some ⟨g, 0, none⟩ := ⟨_, rfl⟩
    obtain ⟨ec, hec⟩ : ∃ q, q = cc := ⟨_, rfl⟩
    rw [← hea, ← hec] at HR16
    rw [← hea, ← hec]
    have HRE := Lib.hid (HR16.out wE hbE)
    have HKE := HKE0
    have HGE := Lib.hid (Gr.trans HGE16.out (Gr.of_below hbE (some w.heap.size)))
    have HBE := Lib.hid (Bl.trans HB16.out hbE)
    obtain ⟨s0, s1, lC9⟩ := HCC.out wE HGE.out
    clear hhv2 hea hec hbE HR16 HMS t1 lP16
  · have HNL : hv2.length = hn := by
      obtain ⟨_, _, e, _, _⟩ := HRE.out.form
      injection e with _ e _
      exact e.symm
    have HSO0 := Short_any ps [] (.slice pa pn pc) (.slice none 0 0) hv2 hv2 (.slice ea hn ec) (.slice ea hn ec) wE (by have := HSZ.out.1; omega) (by simp) HSZ.out.2.1 HSZ.out.2.2.1 (HCR.out wE HGE.out) (by have := HKE.out.2.1; omega) (by have := HKE.out.2.1; omega) HRE.out HRE.out HKE.out.2.2 HKE.out.2.2
    rw [msho HCF.out HKE.out.1 HKE.out.1] at HSO0
    have HSF := Lib.hid HSO0
    clear HNL HSO0
    go_wp2_with fail
    refine HSF.out.mono ?_
    rintro e wF ⟨⟨vz, is3, out3, rfl, hOz, hq4, _⟩, hbF⟩
    obtain ⟨hq5, hq6⟩ := hq4 rfl
    rw [ms_self HKE.out.1] at hq5
    subst hq5
    obtain rfl : is3 = true := hq6
    obtain ⟨za, zc, hvz, _, _⟩ := hOz.form
    replace hvz : vz = .slice za 0 zc := hvz
    subst hvz
    have HBF := Lib.hid (Bl.trans HBE.out hbF)
    clear hOz hq4 hbF s0 s1 lC9
    go_wp2_with fail
    refine (ready_any _).mono ?_
    rintro e w19 ⟨rfl, hb19⟩
    go_wp2
    go_ret
    exact ⟨rfl, Bl.trans HBF.out hb19⟩
  · have HNL : hv2.length = hn := by
      obtain ⟨_, _, e, _, _⟩ := HRE.out.form
      injection e with _ e _
      exact e.symm
    have HSO0 := Short_any ps [] (.slice pa pn pc) (.slice none 0 0) hv2 hv2 (.slice ea hn ec) (.slice ea hn ec) wE (by have := HSZ.out.1; omega) (by simp) HSZ.out.2.1 HSZ.out.2.2.1 (HCR.out wE HGE.out) (by have := HKE.out.2.1; omega) (by have := HKE.out.2.1; omega) HRE.out HRE.out HKE.out.2.2 HKE.out.2.2
    rw [msho HCF.out HKE.out.1 HKE.out.1] at HSO0
    have HSF := Lib.hid HSO0
    clear HNL HSO0
    go_wp2_with fail
    refine HSF.out.mono ?_
    rintro e wF ⟨⟨vz, is3, out3, rfl, hOz, hq4, _⟩, hbF⟩
    obtain ⟨hq5, hq6⟩ := hq4 rfl
    rw [ms_self HKE.out.1] at hq5
    subst hq5
    obtain rfl : is3 = true := hq6
    obtain ⟨za, zc, hvz, _, _⟩ := hOz.form
    replace hvz : vz = .slice za 0 zc := hvz
    subst hvz
    have HBF := Lib.hid (Bl.trans HBE.out hbF)
    clear hOz hq4 hbF s0 s1 lC9
    go_wp2_with fail
    refine (ready_any _).mono ?_
    rintro e w19 ⟨rfl, hb19⟩
    go_wp2
    go_ret
    exact ⟨rfl, Bl.trans HBF.out hb19⟩
end Go.Proofs.YtihgnpobkpnipaaGreatDoor
