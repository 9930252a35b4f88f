/- Texts of the proof of a law, put together, part 45 of 46. Conditions: none beyond those that each theorem names. -/
import Derived.Test.YteojmljggoplkaaGreatDoorPz26
import Derived.Test.YteojmljggoplkaaGreatDoorPz27
import Derived.Test.YteojmljggoplkaaGreatDoorPz30
import Derived.Test.YteojmljggoplkaaGreatDoorPz31
import Derived.Test.YteojmljggoplkaaGreatDoorPz34
import Derived.Test.YteojmljggoplkaaGreatDoorPz37
import Derived.Test.YteojmljggoplkaaGreatDoorPz41
import Derived.Test.YteojmljggoplkaaGreatDoorPz42
import Derived.Test.YteojmljggoplkaaGreatDoorPz43
import Derived.Test.YteojmljggoplkaaGreatDoorPz44
import Derived.Deep.Cut
import Derived.Deep.CutRange
namespace Go.Proofs.YteojmljggoplkaaGreatDoor
open Go.RowKit Go.Sort
def VSt (B : Nat) : Value → World → Prop := fun v W => ∃ l : List (ByteArray × ByteArray), OwnR TPa W B v l ∧ l.length ≤ 5 ∧ ∀ x ∈ l, StkOk x
theorem VSt.gr {B s : Nat} {v : Value} {w w' : World} (h : VSt B v w) (hs : s < B) (hg : w.grownBy w' (some s)) : VSt B v w' := by
  obtain ⟨l, h1, h2⟩ := h
  exact ⟨l, h1.grown hg hs, h2⟩
theorem StkOk.z {l : List Stk} (h : ∀ x ∈ l, StkOk x) : StkZ l := fun x hx => ⟨Nat.le_trans (h x hx).1 (by decide), Nat.le_trans (h x hx).2 (by decide)⟩
theorem known_bad {ps : List Prt} {l : List Alt} {ks : List ByteArray} (h : catsF ps l ≠ 0) : knownF ps l ks = catsF ps l := by unfold knownF; rw [if_pos h]
theorem known_one {ps : List Prt} {l : List Alt} {a : ByteArray} (h : catsF ps l = 0) : knownF ps l [a] = if (!hasP ps a) = true then 8 else 0 := by
  unfold knownF
  rw [if_neg (by simp [h])]
  cases h1 : hasP ps a <;> simp [h1]
theorem known_two {ps : List Prt} {l : List Alt} {a b : ByteArray} (h : catsF ps l = 0) : knownF ps l [a, b] = orF [knownF ps l [a], if (!hasP ps b) = true then 8 else 0] := by
  rw [known_one h]
  unfold knownF
  rw [if_neg (by simp [h])]
  cases h1 : hasP ps a <;> cases h2 : hasP ps b <;> simp [orF, h1, h2]
theorem known_in {ps : List Prt} {l : List Alt} {ks : List ByteArray} (h : knownF ps l ks = 0) : ∀ k ∈ ks, bsOf k ∈ keysP ps := fun k hk => hasP_key ((knownF_zero h).2 k hk)
theorem sho_ref {ps : List Prt} {l : List Alt} {need hv : List Stk} (h : catsF ps l = 0) : shoF ps l need hv = shrF ps need hv := by
  unfold shoF shrF
  rw [if_neg (by simp [h])]
  by_cases h1 : stksF ps need = 0
  · simp [orF, h1]
  · simp [orF, h1]
theorem sho_zero {ps : List Prt} {l : List Alt} {need hv : List Stk} (h : shoF ps l need hv = 0) : stksF ps need = 0 ∧ stksF ps hv = 0 := by
  unfold shoF at h
  split at h
  · exact absurd h (by assumption)
  · split at h
    · exact absurd h (by assumption)
    · rename_i h1
      exact ⟨by simpa using h1, h⟩
theorem chainR_len {ps : List Prt} {l : List Alt} (h : catsF ps l = 0) (h5 : ps.length ≤ 5) {b : Bs} {R : List Bs} : ∀ (f m : Nat) (L : List (List Bs)), LvI ps m L → chainR (nextL l) b f L = some R → R.length ≤ 5
  | 0, _, _, _, e => by cases e
  | f + 1, m, L, hL, e => by
    rw [chainR] at e
    cases hx : L.find? fun x => decide (lastB x = b) with
    | some x =>
      rw [hx] at e
      obtain rfl : x = R := by injection e
      obtain ⟨_, h2, h3⟩ := hL.one x (List.mem_of_find?_eq_some hx)
      exact Nat.le_trans (few_keys h2 h3) h5
    | none =>
      rw [hx] at e
      exact chainR_len h h5 f (m + 1) _ (hL.next h h5) e
theorem grs_few (ps : List Prt) (l : List Alt) : (groupsR (mutB ps l) (keysP ps)).length ≤ ps.length ∧ ∀ x ∈ groupsR (mutB ps l) (keysP ps), x.length ≤ ps.length := by
  rw [← grsB_all]
  unfold grsB
  constructor
  · have h1 : ∀ ks : List Bs, (ks.flatMap fun p => if firstB (grpB ps l) p = true then [grpB ps l p] else []).length ≤ ks.length := fun ks => by
      induction ks with
      | nil => simp
      | cons k r ih =>
        rw [List.flatMap_cons, List.length_append, List.length_cons]
        have hx : (if firstB (grpB ps l) k = true then [grpB ps l k] else []).length ≤ 1 := by split <;> simp
        omega
    have h2 := h1 (keysP ps)
    rw [keysP_len] at h2
    exact h2
  · intro x hx
    obtain ⟨p, _, hp⟩ := List.mem_flatMap.1 hx
    split at hp
    · rw [List.mem_singleton.1 hp]
      unfold grpB
      refine Nat.le_trans (List.length_filter_le _ _) ?_
      rw [keysP_len]
      exact Nat.le_refl _
    · cases hp
theorem shortG_len (nx : Bs → List Bs) (nd : Bs → Int) : ∀ (ks : List Bs) (m : Sm Int), (shortG nx nd m ks).length ≤ ks.length
  | [], _ => Nat.le_refl _
  | p :: r, m => by
    rw [shortG, List.length_append, List.length_cons]
    have := shortG_len nx nd r (takeS (nd p) m (p :: nx p)).2
    split <;> simp <;> omega
theorem shortK_len (l : List Alt) (need hv : List Stk) : (shortK l need hv).length ≤ need.length := by
  unfold shortK
  refine Nat.le_trans (shortG_len _ _ _ _) ?_
  unfold keysK
  rw [List.length_map]
  exact Nat.le_refl _
set_option maxHeartbeats 32000000 in
set_option maxRecDepth 100000 in
theorem PartsReplaced_any (li : List Int) (v : Value) (w : World) (rl : Ints w 0 v li) (hl : ∀ x ∈ li, -9223372036854775808 ≤ x ∧ x ≤ 9223372036854775807) (hT : TxW w) :
    Calls Tryz.prog 3 #[v] w fun e w' => e = .returned (.bool true) ∧ Below w.heap.size w w' := by
  obtain ⟨xa, xcap, rfl, hc1, hc2⟩ := Ints.form rl
  obtain ⟨w0, hw0⟩ : ∃ w0, w0 = w.alloc (.cells #[.slice xa li.length xcap, .int .i64 0] 25) := ⟨_, rfl⟩
  have hs0 : Str w0 w.heap.size 0 := by rw [hw0]; exact Str.begin rl hl
  have hb0 : Below w.heap.size w w0 := by rw [hw0]; exact Bl.alloc (Below.refl w.heap.size w) _
  have hz0 : w.heap.size < w0.heap.size := hs0.lt
  have HW0 := Lib.hid hw0
  have HB0 := Lib.hid hb0
  have HT0 : Hid (∀ W, w0.grownBy W (some w.heap.size) → TxW W) := Lib.hid fun W hW => (hT.below hb0).grown hW hT.size.1 hT.size.2 (Nat.le_of_lt hz0)
  clear rl hl hw0 hb0 hT
  go_enter Tryz.func3, Tryz.ntmps3
  go_wp2_with fail
  rw [← HW0.out]
  refine (CatalogueOf_any w.heap.size 0 w0 hs0 (by omega)).mono ?_
  rintro e w2 ⟨⟨vp, va, ps, l, rfl, hOp, hOa, hp5, hl25, hkp, hka⟩, hS2, hG2⟩
  have HOP := Lib.hid hOp
  have HOA := Lib.hid hOa
  have HG2 := Lib.hid hG2
  clear hs0 hOp hOa
  go_wp2_with fail
  refine (APart_any w.heap.size _ w2 hS2 (by omega)).mono ?_
  rintro e w3 ⟨a, rfl, has, hS3, hG3⟩
  have HG3 := Lib.hid (Gr.trans HG2.out hG3)
  have HO3 := Lib.hid (And.intro (HOP.out.grown hG3 hz0) (HOA.out.grown hG3 hz0))
  clear hS2 hG2 hG3 HOP HOA
  go_wp2_with fail
  refine (APart_any w.heap.size _ w3 hS3 (by omega)).mono ?_
  rintro e w4 ⟨b, rfl, hbs, hS4, hG4⟩
  have HG4 := Lib.hid (Gr.trans HG3.out hG4)
  have hO4 := HO3.out.1.grown hG4 hz0
  have hA4 := HO3.out.2.grown hG4 hz0
  obtain ⟨pa, pc, rfl, _, hpc⟩ := hO4.form
  obtain ⟨aa, ac, rfl, _, hac⟩ := hA4.form
  obtain ⟨C, hC⟩ : ∃ C, C = w4.heap.size := ⟨_, rfl⟩
  obtain ⟨w5, hw5⟩ : ∃ w5, w5 = w4.alloc (.cells #[.slice pa ps.length pc, .slice aa l.length ac] 29) := ⟨_, rfl⟩
  have hb5 : Below w4.heap.size w4 w5 := by rw [hw5]; exact Bl.alloc (Below.refl _ _) _
  have hx5 : w5.heap[C]? = some (.cells #[.slice pa ps.length pc, .slice aa l.length ac] 29 (0, 0)) := by rw [hw5, hC]; exact blk_new w4 _
  have HG5 := Lib.hid (Gr.trans HG4.out (Gr.of_below hb5 (some w.heap.size)))
  have hsC : w.heap.size < C := by rw [hC]; have := HG4.out.size; omega
  have hsB : w.heap.size < w5.heap.size := by have := HG5.out.size; omega
  have HOW : Hid (∀ W, w5.grownBy W (some w.heap.size) → OwnR TPt W w0.heap.size (.slice pa ps.length pc) ps ∧ OwnR TAl W w0.heap.size (.slice aa l.length ac) l) := Lib.hid fun W hW => ⟨(hO4.below hb5).grown hW hz0, (hA4.below hb5).grown hW hz0⟩
  have HCW : Hid (∀ W, w5.grownBy W (some w.heap.size) → W.cell? ⟨C, 0, none⟩ = some (.slice pa ps.length pc) ∧ W.cell? ⟨C, 1, none⟩ = some (.slice aa l.length ac) ∧ C < W.heap.size) := Lib.hid fun W hW => by
    have h := (hW.block C (blk_lt hx5) (by intro e; injection e with e; omega)).trans hx5
    exact ⟨blk_cell h 0, blk_cell h 1, blk_lt h⟩
  have HST : Hid (∀ W c, Str W w.heap.size c → c ≤ 900000 → w5.grownBy W (some w.heap.size) → Calls Tryz.prog 7 #[.pointer (some ⟨w.heap.size, 0, none⟩), .agg #[.slice pa ps.length pc, .slice aa l.length ac]] W fun e w' => ∃ v l, e = .returned v ∧ OwnR TPa w' W.heap.size v l ∧ l.length ≤ 5 ∧ (∀ x ∈ l, StkOk x) ∧ Str w' w.heap.size (c + 6000) ∧ W.grownBy w' (some w.heap.size)) := Lib.hid fun W c hS hc hW =>
    StockOf_any w.heap.size w0.heap.size c ps _ _ W hS hc hz0 (HOW.out W hW).1 hp5 hkp fun U hU => HT0.out U (Gr.trans HG5.out (Gr.trans hW hU))
  have HS5 : Hid (Str w5 w.heap.size 6200) := Lib.hid (by rw [hw5]; exact (hS4.alloc _).mono (by omega))
  have HWX := Lib.hid (And.intro hC hw5)
  have HK := Lib.hid (And.intro hp5 (And.intro hl25 (And.intro hkp (And.intro hka (And.intro has hbs)))))
  clear hS3 hS4 hG4 hO4 hA4 hC hw5 hb5 hx5 HO3 HG3 HG2 HG4 hp5 hl25 hkp hka has hbs hc1 hc2 hpc hac
  go_wp2_with fail
  rw [← HWX.out.2, ← HWX.out.1]
  go_wp2_with fail
  refine wp_region_inv (by kernel_rfl) [42, 43, 44, 45, 46, 47, 7, 8] (fun u W => Str W w.heap.size (60000 - 6000 * (u : Int)) ∧ w5.grownBy W (some w.heap.size)) (fun W W' => W.grownBy W' (some w.heap.size)) (fun i => [VE (.pointer (some ⟨w.heap.size, 0, none⟩)), VE (.agg #[.slice pa ps.length pc, .slice aa l.length ac]), VSt w5.heap.size, VE (.pointer (some ⟨w.heap.size, 0, none⟩)), VE (.agg #[.slice pa ps.length pc, .slice aa l.length ac]), VSt w5.heap.size, VSt w5.heap.size, VSt w5.heap.size].getD i VT) (by kernel_rfl) (by kernel_rfl) (fun u u' W hu h => ⟨h.1.mono (by omega), h.2⟩) ⟨(HS5.out.drew).mono (by show _ ≤ 60000 - 6000 * ((8 : Nat) : Int); omega), Gr.of_below (Below.drew (Below.refl _ _)) _⟩ ?_ ?_ ?_ ?_
  · intro u W W' i v hB hR hV
    exact match i, hV with
      | 0, h => h
      | 1, h => h
      | 2, h => h.gr hsB hR
      | 3, h => h
      | 4, h => h
      | 5, h => h.gr hsB hR
      | 6, h => h.gr hsB hR
      | 7, h => h.gr hsB hR
      | (_ + 8), _ => trivial
  · intro i o v W ho hd
    match i, ho with
      | 0, ho => (obtain rfl := Option.some.inj ho; cases hd)
      | 1, ho => (obtain rfl := Option.some.inj ho; cases hd)
      | 2, ho => (obtain rfl := Option.some.inj ho; cases hd)
      | 3, ho => (obtain rfl := Option.some.inj ho; cases hd)
      | 4, ho => (obtain rfl := Option.some.inj ho; cases hd)
      | 5, ho => (obtain rfl := Option.some.inj ho; cases hd)
      | 6, ho => (obtain rfl := Option.some.inj ho; cases hd)
      | 7, ho => (obtain rfl := Option.some.inj ho; cases hd)
      | (_ + 8), _ => trivial
  · intro i o u f W ho hi hB hdep
    have hi' : i = 0 ∨ i = 1 ∨ i = 2 ∨ i = 3 ∨ i = 4 ∨ i = 5 ∨ i = 6 ∨ i = 7 := by
      have : i < 8 := hi
      omega
    rcases hi' with rfl | rfl | rfl | rfl | rfl | rfl | rfl | rfl
    · refine iv_val ho (by obtain rfl := Option.some.inj ho; rfl) (.pointer (some ⟨w.heap.size, 0, none⟩)) W ?_ ⟨hB.1.mono (by omega), hB.2⟩ (Gr.refl _ _) rfl
      · intro q hq
        obtain rfl := Option.some.inj ho
        have e3 := hq.tmp 3
        simp at e3
        simp [execOp, e3, go_sem]
    · obtain ⟨y0, y1, _⟩ := HCW.out W hB.2
      refine iv_val ho (by obtain rfl := Option.some.inj ho; rfl) (.agg #[.slice pa ps.length pc, .slice aa l.length ac]) W ?_ ⟨hB.1.mono (by omega), hB.2⟩ (Gr.refl _ _) rfl
      · intro q hq
        obtain rfl := Option.some.inj ho
        have e4 := hq.tmp 4
        simp at e4
        simp [execOp, e4, go_sem, y0, y1]
    · have d42 : f 42 = .pointer (some ⟨w.heap.size, 0, none⟩) := hdep ⟨0, .data⟩ (by obtain rfl := Option.some.inj ho; simp) rfl
      have d43 : f 43 = .agg #[.slice pa ps.length pc, .slice aa l.length ac] := hdep ⟨1, .data⟩ (by obtain rfl := Option.some.inj ho; simp) rfl
      refine iv_call ho (by obtain rfl := Option.some.inj ho; rfl) 7 #[.tmp 42, .tmp 43] _ (by obtain rfl := Option.some.inj ho; rfl) (enters_of Tryz.func7 (by kernel_rfl) rfl) #[.pointer (some ⟨w.heap.size, 0, none⟩), .agg #[.slice pa ps.length pc, .slice aa l.length ac]] (by intro q hq; have e42 := hq.tmp 42; simp at e42; have e43 := hq.tmp 43; simp at e43; simp [e42, e43, d42, d43]) _ (HST.out W _ hB.1 (by omega) hB.2) ?_
      rintro e W' ⟨v', l', rfl, hO', hl', hk', hS', hg'⟩
      exact ⟨_, rfl, ⟨hS'.mono (by omega), Gr.trans hB.2 hg'⟩, hg', l', OwnR.base hO' hB.2.size, hl', hk'⟩
    · refine iv_val ho (by obtain rfl := Option.some.inj ho; rfl) (.pointer (some ⟨w.heap.size, 0, none⟩)) W ?_ ⟨hB.1.mono (by omega), hB.2⟩ (Gr.refl _ _) rfl
      · intro q hq
        obtain rfl := Option.some.inj ho
        have e3 := hq.tmp 3
        simp at e3
        simp [execOp, e3, go_sem]
    · obtain ⟨y0, y1, _⟩ := HCW.out W hB.2
      refine iv_val ho (by obtain rfl := Option.some.inj ho; rfl) (.agg #[.slice pa ps.length pc, .slice aa l.length ac]) W ?_ ⟨hB.1.mono (by omega), hB.2⟩ (Gr.refl _ _) rfl
      · intro q hq
        obtain rfl := Option.some.inj ho
        have e4 := hq.tmp 4
        simp at e4
        simp [execOp, e4, go_sem, y0, y1]
    · have d45 : f 45 = .pointer (some ⟨w.heap.size, 0, none⟩) := hdep ⟨3, .data⟩ (by obtain rfl := Option.some.inj ho; simp) rfl
      have d46 : f 46 = .agg #[.slice pa ps.length pc, .slice aa l.length ac] := hdep ⟨4, .data⟩ (by obtain rfl := Option.some.inj ho; simp) rfl
      refine iv_call ho (by obtain rfl := Option.some.inj ho; rfl) 7 #[.tmp 45, .tmp 46] _ (by obtain rfl := Option.some.inj ho; rfl) (enters_of Tryz.func7 (by kernel_rfl) rfl) #[.pointer (some ⟨w.heap.size, 0, none⟩), .agg #[.slice pa ps.length pc, .slice aa l.length ac]] (by intro q hq; have e45 := hq.tmp 45; simp at e45; have e46 := hq.tmp 46; simp at e46; simp [e45, e46, d45, d46]) _ (HST.out W _ hB.1 (by omega) hB.2) ?_
      rintro e W' ⟨v', l', rfl, hO', hl', hk', hS', hg'⟩
      exact ⟨_, rfl, ⟨hS'.mono (by omega), Gr.trans hB.2 hg'⟩, hg', l', OwnR.base hO' hB.2.size, hl', hk'⟩
    · have x44 : VSt w5.heap.size (f 44) W := hdep ⟨2, .data⟩ (by obtain rfl := Option.some.inj ho; simp) rfl
      refine iv_val ho (by obtain rfl := Option.some.inj ho; rfl) (f 44) W ?_ ⟨hB.1.mono (by omega), hB.2⟩ (Gr.refl _ _) x44
      · intro q hq
        obtain rfl := Option.some.inj ho
        have e44 := hq.tmp 44
        simp at e44
        simp [execOp, e44, go_sem]
    · have x47 : VSt w5.heap.size (f 47) W := hdep ⟨5, .data⟩ (by obtain rfl := Option.some.inj ho; simp) rfl
      refine iv_val ho (by obtain rfl := Option.some.inj ho; rfl) (f 47) W ?_ ⟨hB.1.mono (by omega), hB.2⟩ (Gr.refl _ _) x47
      · intro q hq
        obtain rfl := Option.some.inj ho
        have e47 := hq.tmp 47
        simp at e47
        simp [execOp, e47, go_sem]
  intro f0 w6 hB6 hV
  have x7 : VSt w5.heap.size (f0 7) w6 := show VSt w5.heap.size (f0 7) w6 from hV 6 (by decide)
  have x8 : VSt w5.heap.size (f0 8) w6 := show VSt w5.heap.size (f0 8) w6 from hV 7 (by decide)
  clear hV
  unfold putsA
  simp only [List.mapIdx_toArray, List.mapIdx_cons, List.mapIdx_nil, List.contains_cons]
  simp
  obtain ⟨_, hG6⟩ := hB6
  obtain ⟨need, hO7, hn5, hkn⟩ := x7
  obtain ⟨hv, hO8, hh5, hkh⟩ := x8
  generalize f0 7 = v7 at *
  generalize f0 8 = v8 at *

  obtain ⟨na, nc, rfl, _, _⟩ := hO7.form
  obtain ⟨ha, hcp, rfl, _, _⟩ := hO8.form
  obtain ⟨hp5, hl25, hkp, hka, has, hbs⟩ := HK.out
  have hT6 := HT0.out w6 (Gr.trans HG5.out hG6)
  have hcr : CatR w6 (.slice pa ps.length pc) (.slice aa l.length ac) ps l := ⟨(HOW.out w6 hG6).1.rec0, (HOW.out w6 hG6).2.rec0⟩
  have HB6 : Hid (Below w.heap.size w w6) := Lib.hid (Below.trans HB0.out (Gr.below (Gr.trans HG5.out hG6) (Nat.le_refl _) (by omega)))
  have HXC : Hid (∀ W, Below w6.heap.size w6 W → W.cell? ⟨C, 0, none⟩ = some (.slice pa ps.length pc) ∧ W.cell? ⟨C, 1, none⟩ = some (.slice aa l.length ac) ∧ C < W.heap.size) := Lib.hid fun W hW => HCW.out W (Gr.trans hG6 (Gr.of_below hW _))
  have HTX := Lib.hid fun W (hW : Below w6.heap.size w6 W) => hT6.below hW
  have HCR := Lib.hid fun W (hW : Below w6.heap.size w6 W) => hcr.low hW
  have HNE := Lib.hid fun W (hW : Below w6.heap.size w6 W) => hO7.rec0.below hW
  have HHV := Lib.hid fun W (hW : Below w6.heap.size w6 W) => hO8.rec0.below hW
  have hzp := PrtS.z hkp
  have hza := AltS.z hka
  have hzn := StkOk.z hkn
  have hzh := StkOk.z hkh
  have hma : a.size ≤ maxLen := Nat.le_trans has (by decide)
  have hmb : b.size ≤ maxLen := Nat.le_trans hbs (by decide)
  have HSZ := Lib.hid (And.intro hp5 (And.intro hl25 (And.intro hzp (And.intro hza (And.intro hzn (And.intro hzh (And.intro hn5 hh5)))))))
  obtain ⟨F, hF⟩ : ∃ F, F = catsF ps l := ⟨_, rfl⟩
  obtain ⟨K1, hK1⟩ : ∃ F, F = knownF ps l [a] := ⟨_, rfl⟩
  obtain ⟨K2, hK2⟩ : ∃ F, F = knownF ps l [a, b] := ⟨_, rfl⟩
  obtain ⟨K3, hK3⟩ : ∃ F, F = shoF ps l need hv := ⟨_, rfl⟩
  obtain ⟨D, hD⟩ : ∃ F, F = dirS ps l a := ⟨_, rfl⟩
  obtain ⟨A, hA⟩ : ∃ F, F = allS ps l a := ⟨_, rfl⟩
  have HCF := Lib.hid fun W (hW : Below w6.heap.size w6 W) => CatalogueFault_any ps l _ _ W (by omega) (by omega) hzp hza (hcr.low hW)
  have HDI := Lib.hid fun W (hW : Below w6.heap.size w6 W) => Direct_any ps l _ _ a W (by omega) (by omega) hzp hza (hcr.low hW) hma
  have HAL := Lib.hid fun W (hW : Below w6.heap.size w6 W) => All_any ps l _ _ a W (by omega) (by omega) hzp hza (hcr.low hW) hma
  have HCH := Lib.hid fun W (hW : Below w6.heap.size w6 W) => Chain_any ps l _ _ a b W (by omega) (by omega) hzp hza (hcr.low hW) hma hmb
  have HGR := Lib.hid fun W (hW : Below w6.heap.size w6 W) => Groups_any ps l _ _ W (by omega) (by omega) hzp hza (hcr.low hW)
  have HOD := Lib.hid fun W (hW : Below w6.heap.size w6 W) => OddP_any ps l _ _ W (by omega) (by omega) hzp hza (hcr.low hW)
  have HSH := Lib.hid fun W (hW : Below w6.heap.size w6 W) => Short_any ps l _ _ need hv _ _ W (by omega) (by omega) hzp hza (hcr.low hW) (by omega) (by omega) (hO7.rec0.below hW) (hO8.rec0.below hW) hzn hzh
  rw [← hF] at HCF HGR HOD
  rw [← hK1, ← hD] at HDI
  rw [← hK1, ← hA] at HAL
  rw [← hK2] at HCH
  rw [← hK3] at HSH
  have EF := Lib.hid hF
  have E1 := Lib.hid hK1
  have E2 := Lib.hid hK2
  have E3 := Lib.hid hK3
  have ED := Lib.hid hD
  have EA := Lib.hid hA
  obtain ⟨q0, q1, lC⟩ := HXC.out w6 (Below.refl _ _)
  clear HST HCW HOW HWX HK hG6 hO7 hO8 hn5 hh5 hkn hkh hp5 hl25 hkp hka has hbs hT6 hcr hzp hza hzn hzh hma hmb hF hK1 hK2 hK3 hD hA HT0 HG5 HS5 hsC hsB
  go_wp2_with fail
  refine (HCF.out w6 (Below.refl _ _)).mono ?_
  rintro e w7 ⟨rfl, hb7⟩
  have HB7 := Lib.hid hb7
  obtain ⟨r0, r1, lC7⟩ := HXC.out w7 hb7
  clear hb7 q0 q1 lC HCF
  go_wp2_with fail
  refine (HDI.out w7 HB7.out).mono ?_
  rintro e w8 ⟨⟨v10, rfl, hr⟩, hb8⟩
  have HB8 := Lib.hid (Bl.trans HB7.out hb8)
  have RD := Lib.hid hr
  obtain ⟨s0, s1, lC8⟩ := HXC.out w8 HB8.out
  clear hb8 hr r0 r1 lC7 HDI
  have r0 := s0
  have r1 := s1
  clear s0 s1
  go_wp2_with fail
  refine (HAL.out w8 HB8.out).mono ?_
  rintro e w9 ⟨⟨v12, rfl, hr⟩, hb9⟩
  have HB9 := Lib.hid (Bl.trans HB8.out hb9)
  have RA := Lib.hid hr
  have RD := Lib.hid (RD.out.below hb9)
  obtain ⟨s0, s1, lC9⟩ := HXC.out w9 HB9.out
  clear hb9 hr r0 r1 lC8 HAL
  have r0 := s0
  have r1 := s1
  clear s0 s1
  go_wp2_with fail
  refine (HCH.out w9 HB9.out).mono ?_
  rintro e w10 ⟨⟨v14, is, och, rfl, hr, h0, h1⟩, hb10⟩
  have HB10 := Lib.hid (Bl.trans HB9.out hb10)
  have RC := Lib.hid hr
  have RC0 := Lib.hid h0
  have RC1 := Lib.hid h1
  have RD := Lib.hid (RD.out.below hb10)
  have RA := Lib.hid (RA.out.below hb10)
  obtain ⟨s0, s1, lC10⟩ := HXC.out w10 HB10.out
  clear hb10 hr r0 r1 lC9 HCH h0 h1
  have r0 := s0
  have r1 := s1
  clear s0 s1
  go_wp2_with fail
  refine (HGR.out w10 HB10.out).mono ?_
  rintro e w11 ⟨⟨v17, hs, og, rfl, hr, h0, h1⟩, hb11⟩
  have HB11 := Lib.hid (Bl.trans HB10.out hb11)
  have RG := Lib.hid hr
  have RG0 := Lib.hid h0
  have RG1 := Lib.hid h1
  have RD := Lib.hid (RD.out.below hb11)
  have RA := Lib.hid (RA.out.below hb11)
  have RC := Lib.hid (RC.out.below hb11)
  obtain ⟨s0, s1, lC11⟩ := HXC.out w11 HB11.out
  clear hb11 hr r0 r1 lC10 HGR h0 h1
  have r0 := s0
  have r1 := s1
  clear s0 s1
  go_wp2_with fail
  refine (HOD.out w11 HB11.out).mono ?_
  rintro e w12 ⟨⟨v19, oo, rfl, hr, h0, h1⟩, hb12⟩
  have HB12 := Lib.hid (Bl.trans HB11.out hb12)
  have RO := Lib.hid hr
  have RO0 := Lib.hid h0
  have RO1 := Lib.hid h1
  have RD := Lib.hid (RD.out.below hb12)
  have RA := Lib.hid (RA.out.below hb12)
  have RC := Lib.hid (RC.out.below hb12)
  have RG := Lib.hid (RG.out.low hb12)
  obtain ⟨s0, s1, lC12⟩ := HXC.out w12 HB12.out
  clear hb12 hr r0 r1 lC11 HOD h0 h1
  have r0 := s0
  have r1 := s1
  clear s0 s1
  go_wp2_with fail
  refine (HSH.out w12 HB12.out).mono ?_
  rintro e w13 ⟨⟨v21, en, osh, rfl, hr, h0, h1⟩, hb13⟩
  have HB13 := Lib.hid (Bl.trans HB12.out hb13)
  have RS := Lib.hid hr
  have RS0 := Lib.hid h0
  have RS1 := Lib.hid h1
  have RD := Lib.hid (RD.out.below hb13)
  have RA := Lib.hid (RA.out.below hb13)
  have RC := Lib.hid (RC.out.below hb13)
  have RG := Lib.hid (RG.out.low hb13)
  have RO := Lib.hid (RO.out.below hb13)
  obtain ⟨s0, s1, lC13⟩ := HXC.out w13 HB13.out
  clear hb13 hr r0 r1 lC12 HSH h0 h1
  have r0 := s0
  have r1 := s1
  clear s0 s1
  have HBE := Lib.hid (Bl.trans HB6.out HB13.out)
  by_cases hf : F = 0
  case neg =>
    have hf' : (F != 0) = true := by simpa using hf
    have hbad : catsF ps l ≠ 0 := by rw [← EF.out]; exact hf
    have e1 : K1 = F := by rw [E1.out, EF.out]; exact known_bad hbad
    have e2 : K2 = F := by rw [E2.out, EF.out]; exact known_bad hbad
    have e3 : K3 = F := by rw [E3.out, EF.out]; unfold shoF; rw [if_pos hbad]
    have eD : D = [] := by rw [ED.out]; unfold dirS; rw [known_bad hbad, if_neg hbad]
    have eA : A = [] := by rw [EA.out]; unfold allS; rw [known_bad hbad, if_neg hbad]
    have eC := RC1.out (by rw [e2]; exact hf)
    have eG := RG1.out hf
    have eO := RO1.out hf
    have eS := RS1.out (by rw [e3]; exact hf)
    have kD := RD.out
    have kA := RA.out
    have kC := RC.out
    have kG := RG.out
    have kO := RO.out
    have kS := RS.out
    rw [eD] at kD
    rw [eA] at kA
    rw [eC.2] at kC
    rw [eG] at kG
    rw [eO] at kO
    rw [eS.1] at kS
    obtain ⟨d1, d2, f1, _, _⟩ := kD.form
    obtain ⟨d3, d4, f2, _, _⟩ := kA.form
    obtain ⟨d5, d6, f3, _, _⟩ := kC.form
    obtain ⟨d7, d8, f4⟩ := kG.formE
    obtain ⟨d9, d10, f5, _, _⟩ := kO.form
    obtain ⟨d11, d12, f6, _, _⟩ := kS.form
    replace f1 : v10 = .slice d1 0 d2 := f1
    replace f2 : v12 = .slice d3 0 d4 := f2
    replace f3 : v14 = .slice d5 0 d6 := f3
    replace f4 : v17 = .slice d7 0 d8 := f4
    replace f5 : v19 = .slice d9 0 d10 := f5
    replace f6 : v21 = .slice d11 0 d12 := f6
    obtain rfl : is = false := eC.1
    obtain rfl : en = false := eS.2
    subst f1 f2 f3 f4 f5 f6 e1 e2 e3
    clear kD kA kC kG kO kS eD eA eC eG eO eS hbad RD RA RC RG RO RS RC0 RC1 RG0 RG1 RO0 RO1 RS0 RS1 EF E1 E2 E3 ED EA
    have hwz : IntKind.i64.wrap 0 = 0 := by decide
    go_wp2_with fail
    refine (aged_any _).mono ?_
    rintro e w' ⟨rfl, rfl⟩
    go_wp2
    go_ret
    exact ⟨rfl, HBE.out⟩
  have HC0 : Hid (catsF ps l = 0) := Lib.hid (EF.out.symm.trans hf)
  have HOG := RG0.out hf
  obtain ⟨ks, hks, hsr, hog⟩ := HOG
  have HGG : Hid (og = groupsR (mutB ps l) (keysP ps)) := Lib.hid (hog.trans (groups_one HC0.out hks hsr))
  have HOO : Hid (oo = oddP ps l) := Lib.hid (RO0.out hf)
  obtain ⟨ka, hka⟩ : ∃ q, q = hasP ps a := ⟨_, rfl⟩
  obtain ⟨kb, hkb⟩ : ∃ q, q = hasP ps b := ⟨_, rfl⟩
  obtain ⟨nf, hnf⟩ : ∃ q : Int, q = if (!kb) = true then 8 else 0 := ⟨_, rfl⟩
  have HHA : Hid (∀ W, Below w6.heap.size w6 W → Calls Tryz.prog 17 #[.agg #[.slice pa ps.length pc, .slice aa l.length ac], .string a] W fun e w' => e = .returned (.bool ka) ∧ Below W.heap.size W w') := Lib.hid fun W hW => by rw [hka]; exact HasPart_any ps l _ _ a W (by have := HSZ.out.1; omega) (HCR.out W hW)
  have HHB6 : Hid (∀ W, Below w6.heap.size w6 W → Calls Tryz.prog 17 #[.agg #[.slice pa ps.length pc, .slice aa l.length ac], .string b] W fun e w' => e = .returned (.bool kb) ∧ Below W.heap.size W w') := Lib.hid fun W hW => by rw [hkb]; exact HasPart_any ps l _ _ b W (by have := HSZ.out.1; omega) (HCR.out W hW)
  have HNA : Hid (∀ W, Calls Tryz.prog 16 #[.bool (!ka)] W fun e w' => e = .returned (.int .i64 K1) ∧ W = w') := Lib.hid fun W => by
    rw [E1.out, known_one HC0.out, ← hka]
    exact NoneFaultR_any (!ka) W
  have HNB : Hid (∀ W, Calls Tryz.prog 16 #[.bool (!kb)] W fun e w' => e = .returned (.int .i64 nf) ∧ W = w') := Lib.hid fun W => by
    rw [hnf]
    exact NoneFaultR_any (!kb) W
  have HKO : Hid (orF [K1, nf] = K2) := Lib.hid (by rw [E2.out, known_two HC0.out, ← E1.out, hnf, hkb])
  have HSF6 : Hid (∀ W, Below w6.heap.size w6 W → Calls Tryz.prog 19 #[.agg #[.slice pa ps.length pc, .slice aa l.length ac], .slice na need.length nc, .slice ha hv.length hcp] W fun e w' => e = .returned (.int .i64 K3) ∧ Below W.heap.size W w') := Lib.hid fun W hW => by
    obtain ⟨g1, g2, g3, g4, g5, g6, g7, g8⟩ := HSZ.out
    rw [E3.out, sho_ref HC0.out]
    exact ShortFault_any ps l _ _ need hv _ _ W (HTX.out W hW) (by omega) (HCR.out W hW) (by omega) (by omega) (HNE.out W hW) (HHV.out W hW) g5 g6
  subst hf
  clear hka hkb hnf hks hsr hog RG0 RG1 RO0 RO1 EF
  go_wp2_with fail
  refine (HHA.out w13 HB13.out).mono ?_
  rintro e w19 ⟨rfl, hb19⟩
  have HB19 := Lib.hid (Bl.trans HB13.out hb19)
  have HL19 := Lib.hid hb19
  clear hb19 HHA r0 r1 lC13
  go_wp2_with fail
  refine (HNA.out w19).mono ?_
  rintro e w20 ⟨rfl, rfl⟩
  clear HNA
  have HXW := Lib.hid fun W (hW : Below w19.heap.size w19 W) => HXC.out W (Bl.trans HB19.out hW)
  have HHB := Lib.hid fun W (hW : Below w19.heap.size w19 W) => HHB6.out W (Bl.trans HB19.out hW)
  have HSF := Lib.hid fun W (hW : Below w19.heap.size w19 W) => HSF6.out W (Bl.trans HB19.out hW)
  have HOR : Hid (∀ U v, VTwo w19.heap.size K1 nf v U → Calls Tryz.prog 18 #[v] U fun e w' => e = .returned (.int .i64 K2) ∧ U = w') := Lib.hid fun U v hv' => by
    obtain ⟨g, rfl, hg, _⟩ := hv'
    have h := OrErrno_any [K1, nf] (.slice (some ⟨g, 0, none⟩) 2 2) U (by simp) (Ints.of_blk hg rfl rfl (Nat.le_refl _) (by omega) (Nat.zero_le _))
    rw [HKO.out] at h
    exact h.mono fun _ _ h => ⟨h.1, h.2.symm⟩
  clear HHB6 HSF6
  go_wp2_with fail
  refine wp_region_inv (by kernel_rfl) [154, 155, 156, 157, 158, 159, 160, 161, 162, 163, 164, 165, 25, 26] (fun _ W => Below w19.heap.size w19 W) (fun W W' => Below W.heap.size W W') (fun i => [VE (.int .i64 K1), VE (.agg #[.slice pa ps.length pc, .slice aa l.length ac]), VE (.string b), VE (.bool kb), VE (.bool (!kb)), VE (.int .i64 nf), VTwo w19.heap.size K1 nf, VE (.int .i64 K2), VE (.agg #[.slice pa ps.length pc, .slice aa l.length ac]), VE (.slice na need.length nc), VE (.slice ha hv.length hcp), VE (.int .i64 K3), VE (.int .i64 K2), VE (.int .i64 K3)].getD i VT) (by kernel_rfl) (by kernel_rfl) (fun u u' W hu h => h) (Below.drew (Below.refl _ _)) ?_ ?_ ?_ ?_
  · intro u W W' i v hB hR hV
    exact match i, hV with
      | 0, h => h
      | 1, h => h
      | 2, h => h
      | 3, h => h
      | 4, h => h
      | 5, h => h
      | 6, h => VTwo.low h hR
      | 7, h => h
      | 8, h => h
      | 9, h => h
      | 10, h => h
      | 11, h => h
      | 12, h => h
      | 13, h => h
      | (_ + 14), _ => trivial
  · intro i o v W ho hd
    match i, ho with
      | 0, ho => (obtain rfl := Option.some.inj ho; cases hd)
      | 1, ho => (obtain rfl := Option.some.inj ho; cases hd)
      | 2, ho => (obtain rfl := Option.some.inj ho; cases hd)
      | 3, ho => (obtain rfl := Option.some.inj ho; cases hd)
      | 4, ho => (obtain rfl := Option.some.inj ho; cases hd)
      | 5, ho => (obtain rfl := Option.some.inj ho; cases hd)
      | 6, ho => (obtain rfl := Option.some.inj ho; cases hd)
      | 7, ho => (obtain rfl := Option.some.inj ho; cases hd)
      | 8, ho => (obtain rfl := Option.some.inj ho; cases hd)
      | 9, ho => (obtain rfl := Option.some.inj ho; cases hd)
      | 10, ho => (obtain rfl := Option.some.inj ho; cases hd)
      | 11, ho => (obtain rfl := Option.some.inj ho; cases hd)
      | 12, ho => (obtain rfl := Option.some.inj ho; cases hd)
      | 13, ho => (obtain rfl := Option.some.inj ho; cases hd)
      | (_ + 14), _ => trivial
  · intro i o u f W ho hi hB hdep
    have hi' : i = 0 ∨ i = 1 ∨ i = 2 ∨ i = 3 ∨ i = 4 ∨ i = 5 ∨ i = 6 ∨ i = 7 ∨ i = 8 ∨ i = 9 ∨ i = 10 ∨ i = 11 ∨ i = 12 ∨ i = 13 := by
      have : i < 14 := hi
      omega
    rcases hi' with rfl | rfl | rfl | rfl | rfl | rfl | rfl | rfl | rfl | rfl | rfl | rfl | rfl | rfl
    · refine iv_val ho (by obtain rfl := Option.some.inj ho; rfl) (.int .i64 K1) W ?_ hB (Below.refl _ _) rfl
      · intro q hq
        obtain rfl := Option.some.inj ho
        have e24 := hq.tmp 24
        simp at e24
        simp [execOp, e24, go_sem]
    · obtain ⟨y0, y1, _⟩ := HXW.out W hB
      refine iv_val ho (by obtain rfl := Option.some.inj ho; rfl) (.agg #[.slice pa ps.length pc, .slice aa l.length ac]) W ?_ hB (Below.refl _ _) rfl
      · intro q hq
        obtain rfl := Option.some.inj ho
        have e4 := hq.tmp 4
        simp at e4
        simp [execOp, e4, go_sem, y0, y1]
    · refine iv_val ho (by obtain rfl := Option.some.inj ho; rfl) (.string b) W ?_ hB (Below.refl _ _) rfl
      · intro q hq
        obtain rfl := Option.some.inj ho
        have e6 := hq.tmp 6
        simp at e6
        simp [execOp, e6, go_sem]
    · have d155 : f 155 = .agg #[.slice pa ps.length pc, .slice aa l.length ac] := hdep ⟨1, .data⟩ (by obtain rfl := Option.some.inj ho; simp) rfl
      have d156 : f 156 = .string b := hdep ⟨2, .data⟩ (by obtain rfl := Option.some.inj ho; simp) rfl
      refine iv_call ho (by obtain rfl := Option.some.inj ho; rfl) 17 #[.tmp 155, .tmp 156] _ (by obtain rfl := Option.some.inj ho; rfl) (enters_of Tryz.func17 (by kernel_rfl) rfl) #[.agg #[.slice pa ps.length pc, .slice aa l.length ac], .string b] (by intro q hq; have e155 := hq.tmp 155; simp at e155; have e156 := hq.tmp 156; simp at e156; simp [e155, e156, d155, d156, go_sem]) _ (HHB.out W hB) ?_
      rintro e W' ⟨rfl, hb'⟩
      exact ⟨_, rfl, Below.trans hB (hb'.mono hB.size), hb', rfl⟩
    · have d157 : f 157 = .bool kb := hdep ⟨3, .data⟩ (by obtain rfl := Option.some.inj ho; simp) rfl
      refine iv_val ho (by obtain rfl := Option.some.inj ho; rfl) (.bool (!kb)) W ?_ hB (Below.refl _ _) rfl
      · intro q hq
        obtain rfl := Option.some.inj ho
        have e157 := hq.tmp 157
        simp at e157
        simp [execOp, e157, d157, go_sem]
    · have d158 : f 158 = .bool (!kb) := hdep ⟨4, .data⟩ (by obtain rfl := Option.some.inj ho; simp) rfl
      refine iv_call ho (by obtain rfl := Option.some.inj ho; rfl) 16 #[.tmp 158] _ (by obtain rfl := Option.some.inj ho; rfl) (enters_of Tryz.func16 (by kernel_rfl) rfl) #[.bool (!kb)] (by intro q hq; have e158 := hq.tmp 158; simp at e158; simp [e158, d158, go_sem]) _ (HNB.out W) ?_
      rintro e W' ⟨rfl, rfl⟩
      exact ⟨_, rfl, hB, Below.refl _ _, rfl⟩
    · have d154 : f 154 = .int .i64 K1 := hdep ⟨0, .data⟩ (by obtain rfl := Option.some.inj ho; simp) rfl
      have d159 : f 159 = .int .i64 nf := hdep ⟨5, .data⟩ (by obtain rfl := Option.some.inj ho; simp) rfl
      refine iv_val ho (by obtain rfl := Option.some.inj ho; rfl) (.slice (some ⟨W.heap.size, 0, none⟩) 2 2) (W.alloc (.cells #[.int .i64 K1, .int .i64 nf] 34)) ?_ (Bl.alloc hB _) (Bl.alloc (Below.refl _ _) _) ⟨W.heap.size, rfl, blk_new W _, hB.size⟩
      · intro q hq
        obtain rfl := Option.some.inj ho
        have e154 := hq.tmp 154
        have e159 := hq.tmp 159
        simp at e154 e159
        simp [execOp, e154, e159, d154, d159, go_sem]
    · have x160 : VTwo w19.heap.size K1 nf (f 160) W := hdep ⟨6, .data⟩ (by obtain rfl := Option.some.inj ho; simp) rfl
      refine iv_call ho (by obtain rfl := Option.some.inj ho; rfl) 18 #[.tmp 160] _ (by obtain rfl := Option.some.inj ho; rfl) (enters_of Tryz.func18 (by kernel_rfl) rfl) #[f 160] (by intro q hq; have e160 := hq.tmp 160; simp at e160; simp [e160, go_sem]) _ (HOR.out W (f 160) x160) ?_
      rintro e W' ⟨rfl, rfl⟩
      exact ⟨_, rfl, hB, Below.refl _ _, rfl⟩
    · obtain ⟨y0, y1, _⟩ := HXW.out W hB
      refine iv_val ho (by obtain rfl := Option.some.inj ho; rfl) (.agg #[.slice pa ps.length pc, .slice aa l.length ac]) W ?_ hB (Below.refl _ _) rfl
      · intro q hq
        obtain rfl := Option.some.inj ho
        have e4 := hq.tmp 4
        simp at e4
        simp [execOp, e4, go_sem, y0, y1]
    · refine iv_val ho (by obtain rfl := Option.some.inj ho; rfl) (.slice na need.length nc) W ?_ hB (Below.refl _ _) rfl
      · intro q hq
        obtain rfl := Option.some.inj ho
        have e7 := hq.tmp 7
        simp at e7
        simp [execOp, e7, go_sem]
    · refine iv_val ho (by obtain rfl := Option.some.inj ho; rfl) (.slice ha hv.length hcp) W ?_ hB (Below.refl _ _) rfl
      · intro q hq
        obtain rfl := Option.some.inj ho
        have e8 := hq.tmp 8
        simp at e8
        simp [execOp, e8, go_sem]
    · have d162 : f 162 = .agg #[.slice pa ps.length pc, .slice aa l.length ac] := hdep ⟨8, .data⟩ (by obtain rfl := Option.some.inj ho; simp) rfl
      have d163 : f 163 = .slice na need.length nc := hdep ⟨9, .data⟩ (by obtain rfl := Option.some.inj ho; simp) rfl
      have d164 : f 164 = .slice ha hv.length hcp := hdep ⟨10, .data⟩ (by obtain rfl := Option.some.inj ho; simp) rfl
      refine iv_call ho (by obtain rfl := Option.some.inj ho; rfl) 19 #[.tmp 162, .tmp 163, .tmp 164] _ (by obtain rfl := Option.some.inj ho; rfl) (enters_of Tryz.func19 (by kernel_rfl) rfl) #[.agg #[.slice pa ps.length pc, .slice aa l.length ac], .slice na need.length nc, .slice ha hv.length hcp] (by intro q hq; have e162 := hq.tmp 162; simp at e162; have e163 := hq.tmp 163; simp at e163; have e164 := hq.tmp 164; simp at e164; simp [e162, e163, e164, d162, d163, d164, go_sem]) _ (HSF.out W hB) ?_
      rintro e W' ⟨rfl, hb'⟩
      exact ⟨_, rfl, Below.trans hB (hb'.mono hB.size), hb', rfl⟩
    · have d161 : f 161 = .int .i64 K2 := hdep ⟨7, .data⟩ (by obtain rfl := Option.some.inj ho; simp) rfl
      refine iv_val ho (by obtain rfl := Option.some.inj ho; rfl) (.int .i64 K2) W ?_ hB (Below.refl _ _) rfl
      · intro q hq
        obtain rfl := Option.some.inj ho
        have e161 := hq.tmp 161
        simp at e161
        simp [execOp, e161, d161, go_sem]
    · have d165 : f 165 = .int .i64 K3 := hdep ⟨11, .data⟩ (by obtain rfl := Option.some.inj ho; simp) rfl
      refine iv_val ho (by obtain rfl := Option.some.inj ho; rfl) (.int .i64 K3) W ?_ hB (Below.refl _ _) rfl
      · intro q hq
        obtain rfl := Option.some.inj ho
        have e165 := hq.tmp 165
        simp at e165
        simp [execOp, e165, d165, go_sem]
  intro f0 w21 hb21 hV
  have hf25 : f0 25 = .int .i64 K2 := show VE _ (f0 25) w21 from hV 12 (by decide)
  have hf26 : f0 26 = .int .i64 K3 := show VE _ (f0 26) w21 from hV 13 (by decide)
  clear hV
  unfold putsA
  simp only [List.mapIdx_toArray, List.mapIdx_cons, List.mapIdx_nil, List.contains_cons]
  simp
  rw [hf25, hf26]
  clear hf25 hf26 HHB HSF HOR
  have RD := Lib.hid (RD.out.below (Bl.trans HL19.out hb21))
  have RA := Lib.hid (RA.out.below (Bl.trans HL19.out hb21))
  have RC := Lib.hid (RC.out.below (Bl.trans HL19.out hb21))
  have RG := Lib.hid (RG.out.low (Bl.trans HL19.out hb21))
  have RO := Lib.hid (RO.out.below (Bl.trans HL19.out hb21))
  have RS := Lib.hid (RS.out.below (Bl.trans HL19.out hb21))
  have HB21 := Lib.hid (Bl.trans HB19.out hb21)
  clear hb21 HL19 HXW
  have HDB := Lib.hid fun W (hW : Below w6.heap.size w6 W) (hi : K1 = 0) => DirectOf_any ps l _ _ a W (by have := HSZ.out.1; omega) HC0.out (HCR.out W hW)
  have HDE : Hid (K1 = 0 → D = (nextL l (bsOf a)).map baOf ∧ A = (allB ps l (bsOf a)).map baOf ∧ bsOf a ∈ keysP ps) := Lib.hid fun h => by
    have h2 : knownF ps l [a] = 0 := E1.out.symm.trans h
    refine ⟨by rw [ED.out]; unfold dirS; rw [if_pos h2], by rw [EA.out]; unfold allS; rw [if_pos h2], known_in h2 a (by simp)⟩
  have HDN : Hid (K1 ≠ 0 → D = [] ∧ A = []) := Lib.hid fun h => by
    have h2 : ¬ knownF ps l [a] = 0 := by rw [← E1.out]; exact h
    exact ⟨by rw [ED.out]; unfold dirS; rw [if_neg h2], by rw [EA.out]; unfold allS; rw [if_neg h2]⟩
  go_upto_if 167 with fail
  go_cut [27, 28] from 167 to 173 (fun v27 v28 wx => Hid (RecR TS wx 0 v27 D) ∧ Hid (RecR TS wx 0 v28 A) ∧ Hid (Below w21.heap.size w21 wx))
  case first =>
    by_cases h1 : K1 = 0
    · obtain ⟨hD1, hA1, hka⟩ := HDE.out h1
      have HBC := HB21
      have HXW := Lib.hid fun W (hW : Below w21.heap.size w21 W) => HXC.out W (Bl.trans HB21.out hW)
      have HRD : Hid (∀ W, Below w21.heap.size w21 W → Calls Tryz.prog 20 #[.agg #[.slice pa ps.length pc, .slice aa l.length ac], .string a] W fun e w' => (∃ v, e = .returned v ∧ OwnR TS w' W.heap.size v D) ∧ Below W.heap.size W w') := Lib.hid fun W hW => by
        rw [hD1]; exact HDB.out W (Bl.trans HB21.out hW) h1
      have HRA : Hid (∀ W, Below w21.heap.size w21 W → Calls Tryz.prog 21 #[.agg #[.slice pa ps.length pc, .slice aa l.length ac], .string a] W fun e w' => (∃ v, e = .returned v ∧ RecR TS w' 0 v A) ∧ Below W.heap.size W w') := Lib.hid fun W hW => by
        rw [hA1]; exact AllOf_any ps l _ _ a W (by have := HSZ.out.1; omega) (by have := HSZ.out.2.1; omega) HC0.out (HCR.out W (Bl.trans HB21.out hW)) hka
      subst h1
      clear hD1 hA1 hka
      go_wp2_with fail
      refine wp_region_inv (by kernel_rfl) [168, 169, 170, 171, 172, 173, 27, 28] (fun _ W => Below w21.heap.size w21 W) (fun W W' => Below W.heap.size W W') (fun i => [VE (.agg #[.slice pa ps.length pc, .slice aa l.length ac]), VE (.string a), VOw TS 0 D, VE (.agg #[.slice pa ps.length pc, .slice aa l.length ac]), VE (.string a), VOf TS A, VOw TS 0 D, VOf TS A].getD i VT) (by kernel_rfl) (by kernel_rfl) (fun u u' W hu h => h) (Below.drew (Below.refl _ _)) ?_ ?_ ?_ ?_
      · intro u W W' i v hB hR hV
        exact match i, hV with
          | 0, h => h
          | 1, h => h
          | 2, h => VOw.low h hR
          | 3, h => h
          | 4, h => h
          | 5, h => VOf.low h hR
          | 6, h => VOw.low h hR
          | 7, h => VOf.low h hR
          | (_ + 8), _ => trivial
      · intro i o v W ho hd
        match i, ho with
          | 0, ho => (obtain rfl := Option.some.inj ho; cases hd)
          | 1, ho => (obtain rfl := Option.some.inj ho; cases hd)
          | 2, ho => (obtain rfl := Option.some.inj ho; cases hd)
          | 3, ho => (obtain rfl := Option.some.inj ho; cases hd)
          | 4, ho => (obtain rfl := Option.some.inj ho; cases hd)
          | 5, ho => (obtain rfl := Option.some.inj ho; cases hd)
          | 6, ho => (obtain rfl := Option.some.inj ho; cases hd)
          | 7, ho => (obtain rfl := Option.some.inj ho; cases hd)
          | (_ + 8), _ => trivial
      · intro i o u f W ho hi hB hdep
        have hi' : i = 0 ∨ i = 1 ∨ i = 2 ∨ i = 3 ∨ i = 4 ∨ i = 5 ∨ i = 6 ∨ i = 7 := by
          have : i < 8 := hi
          omega
        rcases hi' with rfl | rfl | rfl | rfl | rfl | rfl | rfl | rfl
        · obtain ⟨y0, y1, _⟩ := HXW.out W hB
          refine iv_val ho (by obtain rfl := Option.some.inj ho; rfl) (.agg #[.slice pa ps.length pc, .slice aa l.length ac]) W ?_ hB (Below.refl _ _) rfl
          · intro q hq
            obtain rfl := Option.some.inj ho
            have e4 := hq.tmp 4
            simp at e4
            simp [execOp, e4, go_sem, y0, y1]
        · refine iv_val ho (by obtain rfl := Option.some.inj ho; rfl) (.string a) W ?_ hB (Below.refl _ _) rfl
          · intro q hq
            obtain rfl := Option.some.inj ho
            have e5 := hq.tmp 5
            simp at e5
            simp [execOp, e5, go_sem]
        · have d168 : f 168 = .agg #[.slice pa ps.length pc, .slice aa l.length ac] := hdep ⟨0, .data⟩ (by obtain rfl := Option.some.inj ho; simp) rfl
          have d169 : f 169 = .string a := hdep ⟨1, .data⟩ (by obtain rfl := Option.some.inj ho; simp) rfl
          refine iv_call ho (by obtain rfl := Option.some.inj ho; rfl) 20 #[.tmp 168, .tmp 169] _ (by obtain rfl := Option.some.inj ho; rfl) (enters_of Tryz.func20 (by kernel_rfl) rfl) #[.agg #[.slice pa ps.length pc, .slice aa l.length ac], .string a] (by intro q hq; have e168 := hq.tmp 168; simp at e168; have e169 := hq.tmp 169; simp at e169; simp [e168, e169, d168, d169, go_sem]) _ (HRD.out W hB) ?_
          rintro e W' ⟨⟨v', rfl, hr'⟩, hb'⟩
          exact ⟨_, rfl, Below.trans hB (hb'.mono hB.size), hb', OwnR.base hr' (Nat.zero_le _)⟩
        · obtain ⟨y0, y1, _⟩ := HXW.out W hB
          refine iv_val ho (by obtain rfl := Option.some.inj ho; rfl) (.agg #[.slice pa ps.length pc, .slice aa l.length ac]) W ?_ hB (Below.refl _ _) rfl
          · intro q hq
            obtain rfl := Option.some.inj ho
            have e4 := hq.tmp 4
            simp at e4
            simp [execOp, e4, go_sem, y0, y1]
        · refine iv_val ho (by obtain rfl := Option.some.inj ho; rfl) (.string a) W ?_ hB (Below.refl _ _) rfl
          · intro q hq
            obtain rfl := Option.some.inj ho
            have e5 := hq.tmp 5
            simp at e5
            simp [execOp, e5, go_sem]
        · have d171 : f 171 = .agg #[.slice pa ps.length pc, .slice aa l.length ac] := hdep ⟨3, .data⟩ (by obtain rfl := Option.some.inj ho; simp) rfl
          have d172 : f 172 = .string a := hdep ⟨4, .data⟩ (by obtain rfl := Option.some.inj ho; simp) rfl
          refine iv_call ho (by obtain rfl := Option.some.inj ho; rfl) 21 #[.tmp 171, .tmp 172] _ (by obtain rfl := Option.some.inj ho; rfl) (enters_of Tryz.func21 (by kernel_rfl) rfl) #[.agg #[.slice pa ps.length pc, .slice aa l.length ac], .string a] (by intro q hq; have e171 := hq.tmp 171; simp at e171; have e172 := hq.tmp 172; simp at e172; simp [e171, e172, d171, d172, go_sem]) _ (HRA.out W hB) ?_
          rintro e W' ⟨⟨v', rfl, hr'⟩, hb'⟩
          exact ⟨_, rfl, Below.trans hB (hb'.mono hB.size), hb', hr'⟩
        · have l170 : VOw TS 0 D (f 170) W := hdep ⟨2, .data⟩ (by obtain rfl := Option.some.inj ho; simp) rfl
          refine iv_val ho (by obtain rfl := Option.some.inj ho; rfl) (f 170) W ?_ hB (Below.refl _ _) l170
          · intro q hq
            obtain rfl := Option.some.inj ho
            have e170 := hq.tmp 170
            simp at e170
            simp [execOp, e170, go_sem]
        · have l173 : VOf TS A (f 173) W := hdep ⟨5, .data⟩ (by obtain rfl := Option.some.inj ho; simp) rfl
          refine iv_val ho (by obtain rfl := Option.some.inj ho; rfl) (f 173) W ?_ hB (Below.refl _ _) l173
          · intro q hq
            obtain rfl := Option.some.inj ho
            have e173 := hq.tmp 173
            simp at e173
            simp [execOp, e173, go_sem]
      intro f0 w22 hb22 hV
      have hf27 : OwnR TS w22 0 (f0 27) D := show VOw TS 0 D (f0 27) w22 from hV 6 (by decide)
      have hf28 : RecR TS w22 0 (f0 28) A := show VOf TS A (f0 28) w22 from hV 7 (by decide)
      clear hV
      unfold putsA
      simp only [List.mapIdx_toArray, List.mapIdx_cons, List.mapIdx_nil, List.contains_cons]
      simp
      have HF22 := Lib.hid (And.intro hf27.rec0 (And.intro hf28 hb22))
      clear hf27 hf28 hb22
      go_wp2_with fail
      go_meet
      case rel => exact ⟨Lib.hid HF22.out.1, Lib.hid HF22.out.2.1, Lib.hid HF22.out.2.2⟩
    · obtain ⟨hD1, hA1⟩ := HDN.out h1
      have h1' : (K1 == 0) = false := by simpa using h1
      have HND : Hid (RecR TS w21 0 (.slice none 0 0) D) := Lib.hid (by rw [hD1]; exact RecR.nil _ _)
      have HNA : Hid (RecR TS w21 0 (.slice none 0 0) A) := Lib.hid (by rw [hA1]; exact RecR.nil _ _)
      clear hD1 hA1
      go_wp2_with fail
      go_meet
      case rel => exact ⟨HND, HNA, Lib.hid (Below.refl _ _)⟩
  case rest =>
    obtain ⟨HR27, HR28, HBC⟩ := hcut
    rename_i v27 v28
    obtain ⟨w23, hw23⟩ : ∃ q, q = wc := ⟨_, rfl⟩
    rw [← hw23] at HR27 HR28 HBC ⊢
    have RD := Lib.hid (RD.out.below HBC.out)
    have RA := Lib.hid (RA.out.below HBC.out)
    have RC := Lib.hid (RC.out.below HBC.out)
    have RG := Lib.hid (RG.out.low HBC.out)
    have RO := Lib.hid (RO.out.below HBC.out)
    have RS := Lib.hid (RS.out.below HBC.out)
    have HB23 := Lib.hid (Bl.trans HB21.out HBC.out)
    have HC1 : Hid (K2 ≠ 0 → is = false ∧ och = []) := RC1
    have HCI : Hid (K2 = 0 → bsOf a ∈ keysP ps ∧ (is = decide (bsOf b ∈ reachB ps l (bsOf a)) ∧ (is = true → ∃ f, chainR (nextL l) (bsOf b) f [[bsOf a]] = some och) ∧ (is = false → och = []))) := Lib.hid fun h => by
      have h2 : knownF ps l [a, b] = 0 := E2.out.symm.trans h
      exact ⟨known_in h2 a (by simp), chain_one HC0.out (known_in h2 a (by simp)) (known_in h2 b (by simp)) (RC0.out h)⟩
    clear hw23 HBC wc
    go_upto_if 175 with fail
    go_cut [29, 31] from 175 to 182 (fun v29 v31 wx => Hid (RecR TS wx 0 v29 (och.map baOf)) ∧ v31 = .bool is ∧ Hid (Below w23.heap.size w23 wx))
    case first =>
      by_cases h1 : K2 = 0
      · obtain ⟨hka, hci, hct, hcf⟩ := HCI.out h1
        have HRC := Lib.hid (ChainOf_any ps l _ _ a b och w23 HSZ.out.1 (by have := HSZ.out.2.1; omega) HC0.out (HCR.out w23 HB23.out) hka (fun hm => hct (by rw [hci]; exact decide_eq_true hm)) (fun hm => hcf (by rw [hci]; exact decide_eq_false hm)))
        rw [← hci] at HRC
        obtain ⟨y0, y1, lCy⟩ := HXC.out w23 HB23.out
        subst h1
        clear hka hci hct hcf
        go_wp2_with fail
        refine HRC.out.mono ?_
        rintro e w24 ⟨⟨v24, rfl, hr24⟩, hb24⟩
        have HF24 := Lib.hid (And.intro hr24 hb24)
        clear hr24 hb24 HRC y0 y1 lCy
        go_wp2_with fail
        go_meet
        case rel => exact ⟨Lib.hid HF24.out.1, rfl, Lib.hid HF24.out.2⟩
      · obtain ⟨hi0, ho0⟩ := HC1.out h1
        have h1' : (K2 == 0) = false := by simpa using h1
        have HNC : Hid (RecR TS w23 0 (.slice none 0 0) (och.map baOf)) := Lib.hid (by rw [ho0]; exact RecR.nil _ _)
        subst hi0
        clear ho0
        go_wp2_with fail
        go_meet
        case rel => exact ⟨HNC, rfl, Lib.hid (Below.refl _ _)⟩
    case rest =>
      obtain ⟨HR29, rfl, HBC⟩ := hcut
      rename_i v29
      obtain ⟨w25, hw25⟩ : ∃ q, q = wc := ⟨_, rfl⟩
      rw [← hw25] at HR29 HBC ⊢
      have RD := Lib.hid (RD.out.below HBC.out)
      have RA := Lib.hid (RA.out.below HBC.out)
      have RC := Lib.hid (RC.out.below HBC.out)
      have RG := Lib.hid (RG.out.low HBC.out)
      have RO := Lib.hid (RO.out.below HBC.out)
      have RS := Lib.hid (RS.out.below HBC.out)
      have HR27 := Lib.hid (HR27.out.below HBC.out)
      have HR28 := Lib.hid (HR28.out.below HBC.out)
      have HB25 := Lib.hid (Bl.trans HB23.out HBC.out)
      have HS1 : Hid (K3 ≠ 0 → osh = [] ∧ en = false) := RS1
      have HS0 : Hid (K3 = 0 → osh = shortK l need hv ∧ en = decide (osh.length = 0)) := RS0
      clear hw25 HBC wc
      go_upto_if 184 with fail
      go_cut [30, 32] from 184 to 191 (fun v30 v32 wx => Hid (RecR TS wx 0 v30 (osh.map baOf)) ∧ v32 = .bool en ∧ Hid (Below w25.heap.size w25 wx))
      case first =>
        by_cases h1 : K3 = 0
        · obtain ⟨hs1, hs2⟩ := HS0.out h1
          obtain ⟨g1, g2⟩ := sho_zero (E3.out.symm.trans h1)
          obtain ⟨z1, z2, z3, z4, z5, z6, z7, z8⟩ := HSZ.out
          have HRS := Lib.hid (ShortOf_any ps l _ _ need hv _ _ w25 (HTX.out w25 HB25.out) (by omega) (by omega) z3 HC0.out (HCR.out w25 HB25.out) (by omega) (by omega) (HNE.out w25 HB25.out) (HHV.out w25 HB25.out) z5 z6 g1 g2)
          have HS3 := Lib.hid hs1
          have HS4 := Lib.hid hs2
          obtain ⟨y0, y1, lCy⟩ := HXC.out w25 HB25.out
          subst h1
          clear hs1 hs2 g1 g2 z1 z2 z3 z4 z5 z6 z7 z8
          go_wp2_with fail
          refine HRS.out.mono ?_
          rintro e w26 ⟨⟨v26, is2, rfl, hr26, hi26⟩, hb26⟩
          have hie : is2 = en := by rw [HS4.out, hi26, HS3.out]
          rw [← HS3.out] at hr26
          subst hie
          have HF26 := Lib.hid (And.intro hr26.rec0 hb26)
          clear hr26 hb26 HRS y0 y1 lCy hi26
          go_wp2_with fail
          go_meet
          case rel => exact ⟨Lib.hid HF26.out.1, rfl, Lib.hid HF26.out.2⟩
        · obtain ⟨ho0, hi0⟩ := HS1.out h1
          have h1' : (K3 == 0) = false := by simpa using h1
          have HNC : Hid (RecR TS w25 0 (.slice none 0 0) (osh.map baOf)) := Lib.hid (by rw [ho0]; exact RecR.nil _ _)
          subst hi0
          clear ho0
          go_wp2_with fail
          go_meet
          case rel => exact ⟨HNC, rfl, Lib.hid (Below.refl _ _)⟩
      case rest =>
        obtain ⟨HR30, rfl, HBC⟩ := hcut
        rename_i v30
        obtain ⟨w27, hw27⟩ : ∃ q, q = wc := ⟨_, rfl⟩
        rw [← hw27] at HR30 HBC ⊢
        have RD := Lib.hid (RD.out.below HBC.out)
        have RA := Lib.hid (RA.out.below HBC.out)
        have RC := Lib.hid (RC.out.below HBC.out)
        have RG := Lib.hid (RG.out.low HBC.out)
        have RO := Lib.hid (RO.out.below HBC.out)
        have RS := Lib.hid (RS.out.below HBC.out)
        have HR27 := Lib.hid (HR27.out.below HBC.out)
        have HR28 := Lib.hid (HR28.out.below HBC.out)
        have HR29 := Lib.hid (HR29.out.below HBC.out)
        have HB27 := Lib.hid (Bl.trans HB25.out HBC.out)
        have HLD : Hid (D.length ≤ 100000) := Lib.hid (by
          rw [ED.out]; unfold dirS; split
          · rw [List.length_map]; have := nextL_len l (bsOf a); have := HSZ.out.2.1; omega
          · simp)
        have HLA : Hid (A.length ≤ 100000) := Lib.hid (by
          rw [EA.out]; unfold allS; split
          · rename_i h; rw [List.length_map]; have := allB_len HC0.out (known_in h a (by simp)); have := HSZ.out.1; omega
          · simp)
        clear hw27 HBC wc
        have HQ1 := Lib.hid (EqSt_same D _ _ w27 HLD.out RD.out HR27.out)
        go_wp2_with fail
        refine HQ1.out.mono ?_
        rintro e w28 ⟨rfl, hb28⟩
        clear HQ1
        have RA := Lib.hid (RA.out.below hb28)
        have RC := Lib.hid (RC.out.below hb28)
        have RG := Lib.hid (RG.out.low hb28)
        have RO := Lib.hid (RO.out.below hb28)
        have RS := Lib.hid (RS.out.below hb28)
        have HR28 := Lib.hid (HR28.out.below hb28)
        have HR29 := Lib.hid (HR29.out.below hb28)
        have HR30 := Lib.hid (HR30.out.below hb28)
        have HB28 := Lib.hid (Bl.trans HB27.out hb28)
        clear hb28
        have HQ2 := Lib.hid (EqSt_same A _ _ w28 HLA.out RA.out HR28.out)
        go_wp2_with fail
        refine HQ2.out.mono ?_
        rintro e w29 ⟨rfl, hb29⟩
        clear HQ2
        have RC := Lib.hid (RC.out.below hb29)
        have RG := Lib.hid (RG.out.low hb29)
        have RO := Lib.hid (RO.out.below hb29)
        have RS := Lib.hid (RS.out.below hb29)
        have HR29 := Lib.hid (HR29.out.below hb29)
        have HR30 := Lib.hid (HR30.out.below hb29)
        have HB29 := Lib.hid (Bl.trans HB28.out hb29)
        clear hb29
        have HLC : Hid ((och.map baOf).length ≤ 100000) := Lib.hid (by
          rw [List.length_map]
          by_cases h1 : K2 = 0
          · obtain ⟨hka, hci, hct, hcf⟩ := HCI.out h1
            cases hi : is with
            | false => rw [hcf hi]; simp
            | true =>
              obtain ⟨f, hf⟩ := hct hi
              exact Nat.le_trans (chainR_len HC0.out HSZ.out.1 f 0 _ (LvI.zero hka) hf) (by decide)
          · rw [(HC1.out h1).2]; simp)
        have HQ3 := Lib.hid (EqSt_same (och.map baOf) _ _ w29 HLC.out RC.out HR29.out)
        go_wp2_with fail
        refine HQ3.out.mono ?_
        rintro e w30 ⟨rfl, hb30⟩
        clear HQ3
        have RG := Lib.hid (RG.out.low hb30)
        have RO := Lib.hid (RO.out.below hb30)
        have RS := Lib.hid (RS.out.below hb30)
        have HR30 := Lib.hid (HR30.out.below hb30)
        have HB30 := Lib.hid (Bl.trans HB29.out hb30)
        clear hb30
        obtain ⟨y0, y1, lCy⟩ := HXC.out w30 HB30.out
        have HGO := Lib.hid (GroupsOf_any ps l _ _ w30 (by have := HSZ.out.1; omega) (by have := HSZ.out.2.1; omega) HC0.out (HCR.out w30 HB30.out))
        go_wp2_with fail
        refine HGO.out.mono ?_
        rintro e w31 ⟨⟨v31, hs2, rfl, hg31⟩, hb31⟩
        rw [← HGG.out] at hg31
        clear HGO y0 y1 lCy
        have RG := Lib.hid (RG.out.low hb31)
        have RO := Lib.hid (RO.out.below hb31)
        have RS := Lib.hid (RS.out.below hb31)
        have HR30 := Lib.hid (HR30.out.below hb31)
        have HB31 := Lib.hid (Bl.trans HB30.out hb31)
        have HG31 := Lib.hid hg31
        clear hb31 hg31
        have HLG : Hid (og.length ≤ 100000 ∧ ∀ x ∈ og, x.length ≤ 100000) := Lib.hid (by
          obtain ⟨g1, g2⟩ := grs_few ps l
          have g5 := HSZ.out.1
          rw [HGG.out]
          exact ⟨by omega, fun x hx => by have := g2 x hx; omega⟩)
        have HQ4 := Lib.hid (EqGr_same og _ _ _ _ _ _ w31 HLG.out.1 HLG.out.2 RG.out HG31.out)
        go_wp2_with fail
        refine HQ4.out.mono ?_
        rintro e w32 ⟨rfl, hb32⟩
        clear HQ4
        have RO := Lib.hid (RO.out.below hb32)
        have RS := Lib.hid (RS.out.below hb32)
        have HR30 := Lib.hid (HR30.out.below hb32)
        have HB32 := Lib.hid (Bl.trans HB31.out hb32)
        clear hb32
        obtain ⟨y0, y1, lCy⟩ := HXC.out w32 HB32.out
        have HOF := Lib.hid (OddOf_any ps l _ _ w32 (by have := HSZ.out.1; omega) (by have := HSZ.out.2.1; omega) HC0.out (HCR.out w32 HB32.out))
        go_wp2_with fail
        refine HOF.out.mono ?_
        rintro e w33 ⟨⟨v33, rfl, hr33⟩, hb33⟩
        rw [← HOO.out] at hr33
        clear HOF y0 y1 lCy
        have RO := Lib.hid (RO.out.below hb33)
        have RS := Lib.hid (RS.out.below hb33)
        have HR30 := Lib.hid (HR30.out.below hb33)
        have HB33 := Lib.hid (Bl.trans HB32.out hb33)
        have HR33 := Lib.hid hr33
        clear hb33 hr33
        have HLO : Hid (oo.length ≤ 100000) := Lib.hid (by
          rw [HOO.out]
          have := oddP_len ps l
          have := HSZ.out.2.1
          omega)
        have HQ5 := Lib.hid (EqPa_same oo _ _ w33 HLO.out RO.out.rec0 HR33.out)
        go_wp2_with fail
        refine HQ5.out.mono ?_
        rintro e w34 ⟨rfl, hb34⟩
        clear HQ5
        have RS := Lib.hid (RS.out.below hb34)
        have HR30 := Lib.hid (HR30.out.below hb34)
        have HB34 := Lib.hid (Bl.trans HB33.out hb34)
        clear hb34
        have HLS : Hid ((osh.map baOf).length ≤ 100000) := Lib.hid (by
          rw [List.length_map]
          by_cases h1 : K3 = 0
          · rw [(HS0.out h1).1]
            have g1 := shortK_len l need hv
            obtain ⟨_, _, _, _, _, _, g7, _⟩ := HSZ.out
            omega
          · rw [(HS1.out h1).1]; simp)
        have HQ6 := Lib.hid (EqSt_same (osh.map baOf) _ _ w34 HLS.out RS.out.rec0 HR30.out)
        go_wp2_with fail
        refine HQ6.out.mono ?_
        rintro e w35 ⟨rfl, hb35⟩
        have HB35 := Lib.hid (Bl.trans HB6.out (Bl.trans HB34.out hb35))
        clear HQ6 hb35
        go_wp2_with fail
        refine (aged_any _).mono ?_
        rintro e w' ⟨rfl, rfl⟩
        go_wp2
        go_ret
        exact ⟨rfl, HB35.out⟩
end Go.Proofs.YteojmljggoplkaaGreatDoor
