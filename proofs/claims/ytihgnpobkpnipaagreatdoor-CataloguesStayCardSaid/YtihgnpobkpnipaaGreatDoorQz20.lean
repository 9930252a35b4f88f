/- Texts of the proof of a law, put together, part 20 of 41. Conditions: none beyond those that each theorem names. -/
import Derived.Test.YtihgnpobkpnipaaGreatDoorQz16
import Derived.Test.YtihgnpobkpnipaaGreatDoorQz19
namespace Go.Proofs.YtihgnpobkpnipaaGreatDoor
open Go.RowKit Go.Sort
theorem gd_out2 {l : Array Bool} {i j : Nat} (hj : j ≠ i) : (l.setIfInBounds i true).getD j false = l.getD j false := by
  by_cases h : i < l.size
  · exact gd_out rfl h hj
  · rw [Array.setIfInBounds_eq_of_size_le (by omega)]
def VLRx (B1 : Nat) (x : Prt) : Value → World → Prop := fun v w => ∃ g : Nat, v = .slice (some ⟨g, 0, none⟩) 1 1 ∧ w.heap[g]? = some (.cells #[.string x.1, .string x.2.1, .int .i64 x.2.2.1, .int .i64 x.2.2.2] 66 (0, 0)) ∧ B1 ≤ g
theorem VLRx.stab {B1 : Nat} {x : Prt} {v : Value} {w w' : World} (h : VLRx B1 x v w) (hr : RR B1 w w') : VLRx B1 x v w' := by
  obtain ⟨g, h1, h2, h3⟩ := h
  exact ⟨g, h1, (hr.2 g h3 (blk_lt h2)).trans h2, h3⟩
/-! the plain law -/
def nmC (k : Nat) : ByteArray := (([⟨#[97]⟩, ⟨#[98]⟩, ⟨#[99]⟩, ⟨#[100]⟩, ⟨#[101]⟩] : List ByteArray)[k]?).getD ⟨#[]⟩
theorem nm_exact {W : World} {R : Nat} {vp va : Value} (h : CatBx W R vp va) (k : Nat) (hk : k < 5) : W.cell? ⟨R + 2, k, none⟩ = some (.string (nmC k)) := by
  have hk' : k = 0 ∨ k = 1 ∨ k = 2 ∨ k = 3 ∨ k = 4 := by omega
  rcases hk' with rfl | rfl | rfl | rfl | rfl
  · exact blk_cell h.n 0
  · exact blk_cell h.n 1
  · exact blk_cell h.n 2
  · exact blk_cell h.n 3
  · exact blk_cell h.n 4
def partX (li : List Int) (m : Nat) (nm : ByteArray) : Prt := (nm, smX li m [⟨#[112, 48, 52, 48, 50]⟩, ⟨#[112, 48, 52, 48, 50]⟩, ⟨#[112, 48, 54, 48, 51]⟩], pkX li (m + 1) [1, 2, 3, 4, 5, 6], pkX li (m + 2) [0, 28800000, 172800000])
def partsX (li : List Int) (m : Nat) : Nat → List Prt
  | 0 => []
  | k + 1 => partsX li m k ++ [partX li (m + 3 * k) (nmC k)]
theorem partsX_len (li : List Int) (m : Nat) : ∀ k, (partsX li m k).length = k
  | 0 => rfl
  | k + 1 => by rw [partsX, List.length_append, partsX_len li m k]; rfl
/-- one of them tells that y replaces x so. -/
def hasX (l : List Alt) (y x : ByteArray) (bo : Bool) : Bool := l.any fun a => (a.1.toList == y.toList) && ((a.2.1.toList == x.toList) && (a.2.2 || bo))
def altX (li : List Int) (k2 k3 : Nat) (st : List Alt × Nat) : List Alt × Nat :=
  if k2 = k3 then st else if flX li st.2 3 = true then (if hasX st.1 (nmC k3) (nmC k2) (flX li (st.2 + 1) 3) = true then (st.1, st.2 + 2) else (st.1 ++ [(nmC k2, nmC k3, flX li (st.2 + 1) 3)], st.2 + 2)) else (st.1, st.2 + 1)
def rowX (li : List Int) (k2 : Nat) (st : List Alt × Nat) : Nat → List Alt × Nat
  | 0 => st
  | k + 1 => altX li k2 k (rowX li k2 st k)
def altsX (li : List Int) (n : Nat) (st : List Alt × Nat) : Nat → List Alt × Nat
  | 0 => st
  | k + 1 => rowX li k (altsX li n st k) n
theorem altX_eq {li : List Int} {k2 k3 : Nat} {l : List Alt} {M : Nat} (h : k2 = k3) : altX li k2 k3 (l, M) = (l, M) := by unfold altX; rw [if_pos h]
theorem altX_no {li : List Int} {k2 k3 : Nat} {l : List Alt} {M : Nat} (h : ¬ k2 = k3) (hf : flX li M 3 = false) : altX li k2 k3 (l, M) = (l, M + 1) := by unfold altX; rw [if_neg h, if_neg (by show ¬ flX li M 3 = true; rw [hf]; decide)]
theorem altX_has {li : List Int} {k2 k3 : Nat} {l : List Alt} {M : Nat} (h : ¬ k2 = k3) (hf : flX li M 3 = true) (hh : hasX l (nmC k3) (nmC k2) (flX li (M + 1) 3) = true) : altX li k2 k3 (l, M) = (l, M + 2) := by unfold altX; rw [if_neg h, if_pos hf, if_pos hh]
theorem altX_new {li : List Int} {k2 k3 : Nat} {l : List Alt} {M : Nat} (h : ¬ k2 = k3) (hf : flX li M 3 = true) (hh : hasX l (nmC k3) (nmC k2) (flX li (M + 1) 3) = false) : altX li k2 k3 (l, M) = (l ++ [(nmC k2, nmC k3, flX li (M + 1) 3)], M + 2) := by unfold altX; rw [if_neg h, if_pos hf, if_neg (by show ¬ hasX l _ _ _ = true; rw [hh]; decide)]
def catX (li : List Int) (m : Nat) : List Prt × List Alt × Nat :=
  let n := (nxX li m 6).toNat
  let st := altsX li n ([], m + 1 + 3 * n) n
  if flX li st.2 10 = true then spoilX li (st.2 + 1) (partsX li (m + 1) n) st.1 else (partsX li (m + 1) n, st.1, st.2 + 1)
theorem catX_no {li : List Int} {m n M : Nat} {l : List Alt} (hn : n = (nxX li m 6).toNat) (hst : altsX li n ([], m + 1 + 3 * n) n = (l, M)) (hf : flX li M 10 = false) : catX li m = (partsX li (m + 1) n, l, M + 1) := by
  subst hn
  unfold catX
  simp only [hst, hf]
  rw [if_neg (by decide)]
theorem catX_sp {li : List Int} {m n M : Nat} {l : List Alt} (hn : n = (nxX li m 6).toNat) (hst : altsX li n ([], m + 1 + 3 * n) n = (l, M)) (hf : flX li M 10 = true) : catX li m = spoilX li (M + 1) (partsX li (m + 1) n) l := by
  subst hn
  unfold catX
  simp only [hst, hf, if_true]
/-! whether one of the alternates tells it already -/
set_option maxHeartbeats 1000000 in
theorem CatOf1_x (x : Alt) (y z : ByteArray) (bo : Bool) (gy gz gb : Nat) (w : World) (hy : w.heap[gy]? = some (.cells #[.string y] 9 (0, 0))) (hz : w.heap[gz]? = some (.cells #[.string z] 9 (0, 0))) (hb : w.heap[gb]? = some (.cells #[.bool bo] 4 (0, 0))) :
    Calls Tryz.prog 38 #[.agg #[.string x.1, .string x.2.1, .bool x.2.2], .pointer (some ⟨gy, 0, none⟩), .pointer (some ⟨gz, 0, none⟩), .pointer (some ⟨gb, 0, none⟩)] w fun e w' => e = .returned (.bool ((x.1.toList == y.toList) && ((x.2.1.toList == z.toList) && (x.2.2 || bo)))) ∧ Below w.heap.size w w' := by
  obtain ⟨f, b, ab⟩ := x
  have HB := Lib.hid (Bl.alloc (Below.refl w.heap.size w) (.cells #[.string f, .string b, .bool ab] 72))
  have c0 : w.cell? ⟨gy, 0, none⟩ = some (.string y) := blk_cell hy 0
  have c1 : w.cell? ⟨gz, 0, none⟩ = some (.string z) := blk_cell hz 0
  have c2 : w.cell? ⟨gb, 0, none⟩ = some (.bool bo) := blk_cell hb 0
  have l0 := blk_lt hy
  have l1 := blk_lt hz
  have l2 := blk_lt hb
  clear hy hz hb
  obtain ⟨fy, hfy⟩ : ∃ q, q = (f.toList == y.toList) := ⟨_, rfl⟩
  obtain ⟨bz, hbz⟩ : ∃ q, q = (b.toList == z.toList) := ⟨_, rfl⟩
  have h1 : (f.toList = y.toList) ↔ fy = true := by rw [hfy]; simp
  have h2 : (b.toList = z.toList) ↔ bz = true := by rw [hbz]; simp
  obtain ⟨R, hR⟩ : ∃ q, q = ((f.toList == y.toList) && ((b.toList == z.toList) && (ab || bo))) := ⟨_, rfl⟩
  have hR2 : R = (fy && (bz && (ab || bo))) := by rw [hR, hfy, hbz]
  rw [← hR]
  clear hR
  cases fy <;> cases bz <;> cases ab <;> cases bo
  all_goals (
    have q1 := hfy.symm
    have q2 := hbz.symm
    simp only [Bool.false_eq_true, iff_false, iff_true] at h1 h2
    subst hR2
    clear hfy hbz
    go_enter Tryz.func38, Tryz.ntmps38
    go_wp2
    go_ret
    exact ⟨rfl, HB.out⟩)
set_option maxHeartbeats 2000000 in
theorem IndexAl_x (l : List Alt) (y z : ByteArray) (bo : Bool) (gy gz gb : Nat) (v : Value) (w : World) (hl : l.length ≤ 1000000) (hy : w.heap[gy]? = some (.cells #[.string y] 9 (0, 0))) (hz : w.heap[gz]? = some (.cells #[.string z] 9 (0, 0))) (hb : w.heap[gb]? = some (.cells #[.bool bo] 4 (0, 0))) (rl : RecR TAl w 0 v l) :
    Calls Tryz.prog 81 #[v, .func (.func 38) #[] #[.pointer (some ⟨gy, 0, none⟩), .pointer (some ⟨gz, 0, none⟩), .pointer (some ⟨gb, 0, none⟩)]] w fun e w' => (∃ r : Int, e = .returned (.int .i64 r) ∧ decide (0 ≤ r) = hasX l y z bo ∧ -1 ≤ r ∧ r ≤ 1000000) ∧ Below w.heap.size w w' := by
  obtain ⟨a, cap, rfl, hc1, hc2⟩ := rl.form
  have HCL := Lib.hid fun (x : Alt) W (hW : Below w.heap.size w W) => CatOf1_x x y z bo gy gz gb W (blk_below hy hW) (blk_below hz hW) (blk_below hb hW)
  have RL := Lib.hid rl
  clear hy hz hb rl
  go_enter Tryz.func81, Tryz.ntmps81
  go_wp2
  go_loopw [8] (fun i wr => ∃ k : Nat, k ≤ l.length ∧ i = .int .i64 k ∧ Hid (hasX (l.take k) y z bo = false) ∧ Below w.heap.size w wr) (fun i _ => l.length - (intOf i).toNat)
  case atStart => exact ⟨0, Nat.zero_le _, rfl, Lib.hid rfl, Below.refl _ _⟩
  case round =>
    obtain ⟨k, hk, rfl, HH, hb⟩ := hrel
    by_cases hlt : k < l.length
    · obtain ⟨t, ht⟩ : ∃ t, l[k]? = some t := ⟨_, List.getElem?_eq_getElem hlt⟩
      have HC0 := HCL.out t wr hb
      obtain ⟨q, hq⟩ : ∃ q, q = ((t.1.toList == y.toList) && ((t.2.1.toList == z.toList) && (t.2.2 || bo))) := ⟨_, rfl⟩
      rw [← hq] at HC0
      have HC := Lib.hid HC0
      have HT1 : Hid (q = true → hasX l y z bo = true) := Lib.hid fun h => List.any_eq_true.2 ⟨t, List.mem_of_getElem? ht, by rw [← hq]; exact h⟩
      have HT0 : Hid (q = false → hasX (l.take (k + 1)) y z bo = false) := Lib.hid fun h => by
        rw [List.take_add_one, ht]
        unfold hasX
        rw [List.any_append]
        have h1 := HH.out
        unfold hasX at h1
        rw [h1]
        simp only [Option.toList, List.any_cons, List.any_nil, ← hq, h]
        rfl
      obtain ⟨b2', o2, rfl, _, hl2, hx2⟩ := (RL.out.below hb).at TAl.ok.len ht TAl.ok.pos
      obtain ⟨f, b, ab⟩ := t
      have c0 : wr.cell? ⟨b2', o2 + k * 3, none⟩ = some (.string f) := hx2 0 _ rfl
      have c1 : wr.cell? ⟨b2', o2 + k * 3 + 1, none⟩ = some (.string b) := hx2 1 _ rfl
      have c2 : wr.cell? ⟨b2', o2 + k * 3 + 2, none⟩ = some (.bool ab) := hx2 2 _ rfl
      have hw1 : IntKind.i64.wrap ((k : Int) + 1) = ((k + 1 : Nat) : Int) := by rw [IntWalk.i64_in _ (by omega)]; omega
      clear ht hx2 hq HC0
      go_wp2_with fail
      refine HC.out.mono ?_
      rintro e w2 ⟨rfl, hb2⟩
      have hb02 := Bl.trans hb hb2
      clear hb2
      cases q
      · have HN := Lib.hid (HT0.out rfl)
        clear HT0 HT1
        go_wp2
        go_roundw
        case rel => exact ⟨k + 1, by omega, by go_num, HN, hb02⟩
        case measure => simp [intOf]; omega
      · have HN := Lib.hid (HT1.out rfl)
        clear HT0 HT1
        go_wp2
        go_ret
        exact ⟨⟨k, rfl, by rw [HN.out]; exact decide_eq_true (by omega), by omega, by omega⟩, hb02⟩
    · obtain rfl : k = l.length := by omega
      have HN : Hid (hasX l y z bo = false) := Lib.hid (by have := HH.out; rwa [List.take_length] at this)
      go_wp2
      go_ret
      exact ⟨⟨-1, rfl, by rw [HN.out]; rfl, by omega, by omega⟩, hb⟩
set_option maxHeartbeats 2000000 in
theorem ContAl_x (l : List Alt) (y z : ByteArray) (bo : Bool) (gy gz gb : Nat) (v : Value) (w : World) (hl : l.length ≤ 1000000) (hy : w.heap[gy]? = some (.cells #[.string y] 9 (0, 0))) (hz : w.heap[gz]? = some (.cells #[.string z] 9 (0, 0))) (hb : w.heap[gb]? = some (.cells #[.bool bo] 4 (0, 0))) (rl : RecR TAl w 0 v l) :
    Calls Tryz.prog 37 #[v, .func (.func 38) #[] #[.pointer (some ⟨gy, 0, none⟩), .pointer (some ⟨gz, 0, none⟩), .pointer (some ⟨gb, 0, none⟩)]] w fun e w' => e = .returned (.bool (hasX l y z bo)) ∧ Below w.heap.size w w' := by
  have HI := Lib.hid (IndexAl_x l y z bo gy gz gb v w hl hy hz hb rl)
  obtain ⟨a, cap, rfl, _, _⟩ := rl.form
  obtain ⟨R, hR⟩ : ∃ q, q = hasX l y z bo := ⟨_, rfl⟩
  rw [← hR] at HI ⊢
  clear hy hz hb rl hR
  go_enter Tryz.func37, Tryz.ntmps37
  go_wp2_with fail
  refine HI.out.mono ?_
  rintro e w2 ⟨⟨r, rfl, hr, hr1, hr2⟩, hb2⟩
  have HR := Lib.hid hr
  clear hr
  go_wp2
  go_ret
  exact ⟨by rw [← HR.out] <;> rfl, hb2⟩
set_option maxHeartbeats 32000000 in
set_option maxRecDepth 100000 in
theorem CatalogueOf_x (s m : Nat) (li : List Int) (w : World) (h : StrX w s li m) (hc : m ≤ 800000) :
    Calls Tryz.prog 7 #[.pointer (some ⟨s, 0, none⟩)] w fun e w' => (∃ vp va, e = .returned (.agg #[vp, va]) ∧ OwnR TPt w' w.heap.size vp (catX li m).1 ∧ OwnR TAl w' w.heap.size va (catX li m).2.1) ∧ StrX w' s li (catX li m).2.2 ∧ w.grownBy w' (some s) := by
  have ls := h.lt
  obtain ⟨R, hR⟩ : ∃ R, R = w.heap.size := ⟨_, rfl⟩
  obtain ⟨w1, hw1⟩ : ∃ w1, w1 = ((w.alloc (.cells #[.slice none 0 0, .slice none 0 0] 29)).alloc (.cells #[.slice none 0 0, .slice none 0 0] 29)).alloc (.cells #[.string ⟨#[97]⟩, .string ⟨#[98]⟩, .string ⟨#[99]⟩, .string ⟨#[100]⟩, .string ⟨#[101]⟩] 9) := ⟨_, rfl⟩
  have hX1 : CatBx w1 R (.slice none 0 0) (.slice none 0 0) := by
    rw [hw1, hR]
    exact ⟨blk_old (blk_old (blk_new w _) _) _, blk_old (blk_new' _ _ (by simp)) _, blk_new' _ _ (by simp)⟩
  have hb1 : Below w.heap.size w w1 := by rw [hw1]; exact Bl.alloc (Bl.alloc (Bl.alloc (Below.refl _ _) _) _) _
  have hz1 : w1.heap.size = R + 3 := by rw [hw1, hR]; simp
  have HW1 := Lib.hid hw1
  have hsR : s < R := by omega
  have hS1 := h.below hb1
  have hG1 := Gr.of_below hb1 (some s)
  have HX1 := Lib.hid hX1
  have HW0 : Hid (w.heap.size = R) := Lib.hid hR.symm
  have HZ1 := Lib.hid hz1
  obtain ⟨n, hn⟩ : ∃ n, n = (nxX li m 6).toNat := ⟨_, rfl⟩
  obtain ⟨hn0, hn1⟩ := nxX_rng li m 6
  have hnI : nxX li m (5 + 1) = ((n : Nat) : Int) := by show nxX li m 6 = _; rw [hn]; omega
  have HRX0 := Range_x s m li 5 w1 hS1 (by omega) (by omega) (by omega)
  rw [hnI] at HRX0
  have HRX := Lib.hid HRX0
  have HNN := Lib.hid hn
  have hn2 : n ≤ 5 := by omega
  clear hw1 hR hX1 hb1 h hz1 hn hn0 hn1 hnI HRX0
  go_enter Tryz.func7, Tryz.ntmps7
  go_wp2_with fail
  rw [← HW1.out]
  refine HRX.out.mono ?_
  rintro e w2 ⟨rfl, hS2, hG2⟩
  have hX2 := Lib.hid (HX1.out.gr hsR hG2)
  have hG2' := Gr.trans hG1 hG2
  have hz2 := hG2.size
  rw [HZ1.out] at hz2
  have j1 : (0 : Int) ≤ (n : Int) := by omega
  have j2 : ¬ 5 < n := by omega
  have j3 : n ≤ 5 := by omega
  clear hS1 hG1 hG2 HX1 HRX
  have HWR : Hid (w.heap.size + 1 = R + 1 ∧ w.heap.size + 2 = R + 2 ∧ w.heap.size + 1 + 1 = R + 2) := Lib.hid (by have := HW0.out; omega)
  go_wp2_with fail
  go_loopw [18] (fun i wr => ∃ (k : Nat) (ps : List Prt) (vp : Value), k ≤ n ∧ i = .int .i64 k ∧ Hid (CatBx wr R vp (.slice none 0 0)) ∧ Hid (OwnR TPt wr (R + 3) vp ps) ∧ Hid (ps = partsX li (m + 1) k) ∧ Hid (StrX wr s li (m + 1 + 3 * k)) ∧ Hid (w.grownBy wr (some s)) ∧ R + 3 ≤ wr.heap.size) (fun i _ => n - (intOf i).toNat)
  case atStart => exact ⟨0, [], .slice none 0 0, Nat.zero_le _, rfl, hX2, Lib.hid (OwnR.nil _ _), Lib.hid rfl, Lib.hid hS2, Lib.hid hG2', by omega⟩
  case round =>
    obtain ⟨k, ps, vp, hk, rfl, HX, HP, HPS, HS, HG, hzr⟩ := hrel
    have HL : Hid (ps.length = k) := Lib.hid (by rw [HPS.out]; exact partsX_len _ _ _)
    by_cases hlt : k < n
    · have cn := nm_exact HX.out k (by omega)
      obtain ⟨nm, hnm⟩ : ∃ q, q = nmC k := ⟨_, rfl⟩
      rw [← hnm] at cn
      have HNM := Lib.hid hnm
      have hwk : IntKind.i64.wrap ((k : Int) + 1) = ((k + 1 : Nat) : Int) := by rw [IntWalk.i64_in _ (by omega)]; omega
      have hS := HS.out
      have lsr := hS.lt
      obtain ⟨M, hM⟩ : ∃ M, M = m + 1 + 3 * k := ⟨_, rfl⟩
      have hM9 : M ≤ 800020 := by omega
      have HMM := Lib.hid hM
      rw [← hM] at hS
      have hK : ∀ a b c : Bool, OwnK (((fun _ _ _ W => CatBx W R vp (.slice none 0 0) ∧ OwnR TPt W (R + 3) vp ps) : Bool → Bool → Bool → World → Prop) a b c) s := fun _ _ _ => ⟨fun W W' q hb => ⟨q.1.low hb, q.2.below hb⟩, fun W W' q hg => ⟨q.1.gr hsR hg, q.2.grown hg (by omega)⟩⟩
      obtain ⟨y0, hy0⟩ : ∃ q, q = smX li M [⟨#[112, 48, 52, 48, 50]⟩, ⟨#[112, 48, 52, 48, 50]⟩, ⟨#[112, 48, 54, 48, 51]⟩] := ⟨_, rfl⟩
      obtain ⟨y1, hy1⟩ : ∃ q, q = pkX li (M + 1) [1, 2, 3, 4, 5, 6] := ⟨_, rfl⟩
      obtain ⟨y2, hy2⟩ : ∃ q, q = pkX li (M + 2) [0, 28800000, 172800000] := ⟨_, rfl⟩
      have HY : Hid (partX li (m + 1 + 3 * k) (nmC k) = (nm, y0, y1, y2)) := Lib.hid (by rw [hnm, hy0, hy1, hy2, hM]; rfl)
      have HC1 : Hid (∀ W v, StrX W s li (M + 0) → RecR TS W (s + 1) v [(⟨#[112, 48, 52, 48, 50]⟩ : ByteArray), (⟨#[112, 48, 52, 48, 50]⟩ : ByteArray), (⟨#[112, 48, 54, 48, 51]⟩ : ByteArray)] → Calls Tryz.prog 34 #[.pointer (some ⟨s, 0, none⟩), v] W fun e w' => e = .returned (.string y0) ∧ StrX w' s li (M + 0 + 1) ∧ W.grownBy w' (some s)) := Lib.hid fun W v hS hr => by
        rw [hy0]
        exact Some_x s _ li _ v W hS (by omega) hr (by simp) (by simp)
      have HC2 : Hid (∀ W v, StrX W s li (M + 1) → Ints W (s + 1) v [(1 : Int), (2 : Int), (3 : Int), (4 : Int), (5 : Int), (6 : Int)] → Calls Tryz.prog 35 #[.pointer (some ⟨s, 0, none⟩), v] W fun e w' => e = .returned (.int .i64 y1) ∧ StrX w' s li (M + 1 + 1) ∧ W.grownBy w' (some s)) := Lib.hid fun W v hS hr => by
        rw [hy1]
        exact Pick_x s _ li _ v W hS (by omega) hr (by simp) (by simp)
      have HC3 : Hid (∀ W v, StrX W s li (M + 2) → Ints W (s + 1) v [(0 : Int), (28800000 : Int), (172800000 : Int)] → Calls Tryz.prog 35 #[.pointer (some ⟨s, 0, none⟩), v] W fun e w' => e = .returned (.int .i64 y2) ∧ StrX w' s li (M + 2 + 1) ∧ W.grownBy w' (some s)) := Lib.hid fun W v hS hr => by
        rw [hy2]
        exact Pick_x s _ li _ v W hS (by omega) hr (by simp) (by simp)
      have HCV : Hid (∀ W : World, CatBx W R vp (.slice none 0 0) → W.cell? ⟨w.heap.size + 1, 0, none⟩ = some vp) := Lib.hid fun W hW => by rw [HWR.out.1]; exact blk_cell hW.c 0
      have hc00 : wr.cell? ⟨w.heap.size + 1 + 1, k, none⟩ = some (.string nm) := by rw [HWR.out.2.2]; exact cn
      have HLL : Hid (ps.length ≤ 1000000) := Lib.hid (by rw [HL.out]; omega)
      clear cn hnm hM hy0 hy1 hy2
      go_wp2_with fail
      clear hc00
      have HKP : Hid (∀ (listed : Array Bool) (i : Nat) (W : World), listed.size = 17 → i < 17 → i ∉ ([5, 8, 11] : List Nat) → BX (fun _ _ _ W => CatBx W R vp (.slice none 0 0) ∧ OwnR TPt W (R + 3) vp ps) w s (wr.heap.size) li M (listed.getD 5 false) (listed.getD 8 false) (listed.getD 11 false) false false false W → BX (fun _ _ _ W => CatBx W R vp (.slice none 0 0) ∧ OwnR TPt W (R + 3) vp ps) w s (wr.heap.size) li M ((listed.setIfInBounds i true).getD 5 false) ((listed.setIfInBounds i true).getD 8 false) ((listed.setIfInBounds i true).getD 11 false) false false false W) := Lib.hid fun listed i W hs hi hn h => by
        rw [gd_out hs hi (fun e => hn (by rw [← e]; decide)), gd_out hs hi (fun e => hn (by rw [← e]; decide)), gd_out hs hi (fun e => hn (by rw [← e]; decide))]
        exact h
      refine wp_region_px (by kernel_rfl) [22, 23, 24, 25, 26, 27, 28, 29, 30, 31, 32, 33, 34, 35, 36, 37] (fun ii => ([some (.pointer (some ⟨w.heap.size + 1, 0, none⟩)), some (vp), some (.string nm), some (.pointer (some ⟨s, 0, none⟩)), none, none, some (.pointer (some ⟨s, 0, none⟩)), none, none, some (.pointer (some ⟨s, 0, none⟩)), none, none, none, none, none, some (.pointer (some ⟨w.heap.size + 1, 0, none⟩)), none] : List (Option Value)).getD ii none) 14 16 36 (fun (listed : Array Bool) (W : World) => BX (fun _ _ _ W => CatBx W R vp (.slice none 0 0) ∧ OwnR TPt W (R + 3) vp ps) w s (wr.heap.size) li M (listed.getD 5 false) (listed.getD 8 false) (listed.getD 11 false) false false false W) (RR (wr.heap.size)) (fun W => Hid (∃ v : Value, StrX W s li (M + 3) ∧ CatBx W R v (.slice none 0 0) ∧ OwnR TPt W (R + 3) v (ps ++ [(nm, y0, y1, y2)]) ∧ w.grownBy W (some s) ∧ R + 3 ≤ W.heap.size)) (fun v W => StrX W s li (M + 3) ∧ CatBx W R vp (.slice none 0 0) ∧ OwnR TPt W (R + 3) v (ps ++ [(nm, y0, y1, y2)]) ∧ w.grownBy W (some s) ∧ R + 3 ≤ W.heap.size) (fun i => [VE (.pointer (some ⟨w.heap.size + 1, 0, none⟩)), VE (vp), VE (.string nm), VE (.pointer (some ⟨s, 0, none⟩)), VLSx (wr.heap.size) [(⟨#[112, 48, 52, 48, 50]⟩ : ByteArray), (⟨#[112, 48, 52, 48, 50]⟩ : ByteArray), (⟨#[112, 48, 54, 48, 51]⟩ : ByteArray)], VE (.string y0), VE (.pointer (some ⟨s, 0, none⟩)), VLIx (wr.heap.size) [(1 : Int), (2 : Int), (3 : Int), (4 : Int), (5 : Int), (6 : Int)], VE (.int .i64 y1), VE (.pointer (some ⟨s, 0, none⟩)), VLIx (wr.heap.size) [(0 : Int), (28800000 : Int), (172800000 : Int)], VE (.int .i64 y2), VE (.agg #[.string nm, .string y0, .int .i64 y1, .int .i64 y2]), VLRx (wr.heap.size) (nm, y0, y1, y2), VT, VE (.pointer (some ⟨w.heap.size + 1, 0, none⟩)), VT].getD i VT) (by kernel_rfl) (by kernel_rfl) (by rfl) ⟨rfl, rfl⟩ (by decide) (by decide) rfl rfl
        (fun l hcl h => hcl.no h 16 ⟨14, .data⟩ rfl rfl (by simp) rfl) ?_ (fun o ho => by obtain rfl := Option.some.inj ho; exact ⟨⟨14, .data⟩, by simp, rfl, rfl⟩) ?_ ?_ ?_ ?_ ?_ ?_ ?_ ?_
      · intro i l hi hci him hcl hl0
        have hi' : i = 0 ∨ i = 1 ∨ i = 2 ∨ i = 3 ∨ i = 4 ∨ i = 5 ∨ i = 6 ∨ i = 7 ∨ i = 8 ∨ i = 9 ∨ i = 10 ∨ i = 11 ∨ i = 12 ∨ i = 13 ∨ i = 14 ∨ i = 15 ∨ i = 16 := by
          have : i < 17 := hi
          omega
        rcases hi' with rfl | rfl | rfl | rfl | rfl | rfl | rfl | rfl | rfl | rfl | rfl | rfl | rfl | rfl | rfl | rfl | rfl
        · cases hci
        · cases hci
        · cases hci
        · cases hci
        · exact (hcl.no (hcl.no (hcl.no (hcl.no hl0 5 ⟨4, .data⟩ rfl rfl (by simp) rfl) 8 ⟨5, .chain⟩ rfl rfl (by simp) rfl) 11 ⟨8, .chain⟩ rfl rfl (by simp) rfl) 14 ⟨11, .chain⟩ rfl rfl (by simp) rfl)
        · exact (hcl.no (hcl.no (hcl.no hl0 8 ⟨5, .chain⟩ rfl rfl (by simp) rfl) 11 ⟨8, .chain⟩ rfl rfl (by simp) rfl) 14 ⟨11, .chain⟩ rfl rfl (by simp) rfl)
        · cases hci
        · exact (hcl.no (hcl.no (hcl.no hl0 8 ⟨7, .data⟩ rfl rfl (by simp) rfl) 11 ⟨8, .chain⟩ rfl rfl (by simp) rfl) 14 ⟨11, .chain⟩ rfl rfl (by simp) rfl)
        · exact (hcl.no (hcl.no hl0 11 ⟨8, .chain⟩ rfl rfl (by simp) rfl) 14 ⟨11, .chain⟩ rfl rfl (by simp) rfl)
        · cases hci
        · exact (hcl.no (hcl.no hl0 11 ⟨10, .data⟩ rfl rfl (by simp) rfl) 14 ⟨11, .chain⟩ rfl rfl (by simp) rfl)
        · exact (hcl.no hl0 14 ⟨11, .chain⟩ rfl rfl (by simp) rfl)
        · exact (hcl.no (hcl.no hl0 13 ⟨12, .data⟩ rfl rfl (by simp) rfl) 14 ⟨13, .data⟩ rfl rfl (by simp) rfl)
        · exact (hcl.no hl0 14 ⟨13, .data⟩ rfl rfl (by simp) rfl)
        · exact hl0
        · cases hci
        · exact absurd rfl him
      · intro listed i v W hs hc hP
        have n5 : 5 ≠ i := fun e => by rw [← e] at hc; cases hc
        have n8 : 8 ≠ i := fun e => by rw [← e] at hc; cases hc
        have n11 : 11 ≠ i := fun e => by rw [← e] at hc; cases hc
        replace hP : BX (fun _ _ _ W => CatBx W R vp (.slice none 0 0) ∧ OwnR TPt W (R + 3) vp ps) w s (wr.heap.size) li M (listed.getD 5 false) (listed.getD 8 false) (listed.getD 11 false) false false false W := hP
        show BX (fun _ _ _ W => CatBx W R vp (.slice none 0 0) ∧ OwnR TPt W (R + 3) vp ps) w s (wr.heap.size) li M ((listed.setIfInBounds i true).getD 5 false) ((listed.setIfInBounds i true).getD 8 false) ((listed.setIfInBounds i true).getD 11 false) false false false W
        rw [gd_out2 n5, gd_out2 n8, gd_out2 n11]
        exact hP
      · simp only [gd_start]
        exact ⟨by simpa using hS.drew, ⟨HX.out.low (Below.drew (Below.refl _ _)), HP.out.below (Below.drew (Below.refl _ _))⟩, Nat.le_refl _, ⟨HG.out.os, HG.out.tape, HG.out.output, HG.out.size, HG.out.block⟩⟩
      · intro listed W W' i v hB hR hV
        exact match i, hV with
          | 0, h => h
          | 1, h => h
          | 2, h => h
          | 3, h => h
          | 4, h => VLSx.stab h hR
          | 5, h => h
          | 6, h => h
          | 7, h => VLIx.stab h hR
          | 8, h => h
          | 9, h => h
          | 10, h => VLIx.stab h hR
          | 11, h => h
          | 12, h => h
          | 13, h => VLRx.stab h hR
          | 14, h => h
          | 15, h => h
          | 16, h => h
          | (_ + 17), _ => trivial
      · intro listed f i o v W ho hc hdl hPre hcl hli hV
        match i, ho, hc with
        | 0, ho, hc =>
          obtain rfl := Option.some.inj hc
          refine ⟨by obtain rfl := Option.some.inj ho; rfl, ?_⟩
          · intro q hq
            obtain rfl := Option.some.inj ho
            have e3 := hq.tmp 3
            simp at e3
            simp [execOp, e3, go_sem]
        | 1, ho, hc =>
          obtain rfl := Option.some.inj hc
          have hB : BX (fun _ _ _ W => CatBx W R vp (.slice none 0 0) ∧ OwnR TPt W (R + 3) vp ps) w s (wr.heap.size) li M (listed.getD 5 false) (listed.getD 8 false) (listed.getD 11 false) false false false W := hPre (hcl.no hli 14 ⟨1, .data⟩ rfl rfl (by simp) rfl)
          have y9 := HCV.out W hB.own.1
          have d22 : f 22 = .pointer (some ⟨w.heap.size + 1, 0, none⟩) := hV 0 _ (by decide) (hdl ⟨0, .data⟩ (by obtain rfl := Option.some.inj ho; simp) rfl) rfl
          refine ⟨by obtain rfl := Option.some.inj ho; rfl, ?_⟩
          · intro q hq
            obtain rfl := Option.some.inj ho
            have e22 := hq.tmp 22
            simp at e22
            simp [execOp, e22, d22, go_sem, y9]
        | 2, ho, hc =>
          obtain rfl := Option.some.inj hc
          refine ⟨by obtain rfl := Option.some.inj ho; rfl, ?_⟩
          · intro q hq
            obtain rfl := Option.some.inj ho
            have e6 := hq.tmp 6
            simp at e6
            simp [execOp, e6, go_sem]
        | 3, ho, hc =>
          obtain rfl := Option.some.inj hc
          refine ⟨by obtain rfl := Option.some.inj ho; rfl, ?_⟩
          · intro q hq
            obtain rfl := Option.some.inj ho
            have e0 := hq.tmp 0
            simp at e0
            simp [execOp, e0, go_sem]
        | 4, ho, hc => cases hc
        | 5, ho, hc => cases hc
        | 6, ho, hc =>
          obtain rfl := Option.some.inj hc
          refine ⟨by obtain rfl := Option.some.inj ho; rfl, ?_⟩
          · intro q hq
            obtain rfl := Option.some.inj ho
            have e0 := hq.tmp 0
            simp at e0
            simp [execOp, e0, go_sem]
        | 7, ho, hc => cases hc
        | 8, ho, hc => cases hc
        | 9, ho, hc =>
          obtain rfl := Option.some.inj hc
          refine ⟨by obtain rfl := Option.some.inj ho; rfl, ?_⟩
          · intro q hq
            obtain rfl := Option.some.inj ho
            have e0 := hq.tmp 0
            simp at e0
            simp [execOp, e0, go_sem]
        | 10, ho, hc => cases hc
        | 11, ho, hc => cases hc
        | 12, ho, hc => cases hc
        | 13, ho, hc => cases hc
        | 14, ho, hc => cases hc
        | 15, ho, hc =>
          obtain rfl := Option.some.inj hc
          refine ⟨by obtain rfl := Option.some.inj ho; rfl, ?_⟩
          · intro q hq
            obtain rfl := Option.some.inj ho
            have e3 := hq.tmp 3
            simp at e3
            simp [execOp, e3, go_sem]
        | 16, ho, hc => cases hc
        | (_ + 17), ho, hc => exact absurd hc (by simp)
      · intro listed f i o W ho hc hna hnm' hs hli hcl hdl hB hV hVV
        replace hs : listed.size = 17 := hs
        replace hB : BX (fun _ _ _ W => CatBx W R vp (.slice none 0 0) ∧ OwnR TPt W (R + 3) vp ps) w s (wr.heap.size) li M (listed.getD 5 false) (listed.getD 8 false) (listed.getD 11 false) false false false W := hB
        have hi' : i = 0 ∨ i = 1 ∨ i = 2 ∨ i = 3 ∨ i = 4 ∨ i = 5 ∨ i = 6 ∨ i = 7 ∨ i = 8 ∨ i = 9 ∨ i = 10 ∨ i = 11 ∨ i = 12 ∨ i = 13 ∨ i = 14 ∨ i = 15 ∨ i = 16 := by
          have : i < 17 := (Array.getElem?_eq_some_iff.1 ho).1
          omega
        rcases hi' with rfl | rfl | rfl | rfl | rfl | rfl | rfl | rfl | rfl | rfl | rfl | rfl | rfl | rfl | rfl | rfl | rfl
        · cases hc
        · cases hc
        · cases hc
        · cases hc
        · refine iv_val ho (by obtain rfl := Option.some.inj ho; rfl) (.slice (some ⟨W.heap.size, 0, none⟩) 3 3) (W.alloc (.cells #[.string (⟨#[112, 48, 52, 48, 50]⟩ : ByteArray), .string (⟨#[112, 48, 52, 48, 50]⟩ : ByteArray), .string (⟨#[112, 48, 54, 48, 51]⟩ : ByteArray)] 9)) ?_ (HKP.out listed 4 _ hs (by decide) (by decide) (hB.below hK (Bl.alloc (Below.refl _ _) _))) (RR.of_below (Bl.alloc (Below.refl _ _) _)) ⟨⟨_, rfl⟩, RecR.of_blk (T := TS) (blk_new _ _) rfl rfl (by simp) (by omega) hB.size⟩
          · intro q hq
            obtain rfl := Option.some.inj ho
            simp [execOp, hq.const, go_sem]
        · have d25 : f 25 = .pointer (some ⟨s, 0, none⟩) := hV 3 _ (by decide) (hdl ⟨3, .data⟩ (by obtain rfl := Option.some.inj ho; simp) rfl) rfl
          obtain ⟨⟨bi, d26⟩, hri⟩ : VLSx (wr.heap.size) [(⟨#[112, 48, 52, 48, 50]⟩ : ByteArray), (⟨#[112, 48, 52, 48, 50]⟩ : ByteArray), (⟨#[112, 48, 54, 48, 51]⟩ : ByteArray)] (f 26) W := hVV 4 (by decide) (hdl ⟨4, .data⟩ (by obtain rfl := Option.some.inj ho; simp) rfl) rfl (by decide) (by decide)
          have l1 : listed.getD 8 false = false := (hcl.no hli 8 ⟨5, .chain⟩ rfl rfl (by simp) rfl)
          have l2 : listed.getD 11 false = false := (hcl.no (hcl.no hli 8 ⟨5, .chain⟩ rfl rfl (by simp) rfl) 11 ⟨8, .chain⟩ rfl rfl (by simp) rfl)
          rw [hli, l1, l2] at hB
          have hS : StrX W s li (M + 0) := by simpa using hB.str
          refine iv_call ho (by obtain rfl := Option.some.inj ho; rfl) 34 #[.tmp 25, .tmp 26] _ (by obtain rfl := Option.some.inj ho; rfl) (enters_of Tryz.func34 (by kernel_rfl) rfl) #[.pointer (some ⟨s, 0, none⟩), f 26] (by intro q hq; have e25 := hq.tmp 25; simp at e25; have e26 := hq.tmp 26; simp at e26; simp [e25, e26, d25]) _ (HC1.out W (f 26) hS (Rd.mono hri (by omega))) ?_
          rintro e W' ⟨rfl, hs', hg'⟩
          have hN : BX (fun _ _ _ W => CatBx W R vp (.slice none 0 0) ∧ OwnR TPt W (R + 3) vp ps) w s (wr.heap.size) li M true false false false false false W' := hB.call hK (by simpa using hs') hg'
          refine ⟨_, rfl, ?_, RR.of_gr hg' (by omega), rfl⟩
          show BX (fun _ _ _ W => CatBx W R vp (.slice none 0 0) ∧ OwnR TPt W (R + 3) vp ps) w s (wr.heap.size) li M ((listed.setIfInBounds 5 true).getD 5 false) ((listed.setIfInBounds 5 true).getD 8 false) ((listed.setIfInBounds 5 true).getD 11 false) false false false W'
          rw [gd_in hs (by decide), gd_out hs (by decide) (by decide), l1, gd_out hs (by decide) (by decide), l2]
          exact hN
        · cases hc
        · refine iv_val ho (by obtain rfl := Option.some.inj ho; rfl) (.slice (some ⟨W.heap.size, 0, none⟩) 6 6) (W.alloc (.cells #[.int .i64 (1 : Int), .int .i64 (2 : Int), .int .i64 (3 : Int), .int .i64 (4 : Int), .int .i64 (5 : Int), .int .i64 (6 : Int)] 3)) ?_ (HKP.out listed 7 _ hs (by decide) (by decide) (hB.below hK (Bl.alloc (Below.refl _ _) _))) (RR.of_below (Bl.alloc (Below.refl _ _) _)) ⟨⟨_, rfl⟩, Ints.of_blk (blk_new _ _) rfl rfl (by simp) (by omega) hB.size⟩
          · intro q hq
            obtain rfl := Option.some.inj ho
            simp [execOp, hq.const, go_sem]
        · have d28 : f 28 = .pointer (some ⟨s, 0, none⟩) := hV 6 _ (by decide) (hdl ⟨6, .data⟩ (by obtain rfl := Option.some.inj ho; simp) rfl) rfl
          obtain ⟨⟨bi, d29⟩, hri⟩ : VLIx (wr.heap.size) [(1 : Int), (2 : Int), (3 : Int), (4 : Int), (5 : Int), (6 : Int)] (f 29) W := hVV 7 (by decide) (hdl ⟨7, .data⟩ (by obtain rfl := Option.some.inj ho; simp) rfl) rfl (by decide) (by decide)
          have l0 : listed.getD 5 false = true := hdl ⟨5, .chain⟩ (by obtain rfl := Option.some.inj ho; simp) rfl
          have l2 : listed.getD 11 false = false := (hcl.no hli 11 ⟨8, .chain⟩ rfl rfl (by simp) rfl)
          rw [l0, hli, l2] at hB
          have hS : StrX W s li (M + 1) := by simpa using hB.str
          refine iv_call ho (by obtain rfl := Option.some.inj ho; rfl) 35 #[.tmp 28, .tmp 29] _ (by obtain rfl := Option.some.inj ho; rfl) (enters_of Tryz.func35 (by kernel_rfl) rfl) #[.pointer (some ⟨s, 0, none⟩), f 29] (by intro q hq; have e28 := hq.tmp 28; simp at e28; have e29 := hq.tmp 29; simp at e29; simp [e28, e29, d28]) _ (HC2.out W (f 29) hS (Rd.mono hri (by omega))) ?_
          rintro e W' ⟨rfl, hs', hg'⟩
          have hN : BX (fun _ _ _ W => CatBx W R vp (.slice none 0 0) ∧ OwnR TPt W (R + 3) vp ps) w s (wr.heap.size) li M true true false false false false W' := hB.call hK (by simpa using hs') hg'
          refine ⟨_, rfl, ?_, RR.of_gr hg' (by omega), rfl⟩
          show BX (fun _ _ _ W => CatBx W R vp (.slice none 0 0) ∧ OwnR TPt W (R + 3) vp ps) w s (wr.heap.size) li M ((listed.setIfInBounds 8 true).getD 5 false) ((listed.setIfInBounds 8 true).getD 8 false) ((listed.setIfInBounds 8 true).getD 11 false) false false false W'
          rw [gd_out hs (by decide) (by decide), l0, gd_in hs (by decide), gd_out hs (by decide) (by decide), l2]
          exact hN
        · cases hc
        · refine iv_val ho (by obtain rfl := Option.some.inj ho; rfl) (.slice (some ⟨W.heap.size, 0, none⟩) 3 3) (W.alloc (.cells #[.int .i64 (0 : Int), .int .i64 (28800000 : Int), .int .i64 (172800000 : Int)] 3)) ?_ (HKP.out listed 10 _ hs (by decide) (by decide) (hB.below hK (Bl.alloc (Below.refl _ _) _))) (RR.of_below (Bl.alloc (Below.refl _ _) _)) ⟨⟨_, rfl⟩, Ints.of_blk (blk_new _ _) rfl rfl (by simp) (by omega) hB.size⟩
          · intro q hq
            obtain rfl := Option.some.inj ho
            simp [execOp, hq.const, go_sem]
        · have d31 : f 31 = .pointer (some ⟨s, 0, none⟩) := hV 9 _ (by decide) (hdl ⟨9, .data⟩ (by obtain rfl := Option.some.inj ho; simp) rfl) rfl
          obtain ⟨⟨bi, d32⟩, hri⟩ : VLIx (wr.heap.size) [(0 : Int), (28800000 : Int), (172800000 : Int)] (f 32) W := hVV 10 (by decide) (hdl ⟨10, .data⟩ (by obtain rfl := Option.some.inj ho; simp) rfl) rfl (by decide) (by decide)
          have l1 : listed.getD 8 false = true := hdl ⟨8, .chain⟩ (by obtain rfl := Option.some.inj ho; simp) rfl
          have l0 : listed.getD 5 false = true := hcl 8 _ rfl l1 ⟨5, .chain⟩ (by simp) rfl
          rw [l0, l1, hli] at hB
          have hS : StrX W s li (M + 2) := by simpa using hB.str
          refine iv_call ho (by obtain rfl := Option.some.inj ho; rfl) 35 #[.tmp 31, .tmp 32] _ (by obtain rfl := Option.some.inj ho; rfl) (enters_of Tryz.func35 (by kernel_rfl) rfl) #[.pointer (some ⟨s, 0, none⟩), f 32] (by intro q hq; have e31 := hq.tmp 31; simp at e31; have e32 := hq.tmp 32; simp at e32; simp [e31, e32, d31]) _ (HC3.out W (f 32) hS (Rd.mono hri (by omega))) ?_
          rintro e W' ⟨rfl, hs', hg'⟩
          have hN : BX (fun _ _ _ W => CatBx W R vp (.slice none 0 0) ∧ OwnR TPt W (R + 3) vp ps) w s (wr.heap.size) li M true true true false false false W' := hB.call hK (by simpa using hs') hg'
          refine ⟨_, rfl, ?_, RR.of_gr hg' (by omega), rfl⟩
          show BX (fun _ _ _ W => CatBx W R vp (.slice none 0 0) ∧ OwnR TPt W (R + 3) vp ps) w s (wr.heap.size) li M ((listed.setIfInBounds 11 true).getD 5 false) ((listed.setIfInBounds 11 true).getD 8 false) ((listed.setIfInBounds 11 true).getD 11 false) false false false W'
          rw [gd_out hs (by decide) (by decide), l0, gd_out hs (by decide) (by decide), l1, gd_in hs (by decide)]
          exact hN
        · have d24 : f 24 = .string nm := hV 2 _ (by decide) (hdl ⟨2, .data⟩ (by obtain rfl := Option.some.inj ho; simp) rfl) rfl
          have d27 : f 27 = .string y0 := hVV 5 (by decide) (hdl ⟨5, .data⟩ (by obtain rfl := Option.some.inj ho; simp) rfl) rfl (by decide) (by decide)
          have d30 : f 30 = .int .i64 y1 := hVV 8 (by decide) (hdl ⟨8, .data⟩ (by obtain rfl := Option.some.inj ho; simp) rfl) rfl (by decide) (by decide)
          have d33 : f 33 = .int .i64 y2 := hVV 11 (by decide) (hdl ⟨11, .data⟩ (by obtain rfl := Option.some.inj ho; simp) rfl) rfl (by decide) (by decide)
          refine iv_val ho (by obtain rfl := Option.some.inj ho; rfl) (.agg #[.string nm, .string y0, .int .i64 y1, .int .i64 y2]) W ?_ (HKP.out listed 12 _ hs (by decide) (by decide) hB) (RR.refl _ _) rfl
          · intro q hq
            obtain rfl := Option.some.inj ho
            have e24 := hq.tmp 24
            have e27 := hq.tmp 27
            have e30 := hq.tmp 30
            have e33 := hq.tmp 33
            simp at e24 e27 e30 e33
            simp [execOp, e24, e27, e30, e33, d24, d27, d30, d33, go_sem]
        · have d34 : f 34 = .agg #[.string nm, .string y0, .int .i64 y1, .int .i64 y2] := hVV 12 (by decide) (hdl ⟨12, .data⟩ (by obtain rfl := Option.some.inj ho; simp) rfl) rfl (by decide) (by decide)
          refine iv_val ho (by obtain rfl := Option.some.inj ho; rfl) (.slice (some ⟨W.heap.size, 0, none⟩) 1 1) (W.alloc (.cells #[.string nm, .string y0, .int .i64 y1, .int .i64 y2] 66)) ?_ (HKP.out listed 13 _ hs (by decide) (by decide) (hB.below hK (Bl.alloc (Below.refl _ _) _))) (RR.of_below (Bl.alloc (Below.refl _ _) _)) ⟨_, rfl, blk_new _ _, hB.size⟩
          · intro q hq
            obtain rfl := Option.some.inj ho
            have e34 := hq.tmp 34
            simp at e34
            simp [execOp, e34, d34, go_sem]
        · exact absurd rfl hna
        · cases hc
        · exact absurd rfl hnm'
      · intro listed f o W ho hli hcl hdl hB hV hVV
        replace hB : BX (fun _ _ _ W => CatBx W R vp (.slice none 0 0) ∧ OwnR TPt W (R + 3) vp ps) w s (wr.heap.size) li M (listed.getD 5 false) (listed.getD 8 false) (listed.getD 11 false) false false false W := hB
        have l13 : listed.getD 13 false = true := hdl ⟨13, .data⟩ (by obtain rfl := Option.some.inj ho; simp) rfl
        have l12 : listed.getD 12 false = true := hcl 13 _ rfl l13 ⟨12, .data⟩ (by simp) rfl
        have c5 : listed.getD 5 false = true := hcl 12 _ rfl l12 ⟨5, .data⟩ (by simp) rfl
        have c8 : listed.getD 8 false = true := hcl 12 _ rfl l12 ⟨8, .data⟩ (by simp) rfl
        have c11 : listed.getD 11 false = true := hcl 12 _ rfl l12 ⟨11, .data⟩ (by simp) rfl
        rw [c5, c8, c11] at hB
        have hSW : StrX W s li (M + 3) := by simpa using hB.str
        have d23 : f 23 = vp := hV 1 _ (by decide) (hdl ⟨1, .data⟩ (by obtain rfl := Option.some.inj ho; simp) rfl) rfl
        obtain ⟨gr, d35, hgr, hbr⟩ : VLRx (wr.heap.size) (nm, y0, y1, y2) (f 35) W := hVV 13 (by decide) (hdl ⟨13, .data⟩ (by obtain rfl := Option.some.inj ho; simp) rfl) rfl (by decide) (by decide)
        obtain rfl := Option.some.inj ho
        refine ⟨rfl, fun K hK => ?_⟩
        obtain ⟨hXW, hOW⟩ := hB.own
        have hzW : R + 3 ≤ W.heap.size := Nat.le_trans hzr hB.size
        obtain ⟨v', w', hr, h2, h3, h4⟩ := hOW.app TPt.ok 26 gr 1 (nm, y0, y1, y2) hgr rfl HLL.out hzW
        refine oper_append (.tmp 23) (.tmp 35) 26 rfl vp (.slice (some ⟨gr, 0, none⟩) 1 1) v' (by rw [← d23]; simp [putsA_eval]) (by rw [← d35]; simp [putsA_eval]) hr (hK v' w' ?_)
        have hBw : Below (R + 3) W w' := app_belowR hOW h3 hzW
        exact ⟨hSW.belowB hBw (by omega), hXW.row hOW (Nat.le_refl _) h3, h2, Gr.appR hB.gr hOW h3 (by have := HW0.out; omega), Nat.le_trans hzW hBw.size⟩
      · intro listed f o W ho hdl hMid hV
        have d37 : f 37 = .pointer (some ⟨w.heap.size + 1, 0, none⟩) := hV 15 _ (by decide) (hdl ⟨15, .data⟩ (by obtain rfl := Option.some.inj ho; simp) rfl) rfl
        obtain rfl := Option.some.inj ho
        obtain ⟨hSx, hXW, hOx, hGx, hzx⟩ := hMid
        have y9 : W.cell? ⟨w.heap.size + 1, 0, none⟩ = some vp := by rw [HWR.out.1]; exact blk_cell hXW.c 0
        have g9 : W.frozen? ⟨w.heap.size + 1, 0, none⟩ = false := by rw [HWR.out.1]; exact blk_free hXW.c 0
        refine ⟨rfl, W.setCell ⟨w.heap.size + 1, 0, none⟩ (f 36), fun q hq => ?_, Lib.hid ?_⟩
        · have e37 := hq.tmp 37
          have e36 := hq.tmp 36
          simp at e37 e36
          obtain ⟨na, nc, hfv, _, _⟩ := hOx.form
          simp [execOp, e37, e36, d37, hfv, go_sem, y9, g9]
        · have hOC := blk_set hXW.c 0 (f 36)
          refine ⟨f 36, ?_, ?_, ?_, Gr.set hGx (w.heap.size + 1) 0 (.inr (by omega)) _, ?_⟩
          · rw [HWR.out.1]; exact hSx.far (R + 1) 0 (by omega) _
          · rw [HWR.out.1]; exact ⟨blk_far hXW.r (R + 1) 0 _ (by omega), by simpa using hOC, blk_far hXW.n (R + 1) 0 _ (by omega)⟩
          · rw [HWR.out.1]; exact hOx.far (by omega) 0 _
          · simpa using hzx
      intro f w5 hP5 hV
      clear hV
      unfold putsA
      simp only [List.mapIdx_toArray, List.mapIdx_cons, List.mapIdx_nil, List.contains_cons]
      simp
      obtain ⟨v5, hS5, hX5, hO5, hG5, hz5⟩ := hP5.out
      have HF := Lib.hid (And.intro hX5 (And.intro hO5 (And.intro (show StrX w5 s li (m + 1 + 3 * (k + 1)) by have := hS5; rw [HMM.out] at this; exact this) hG5)))
      have HPN : Hid (ps ++ [(nm, y0, y1, y2)] = partsX li (m + 1) (k + 1)) := Lib.hid (by rw [partsX, HY.out, HPS.out])
      clear hS5 hX5 hO5 hG5 hK hS hP5
      go_wp2
      go_roundw
      case rel => exact ⟨k + 1, ps ++ [(nm, y0, y1, y2)], v5, by omega, by go_num, Lib.hid HF.out.1, Lib.hid HF.out.2.1, HPN, Lib.hid HF.out.2.2.1, Lib.hid HF.out.2.2.2, hz5⟩
      case measure => simp [intOf]; omega
    · obtain rfl : k = n := by omega
      have hl5 : ps.length ≤ 5 := by rw [HL.out]; omega
      obtain ⟨pa, pcap, hpv, _, _⟩ := HP.out.form
      obtain ⟨pn, hpn⟩ : ∃ pn, pn = ps.length := ⟨_, rfl⟩
      rw [← hpn] at hpv
      subst hpv
      have HPN := Lib.hid hpn
      rw [← hpn] at hl5
      clear hpn
      obtain ⟨wo, hwo⟩ : ∃ wo : World, wo = wr := ⟨_, rfl⟩
      rw [← hwo] at HX HP HS HG hzr ⊢
      obtain ⟨M0, hM0⟩ : ∃ M0, M0 = m + 1 + 3 * k := ⟨_, rfl⟩
      have HM0 := Lib.hid hM0
      have hM09 : M0 ≤ 800020 := by omega
      rw [← hM0] at HS
      clear hM0
      clear hwo
      go_wp2_with fail
      go_loopw [41] (fun i wr => ∃ (k2 : Nat) (l : List Alt) (va : Value) (M : Nat), k2 ≤ k ∧ i = .int .i64 k2 ∧ Hid (CatBx wr R (.slice pa pn pcap) va) ∧ Hid (OwnR TPt wr (R + 3) (.slice pa pn pcap) ps) ∧ Hid (OwnR TAl wr (R + 3) va l) ∧ Hid (altsX li k ([], M0) k2 = (l, M)) ∧ Hid (l.length ≤ 5 * k2 ∧ M ≤ 800020 + 10 * k2) ∧ Hid (StrX wr s li M) ∧ Hid (w.grownBy wr (some s)) ∧ R + 3 ≤ wr.heap.size) (fun i _ => k - (intOf i).toNat)
      case atStart => exact ⟨0, [], .slice none 0 0, M0, Nat.zero_le _, rfl, HX, HP, Lib.hid (OwnR.nil _ _), Lib.hid rfl, Lib.hid ⟨by simp, by omega⟩, HS, HG, hzr⟩
      case round =>
        obtain ⟨k2, l, va, M, hk2, rfl, HX2, HP2, HA2, HE2, HL2, HS2, HG2, hzr2⟩ := hrel
        by_cases hlt2 : k2 < k
        · have cn := nm_exact HX2.out k2 (by omega)
          obtain ⟨nx, hnx⟩ : ∃ q, q = nmC k2 := ⟨_, rfl⟩
          rw [← hnx] at cn
          have HNX := Lib.hid hnx
          have hwk : IntKind.i64.wrap ((k2 : Int) + 1) = ((k2 + 1 : Nat) : Int) := by rw [IntWalk.i64_in _ (by omega)]; omega
          have hc00 : wr.cell? ⟨w.heap.size + 1 + 1, k2, none⟩ = some (.string nx) := by rw [HWR.out.2.2]; exact cn
          obtain ⟨gx, hgx⟩ : ∃ gx, gx = wr.heap.size := ⟨_, rfl⟩
          obtain ⟨wx, hwx⟩ : ∃ wx, wx = wr.alloc (.cells #[.string nx] 9) := ⟨_, rfl⟩
          have hbx : Below wr.heap.size wr wx := by rw [hwx]; exact Bl.alloc (Below.refl _ _) _
          have hBx : wx.heap[gx]? = some (.cells #[.string nx] 9 (0, 0)) := by rw [hwx, hgx]; exact blk_new wr _
          have HBX := Lib.hid hBx
          have HX3 := Lib.hid (HX2.out.low hbx)
          have HP3 := Lib.hid (HP2.out.below hbx)
          have HA3 := Lib.hid (HA2.out.below hbx)
          have HS3 := Lib.hid (HS2.out.below hbx)
          have HG3 := Lib.hid (Gr.trans HG2.out (Gr.of_below hbx _))
          have HWX := Lib.hid hwx
          have HGX := Lib.hid hgx
          have hgxs : R + 3 ≤ gx := by rw [hgx]; exact hzr2
          have hzx : wx.heap.size = gx + 1 := by rw [hwx, hgx]; simp
          have hzx1 : R + 3 ≤ wx.heap.size := by omega
          have hzx2 : gx < wx.heap.size := by omega
          clear cn hnx hwx hbx hBx hgx hzx
          go_wp2_with fail
          rw [← HWX.out, ← HGX.out]
          clear hc00
          obtain ⟨l2, hl2⟩ : ∃ q, q = l := ⟨_, rfl⟩
          obtain ⟨M2, hM2⟩ : ∃ q, q = M := ⟨_, rfl⟩
          have HE3 : Hid (altsX li k ([], M0) k2 = (l2, M2)) := Lib.hid (by rw [hl2, hM2]; exact HE2.out)
          have HST : Hid (rowX li k2 (l2, M2) 0 = (l, M)) := Lib.hid (by rw [hl2, hM2]; rfl)
          clear hl2 hM2
          go_loopw [48] (fun i wr => ∃ (k3 : Nat) (l : List Alt) (va : Value) (M : Nat), k3 ≤ k ∧ i = .int .i64 k3 ∧ Hid (CatBx wr R (.slice pa pn pcap) va) ∧ Hid (wr.heap[gx]? = some (.cells #[.string nx] 9 (0, 0))) ∧ Hid (OwnR TPt wr (R + 3) (.slice pa pn pcap) ps) ∧ Hid (OwnR TAl wr (R + 3) va l) ∧ Hid (rowX li k2 (l2, M2) k3 = (l, M)) ∧ Hid (l.length ≤ 5 * k2 + k3 ∧ M ≤ 800020 + 10 * k2 + 2 * k3) ∧ Hid (StrX wr s li M) ∧ Hid (w.grownBy wr (some s)) ∧ R + 3 ≤ wr.heap.size ∧ gx < wr.heap.size) (fun i _ => k - (intOf i).toNat)
          case atStart => exact ⟨0, l, va, M, Nat.zero_le _, rfl, HX3, HBX, HP3, HA3, HST, Lib.hid (by have := HL2.out; omega), HS3, HG3, hzx1, hzx2⟩
          case round =>
            obtain ⟨k3, l, va, M, hk3, rfl, HX4, HBX4, HP4, HA4, HE4, HL4, HS4, HG4, hzr4, hgx4⟩ := hrel
            by_cases hlt3 : k3 < k
            · have cn := nm_exact HX4.out k3 (by omega)
              obtain ⟨ny, hny⟩ : ∃ q, q = nmC k3 := ⟨_, rfl⟩
              rw [← hny] at cn
              have HNY := Lib.hid hny
              have hwk3 : IntKind.i64.wrap ((k3 : Int) + 1) = ((k3 + 1 : Nat) : Int) := by rw [IntWalk.i64_in _ (by omega)]; omega
              have hc00 : wr.cell? ⟨w.heap.size + 1 + 1, k3, none⟩ = some (.string ny) := by rw [HWR.out.2.2]; exact cn
              obtain ⟨gy, hgy⟩ : ∃ gy, gy = wr.heap.size := ⟨_, rfl⟩
              obtain ⟨wy, hwy⟩ : ∃ wy, wy = wr.alloc (.cells #[.string ny] 9) := ⟨_, rfl⟩
              have hby : Below wr.heap.size wr wy := by rw [hwy]; exact Bl.alloc (Below.refl _ _) _
              have HBY := Lib.hid (show wy.heap[gy]? = some (.cells #[.string ny] 9 (0, 0)) by rw [hwy, hgy]; exact blk_new wr _)
              have HBX5 := Lib.hid (blk_below HBX4.out hby)
              have HX5 := Lib.hid (HX4.out.low hby)
              have HP5 := Lib.hid (HP4.out.below hby)
              have HA5 := Lib.hid (HA4.out.below hby)
              have HS5 := Lib.hid (HS4.out.below hby)
              have HG5 := Lib.hid (Gr.trans HG4.out (Gr.of_below hby _))
              have HWY := Lib.hid hwy
              have HGY := Lib.hid hgy
              have hzy : wy.heap.size = gy + 1 := by rw [hwy, hgy]; simp
              have hgys : R + 3 ≤ gy := by rw [hgy]; exact hzr4
              have hyz : R + 3 ≤ wy.heap.size := by omega
              have hgxy : gx < gy := by rw [hgy]; exact hgx4
              have hyz2 : gy < wy.heap.size := by omega
              have ls5 := HS5.out.lt
              clear cn hny hwy hby hgy hzy
              by_cases hik : k2 = k3
              · have e1 : ((k2 : Int) == (k3 : Int)) = true := by simp [hik]
                have e2 : (k2 : Int) = (k3 : Int) := by omega
                have HF := Lib.hid (And.intro HL4.out hgx4)
                have HEN : Hid (rowX li k2 (l2, M2) (k3 + 1) = (l, M)) := Lib.hid (by rw [rowX, HE4.out]; exact altX_eq hik)
                have HYZ : Hid (gx < wy.heap.size) := Lib.hid (by omega)
                go_wp2_with fail
                rw [← HWY.out]
                clear hc00
                go_roundw
                case rel => exact ⟨k3 + 1, l, va, M, by omega, by go_num, HX5, HBX5, HP5, HA5, HEN, Lib.hid (by have := HF.out.1; omega), HS5, HG5, hyz, HYZ.out⟩
                case measure => simp [intOf]; omega
              · have e1 : ((k2 : Int) == (k3 : Int)) = false := by simp; omega
                have e2 : ¬ (k2 : Int) = (k3 : Int) := by omega
                have e3 : ¬ k2 = k3 := hik
                obtain ⟨fl, hfl⟩ : ∃ q, q = flX li M 3 := ⟨_, rfl⟩
                have HFL0 := Flip_x s M li 3 wy HS5.out (by have := HL4.out; omega) (by omega)
                rw [← hfl] at HFL0
                have HFL := Lib.hid HFL0
                have HFE := Lib.hid hfl
                clear HFL0 hfl
                go_wp2_with fail
                rw [← HWY.out, ← HGY.out]
                clear hc00
                refine HFL.out.mono ?_
                rintro e w6 ⟨rfl, hS6, hG6⟩
                have HX6 := Lib.hid (HX5.out.gr hsR hG6)
                have HBX6 := Lib.hid (Gr.blk hG6 HBX5.out (by omega))
                have HBY6 := Lib.hid (Gr.blk hG6 HBY.out (by omega))
                have HP6 := Lib.hid (HP5.out.grown hG6 (by omega))
                have HA6 := Lib.hid (HA5.out.grown hG6 (by omega))
                have HG6' := Lib.hid (Gr.trans HG5.out hG6)
                have HS6 := Lib.hid hS6
                have hz6 := hG6.size
                have h6a : R + 3 ≤ w6.heap.size := by omega
                have h6b : gx < w6.heap.size := by omega
                have h6c : gy < w6.heap.size := by omega
                clear hG6 hS6 HFL
                cases fl
                · have HEN : Hid (rowX li k2 (l2, M2) (k3 + 1) = (l, M + 1)) := Lib.hid (by rw [rowX, HE4.out]; exact altX_no e3 HFE.out.symm)
                  go_wp2
                  go_roundw
                  case rel => exact ⟨k3 + 1, l, va, M + 1, by omega, by go_num, HX6, HBX6, HP6, HA6, HEN, Lib.hid (by have := HL4.out; omega), HS6, HG6', h6a, h6b⟩
                  case measure => simp [intOf]; omega
                · obtain ⟨bo, hbo⟩ : ∃ q, q = flX li (M + 1) 3 := ⟨_, rfl⟩
                  have HFB0 := Flip_x s (M + 1) li 3 w6 HS6.out (by have := HL4.out; omega) (by omega)
                  rw [← hbo] at HFB0
                  have HFB := Lib.hid HFB0
                  have HBO := Lib.hid hbo
                  clear HFB0 hbo
                  go_wp2_with fail
                  refine HFB.out.mono ?_
                  rintro e w7 ⟨rfl, hS7, hG7⟩
                  obtain ⟨gb, hgb⟩ : ∃ gb, gb = w7.heap.size := ⟨_, rfl⟩
                  obtain ⟨w8, hw8⟩ : ∃ w8, w8 = w7.alloc (.cells #[.bool bo] 4) := ⟨_, rfl⟩
                  have hb8 : Below w7.heap.size w7 w8 := by rw [hw8]; exact Bl.alloc (Below.refl _ _) _
                  have HBB8 := Lib.hid (show w8.heap[gb]? = some (.cells #[.bool bo] 4 (0, 0)) by rw [hw8, hgb]; exact blk_new w7 _)
                  have HX8 := Lib.hid ((HX6.out.gr hsR hG7).low hb8)
                  have HBX8 := Lib.hid (blk_below (Gr.blk hG7 HBX6.out (by omega)) hb8)
                  have HBY8 := Lib.hid (blk_below (Gr.blk hG7 HBY6.out (by omega)) hb8)
                  have HP8 := Lib.hid ((HP6.out.grown hG7 (by omega)).below hb8)
                  have HA8 := Lib.hid ((HA6.out.grown hG7 (by omega)).below hb8)
                  have HG8 := Lib.hid (Gr.trans (Gr.trans HG6'.out hG7) (Gr.of_below hb8 _))
                  have HS8 := Lib.hid (hS7.below hb8)
                  have hz8 : w8.heap.size = gb + 1 := by rw [hw8, hgb]; simp
                  have hz78 : w6.heap.size ≤ gb := by rw [hgb]; exact hG7.size
                  obtain ⟨aa, acap, hav, _, _⟩ := HA8.out.form
                  obtain ⟨an, han⟩ : ∃ an, an = l.length := ⟨_, rfl⟩
                  rw [← han] at hav
                  subst hav
                  have hl8 : l.length ≤ 1000000 := by have := HL4.out; omega
                  have d0 : ∀ W, Below w8.heap.size w8 W → W.cell? ⟨w.heap.size + 1, 1, none⟩ = some (.slice aa an acap) := fun W hW => by rw [HWR.out.1]; exact blk_cell (HX8.out.low hW).c 1
                  have D0 := Lib.hid d0
                  have HCN := Lib.hid (ContAl_x l ny nx bo gy gx gb (.slice aa an acap) w8 hl8 HBY8.out HBX8.out HBB8.out (by rw [han]; rw [han] at HA8; exact HA8.out.rec0))
                  have HW8 := Lib.hid hw8
                  have HGB := Lib.hid hgb
                  have HZ8 := Lib.hid (And.intro hz8 hz78)
                  have HLA := Lib.hid hl8
                  have d1 : w7.cell? ⟨w.heap.size + 1, 1, none⟩ = some (.slice aa an acap) := by rw [HWR.out.1]; exact blk_cell (HX6.out.gr hsR hG7).c 1
                  have hw7l : w.heap.size + 1 < w7.heap.size := by have := HW0.out; omega
                  clear hG7 hS7 hw8 hgb hb8 hz8 hz78 han hl8 d0
                  go_wp2_with fail
                  rw [← HW8.out, ← HGB.out]
                  refine HCN.out.mono ?_
                  rintro e w9 ⟨rfl, hb9⟩
                  obtain ⟨q, hq⟩ : ∃ q, q = hasX l ny nx bo := ⟨_, rfl⟩
                  have HQ : Hid (hasX l (nmC k3) (nmC k2) (flX li (M + 1) 3) = q) := Lib.hid (by rw [hq, HNX.out, HNY.out, HBO.out])
                  rw [← hq]
                  clear hq
                  have HX9 := Lib.hid (HX8.out.low hb9)
                  have HBX9 := Lib.hid (blk_below HBX8.out hb9)
                  have HBY9 := Lib.hid (blk_below HBY8.out hb9)
                  have HBB9 := Lib.hid (blk_below HBB8.out hb9)
                  have HP9 := Lib.hid (HP8.out.below hb9)
                  have HA9 := Lib.hid (HA8.out.below hb9)
                  have HG9 := Lib.hid (Gr.trans HG8.out (Gr.of_below hb9 _))
                  have HS9 := Lib.hid (HS8.out.below hb9)
                  have hz9 := hb9.size
                  have h9a : R + 3 ≤ w9.heap.size := by have := HZ8.out; omega
                  have h9b : gx < w9.heap.size := by have := HZ8.out; omega
                  have d2 := D0.out w9 hb9
                  clear d1 hb9 HCN
                  cases q
                  case true =>
                    have HEN : Hid (rowX li k2 (l2, M2) (k3 + 1) = (l, M + 2)) := Lib.hid (by rw [rowX, HE4.out]; exact altX_has e3 HFE.out.symm HQ.out)
                    go_wp2
                    go_roundw
                    case rel => exact ⟨k3 + 1, l, _, M + 2, by omega, by go_num, HX9, HBX9, HP9, HA9, HEN, Lib.hid (by have := HL4.out; omega), HS9, HG9, h9a, h9b⟩
                    case measure => simp [intOf]; omega
                  case false =>
                    have d3 : w9.cell? ⟨gx, 0, none⟩ = some (.string nx) := blk_cell HBX9.out 0
                    have d4 : w9.cell? ⟨gy, 0, none⟩ = some (.string ny) := blk_cell HBY9.out 0
                    have d5 : w9.cell? ⟨gb, 0, none⟩ = some (.bool bo) := blk_cell HBB9.out 0
                    have hwR9 : w.heap.size + 1 < w9.heap.size := by have := HW0.out; omega
                    go_wp2_with (at_builtin; refine wp_app_r TAl.ok rfl _ _ rfl (R + 3) _ l rfl (HA9.out.alloc _) w9.heap.size 1 (nx, ny, bo) rfl (blk_new w9 _) rfl HLA.out (by simp; omega) ?_)
                    intro v9 w10 hO10 hg10 _
                    obtain ⟨na, nc, hv9, _, _⟩ := hO10.form
                    obtain ⟨nn, hnn⟩ : ∃ nn, nn = (l ++ [(nx, ny, bo)]).length := ⟨_, rfl⟩
                    rw [← hnn] at hv9
                    subst hv9
                    clear hnn
                    have hXA := (HX9.out.low (Bl.alloc (Below.refl w9.heap.size w9) (.cells #[.string nx, .string ny, .bool bo] 72))).row (HA9.out.alloc _) (Nat.le_refl _) hg10
                    have hPA := ownR_off (HP9.out.alloc (.cells #[.string nx, .string ny, .bool bo] 72)) (HA9.out.alloc (.cells #[.string nx, .string ny, .bool bo] 72)) (by decide) hg10
                    have hGA := Gr.appR (Gr.alloc HG9.out (.cells #[.string nx, .string ny, .bool bo] 72)) (HA9.out.alloc (.cells #[.string nx, .string ny, .bool bo] 72)) hg10 (by have := HW0.out; omega)
                    have hBA : Below (R + 3) w9 w10 := Below.trans (Below.mono (Bl.alloc (Below.refl w9.heap.size w9) (.cells #[.string nx, .string ny, .bool bo] 72)) h9a) (app_belowR (HA9.out.alloc (.cells #[.string nx, .string ny, .bool bo] 72)) hg10 (by simp; omega))
                    have hSA := HS9.out.belowB hBA (by omega)
                    have hBXA : w10.heap[gx]? = some (.cells #[.string nx] 9 (0, 0)) := blk_offR (blk_old HBX9.out (.cells #[.string nx, .string ny, .bool bo] 72)) (HA9.out.alloc (.cells #[.string nx, .string ny, .bool bo] 72)) (by decide) hg10
                    have hf' : w10.frozen? ⟨w.heap.size + 1, 1, none⟩ = false := by rw [HWR.out.1]; exact blk_free hXA.c 1
                    have hcl' : w10.cell? ⟨w.heap.size + 1, 1, none⟩ = some (.slice aa an acap) := by rw [HWR.out.1]; exact blk_cell hXA.c 1
                    have hOC := blk_set hXA.c 1 (.slice na nn nc)
                    have HXB : Hid (CatBx (w10.setCell ⟨w.heap.size + 1, 1, none⟩ (.slice na nn nc)) R (.slice pa pn pcap) (.slice na nn nc)) := Lib.hid (by
                      rw [HWR.out.1]
                      exact ⟨blk_far hXA.r (R + 1) 1 (.slice na nn nc) (by omega), by simpa using hOC, blk_far hXA.n (R + 1) 1 (.slice na nn nc) (by omega)⟩)
                    have HPB : Hid (OwnR TPt (w10.setCell ⟨w.heap.size + 1, 1, none⟩ (.slice na nn nc)) (R + 3) (.slice pa pn pcap) ps) := Lib.hid (by rw [HWR.out.1]; exact hPA.far (by omega) 1 (.slice na nn nc))
                    have HAB : Hid (OwnR TAl (w10.setCell ⟨w.heap.size + 1, 1, none⟩ (.slice na nn nc)) (R + 3) (.slice na nn nc) (l ++ [(nx, ny, bo)])) := Lib.hid (by rw [HWR.out.1]; exact hO10.far (by omega) 1 (.slice na nn nc))
                    have HSB : Hid (StrX (w10.setCell ⟨w.heap.size + 1, 1, none⟩ (.slice na nn nc)) s li (M + 2)) := Lib.hid (by rw [HWR.out.1]; exact hSA.far (R + 1) 1 (by omega) (.slice na nn nc))
                    have HEN : Hid (rowX li k2 (l2, M2) (k3 + 1) = (l ++ [(nx, ny, bo)], M + 2)) := Lib.hid (by rw [rowX, HE4.out, HNX.out, HNY.out, HBO.out]; exact altX_new e3 HFE.out.symm HQ.out)
                    have HGB2 : Hid (w.grownBy (w10.setCell ⟨w.heap.size + 1, 1, none⟩ (.slice na nn nc)) (some s)) := Lib.hid (Gr.set hGA (w.heap.size + 1) 1 (.inr (by omega)) (.slice na nn nc))
                    have HBXB : Hid ((w10.setCell ⟨w.heap.size + 1, 1, none⟩ (.slice na nn nc)).heap[gx]? = some (.cells #[.string nx] 9 (0, 0))) := Lib.hid (by rw [HWR.out.1]; exact blk_far hBXA (R + 1) 1 (.slice na nn nc) (by omega))
                    have HLB : Hid ((l ++ [(nx, ny, bo)]).length ≤ 5 * k2 + (k3 + 1) ∧ M + 2 ≤ 800020 + 10 * k2 + 2 * (k3 + 1)) := Lib.hid (by rw [List.length_append]; have := HL4.out; simp; omega)
                    have hz10 : w9.heap.size ≤ w10.heap.size := hBA.size
                    have HZ10 := Lib.hid (show R + 3 ≤ (w10.setCell ⟨w.heap.size + 1, 1, none⟩ (.slice na nn nc)).heap.size ∧ gx < (w10.setCell ⟨w.heap.size + 1, 1, none⟩ (.slice na nn nc)).heap.size from by simp; omega)
                    have hRw10 : w.heap.size + 1 < w10.heap.size := by omega
                    clear hXA hPA hGA hBA hSA hBXA hOC hO10 hg10 d2 d3 d4 d5
                    go_wp2
                    generalize w10.setCell ⟨w.heap.size + 1, 1, none⟩ (.slice na nn nc) = w11 at *
                    go_roundw
                    case rel => exact ⟨k3 + 1, _, _, M + 2, by omega, by go_num, HXB, HBXB, HPB, HAB, HEN, HLB, HSB, HGB2, HZ10.out.1, HZ10.out.2⟩
                    case measure => simp [intOf]; omega
            · obtain rfl : k3 = k := by omega
              have HEN : Hid (altsX li k3 ([], M0) (k2 + 1) = (l, M)) := Lib.hid (by rw [altsX, HE3.out]; exact HE4.out)
              go_wp2
              go_roundw
              case rel => exact ⟨k2 + 1, l, va, M, by omega, by go_num, HX4, HP4, HA4, HEN, Lib.hid (by have := HL4.out; omega), HS4, HG4, hzr4⟩
              case measure => simp [intOf]; omega
        · obtain rfl : k2 = k := by omega
          have hl25 : l.length ≤ 25 := by have := HL2.out; omega
          have HL25 := Lib.hid hl25
          obtain ⟨aa, acap, hav, _, _⟩ := HA2.out.form
          obtain ⟨an, han⟩ : ∃ an, an = l.length := ⟨_, rfl⟩
          rw [← han] at hav
          subst hav
          clear han hl25
          obtain ⟨fl, hfl⟩ : ∃ q, q = flX li M 10 := ⟨_, rfl⟩
          have HFL0 := Flip_x s M li 10 wr HS2.out (by have := HL2.out; omega) (by omega)
          rw [← hfl] at HFL0
          have HFL := Lib.hid HFL0
          have HFE := Lib.hid hfl
          have HEE : Hid (altsX li k2 ([], m + 1 + 3 * k2) k2 = (l, M)) := Lib.hid (by have := HE2.out; rw [HM0.out] at this; exact this)
          clear HFL0 hfl
          go_wp2_with fail
          refine HFL.out.mono ?_
          rintro e w5 ⟨rfl, hS5, hG5⟩
          have HX5 := Lib.hid (HX2.out.gr hsR hG5)
          have HP5 := Lib.hid (HP2.out.grown hG5 (by omega))
          have HA5 := Lib.hid (HA2.out.grown hG5 (by omega))
          have HS5 := Lib.hid hS5
          have HG5 := Lib.hid (Gr.trans HG2.out hG5)
          have hz5 := hG5.size
          clear hS5 hG5 HFL
          cases fl
          · have HCX : Hid (catX li m = (ps, l, M + 1)) := Lib.hid (by rw [HPS.out]; exact catX_no HNN.out HEE.out HFE.out.symm)
            have r0 : w5.cell? ⟨w.heap.size + 1, 0, none⟩ = some (.slice pa pn pcap) := by rw [HWR.out.1]; exact blk_cell HX5.out.c 0
            have r1 : w5.cell? ⟨w.heap.size + 1, 1, none⟩ = some (.slice aa an acap) := by rw [HWR.out.1]; exact blk_cell HX5.out.c 1
            have q0 : w5.cell? ⟨w.heap.size, 0, none⟩ = some (.slice none 0 0) := by rw [HW0.out]; exact blk_cell HX5.out.r 0
            have q1 : w5.cell? ⟨w.heap.size, 1, none⟩ = some (.slice none 0 0) := by rw [HW0.out]; exact blk_cell HX5.out.r 1
            have f0 : w5.frozen? ⟨w.heap.size, 0, none⟩ = false := by rw [HW0.out]; exact blk_free HX5.out.r 0
            have f1 : w5.frozen? ⟨w.heap.size, 1, none⟩ = false := by rw [HW0.out]; exact blk_free HX5.out.r 1
            have lR : w.heap.size + 1 < w5.heap.size := by rw [HW0.out]; exact blk_lt HX5.out.c
            have hRS : ((w5.setCell ⟨w.heap.size, 0, none⟩ (.slice pa pn pcap)).setCell ⟨w.heap.size, 1, none⟩ (.slice aa an acap)).heap[w.heap.size]? = some (.cells #[.slice pa pn pcap, .slice aa an acap] 29 (0, 0)) := by
              have := blk_set (blk_set (show w5.heap[w.heap.size]? = _ by rw [HW0.out]; exact HX5.out.r) 0 (.slice pa pn pcap)) 1 (.slice aa an acap)
              simpa using this
            have HPF := Lib.hid ((HP5.out.far (g := w.heap.size) (by have := HW0.out; omega) 0 (.slice pa pn pcap)).far (g := w.heap.size) (by have := HW0.out; omega) 1 (.slice aa an acap))
            have HAF := Lib.hid ((HA5.out.far (g := w.heap.size) (by have := HW0.out; omega) 0 (.slice pa pn pcap)).far (g := w.heap.size) (by have := HW0.out; omega) 1 (.slice aa an acap))
            have HSF := Lib.hid ((HS5.out.far w.heap.size 0 (by omega) (.slice pa pn pcap)).far w.heap.size 1 (by omega) (.slice aa an acap))
            have HGF := Lib.hid (Gr.set (Gr.set HG5.out w.heap.size 0 (.inr (Nat.le_refl _)) (.slice pa pn pcap)) w.heap.size 1 (.inr (Nat.le_refl _)) (.slice aa an acap))
            go_wp2
            generalize (w5.setCell ⟨w.heap.size, 0, none⟩ (.slice pa pn pcap)).setCell ⟨w.heap.size, 1, none⟩ (.slice aa an acap) = w8 at *
            have t0 : w8.cell? ⟨w.heap.size, 0, none⟩ = some (.slice pa pn pcap) := blk_cell hRS 0
            have t1 : w8.cell? ⟨w.heap.size, 1, none⟩ = some (.slice aa an acap) := blk_cell hRS 1
            refine bodyPost_ret (v := .agg #[.slice pa pn pcap, .slice aa an acap]) (by simp [results, Tryz.results7, go_sem, t0, t1]) rfl ?_
            rw [HCX.out]
            exact ⟨⟨_, _, rfl, HPF.out.base (by have := HW0.out; omega), HAF.out.base (by have := HW0.out; omega)⟩, HSF.out, HGF.out⟩
          · have HKP : Hid (∀ g, (g = R ∨ g = R + 1 ∨ g = R + 2) → g < w5.heap.size ∧ g ≠ s ∧ g < R + 3) := Lib.hid fun g hg => ⟨by have := blk_lt HX5.out.n; omega, by omega, by omega⟩
            have HCX : Hid (catX li m = spoilX li (M + 1) ps l) := Lib.hid (by rw [HPS.out]; exact catX_sp HNN.out HEE.out HFE.out.symm)
            have HSP := Lib.hid (spoilCat_x s (R + 1) (R + 3) (M + 1) li w w5 w5 (fun g => g = R ∨ g = R + 1 ∨ g = R + 2) (.slice pa pn pcap) (.slice aa an acap) ps l HS5.out (by have := HL2.out; omega) ls HG5.out (by have := HW0.out; omega) (XK.refl _ _) HX5.out.c (.inr (.inl rfl)) HKP.out HP5.out HA5.out (by have := HPN.out; omega) (by have := HL25.out; omega))
            go_wp2_with fail
            rw [HWR.out.1]
            refine HSP.out.mono ?_
            rintro e w6 ⟨rfl, hO', hA', hXK, hS6, hG6⟩
            have HX6 : Hid (CatBx w6 R (.slice pa pn pcap) (.slice aa an acap)) := Lib.hid ⟨(hXK.2 R (.inl rfl)).trans HX5.out.r, (hXK.2 (R + 1) (.inr (.inl rfl))).trans HX5.out.c, (hXK.2 (R + 2) (.inr (.inr rfl))).trans HX5.out.n⟩
            have HP6 := Lib.hid hO'
            have HA6 := Lib.hid hA'
            have HS6 := Lib.hid hS6
            have HG6 := Lib.hid hG6
            have r0 : w6.cell? ⟨R + 1, 0, none⟩ = some (.slice pa pn pcap) := blk_cell HX6.out.c 0
            have r1 : w6.cell? ⟨R + 1, 1, none⟩ = some (.slice aa an acap) := blk_cell HX6.out.c 1
            clear hO' hA' hXK hS6 hG6 HSP
            have q0 : w6.cell? ⟨w.heap.size, 0, none⟩ = some (.slice none 0 0) := by rw [HW0.out]; exact blk_cell HX6.out.r 0
            have q1 : w6.cell? ⟨w.heap.size, 1, none⟩ = some (.slice none 0 0) := by rw [HW0.out]; exact blk_cell HX6.out.r 1
            have f0 : w6.frozen? ⟨w.heap.size, 0, none⟩ = false := by rw [HW0.out]; exact blk_free HX6.out.r 0
            have f1 : w6.frozen? ⟨w.heap.size, 1, none⟩ = false := by rw [HW0.out]; exact blk_free HX6.out.r 1
            have lR : w.heap.size + 1 < w6.heap.size := by rw [HW0.out]; exact blk_lt HX6.out.c
            have hRS : ((w6.setCell ⟨w.heap.size, 0, none⟩ (.slice pa pn pcap)).setCell ⟨w.heap.size, 1, none⟩ (.slice aa an acap)).heap[w.heap.size]? = some (.cells #[.slice pa pn pcap, .slice aa an acap] 29 (0, 0)) := by
              have := blk_set (blk_set (show w6.heap[w.heap.size]? = _ by rw [HW0.out]; exact HX6.out.r) 0 (.slice pa pn pcap)) 1 (.slice aa an acap)
              simpa using this
            have HPF := Lib.hid ((HP6.out.far (g := w.heap.size) (by have := HW0.out; omega) 0 (.slice pa pn pcap)).far (g := w.heap.size) (by have := HW0.out; omega) 1 (.slice aa an acap))
            have HAF := Lib.hid ((HA6.out.far (g := w.heap.size) (by have := HW0.out; omega) 0 (.slice pa pn pcap)).far (g := w.heap.size) (by have := HW0.out; omega) 1 (.slice aa an acap))
            have HSF := Lib.hid ((HS6.out.far w.heap.size 0 (by omega) (.slice pa pn pcap)).far w.heap.size 1 (by omega) (.slice aa an acap))
            have HGF := Lib.hid (Gr.set (Gr.set HG6.out w.heap.size 0 (.inr (Nat.le_refl _)) (.slice pa pn pcap)) w.heap.size 1 (.inr (Nat.le_refl _)) (.slice aa an acap))
            go_wp2
            generalize (w6.setCell ⟨w.heap.size, 0, none⟩ (.slice pa pn pcap)).setCell ⟨w.heap.size, 1, none⟩ (.slice aa an acap) = w8 at *
            have t0 : w8.cell? ⟨w.heap.size, 0, none⟩ = some (.slice pa pn pcap) := blk_cell hRS 0
            have t1 : w8.cell? ⟨w.heap.size, 1, none⟩ = some (.slice aa an acap) := blk_cell hRS 1
            refine bodyPost_ret (v := .agg #[.slice pa pn pcap, .slice aa an acap]) (by simp [results, Tryz.results7, go_sem, t0, t1]) rfl ?_
            rw [HCX.out]
            exact ⟨⟨_, _, rfl, HPF.out.base (by have := HW0.out; omega), HAF.out.base (by have := HW0.out; omega)⟩, HSF.out, HGF.out⟩
end Go.Proofs.YtihgnpobkpnipaaGreatDoor
