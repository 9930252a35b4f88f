/- Texts of the proof of a law, put together, part 27 of 35. Conditions: none beyond those that each theorem names. -/
import Derived.Test.YtihgnpobkpnipaaGreatDoorMz5
import Derived.Test.YtihgnpobkpnipaaGreatDoorMz11
import Derived.Test.YtihgnpobkpnipaaGreatDoorMz16
import Derived.Test.YtihgnpobkpnipaaGreatDoorMz26
namespace Go.Proofs.YtihgnpobkpnipaaGreatDoor
open Go.RowKit Go.Sort
def VR : Value → World → Prop := fun v _ => ∃ x : Prt, v = .agg #[.string x.1, .string x.2.1, .int .i64 x.2.2.1, .int .i64 x.2.2.2] ∧ PrtS x
def VLR (B1 : Nat) : Value → World → Prop := fun v w => ∃ (x : Prt) (g : Nat), v = .slice (some ⟨g, 0, none⟩) 1 1 ∧ w.heap[g]? = some (.cells #[.string x.1, .string x.2.1, .int .i64 x.2.2.1, .int .i64 x.2.2.2] 66 (0, 0)) ∧ B1 ≤ g ∧ PrtS x
theorem VLR.stab {B1 : Nat} {v : Value} {w w' : World} (h : VLR B1 v w) (hr : RR B1 w w') : VLR B1 v w' := by
  obtain ⟨x, g, h1, h2, h3, h4⟩ := h
  exact ⟨x, g, h1, (hr.2 g h3 (blk_lt h2)).trans h2, h3, h4⟩
set_option maxHeartbeats 1000000 in
theorem CatOf1_any (x : Alt) (y z : ByteArray) (bo : Bool) (gy gz gb : Nat) (w : World) (hy : w.heap[gy]? = some (.cells #[.string y] 9 (0, 0))) (hz : w.heap[gz]? = some (.cells #[.string z] 9 (0, 0))) (hb : w.heap[gb]? = some (.cells #[.bool bo] 4 (0, 0))) :
    Calls Tryz.prog 38 #[.agg #[.string x.1, .string x.2.1, .bool x.2.2], .pointer (some ⟨gy, 0, none⟩), .pointer (some ⟨gz, 0, none⟩), .pointer (some ⟨gb, 0, none⟩)] w fun e w' => (∃ q : Bool, e = .returned (.bool q)) ∧ Below w.heap.size w w' := by
  obtain ⟨f, b, ab⟩ := x
  have HB := Lib.hid (Bl.alloc (Below.refl w.heap.size w) (.cells #[.string f, .string b, .bool ab] 72))
  have c0 : w.cell? ⟨gy, 0, none⟩ = some (.string y) := blk_cell hy 0
  have c1 : w.cell? ⟨gz, 0, none⟩ = some (.string z) := blk_cell hz 0
  have c2 : w.cell? ⟨gb, 0, none⟩ = some (.bool bo) := blk_cell hb 0
  have l0 := blk_lt hy
  have l1 := blk_lt hz
  have l2 := blk_lt hb
  clear hy hz hb
  obtain ⟨fy, hfy⟩ : ∃ q, q = (f.toList == y.toList) := ⟨_, rfl⟩
  obtain ⟨bz, hbz⟩ : ∃ q, q = (b.toList == z.toList) := ⟨_, rfl⟩
  have h1 : (f.toList = y.toList) ↔ fy = true := by rw [hfy]; simp
  have h2 : (b.toList = z.toList) ↔ bz = true := by rw [hbz]; simp
  cases fy <;> cases bz <;> cases ab
  all_goals (
    have q1 := hfy.symm
    have q2 := hbz.symm
    simp only [Bool.false_eq_true, iff_false, iff_true] at h1 h2
    clear hfy hbz
    go_enter Tryz.func38, Tryz.ntmps38
    go_wp2
    go_ret
    exact ⟨⟨_, rfl⟩, HB.out⟩)
set_option maxHeartbeats 2000000 in
theorem IndexAl_any (l : List Alt) (y z : ByteArray) (bo : Bool) (gy gz gb : Nat) (v : Value) (w : World) (_hl : l.length ≤ 1000000) (hy : w.heap[gy]? = some (.cells #[.string y] 9 (0, 0))) (hz : w.heap[gz]? = some (.cells #[.string z] 9 (0, 0))) (hb : w.heap[gb]? = some (.cells #[.bool bo] 4 (0, 0))) (rl : RecR TAl w 0 v l) :
    Calls Tryz.prog 81 #[v, .func (.func 38) #[] #[.pointer (some ⟨gy, 0, none⟩), .pointer (some ⟨gz, 0, none⟩), .pointer (some ⟨gb, 0, none⟩)]] w fun e w' => (∃ r : Int, e = .returned (.int .i64 r)) ∧ Below w.heap.size w w' := by
  obtain ⟨a, cap, rfl, hc1, hc2⟩ := rl.form
  have HCL := Lib.hid fun (x : Alt) W (hW : Below w.heap.size w W) => CatOf1_any x y z bo gy gz gb W (blk_below hy hW) (blk_below hz hW) (blk_below hb hW)
  have RL := Lib.hid rl
  clear hy hz hb rl
  go_enter Tryz.func81, Tryz.ntmps81
  go_wp2
  go_loopw [8] (fun i wr => ∃ k : Nat, k ≤ l.length ∧ i = .int .i64 k ∧ Below w.heap.size w wr) (fun i _ => l.length - (intOf i).toNat)
  case atStart => exact ⟨0, Nat.zero_le _, rfl, Below.refl _ _⟩
  case round =>
    obtain ⟨k, hk, rfl, hb⟩ := hrel
    by_cases hlt : k < l.length
    · obtain ⟨t, ht⟩ : ∃ t, l[k]? = some t := ⟨_, List.getElem?_eq_getElem hlt⟩
      have HC := Lib.hid (HCL.out t wr hb)
      obtain ⟨b2', o2, rfl, _, hl2, hx2⟩ := (RL.out.below hb).at TAl.ok.len ht TAl.ok.pos
      obtain ⟨f, b, ab⟩ := t
      have c0 : wr.cell? ⟨b2', o2 + k * 3, none⟩ = some (.string f) := hx2 0 _ rfl
      have c1 : wr.cell? ⟨b2', o2 + k * 3 + 1, none⟩ = some (.string b) := hx2 1 _ rfl
      have c2 : wr.cell? ⟨b2', o2 + k * 3 + 2, none⟩ = some (.bool ab) := hx2 2 _ rfl
      have hw1 : IntKind.i64.wrap ((k : Int) + 1) = ((k + 1 : Nat) : Int) := by rw [IntWalk.i64_in _ (by omega)]; omega
      clear ht hx2
      go_wp2_with fail
      refine HC.out.mono ?_
      rintro e w2 ⟨⟨q, rfl⟩, hb2⟩
      have hb02 := Bl.trans hb hb2
      clear hb2
      cases q
      · go_wp2
        go_roundw
        case rel => exact ⟨k + 1, by omega, by go_num, hb02⟩
        case measure => simp [intOf]; omega
      · go_wp2
        go_ret
        exact ⟨⟨_, rfl⟩, hb02⟩
    · obtain rfl : k = l.length := by omega
      go_wp2
      go_ret
      exact ⟨⟨_, rfl⟩, hb⟩
set_option maxHeartbeats 2000000 in
theorem ContAl_any (l : List Alt) (y z : ByteArray) (bo : Bool) (gy gz gb : Nat) (v : Value) (w : World) (hl : l.length ≤ 1000000) (hy : w.heap[gy]? = some (.cells #[.string y] 9 (0, 0))) (hz : w.heap[gz]? = some (.cells #[.string z] 9 (0, 0))) (hb : w.heap[gb]? = some (.cells #[.bool bo] 4 (0, 0))) (rl : RecR TAl w 0 v l) :
    Calls Tryz.prog 37 #[v, .func (.func 38) #[] #[.pointer (some ⟨gy, 0, none⟩), .pointer (some ⟨gz, 0, none⟩), .pointer (some ⟨gb, 0, none⟩)]] w fun e w' => (∃ q : Bool, e = .returned (.bool q)) ∧ Below w.heap.size w w' := by
  have HI := Lib.hid (IndexAl_any l y z bo gy gz gb v w hl hy hz hb rl)
  obtain ⟨a, cap, rfl, _, _⟩ := rl.form
  clear hy hz hb rl
  go_enter Tryz.func37, Tryz.ntmps37
  go_wp2_with fail
  refine HI.out.mono ?_
  rintro e w2 ⟨⟨r, rfl⟩, hb2⟩
  go_wp2
  go_ret
  exact ⟨⟨_, rfl⟩, hb2⟩
/-- the boxes that CatalogueOf keeps: its result, the catalogue, the names. -/
structure CatBx (w : World) (R : Nat) (vp va : Value) : Prop where
  r : w.heap[R]? = some (.cells #[.slice none 0 0, .slice none 0 0] 29 (0, 0))
  c : w.heap[R + 1]? = some (.cells #[vp, va] 29 (0, 0))
  n : w.heap[R + 2]? = some (.cells #[.string ⟨#[97]⟩, .string ⟨#[98]⟩, .string ⟨#[99]⟩, .string ⟨#[100]⟩, .string ⟨#[101]⟩] 9 (0, 0))
theorem CatBx.low {w w' : World} {R : Nat} {vp va : Value} (h : CatBx w R vp va) (hb : Below w.heap.size w w') : CatBx w' R vp va := ⟨blk_below h.r hb, blk_below h.c hb, blk_below h.n hb⟩
theorem CatBx.gr {w w' : World} {R s : Nat} {vp va : Value} (h : CatBx w R vp va) (hs : s < R) (hb : w.grownBy w' (some s)) : CatBx w' R vp va := ⟨Gr.blk hb h.r (by omega), Gr.blk hb h.c (by omega), Gr.blk hb h.n (by omega)⟩
theorem CatBx.row {α : Type} {T : Rty α} {w w' : World} {R B : Nat} {vp va v : Value} {l : List α} (h : CatBx w R vp va) (hO : OwnR T w B v l) (hB : R + 3 ≤ B) (hg : w.grownBy w' v.ownBlock) : CatBx w' R vp va := by
  have k : ∀ i, i < B → i < w.heap.size → w'.heap[i]? = w.heap[i]? := fun i hi hl => hg.block i hl fun e => by
    have := ((ownR_k T B).blk hO e.symm).1
    omega
  exact ⟨(k R (by omega) (blk_lt h.r)).trans h.r, (k (R + 1) (by omega) (blk_lt h.c)).trans h.c, (k (R + 2) (by omega) (blk_lt h.n)).trans h.n⟩
theorem nm_small {W : World} {R : Nat} {vp va : Value} (h : CatBx W R vp va) (k : Nat) (hk : k < 5) : ∃ nm : ByteArray, W.cell? ⟨R + 2, k, none⟩ = some (.string nm) ∧ nm.size ≤ 5 := by
  have hk' : k = 0 ∨ k = 1 ∨ k = 2 ∨ k = 3 ∨ k = 4 := by omega
  rcases hk' with rfl | rfl | rfl | rfl | rfl
  · exact ⟨_, blk_cell h.n 0, by decide⟩
  · exact ⟨_, blk_cell h.n 1, by decide⟩
  · exact ⟨_, blk_cell h.n 2, by decide⟩
  · exact ⟨_, blk_cell h.n 3, by decide⟩
  · exact ⟨_, blk_cell h.n 4, by decide⟩
def CatRes (w0 : World) (e : Ending) (w' : World) : Prop := ∃ vp va ps l, e = .returned (.agg #[vp, va]) ∧ OwnR TPt w' w0.heap.size vp ps ∧ OwnR TAl w' w0.heap.size va l ∧ ps.length ≤ 5 ∧ l.length ≤ 25 ∧ (∀ x ∈ ps, PrtS x) ∧ (∀ x ∈ l, AltS x)
set_option maxHeartbeats 32000000 in
set_option maxRecDepth 100000 in
theorem CatalogueOf_any (s : Nat) (c : Int) (w : World) (h : Str w s c) (hc : c ≤ 900000) :
    Calls Tryz.prog 7 #[.pointer (some ⟨s, 0, none⟩)] w fun e w' => CatRes w e w' ∧ Str w' s (c + 6000) ∧ w.grownBy w' (some s) := by
  have ls := h.lt
  obtain ⟨R, hR⟩ : ∃ R, R = w.heap.size := ⟨_, rfl⟩
  obtain ⟨w1, hw1⟩ : ∃ w1, w1 = ((w.alloc (.cells #[.slice none 0 0, .slice none 0 0] 29)).alloc (.cells #[.slice none 0 0, .slice none 0 0] 29)).alloc (.cells #[.string ⟨#[97]⟩, .string ⟨#[98]⟩, .string ⟨#[99]⟩, .string ⟨#[100]⟩, .string ⟨#[101]⟩] 9) := ⟨_, rfl⟩
  have hX1 : CatBx w1 R (.slice none 0 0) (.slice none 0 0) := by
    rw [hw1, hR]
    exact ⟨blk_old (blk_old (blk_new w _) _) _, blk_old (blk_new' _ _ (by simp)) _, blk_new' _ _ (by simp)⟩
  have hb1 : Below w.heap.size w w1 := by rw [hw1]; exact Bl.alloc (Bl.alloc (Bl.alloc (Below.refl _ _) _) _) _
  have hz1 : w1.heap.size = R + 3 := by rw [hw1, hR]; simp
  have HW1 := Lib.hid hw1
  have hsR : s < R := by omega
  have hS1 := h.below hb1
  have hG1 := Gr.of_below hb1 (some s)
  have HX1 := Lib.hid hX1
  have HW0 : Hid (w.heap.size = R) := Lib.hid hR.symm
  have HZ1 := Lib.hid hz1
  clear hw1 hR hX1 hb1 h hz1
  go_enter Tryz.func7, Tryz.ntmps7
  go_wp2_with fail
  rw [← HW1.out]
  refine (Range_any s c 0 5 w1 hS1 (by omega) (by omega) (by omega) (by omega) (by omega)).mono ?_
  rintro e w2 ⟨n, rfl, ⟨hn0, hn1, _⟩, hS2, hG2⟩
  have hn2 := hn1 (by omega)
  clear hn1
  obtain ⟨n, rfl⟩ := Int.eq_ofNat_of_zero_le (show 0 ≤ n by omega)
  have hX2 := Lib.hid (HX1.out.gr hsR hG2)
  have hG2' := Gr.trans hG1 hG2
  have hz2 := hG2.size
  rw [HZ1.out] at hz2
  have j1 : (0 : Int) ≤ (n : Int) := by omega
  have j2 : ¬ 5 < n := by omega
  have j3 : n ≤ 5 := by omega
  clear hS1 hG1 hG2 HX1
  have HWR : Hid (w.heap.size + 1 = R + 1 ∧ w.heap.size + 2 = R + 2 ∧ w.heap.size + 1 + 1 = R + 2) := Lib.hid (by have := HW0.out; omega)
  go_wp2_with fail
  go_loopw [18] (fun i wr => ∃ (k : Nat) (ps : List Prt) (vp : Value), k ≤ n ∧ i = .int .i64 k ∧ Hid (CatBx wr R vp (.slice none 0 0)) ∧ Hid (OwnR TPt wr (R + 3) vp ps) ∧ Hid (ps.length = k) ∧ Hid (∀ x ∈ ps, PrtS x) ∧ Hid (Str wr s (c + 1 + 200 * k)) ∧ Hid (w.grownBy wr (some s)) ∧ R + 3 ≤ wr.heap.size) (fun i _ => n - (intOf i).toNat)
  case atStart => exact ⟨0, [], .slice none 0 0, Nat.zero_le _, rfl, hX2, Lib.hid (OwnR.nil _ _), Lib.hid rfl, Lib.hid (by simp), Lib.hid (hS2.mono (by omega)), Lib.hid hG2', by omega⟩
  case round =>
    obtain ⟨k, ps, vp, hk, rfl, HX, HP, HL, HOK, HS, HG, hzr⟩ := hrel
    by_cases hlt : k < n
    · obtain ⟨nm, cn, hnm⟩ := nm_small HX.out k (by omega)
      have HNMS := Lib.hid hnm
      have hwk : IntKind.i64.wrap ((k : Int) + 1) = ((k + 1 : Nat) : Int) := by rw [IntWalk.i64_in _ (by omega)]; omega
      have hS := HS.out
      have lsr := hS.lt
      have HK : OwnK (fun W => (CatBx W R vp (.slice none 0 0) ∧ OwnR TPt W (R + 3) vp ps) ∧ True) s := ⟨fun W W' q hb => ⟨⟨q.1.1.low hb, q.1.2.below hb⟩, trivial⟩, fun W W' q hg => ⟨⟨q.1.1.gr hsR hg, q.1.2.grown hg (by omega)⟩, trivial⟩⟩
      have HCV : Hid (∀ W : World, CatBx W R vp (.slice none 0 0) → W.cell? ⟨w.heap.size + 1, 0, none⟩ = some vp) := Lib.hid fun W hW => by rw [HWR.out.1]; exact blk_cell hW.c 0
      have hc00 : wr.cell? ⟨w.heap.size + 1 + 1, k, none⟩ = some (.string nm) := by rw [HWR.out.2.2]; exact cn
      have HLL : Hid (ps.length ≤ 1000000) := Lib.hid (by rw [HL.out]; omega)
      clear cn hnm
      go_wp2_with fail
      clear hc00
      refine wp_region_ph (by kernel_rfl) [22, 23, 24, 25, 26, 27, 28, 29, 30, 31, 32, 33, 34, 35, 36, 37] (fun ii => ([some (.pointer (some ⟨w.heap.size + 1, 0, none⟩)), some (vp), some (.string nm), some (.pointer (some ⟨s, 0, none⟩)), none, none, some (.pointer (some ⟨s, 0, none⟩)), none, none, some (.pointer (some ⟨s, 0, none⟩)), none, none, none, none, none, some (.pointer (some ⟨w.heap.size + 1, 0, none⟩)), none] : List (Option Value)).getD ii none) 14 16 36 (RB (fun W => (CatBx W R vp (.slice none 0 0) ∧ OwnR TPt W (R + 3) vp ps) ∧ True) w s (wr.heap.size) (c + 1 + 200 * k + 170)) (RR (wr.heap.size)) (fun W => Hid (∃ (v : Value) (x : Prt), PrtS x ∧ Str W s (c + 1 + 200 * k + 190) ∧ CatBx W R v (.slice none 0 0) ∧ OwnR TPt W (R + 3) v (ps ++ [x]) ∧ w.grownBy W (some s) ∧ R + 3 ≤ W.heap.size)) (fun v W => ∃ x : Prt, PrtS x ∧ Str W s (c + 1 + 200 * k + 180) ∧ CatBx W R vp (.slice none 0 0) ∧ OwnR TPt W (R + 3) v (ps ++ [x]) ∧ w.grownBy W (some s) ∧ R + 3 ≤ W.heap.size) (fun i => [VE (.pointer (some ⟨w.heap.size + 1, 0, none⟩)), VE (vp), VE (.string nm), VE (.pointer (some ⟨s, 0, none⟩)), VLS (wr.heap.size) 5 3, VS 5, VE (.pointer (some ⟨s, 0, none⟩)), VLI (wr.heap.size) (-1099511627777) 1099511627777 6, VI (-1099511627777) 1099511627777, VE (.pointer (some ⟨s, 0, none⟩)), VLI (wr.heap.size) (-1099511627777) 1099511627777 3, VI (-1099511627777) 1099511627777, VR, VLR wr.heap.size, VT, VE (.pointer (some ⟨w.heap.size + 1, 0, none⟩)), VT].getD i VT) (by kernel_rfl) (by kernel_rfl) (by rfl) ⟨rfl, rfl⟩ (by decide) (by decide) rfl rfl
        (fun l hcl h => hcl.no h 16 ⟨14, .data⟩ rfl rfl (by simp) rfl) ?_ (fun o ho => by obtain rfl := Option.some.inj ho; exact ⟨⟨14, .data⟩, by simp, rfl, rfl⟩) (fun u u' W hu h => h.mono hu) ?_ ?_ ?_ ?_ ?_ ?_ ?_
      · intro i l hi hci him hcl hl0
        have hi' : i = 0 ∨ i = 1 ∨ i = 2 ∨ i = 3 ∨ i = 4 ∨ i = 5 ∨ i = 6 ∨ i = 7 ∨ i = 8 ∨ i = 9 ∨ i = 10 ∨ i = 11 ∨ i = 12 ∨ i = 13 ∨ i = 14 ∨ i = 15 ∨ i = 16 := by
          have : i < 17 := hi
          omega
        rcases hi' with rfl | rfl | rfl | rfl | rfl | rfl | rfl | rfl | rfl | rfl | rfl | rfl | rfl | rfl | rfl | rfl | rfl
        · cases hci
        · cases hci
        · cases hci
        · cases hci
        · exact hcl.no (hcl.no (hcl.no (hcl.no (hl0) 5 ⟨4, .data⟩ rfl rfl (by simp) rfl) 12 ⟨5, .data⟩ rfl rfl (by simp) rfl) 13 ⟨12, .data⟩ rfl rfl (by simp) rfl) 14 ⟨13, .data⟩ rfl rfl (by simp) rfl
        · exact hcl.no (hcl.no (hcl.no (hl0) 12 ⟨5, .data⟩ rfl rfl (by simp) rfl) 13 ⟨12, .data⟩ rfl rfl (by simp) rfl) 14 ⟨13, .data⟩ rfl rfl (by simp) rfl
        · cases hci
        · exact hcl.no (hcl.no (hcl.no (hcl.no (hl0) 8 ⟨7, .data⟩ rfl rfl (by simp) rfl) 12 ⟨8, .data⟩ rfl rfl (by simp) rfl) 13 ⟨12, .data⟩ rfl rfl (by simp) rfl) 14 ⟨13, .data⟩ rfl rfl (by simp) rfl
        · exact hcl.no (hcl.no (hcl.no (hl0) 12 ⟨8, .data⟩ rfl rfl (by simp) rfl) 13 ⟨12, .data⟩ rfl rfl (by simp) rfl) 14 ⟨13, .data⟩ rfl rfl (by simp) rfl
        · cases hci
        · exact hcl.no (hcl.no (hcl.no (hcl.no (hl0) 11 ⟨10, .data⟩ rfl rfl (by simp) rfl) 12 ⟨11, .data⟩ rfl rfl (by simp) rfl) 13 ⟨12, .data⟩ rfl rfl (by simp) rfl) 14 ⟨13, .data⟩ rfl rfl (by simp) rfl
        · exact hcl.no (hcl.no (hcl.no (hl0) 12 ⟨11, .data⟩ rfl rfl (by simp) rfl) 13 ⟨12, .data⟩ rfl rfl (by simp) rfl) 14 ⟨13, .data⟩ rfl rfl (by simp) rfl
        · exact hcl.no (hcl.no (hl0) 13 ⟨12, .data⟩ rfl rfl (by simp) rfl) 14 ⟨13, .data⟩ rfl rfl (by simp) rfl
        · exact hcl.no (hl0) 14 ⟨13, .data⟩ rfl rfl (by simp) rfl
        · exact hl0
        · cases hci
        · exact absurd rfl him
      · exact ⟨(hS.drew).mono (by show _ ≤ (c + 1 + 200 * k + 170) - 10 * ((17 : Nat) : Int); omega), ⟨⟨HX.out.low (Below.drew (Below.refl _ _)), HP.out.below (Below.drew (Below.refl _ _))⟩, trivial⟩, Nat.le_refl _, ⟨HG.out.os, HG.out.tape, HG.out.output, HG.out.size, HG.out.block⟩⟩
      · intro u W W' i v hB hR hV
        exact match i, hV with
          | 0, h => h
          | 1, h => h
          | 2, h => h
          | 3, h => h
          | 4, h => VLS.stab h hR
          | 5, h => h
          | 6, h => h
          | 7, h => VLI.stab h hR
          | 8, h => h
          | 9, h => h
          | 10, h => VLI.stab h hR
          | 11, h => h
          | 12, h => h
          | 13, h => VLR.stab h hR
          | 14, h => h
          | 15, h => h
          | 16, h => h
          | (_ + 17), _ => trivial
      · intro listed f i o v W ho hc hdep hPre hcl hli hV
        match i, ho, hc with
        | 0, ho, hc =>
          obtain rfl := Option.some.inj hc
          refine ⟨by obtain rfl := Option.some.inj ho; rfl, ?_⟩
          · intro q hq
            obtain rfl := Option.some.inj ho
            have e3 := hq.tmp 3
            simp at e3
            simp [execOp, e3, go_sem]
        | 1, ho, hc =>
          obtain rfl := Option.some.inj hc
          obtain ⟨u, hB⟩ := hPre (hcl.no (hli) 14 ⟨1, .data⟩ rfl rfl (by simp) rfl)
          have y0 := HCV.out W hB.own.1.1
          have d22 : f 22 = .pointer (some ⟨w.heap.size + 1, 0, none⟩) := hV 0 _ (by decide) (hdep ⟨0, .data⟩ (by obtain rfl := Option.some.inj ho; simp) rfl) rfl
          refine ⟨by obtain rfl := Option.some.inj ho; rfl, ?_⟩
          · intro q hq
            obtain rfl := Option.some.inj ho
            have e22 := hq.tmp 22
            simp at e22
            simp [execOp, e22, d22, go_sem, y0]
        | 2, ho, hc =>
          obtain rfl := Option.some.inj hc
          refine ⟨by obtain rfl := Option.some.inj ho; rfl, ?_⟩
          · intro q hq
            obtain rfl := Option.some.inj ho
            have e6 := hq.tmp 6
            simp at e6
            simp [execOp, e6, go_sem]
        | 3, ho, hc =>
          obtain rfl := Option.some.inj hc
          refine ⟨by obtain rfl := Option.some.inj ho; rfl, ?_⟩
          · intro q hq
            obtain rfl := Option.some.inj ho
            have e0 := hq.tmp 0
            simp at e0
            simp [execOp, e0, go_sem]
        | 4, ho, hc => cases hc
        | 5, ho, hc => cases hc
        | 6, ho, hc =>
          obtain rfl := Option.some.inj hc
          refine ⟨by obtain rfl := Option.some.inj ho; rfl, ?_⟩
          · intro q hq
            obtain rfl := Option.some.inj ho
            have e0 := hq.tmp 0
            simp at e0
            simp [execOp, e0, go_sem]
        | 7, ho, hc => cases hc
        | 8, ho, hc => cases hc
        | 9, ho, hc =>
          obtain rfl := Option.some.inj hc
          refine ⟨by obtain rfl := Option.some.inj ho; rfl, ?_⟩
          · intro q hq
            obtain rfl := Option.some.inj ho
            have e0 := hq.tmp 0
            simp at e0
            simp [execOp, e0, go_sem]
        | 10, ho, hc => cases hc
        | 11, ho, hc => cases hc
        | 12, ho, hc => cases hc
        | 13, ho, hc => cases hc
        | 14, ho, hc => cases hc
        | 15, ho, hc =>
          obtain rfl := Option.some.inj hc
          refine ⟨by obtain rfl := Option.some.inj ho; rfl, ?_⟩
          · intro q hq
            obtain rfl := Option.some.inj ho
            have e3 := hq.tmp 3
            simp at e3
            simp [execOp, e3, go_sem]
        | 16, ho, hc => cases hc
        | (_ + 17), ho, hc => exact absurd hc (by simp)
      · intro listed f i o u W ho hc hna hnm' hdep hB hV hVV
        have hi' : i = 0 ∨ i = 1 ∨ i = 2 ∨ i = 3 ∨ i = 4 ∨ i = 5 ∨ i = 6 ∨ i = 7 ∨ i = 8 ∨ i = 9 ∨ i = 10 ∨ i = 11 ∨ i = 12 ∨ i = 13 ∨ i = 14 ∨ i = 15 ∨ i = 16 := by
          have : i < 17 := (Array.getElem?_eq_some_iff.1 ho).1
          omega
        rcases hi' with rfl | rfl | rfl | rfl | rfl | rfl | rfl | rfl | rfl | rfl | rfl | rfl | rfl | rfl | rfl | rfl | rfl
        · cases hc
        · cases hc
        · cases hc
        · cases hc
        · refine iv_val ho (by obtain rfl := Option.some.inj ho; rfl) (.slice (some ⟨W.heap.size, 0, none⟩) 3 3) (W.alloc (.cells #[.string (⟨#[112, 48, 52, 48, 50]⟩ : ByteArray), .string (⟨#[112, 48, 52, 48, 50]⟩ : ByteArray), .string (⟨#[112, 48, 54, 48, 51]⟩ : ByteArray)] 9)) ?_ (hB.below HK (Bl.alloc (Below.refl _ _) _)) (RR.of_below (Bl.alloc (Below.refl _ _) _)) ⟨[(⟨#[112, 48, 52, 48, 50]⟩ : ByteArray), (⟨#[112, 48, 52, 48, 50]⟩ : ByteArray), (⟨#[112, 48, 54, 48, 51]⟩ : ByteArray)], ⟨_, rfl⟩, rfl, RecR.of_blk (T := TS) (blk_new _ _) rfl rfl (by simp) (by omega) hB.size, ?_⟩
          · intro q hq
            obtain rfl := Option.some.inj ho
            simp [execOp, hq.const, go_sem]
          · intro x hx
            simp only [List.mem_cons, List.not_mem_nil, or_false] at hx
            rcases hx with rfl | rfl | rfl
            all_goals (first | assumption | (show _ ≤ 5; decide))
        · have d25 : f 25 = .pointer (some ⟨s, 0, none⟩) := hV 3 _ (by decide) (hdep ⟨3, .data⟩ (by obtain rfl := Option.some.inj ho; simp) rfl) rfl
          obtain ⟨li, ⟨bi, d26⟩, hli, hri, hbi⟩ : VLS (wr.heap.size) 5 3 (f 26) W := hVV 4 (by decide) (hdep ⟨4, .data⟩ (by obtain rfl := Option.some.inj ho; simp) rfl) rfl (by decide) (by decide)
          refine iv_call ho (by obtain rfl := Option.some.inj ho; rfl) 34 #[.tmp 25, .tmp 26] _ (by obtain rfl := Option.some.inj ho; rfl) (enters_of Tryz.func34 (by kernel_rfl) rfl) #[.pointer (some ⟨s, 0, none⟩), f 26] (by intro q hq; have e25 := hq.tmp 25; simp at e25; have e26 := hq.tmp 26; simp at e26; simp [e25, e26, d25]) _ (Some_any s _ li (f 26) W hB.str (by omega) (Rd.mono hri (by omega)) (by omega) (by omega)) ?_
          rintro e W' ⟨r, rfl, hr, hs', hg'⟩
          exact ⟨_, rfl, hB.call HK hs' (by omega) hg', RR.of_gr hg' (by omega), ⟨r, rfl, hbi r hr⟩⟩
        · cases hc
        · refine iv_val ho (by obtain rfl := Option.some.inj ho; rfl) (.slice (some ⟨W.heap.size, 0, none⟩) 6 6) (W.alloc (.cells #[.int .i64 (1 : Int), .int .i64 (2 : Int), .int .i64 (3 : Int), .int .i64 (4 : Int), .int .i64 (5 : Int), .int .i64 (6 : Int)] 3)) ?_ (hB.below HK (Bl.alloc (Below.refl _ _) _)) (RR.of_below (Bl.alloc (Below.refl _ _) _)) ⟨[(1 : Int), (2 : Int), (3 : Int), (4 : Int), (5 : Int), (6 : Int)], ⟨_, rfl⟩, rfl, Ints.of_blk (blk_new _ _) rfl rfl (by simp) (by omega) hB.size, ?_⟩
          · intro q hq
            obtain rfl := Option.some.inj ho
            simp [execOp, hq.const, go_sem]
          · intro x hx
            simp only [List.mem_cons, List.not_mem_nil, or_false] at hx
            rcases hx with rfl | rfl | rfl | rfl | rfl | rfl
            all_goals omega
        · have d28 : f 28 = .pointer (some ⟨s, 0, none⟩) := hV 6 _ (by decide) (hdep ⟨6, .data⟩ (by obtain rfl := Option.some.inj ho; simp) rfl) rfl
          obtain ⟨li, ⟨bi, d29⟩, hli, hri, hbi⟩ : VLI (wr.heap.size) (-1099511627777) 1099511627777 6 (f 29) W := hVV 7 (by decide) (hdep ⟨7, .data⟩ (by obtain rfl := Option.some.inj ho; simp) rfl) rfl (by decide) (by decide)
          refine iv_call ho (by obtain rfl := Option.some.inj ho; rfl) 35 #[.tmp 28, .tmp 29] _ (by obtain rfl := Option.some.inj ho; rfl) (enters_of Tryz.func35 (by kernel_rfl) rfl) #[.pointer (some ⟨s, 0, none⟩), f 29] (by intro q hq; have e28 := hq.tmp 28; simp at e28; have e29 := hq.tmp 29; simp at e29; simp [e28, e29, d28]) _ (Pick_any s _ li (f 29) W hB.str (by omega) (Rd.mono hri (by omega)) (by omega) (by omega)) ?_
          rintro e W' ⟨r, rfl, hr, hs', hg'⟩
          exact ⟨_, rfl, hB.call HK hs' (by omega) hg', RR.of_gr hg' (by omega), ⟨r, rfl, hbi r hr⟩⟩
        · cases hc
        · refine iv_val ho (by obtain rfl := Option.some.inj ho; rfl) (.slice (some ⟨W.heap.size, 0, none⟩) 3 3) (W.alloc (.cells #[.int .i64 (0 : Int), .int .i64 (28800000 : Int), .int .i64 (172800000 : Int)] 3)) ?_ (hB.below HK (Bl.alloc (Below.refl _ _) _)) (RR.of_below (Bl.alloc (Below.refl _ _) _)) ⟨[(0 : Int), (28800000 : Int), (172800000 : Int)], ⟨_, rfl⟩, rfl, Ints.of_blk (blk_new _ _) rfl rfl (by simp) (by omega) hB.size, ?_⟩
          · intro q hq
            obtain rfl := Option.some.inj ho
            simp [execOp, hq.const, go_sem]
          · intro x hx
            simp only [List.mem_cons, List.not_mem_nil, or_false] at hx
            rcases hx with rfl | rfl | rfl
            all_goals omega
        · have d31 : f 31 = .pointer (some ⟨s, 0, none⟩) := hV 9 _ (by decide) (hdep ⟨9, .data⟩ (by obtain rfl := Option.some.inj ho; simp) rfl) rfl
          obtain ⟨li, ⟨bi, d32⟩, hli, hri, hbi⟩ : VLI (wr.heap.size) (-1099511627777) 1099511627777 3 (f 32) W := hVV 10 (by decide) (hdep ⟨10, .data⟩ (by obtain rfl := Option.some.inj ho; simp) rfl) rfl (by decide) (by decide)
          refine iv_call ho (by obtain rfl := Option.some.inj ho; rfl) 35 #[.tmp 31, .tmp 32] _ (by obtain rfl := Option.some.inj ho; rfl) (enters_of Tryz.func35 (by kernel_rfl) rfl) #[.pointer (some ⟨s, 0, none⟩), f 32] (by intro q hq; have e31 := hq.tmp 31; simp at e31; have e32 := hq.tmp 32; simp at e32; simp [e31, e32, d31]) _ (Pick_any s _ li (f 32) W hB.str (by omega) (Rd.mono hri (by omega)) (by omega) (by omega)) ?_
          rintro e W' ⟨r, rfl, hr, hs', hg'⟩
          exact ⟨_, rfl, hB.call HK hs' (by omega) hg', RR.of_gr hg' (by omega), ⟨r, rfl, hbi r hr⟩⟩
        · have d24 : f 24 = .string nm := hV 2 _ (by decide) (hdep ⟨2, .data⟩ (by obtain rfl := Option.some.inj ho; simp) rfl) rfl
          obtain ⟨x27, d27, p27⟩ : VS 5 (f 27) W := hVV 5 (by decide) (hdep ⟨5, .data⟩ (by obtain rfl := Option.some.inj ho; simp) rfl) rfl (by decide) (by decide)
          obtain ⟨x30, d30, p30, r30⟩ : VI (-1099511627777) 1099511627777 (f 30) W := hVV 8 (by decide) (hdep ⟨8, .data⟩ (by obtain rfl := Option.some.inj ho; simp) rfl) rfl (by decide) (by decide)
          obtain ⟨x33, d33, p33, r33⟩ : VI (-1099511627777) 1099511627777 (f 33) W := hVV 11 (by decide) (hdep ⟨11, .data⟩ (by obtain rfl := Option.some.inj ho; simp) rfl) rfl (by decide) (by decide)
          refine iv_val ho (by obtain rfl := Option.some.inj ho; rfl) (.agg #[.string nm, .string x27, .int .i64 x30, .int .i64 x33]) W ?_ (hB.below HK (Below.refl _ _)) (RR.refl _ _) ⟨(nm, x27, x30, x33), rfl, ?_⟩
          · intro q hq
            obtain rfl := Option.some.inj ho
            have e24 := hq.tmp 24
            have e27 := hq.tmp 27
            have e30 := hq.tmp 30
            have e33 := hq.tmp 33
            simp at e24 e27 e30 e33
            simp [execOp, e24, e27, e30, e33, d24, d27, d30, d33, go_sem]
          · exact ⟨by first | assumption | exact HNMS.out, by first | assumption | exact HNMS.out, by omega, by omega, by omega, by omega⟩
        · obtain ⟨xr, dr, hxr⟩ : VR (f 34) W := hVV 12 (by decide) (hdep ⟨12, .data⟩ (by obtain rfl := Option.some.inj ho; simp) rfl) rfl (by decide) (by decide)
          obtain ⟨r1, r2, r3, r4⟩ := xr
          have d34 : f 34 = .agg #[.string r1, .string r2, .int .i64 r3, .int .i64 r4] := dr
          refine iv_val ho (by obtain rfl := Option.some.inj ho; rfl) (.slice (some ⟨W.heap.size, 0, none⟩) 1 1) (W.alloc (.cells #[.string r1, .string r2, .int .i64 r3, .int .i64 r4] 66)) ?_ (hB.below HK (Bl.alloc (Below.refl _ _) _)) (RR.of_below (Bl.alloc (Below.refl _ _) _)) ⟨(r1, r2, r3, r4), _, rfl, blk_new _ _, hB.size, hxr⟩
          · intro q hq
            obtain rfl := Option.some.inj ho
            have e34 := hq.tmp 34
            simp at e34
            simp [execOp, e34, d34, go_sem]
        · exact absurd rfl hna
        · cases hc
        · exact absurd rfl hnm'
      · intro listed f o u W ho hdep hB hV hVV
        have d23 : f 23 = vp := hV 1 _ (by decide) (hdep ⟨1, .data⟩ (by obtain rfl := Option.some.inj ho; simp) rfl) rfl
        obtain ⟨xr, gr, d35, hgr, hbr, hxr⟩ : VLR wr.heap.size (f 35) W := hVV 13 (by decide) (hdep ⟨13, .data⟩ (by obtain rfl := Option.some.inj ho; simp) rfl) rfl (by decide) (by decide)
        obtain rfl := Option.some.inj ho
        refine ⟨rfl, fun K hK => ?_⟩
        obtain ⟨⟨hXW, hOW⟩, _⟩ := hB.own
        have hzW : R + 3 ≤ W.heap.size := Nat.le_trans hzr hB.size
        obtain ⟨v', w', hr, h2, h3, h4⟩ := hOW.app TPt.ok 26 gr 1 xr hgr rfl HLL.out hzW
        refine oper_append (.tmp 23) (.tmp 35) 26 rfl vp (.slice (some ⟨gr, 0, none⟩) 1 1) v' (by rw [← d23]; simp [putsA_eval]) (by rw [← d35]; simp [putsA_eval]) hr (hK v' w' ?_)
        have hBw : Below (R + 3) W w' := app_belowR hOW h3 hzW
        exact ⟨xr, hxr, (hB.str.belowB hBw (by omega)).mono (by omega), hXW.row hOW (Nat.le_refl _) h3, h2, Gr.appR hB.gr hOW h3 (by have := HW0.out; omega), Nat.le_trans hzW hBw.size⟩
      · intro listed f o W ho hdep hMid hV
        have d37 : f 37 = .pointer (some ⟨w.heap.size + 1, 0, none⟩) := hV 15 _ (by decide) (hdep ⟨15, .data⟩ (by obtain rfl := Option.some.inj ho; simp) rfl) rfl
        obtain rfl := Option.some.inj ho
        obtain ⟨x, hx, hSx, hXW, hOx, hGx, hzx⟩ := hMid
        have y0 : W.cell? ⟨w.heap.size + 1, 0, none⟩ = some vp := by rw [HWR.out.1]; exact blk_cell hXW.c 0
        have g0 : W.frozen? ⟨w.heap.size + 1, 0, none⟩ = false := by rw [HWR.out.1]; exact blk_free hXW.c 0
        refine ⟨rfl, W.setCell ⟨w.heap.size + 1, 0, none⟩ (f 36), fun q hq => ?_, Lib.hid ?_⟩
        · have e37 := hq.tmp 37
          have e36 := hq.tmp 36
          simp at e37 e36
          obtain ⟨na, nc, hfv, _, _⟩ := hOx.form
          simp [execOp, e37, e36, d37, hfv, go_sem, y0, g0]
        · have hOC := blk_set hXW.c 0 (f 36)
          refine ⟨f 36, x, hx, ?_, ?_, ?_, Gr.set hGx (w.heap.size + 1) 0 (.inr (by omega)) _, ?_⟩
          · rw [HWR.out.1]; exact (hSx.far (R + 1) 0 (by omega) _).mono (by omega)
          · rw [HWR.out.1]; exact ⟨blk_far hXW.r (R + 1) 0 _ (by omega), by simpa using hOC, blk_far hXW.n (R + 1) 0 _ (by omega)⟩
          · rw [HWR.out.1]; exact hOx.far (by omega) 0 _
          · simpa using hzx
      intro f w5 hP5 hV
      clear hV
      unfold putsA
      simp only [List.mapIdx_toArray, List.mapIdx_cons, List.mapIdx_nil, List.contains_cons]
      simp
      obtain ⟨v5, x5, hx5, hS5, hX5, hO5, hG5, hz5⟩ := hP5.out
      have HF := Lib.hid (And.intro hX5 (And.intro hO5 (And.intro (hS5.mono (d := c + 1 + 200 * ((k + 1 : Nat) : Int)) (by omega)) (And.intro hG5 hx5))))
      have HLN : Hid ((ps ++ [x5]).length = k + 1) := Lib.hid (by rw [List.length_append, HL.out]; rfl)
      have HOKN : Hid (∀ x ∈ ps ++ [x5], PrtS x) := Lib.hid (by
        intro x hx
        rcases List.mem_append.1 hx with q | q
        · exact HOK.out x q
        · rw [List.mem_singleton.1 q]; exact HF.out.2.2.2.2)
      clear hx5 hS5 hX5 hO5 hG5 HK hS hP5
      go_wp2
      go_roundw
      case rel => exact ⟨k + 1, ps ++ [x5], v5, by omega, by go_num, Lib.hid HF.out.1, Lib.hid HF.out.2.1, HLN, HOKN, Lib.hid HF.out.2.2.1, Lib.hid HF.out.2.2.2.1, hz5⟩
      case measure => simp [intOf]; omega
    · obtain rfl : k = n := by omega
      have hl5 : ps.length ≤ 5 := by rw [HL.out]; omega
      obtain ⟨pa, pcap, hpv, _, _⟩ := HP.out.form
      obtain ⟨pn, hpn⟩ : ∃ pn, pn = ps.length := ⟨_, rfl⟩
      rw [← hpn] at hpv
      subst hpv
      have HPN := Lib.hid hpn
      rw [← hpn] at hl5
      clear hpn
      obtain ⟨wo, hwo⟩ : ∃ wo : World, wo = wr := ⟨_, rfl⟩
      rw [← hwo] at HX HP HS HG hzr ⊢
      clear hwo
      go_wp2_with fail
      go_loopw [41] (fun i wr => ∃ (k2 : Nat) (l : List Alt) (va : Value), k2 ≤ k ∧ i = .int .i64 k2 ∧ Hid (CatBx wr R (.slice pa pn pcap) va) ∧ Hid (OwnR TPt wr (R + 3) (.slice pa pn pcap) ps) ∧ Hid (OwnR TAl wr (R + 3) va l) ∧ Hid (l.length ≤ 5 * k2) ∧ Hid (∀ x ∈ l, AltS x) ∧ Hid (Str wr s (c + 1500 + 20 * k2)) ∧ Hid (w.grownBy wr (some s)) ∧ R + 3 ≤ wr.heap.size) (fun i _ => k - (intOf i).toNat)
      case atStart => exact ⟨0, [], .slice none 0 0, Nat.zero_le _, rfl, HX, HP, Lib.hid (OwnR.nil _ _), Lib.hid (by simp), Lib.hid (by simp), Lib.hid (HS.out.mono (by omega)), HG, hzr⟩
      case round =>
        obtain ⟨k2, l, va, hk2, rfl, HX2, HP2, HA2, HL2, HOK2, HS2, HG2, hzr2⟩ := hrel
        by_cases hlt2 : k2 < k
        · obtain ⟨nx, cn, hnx⟩ := nm_small HX2.out k2 (by omega)
          have HNX := Lib.hid hnx
          have hwk : IntKind.i64.wrap ((k2 : Int) + 1) = ((k2 + 1 : Nat) : Int) := by rw [IntWalk.i64_in _ (by omega)]; omega
          have hc00 : wr.cell? ⟨w.heap.size + 1 + 1, k2, none⟩ = some (.string nx) := by rw [HWR.out.2.2]; exact cn
          obtain ⟨gx, hgx⟩ : ∃ gx, gx = wr.heap.size := ⟨_, rfl⟩
          obtain ⟨wx, hwx⟩ : ∃ wx, wx = wr.alloc (.cells #[.string nx] 9) := ⟨_, rfl⟩
          have hbx : Below wr.heap.size wr wx := by rw [hwx]; exact Bl.alloc (Below.refl _ _) _
          have hBx : wx.heap[gx]? = some (.cells #[.string nx] 9 (0, 0)) := by rw [hwx, hgx]; exact blk_new wr _
          have HBX := Lib.hid hBx
          have HX3 := Lib.hid (HX2.out.low hbx)
          have HP3 := Lib.hid (HP2.out.below hbx)
          have HA3 := Lib.hid (HA2.out.below hbx)
          have HS3 := Lib.hid (HS2.out.below hbx)
          have HG3 := Lib.hid (Gr.trans HG2.out (Gr.of_below hbx _))
          have HWX := Lib.hid hwx
          have HGX := Lib.hid hgx
          have hgxs : R + 3 ≤ gx := by rw [hgx]; exact hzr2
          have hzx : wx.heap.size = gx + 1 := by rw [hwx, hgx]; simp
          have hzx1 : R + 3 ≤ wx.heap.size := by omega
          have hzx2 : gx < wx.heap.size := by omega
          clear cn hnx hwx hbx hBx hgx hzx
          go_wp2_with fail
          rw [← HWX.out, ← HGX.out]
          clear hc00
          go_loopw [48] (fun i wr => ∃ (k3 : Nat) (l : List Alt) (va : Value), k3 ≤ k ∧ i = .int .i64 k3 ∧ Hid (CatBx wr R (.slice pa pn pcap) va) ∧ Hid (wr.heap[gx]? = some (.cells #[.string nx] 9 (0, 0))) ∧ Hid (OwnR TPt wr (R + 3) (.slice pa pn pcap) ps) ∧ Hid (OwnR TAl wr (R + 3) va l) ∧ Hid (l.length ≤ 5 * k2 + k3) ∧ Hid (∀ x ∈ l, AltS x) ∧ Hid (Str wr s (c + 1500 + 20 * k2 + 2 * k3)) ∧ Hid (w.grownBy wr (some s)) ∧ R + 3 ≤ wr.heap.size ∧ gx < wr.heap.size) (fun i _ => k - (intOf i).toNat)
          case atStart => exact ⟨0, l, va, Nat.zero_le _, rfl, HX3, HBX, HP3, HA3, Lib.hid (by have := HL2.out; omega), HOK2, Lib.hid (HS3.out.mono (by omega)), HG3, hzx1, hzx2⟩
          case round =>
            obtain ⟨k3, l, va, hk3, rfl, HX4, HBX4, HP4, HA4, HL4, HOK4, HS4, HG4, hzr4, hgx4⟩ := hrel
            by_cases hlt3 : k3 < k
            · obtain ⟨ny, cn, hny⟩ := nm_small HX4.out k3 (by omega)
              have HNY := Lib.hid hny
              have hwk3 : IntKind.i64.wrap ((k3 : Int) + 1) = ((k3 + 1 : Nat) : Int) := by rw [IntWalk.i64_in _ (by omega)]; omega
              have hc00 : wr.cell? ⟨w.heap.size + 1 + 1, k3, none⟩ = some (.string ny) := by rw [HWR.out.2.2]; exact cn
              obtain ⟨gy, hgy⟩ : ∃ gy, gy = wr.heap.size := ⟨_, rfl⟩
              obtain ⟨wy, hwy⟩ : ∃ wy, wy = wr.alloc (.cells #[.string ny] 9) := ⟨_, rfl⟩
              have hby : Below wr.heap.size wr wy := by rw [hwy]; exact Bl.alloc (Below.refl _ _) _
              have HBY := Lib.hid (show wy.heap[gy]? = some (.cells #[.string ny] 9 (0, 0)) by rw [hwy, hgy]; exact blk_new wr _)
              have HBX5 := Lib.hid (blk_below HBX4.out hby)
              have HX5 := Lib.hid (HX4.out.low hby)
              have HP5 := Lib.hid (HP4.out.below hby)
              have HA5 := Lib.hid (HA4.out.below hby)
              have HS5 := Lib.hid (HS4.out.below hby)
              have HG5 := Lib.hid (Gr.trans HG4.out (Gr.of_below hby _))
              have HWY := Lib.hid hwy
              have HGY := Lib.hid hgy
              have hzy : wy.heap.size = gy + 1 := by rw [hwy, hgy]; simp
              have hgys : R + 3 ≤ gy := by rw [hgy]; exact hzr4
              have hyz : R + 3 ≤ wy.heap.size := by omega
              have hgxy : gx < gy := by rw [hgy]; exact hgx4
              have hyz2 : gy < wy.heap.size := by omega
              have ls5 := HS5.out.lt
              clear cn hny hwy hby hgy hzy
              by_cases hik : k2 = k3
              · have e1 : ((k2 : Int) == (k3 : Int)) = true := by simp [hik]
                have e2 : (k2 : Int) = (k3 : Int) := by omega
                have HF := Lib.hid (And.intro HL4.out hgx4)
                have HYZ : Hid (gx < wy.heap.size) := Lib.hid (by omega)
                go_wp2_with fail
                rw [← HWY.out]
                clear hc00
                go_roundw
                case rel => exact ⟨k3 + 1, l, va, by omega, by go_num, HX5, HBX5, HP5, HA5, Lib.hid (by have := HF.out.1; omega), HOK4, Lib.hid (HS5.out.mono (by omega)), HG5, hyz, HYZ.out⟩
                case measure => simp [intOf]; omega
              · have e1 : ((k2 : Int) == (k3 : Int)) = false := by simp; omega
                have e2 : ¬ (k2 : Int) = (k3 : Int) := by omega
                have e3 : ¬ k2 = k3 := hik
                go_wp2_with fail
                rw [← HWY.out, ← HGY.out]
                clear hc00
                refine (Flip_any s _ 3 wy HS5.out (by omega) (by omega)).mono ?_
                rintro e w6 ⟨fl, rfl, hS6, hG6⟩
                have HX6 := Lib.hid (HX5.out.gr hsR hG6)
                have HBX6 := Lib.hid (Gr.blk hG6 HBX5.out (by omega))
                have HBY6 := Lib.hid (Gr.blk hG6 HBY.out (by omega))
                have HP6 := Lib.hid (HP5.out.grown hG6 (by omega))
                have HA6 := Lib.hid (HA5.out.grown hG6 (by omega))
                have HG6' := Lib.hid (Gr.trans HG5.out hG6)
                have HS6 := Lib.hid hS6
                have hz6 := hG6.size
                have h6a : R + 3 ≤ w6.heap.size := by omega
                have h6b : gx < w6.heap.size := by omega
                have h6c : gy < w6.heap.size := by omega
                clear hG6 hS6
                cases fl
                · go_wp2
                  go_roundw
                  case rel => exact ⟨k3 + 1, l, va, by omega, by go_num, HX6, HBX6, HP6, HA6, Lib.hid (by have := HL4.out; omega), HOK4, Lib.hid (HS6.out.mono (by omega)), HG6', h6a, h6b⟩
                  case measure => simp [intOf]; omega
                · go_wp2_with fail
                  refine (Flip_any s _ 3 w6 HS6.out (by omega) (by omega)).mono ?_
                  rintro e w7 ⟨bo, rfl, hS7, hG7⟩
                  obtain ⟨gb, hgb⟩ : ∃ gb, gb = w7.heap.size := ⟨_, rfl⟩
                  obtain ⟨w8, hw8⟩ : ∃ w8, w8 = w7.alloc (.cells #[.bool bo] 4) := ⟨_, rfl⟩
                  have hb8 : Below w7.heap.size w7 w8 := by rw [hw8]; exact Bl.alloc (Below.refl _ _) _
                  have HBB8 := Lib.hid (show w8.heap[gb]? = some (.cells #[.bool bo] 4 (0, 0)) by rw [hw8, hgb]; exact blk_new w7 _)
                  have HX8 := Lib.hid ((HX6.out.gr hsR hG7).low hb8)
                  have HBX8 := Lib.hid (blk_below (Gr.blk hG7 HBX6.out (by omega)) hb8)
                  have HBY8 := Lib.hid (blk_below (Gr.blk hG7 HBY6.out (by omega)) hb8)
                  have HP8 := Lib.hid ((HP6.out.grown hG7 (by omega)).below hb8)
                  have HA8 := Lib.hid ((HA6.out.grown hG7 (by omega)).below hb8)
                  have HG8 := Lib.hid (Gr.trans (Gr.trans HG6'.out hG7) (Gr.of_below hb8 _))
                  have HS8 := Lib.hid (hS7.below hb8)
                  have hz8 : w8.heap.size = gb + 1 := by rw [hw8, hgb]; simp
                  have hz78 : w6.heap.size ≤ gb := by rw [hgb]; exact hG7.size
                  obtain ⟨aa, acap, hav, _, _⟩ := HA8.out.form
                  obtain ⟨an, han⟩ : ∃ an, an = l.length := ⟨_, rfl⟩
                  rw [← han] at hav
                  subst hav
                  have hl8 : l.length ≤ 1000000 := by have := HL4.out; omega
                  have d0 : ∀ W, Below w8.heap.size w8 W → W.cell? ⟨w.heap.size + 1, 1, none⟩ = some (.slice aa an acap) := fun W hW => by rw [HWR.out.1]; exact blk_cell (HX8.out.low hW).c 1
                  have D0 := Lib.hid d0
                  have HCN := Lib.hid (ContAl_any l ny nx bo gy gx gb (.slice aa an acap) w8 hl8 HBY8.out HBX8.out HBB8.out (by rw [han]; rw [han] at HA8; exact HA8.out.rec0))
                  have HW8 := Lib.hid hw8
                  have HGB := Lib.hid hgb
                  have HZ8 := Lib.hid (And.intro hz8 hz78)
                  have HLA := Lib.hid hl8
                  have d1 : w7.cell? ⟨w.heap.size + 1, 1, none⟩ = some (.slice aa an acap) := by rw [HWR.out.1]; exact blk_cell (HX6.out.gr hsR hG7).c 1
                  have hw7l : w.heap.size + 1 < w7.heap.size := by have := HW0.out; omega
                  clear hG7 hS7 hw8 hgb hb8 hz8 hz78 han hl8 d0
                  go_wp2_with fail
                  rw [← HW8.out, ← HGB.out]
                  refine HCN.out.mono ?_
                  rintro e w9 ⟨⟨q, rfl⟩, hb9⟩
                  have HX9 := Lib.hid (HX8.out.low hb9)
                  have HBX9 := Lib.hid (blk_below HBX8.out hb9)
                  have HBY9 := Lib.hid (blk_below HBY8.out hb9)
                  have HBB9 := Lib.hid (blk_below HBB8.out hb9)
                  have HP9 := Lib.hid (HP8.out.below hb9)
                  have HA9 := Lib.hid (HA8.out.below hb9)
                  have HG9 := Lib.hid (Gr.trans HG8.out (Gr.of_below hb9 _))
                  have HS9 := Lib.hid (HS8.out.below hb9)
                  have hz9 := hb9.size
                  have h9a : R + 3 ≤ w9.heap.size := by have := HZ8.out; omega
                  have h9b : gx < w9.heap.size := by have := HZ8.out; omega
                  have d2 := D0.out w9 hb9
                  clear d1 hb9 HCN
                  cases q
                  case true =>
                    go_wp2
                    go_roundw
                    case rel => exact ⟨k3 + 1, l, _, by omega, by go_num, HX9, HBX9, HP9, HA9, Lib.hid (by have := HL4.out; omega), HOK4, Lib.hid (HS9.out.mono (by omega)), HG9, h9a, h9b⟩
                    case measure => simp [intOf]; omega
                  case false =>
                    have d3 : w9.cell? ⟨gx, 0, none⟩ = some (.string nx) := blk_cell HBX9.out 0
                    have d4 : w9.cell? ⟨gy, 0, none⟩ = some (.string ny) := blk_cell HBY9.out 0
                    have d5 : w9.cell? ⟨gb, 0, none⟩ = some (.bool bo) := blk_cell HBB9.out 0
                    have hwR9 : w.heap.size + 1 < w9.heap.size := by have := HW0.out; omega
                    go_wp2_with (at_builtin; refine wp_app_r TAl.ok rfl _ _ rfl (R + 3) _ l rfl (HA9.out.alloc _) w9.heap.size 1 (nx, ny, bo) rfl (blk_new w9 _) rfl HLA.out (by simp; omega) ?_)
                    intro v9 w10 hO10 hg10 _
                    obtain ⟨na, nc, hv9, _, _⟩ := hO10.form
                    obtain ⟨nn, hnn⟩ : ∃ nn, nn = (l ++ [(nx, ny, bo)]).length := ⟨_, rfl⟩
                    rw [← hnn] at hv9
                    subst hv9
                    clear hnn
                    have hXA := (HX9.out.low (Bl.alloc (Below.refl w9.heap.size w9) (.cells #[.string nx, .string ny, .bool bo] 72))).row (HA9.out.alloc _) (Nat.le_refl _) hg10
                    have hPA := ownR_off (HP9.out.alloc (.cells #[.string nx, .string ny, .bool bo] 72)) (HA9.out.alloc (.cells #[.string nx, .string ny, .bool bo] 72)) (by decide) hg10
                    have hGA := Gr.appR (Gr.alloc HG9.out (.cells #[.string nx, .string ny, .bool bo] 72)) (HA9.out.alloc (.cells #[.string nx, .string ny, .bool bo] 72)) hg10 (by have := HW0.out; omega)
                    have hBA : Below (R + 3) w9 w10 := Below.trans (Below.mono (Bl.alloc (Below.refl w9.heap.size w9) (.cells #[.string nx, .string ny, .bool bo] 72)) h9a) (app_belowR (HA9.out.alloc (.cells #[.string nx, .string ny, .bool bo] 72)) hg10 (by simp; omega))
                    have hSA := HS9.out.belowB hBA (by omega)
                    have hBXA : w10.heap[gx]? = some (.cells #[.string nx] 9 (0, 0)) := blk_offR (blk_old HBX9.out (.cells #[.string nx, .string ny, .bool bo] 72)) (HA9.out.alloc (.cells #[.string nx, .string ny, .bool bo] 72)) (by decide) hg10
                    have hf' : w10.frozen? ⟨w.heap.size + 1, 1, none⟩ = false := by rw [HWR.out.1]; exact blk_free hXA.c 1
                    have hcl' : w10.cell? ⟨w.heap.size + 1, 1, none⟩ = some (.slice aa an acap) := by rw [HWR.out.1]; exact blk_cell hXA.c 1
                    have hOC := blk_set hXA.c 1 (.slice na nn nc)
                    have HXB : Hid (CatBx (w10.setCell ⟨w.heap.size + 1, 1, none⟩ (.slice na nn nc)) R (.slice pa pn pcap) (.slice na nn nc)) := Lib.hid (by
                      rw [HWR.out.1]
                      exact ⟨blk_far hXA.r (R + 1) 1 (.slice na nn nc) (by omega), by simpa using hOC, blk_far hXA.n (R + 1) 1 (.slice na nn nc) (by omega)⟩)
                    have HPB : Hid (OwnR TPt (w10.setCell ⟨w.heap.size + 1, 1, none⟩ (.slice na nn nc)) (R + 3) (.slice pa pn pcap) ps) := Lib.hid (by rw [HWR.out.1]; exact hPA.far (by omega) 1 (.slice na nn nc))
                    have HAB : Hid (OwnR TAl (w10.setCell ⟨w.heap.size + 1, 1, none⟩ (.slice na nn nc)) (R + 3) (.slice na nn nc) (l ++ [(nx, ny, bo)])) := Lib.hid (by rw [HWR.out.1]; exact hO10.far (by omega) 1 (.slice na nn nc))
                    have HSB : Hid (Str (w10.setCell ⟨w.heap.size + 1, 1, none⟩ (.slice na nn nc)) s (c + 1500 + 20 * k2 + 2 * k3 + 1 + 1)) := Lib.hid (by rw [HWR.out.1]; exact hSA.far (R + 1) 1 (by omega) (.slice na nn nc))
                    have HGB2 : Hid (w.grownBy (w10.setCell ⟨w.heap.size + 1, 1, none⟩ (.slice na nn nc)) (some s)) := Lib.hid (Gr.set hGA (w.heap.size + 1) 1 (.inr (by omega)) (.slice na nn nc))
                    have HBXB : Hid ((w10.setCell ⟨w.heap.size + 1, 1, none⟩ (.slice na nn nc)).heap[gx]? = some (.cells #[.string nx] 9 (0, 0))) := Lib.hid (by rw [HWR.out.1]; exact blk_far hBXA (R + 1) 1 (.slice na nn nc) (by omega))
                    have HOKB : Hid (∀ x ∈ l ++ [(nx, ny, bo)], AltS x) := Lib.hid (by
                      intro x hx
                      rcases List.mem_append.1 hx with q | q
                      · exact HOK4.out x q
                      · rw [List.mem_singleton.1 q]; exact ⟨HNX.out, HNY.out⟩)
                    have HLB : Hid ((l ++ [(nx, ny, bo)]).length ≤ 5 * k2 + (k3 + 1)) := Lib.hid (by rw [List.length_append]; have := HL4.out; simp; omega)
                    have hz10 : w9.heap.size ≤ w10.heap.size := hBA.size
                    have HZ10 := Lib.hid (show R + 3 ≤ (w10.setCell ⟨w.heap.size + 1, 1, none⟩ (.slice na nn nc)).heap.size ∧ gx < (w10.setCell ⟨w.heap.size + 1, 1, none⟩ (.slice na nn nc)).heap.size from by simp; omega)
                    have hRw10 : w.heap.size + 1 < w10.heap.size := by omega
                    clear hXA hPA hGA hBA hSA hBXA hOC hO10 hg10 d2 d3 d4 d5
                    go_wp2
                    generalize w10.setCell ⟨w.heap.size + 1, 1, none⟩ (.slice na nn nc) = w11 at *
                    go_roundw
                    case rel => exact ⟨k3 + 1, _, _, by omega, by go_num, HXB, HBXB, HPB, HAB, HLB, HOKB, Lib.hid (HSB.out.mono (by omega)), HGB2, HZ10.out.1, HZ10.out.2⟩
                    case measure => simp [intOf]; omega
            · obtain rfl : k3 = k := by omega
              go_wp2
              go_roundw
              case rel => exact ⟨k2 + 1, l, va, by omega, by go_num, HX4, HP4, HA4, Lib.hid (by have := HL4.out; omega), HOK4, Lib.hid (HS4.out.mono (by omega)), HG4, hzr4⟩
              case measure => simp [intOf]; omega
        · obtain rfl : k2 = k := by omega
          have hl25 : l.length ≤ 25 := by have := HL2.out; omega
          have HL25 := Lib.hid hl25
          obtain ⟨aa, acap, hav, _, _⟩ := HA2.out.form
          obtain ⟨an, han⟩ : ∃ an, an = l.length := ⟨_, rfl⟩
          rw [← han] at hav
          subst hav
          clear han hl25
          go_wp2_with fail
          refine (Flip_any s _ 10 wr HS2.out (by omega) (by omega)).mono ?_
          rintro e w5 ⟨fl, rfl, hS5, hG5⟩
          have HX5 := Lib.hid (HX2.out.gr hsR hG5)
          have HP5 := Lib.hid (HP2.out.grown hG5 (by omega))
          have HA5 := Lib.hid (HA2.out.grown hG5 (by omega))
          have HS5 := Lib.hid hS5
          have HG5 := Lib.hid (Gr.trans HG2.out hG5)
          have hz5 := hG5.size
          clear hS5 hG5
          cases fl
          · have r0 : w5.cell? ⟨w.heap.size + 1, 0, none⟩ = some (.slice pa pn pcap) := by rw [HWR.out.1]; exact blk_cell HX5.out.c 0
            have r1 : w5.cell? ⟨w.heap.size + 1, 1, none⟩ = some (.slice aa an acap) := by rw [HWR.out.1]; exact blk_cell HX5.out.c 1
            have q0 : w5.cell? ⟨w.heap.size, 0, none⟩ = some (.slice none 0 0) := by rw [HW0.out]; exact blk_cell HX5.out.r 0
            have q1 : w5.cell? ⟨w.heap.size, 1, none⟩ = some (.slice none 0 0) := by rw [HW0.out]; exact blk_cell HX5.out.r 1
            have f0 : w5.frozen? ⟨w.heap.size, 0, none⟩ = false := by rw [HW0.out]; exact blk_free HX5.out.r 0
            have f1 : w5.frozen? ⟨w.heap.size, 1, none⟩ = false := by rw [HW0.out]; exact blk_free HX5.out.r 1
            have lR : w.heap.size + 1 < w5.heap.size := by rw [HW0.out]; exact blk_lt HX5.out.c
            have hRS : ((w5.setCell ⟨w.heap.size, 0, none⟩ (.slice pa pn pcap)).setCell ⟨w.heap.size, 1, none⟩ (.slice aa an acap)).heap[w.heap.size]? = some (.cells #[.slice pa pn pcap, .slice aa an acap] 29 (0, 0)) := by
              have := blk_set (blk_set (show w5.heap[w.heap.size]? = _ by rw [HW0.out]; exact HX5.out.r) 0 (.slice pa pn pcap)) 1 (.slice aa an acap)
              simpa using this
            have HPF := Lib.hid ((HP5.out.far (g := w.heap.size) (by have := HW0.out; omega) 0 (.slice pa pn pcap)).far (g := w.heap.size) (by have := HW0.out; omega) 1 (.slice aa an acap))
            have HAF := Lib.hid ((HA5.out.far (g := w.heap.size) (by have := HW0.out; omega) 0 (.slice pa pn pcap)).far (g := w.heap.size) (by have := HW0.out; omega) 1 (.slice aa an acap))
            have HSF := Lib.hid ((HS5.out.far w.heap.size 0 (by omega) (.slice pa pn pcap)).far w.heap.size 1 (by omega) (.slice aa an acap))
            have HGF := Lib.hid (Gr.set (Gr.set HG5.out w.heap.size 0 (.inr (Nat.le_refl _)) (.slice pa pn pcap)) w.heap.size 1 (.inr (Nat.le_refl _)) (.slice aa an acap))
            go_wp2
            generalize (w5.setCell ⟨w.heap.size, 0, none⟩ (.slice pa pn pcap)).setCell ⟨w.heap.size, 1, none⟩ (.slice aa an acap) = w8 at *
            have t0 : w8.cell? ⟨w.heap.size, 0, none⟩ = some (.slice pa pn pcap) := blk_cell hRS 0
            have t1 : w8.cell? ⟨w.heap.size, 1, none⟩ = some (.slice aa an acap) := blk_cell hRS 1
            refine bodyPost_ret (v := .agg #[.slice pa pn pcap, .slice aa an acap]) (by simp [results, Tryz.results7, go_sem, t0, t1]) rfl ?_
            exact ⟨⟨_, _, _, _, rfl, HPF.out.base (by have := HW0.out; omega), HAF.out.base (by have := HW0.out; omega), by have := HPN.out; omega, HL25.out, HOK.out, HOK2.out⟩, HSF.out.mono (by omega), HGF.out⟩
          · have HKP : Hid (∀ g, (g = R ∨ g = R + 1 ∨ g = R + 2) → g < w5.heap.size ∧ g ≠ s ∧ g < R + 3) := Lib.hid fun g hg => ⟨by have := blk_lt HX5.out.n; omega, by omega, by omega⟩
            have HSP := Lib.hid (spoilCat_any s (R + 1) (R + 3) (c + 1500 + 20 * k2 + 1) w w5 w5 (fun g => g = R ∨ g = R + 1 ∨ g = R + 2) (.slice pa pn pcap) (.slice aa an acap) ps l HS5.out (by omega) ls HG5.out (by have := HW0.out; omega) (XK.refl _ _) HX5.out.c (.inr (.inl rfl)) HKP.out HP5.out HA5.out (by have := HPN.out; omega) (by have := HL25.out; omega) HOK.out HOK2.out)
            go_wp2_with fail
            rw [HWR.out.1]
            refine HSP.out.mono ?_
            rintro e w6 ⟨rfl, ⟨ps', l', hp', hl', hO', hA', hok', hoka'⟩, hXK, hS6, hG6⟩
            have HX6 : Hid (CatBx w6 R (.slice pa pn pcap) (.slice aa an acap)) := Lib.hid ⟨(hXK.2 R (.inl rfl)).trans HX5.out.r, (hXK.2 (R + 1) (.inr (.inl rfl))).trans HX5.out.c, (hXK.2 (R + 2) (.inr (.inr rfl))).trans HX5.out.n⟩
            have HP6 := Lib.hid hO'
            have HA6 := Lib.hid hA'
            have HOK6 := Lib.hid hok'
            have HOKA6 := Lib.hid hoka'
            have HS6 := Lib.hid (hS6.mono (d := c + 6000) (by omega))
            have HG6 := Lib.hid hG6
            have HL6 := Lib.hid (And.intro (show ps'.length ≤ 5 by rw [hp', ← HPN.out]; exact hl5) (show l'.length ≤ 25 by rw [hl']; exact HL25.out))
            have r0 : w6.cell? ⟨R + 1, 0, none⟩ = some (.slice pa pn pcap) := blk_cell HX6.out.c 0
            have r1 : w6.cell? ⟨R + 1, 1, none⟩ = some (.slice aa an acap) := blk_cell HX6.out.c 1
            clear hp' hl' hO' hA' hok' hoka' hXK hS6 hG6 HSP
            have q0 : w6.cell? ⟨w.heap.size, 0, none⟩ = some (.slice none 0 0) := by rw [HW0.out]; exact blk_cell HX6.out.r 0
            have q1 : w6.cell? ⟨w.heap.size, 1, none⟩ = some (.slice none 0 0) := by rw [HW0.out]; exact blk_cell HX6.out.r 1
            have f0 : w6.frozen? ⟨w.heap.size, 0, none⟩ = false := by rw [HW0.out]; exact blk_free HX6.out.r 0
            have f1 : w6.frozen? ⟨w.heap.size, 1, none⟩ = false := by rw [HW0.out]; exact blk_free HX6.out.r 1
            have lR : w.heap.size + 1 < w6.heap.size := by rw [HW0.out]; exact blk_lt HX6.out.c
            have hRS : ((w6.setCell ⟨w.heap.size, 0, none⟩ (.slice pa pn pcap)).setCell ⟨w.heap.size, 1, none⟩ (.slice aa an acap)).heap[w.heap.size]? = some (.cells #[.slice pa pn pcap, .slice aa an acap] 29 (0, 0)) := by
              have := blk_set (blk_set (show w6.heap[w.heap.size]? = _ by rw [HW0.out]; exact HX6.out.r) 0 (.slice pa pn pcap)) 1 (.slice aa an acap)
              simpa using this
            have HPF := Lib.hid ((HP6.out.far (g := w.heap.size) (by have := HW0.out; omega) 0 (.slice pa pn pcap)).far (g := w.heap.size) (by have := HW0.out; omega) 1 (.slice aa an acap))
            have HAF := Lib.hid ((HA6.out.far (g := w.heap.size) (by have := HW0.out; omega) 0 (.slice pa pn pcap)).far (g := w.heap.size) (by have := HW0.out; omega) 1 (.slice aa an acap))
            have HSF := Lib.hid ((HS6.out.far w.heap.size 0 (by omega) (.slice pa pn pcap)).far w.heap.size 1 (by omega) (.slice aa an acap))
            have HGF := Lib.hid (Gr.set (Gr.set HG6.out w.heap.size 0 (.inr (Nat.le_refl _)) (.slice pa pn pcap)) w.heap.size 1 (.inr (Nat.le_refl _)) (.slice aa an acap))
            go_wp2
            generalize (w6.setCell ⟨w.heap.size, 0, none⟩ (.slice pa pn pcap)).setCell ⟨w.heap.size, 1, none⟩ (.slice aa an acap) = w8 at *
            have t0 : w8.cell? ⟨w.heap.size, 0, none⟩ = some (.slice pa pn pcap) := blk_cell hRS 0
            have t1 : w8.cell? ⟨w.heap.size, 1, none⟩ = some (.slice aa an acap) := blk_cell hRS 1
            refine bodyPost_ret (v := .agg #[.slice pa pn pcap, .slice aa an acap]) (by simp [results, Tryz.results7, go_sem, t0, t1]) rfl ?_
            exact ⟨⟨_, _, _, _, rfl, HPF.out.base (by have := HW0.out; omega), HAF.out.base (by have := HW0.out; omega), HL6.out.1, HL6.out.2, HOK6.out, HOKA6.out⟩, HSF.out.mono (by omega), HGF.out⟩
end Go.Proofs.YtihgnpobkpnipaaGreatDoor
