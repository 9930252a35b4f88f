/- The contracts of the stream that hands out numbers. Condition: at most 1000000 numbers. -/
import Derived.Test.YtcfeoapbbkfbnaaGreatDoorSl
import Derived.Test.YtcfeoapbbkfbnaaGreatDoorDist
namespace Go.Proofs.YtcfeoapbbkfbnaaGreatDoor
open Go.RowKit Go.Sort

/-- a stream in block s, of which at most c numbers have been taken. -/
def Str (w : World) (s : Nat) (c : Int) : Prop :=
  ∃ (a : Option Addr) (len cap : Nat) (n : Int), w.heap[s]? = some (.cells #[.slice a len cap, .int .i64 n] 25 (0, 0)) ∧ 0 ≤ n ∧ n ≤ c ∧ len ≤ 9223372036854775807 ∧
    ∀ k, k < len → ∃ b o x, a = some ⟨b, o, none⟩ ∧ b < s ∧ b < w.heap.size ∧ w.cell? ⟨b, o + k, none⟩ = some (.int .i64 x) ∧ -9223372036854775808 ≤ x ∧ x ≤ 9223372036854775807
theorem Str.lt {w : World} {s : Nat} {c : Int} (h : Str w s c) : s < w.heap.size := by
  obtain ⟨a, len, cap, n, h1, _⟩ := h
  exact blk_lt h1
theorem Str.mono {w : World} {s : Nat} {c d : Int} (h : Str w s c) (hd : c ≤ d) : Str w s d := by
  obtain ⟨a, len, cap, n, h1, h2, h3, h4⟩ := h
  exact ⟨a, len, cap, n, h1, h2, by omega, h4⟩
theorem Str.below {w w' : World} {s : Nat} {c : Int} (h : Str w s c) (hb : Below w.heap.size w w') : Str w' s c := by
  obtain ⟨a, len, cap, n, h1, h2, h3, h4, h5⟩ := h
  refine ⟨a, len, cap, n, blk_below h1 hb, h2, h3, h4, fun k hk => ?_⟩
  obtain ⟨b, o, x, e, hne, hlt, hc, hx⟩ := h5 k hk
  exact ⟨b, o, x, e, hne, Nat.lt_of_lt_of_le hlt hb.size, ((bcell hb).1 b _ hlt).trans hc, hx⟩
theorem Str.belowB {w w' : World} {s B : Nat} {c : Int} (h : Str w s c) (hb : Below B w w') (hs : s < B) : Str w' s c := by
  obtain ⟨a, len, cap, n, h1, h2, h3, h4, h5⟩ := h
  refine ⟨a, len, cap, n, (hb.block s hs).trans h1, h2, h3, h4, fun k hk => ?_⟩
  obtain ⟨b, o, x, e, hne, hlt, hc, hx⟩ := h5 k hk
  exact ⟨b, o, x, e, hne, Nat.lt_of_lt_of_le hlt hb.size, (hb.cell (p := ⟨b, o + k, none⟩) (by show b < B; omega)).trans hc, hx⟩
theorem Str.drew {w : World} {s : Nat} {c : Int} (h : Str w s c) : Str w.drew s c := h
theorem Gr.undrew {w w' : World} {r : Option Nat} (h : w.drew.grownBy w' r) : w.grownBy w' r := ⟨h.os, h.tape, h.output, h.size, h.block⟩
theorem Str.far {w : World} {s : Nat} {c : Int} (h : Str w s c) (b o : Nat) (hb : s < b) (u : Value) : Str (w.setCell ⟨b, o, none⟩ u) s c := by
  obtain ⟨a, len, cap, n, h1, h2, h3, h4, h5⟩ := h
  refine ⟨a, len, cap, n, blk_far h1 b o u (by omega), h2, h3, h4, fun k hk => ?_⟩
  obtain ⟨b2, o2, x, ha, hlt, hb2, hc, hx⟩ := h5 k hk
  exact ⟨b2, o2, x, ha, hlt, by simpa [World.setCell] using hb2, (World.cell?_of_block (w := w) (Below.heap_setCell w ⟨b, o, none⟩ u b2 (by show b2 ≠ b; omega))).trans hc, hx⟩
theorem Str.alloc {w : World} {s : Nat} {c : Int} (h : Str w s c) (o : Obj) : Str (w.alloc o) s c := h.below ((Below.refl _ _).alloc (Nat.le_refl _) _)
theorem Str.step {w w' : World} {s : Nat} {c n : Int} {a : Option Addr} {len cap : Nat} (h1 : w.heap[s]? = some (.cells #[.slice a len cap, .int .i64 n] 25 (0, 0))) (h2 : 0 ≤ n) (h3 : n ≤ c) (h4 : len ≤ 9223372036854775807)
    (h5 : ∀ k, k < len → ∃ b o x, a = some ⟨b, o, none⟩ ∧ b < s ∧ b < w.heap.size ∧ w.cell? ⟨b, o + k, none⟩ = some (.int .i64 x) ∧ -9223372036854775808 ≤ x ∧ x ≤ 9223372036854775807)
    (hw : ∃ k, w' = (w.setCell ⟨s, 1, none⟩ (.int .i64 (n + 1))).drewN k) : Str w' s (c + 1) ∧ w.grownBy w' (some s) := by
  obtain ⟨q, rfl⟩ := hw
  refine ⟨⟨a, len, cap, n + 1, blk_set h1 1 _, by omega, by omega, h4, fun k hk => ?_⟩, Gr.drewN (Gr.setCell (Gr.refl _ _) (.inl rfl) _) _⟩
  obtain ⟨b, o, x, e, hne, hlt, hc, hx⟩ := h5 k hk
  refine ⟨b, o, x, e, hne, by simpa [World.setCell] using hlt, ?_, hx⟩
  exact (World.cell?_setCell_other _ _ _ _ (by intro hh; injection hh with e1; omega)).trans hc

set_option maxHeartbeats 400000 in
theorem Below_any (x n : Int) (w : World) (_ : -9223372036854775808 ≤ x) (_ : x ≤ 9223372036854775807) (hn : n ≤ 9223372036854775807) :
    Calls Tryz.prog 108 #[.int .i64 x, .int .i64 n] w fun e w' => ∃ r : Int, e = .returned (.int .i64 r) ∧ (0 ≤ r ∧ (1 ≤ n → r < n) ∧ (n < 1 → r = 0)) ∧ w = w' := by
  by_cases h1 : 1 ≤ n
  · have a1 := Int.tmod_lt_of_pos x (show 0 < n by omega)
    have a2 : -n < x.tmod n := by
      have := Int.tmod_lt_of_pos (-x) (show 0 < n by omega)
      rw [Int.neg_tmod] at this; omega
    go_enter Tryz.func108, Tryz.ntmps108
    go_wp2
    all_goals go_ret
    · exact ⟨_, rfl, by omega, rfl⟩
    · exact ⟨_, rfl, by omega, rfl⟩
  · go_enter Tryz.func108, Tryz.ntmps108
    go_wp2
    go_ret
    exact ⟨0, rfl, by omega, rfl⟩

set_option maxHeartbeats 400000 in
set_option maxRecDepth 100000 in
theorem Next_some (s b off : Nat) (len cap : Nat) (c n x : Int) (w : World) (h : w.heap[s]? = some (.cells #[.slice (some ⟨b, off, none⟩) len cap, .int .i64 c] 25 (0,0))) (hc0 : 0 ≤ c) (hc : c ≤ 1000000) (hl : len ≤ 9223372036854775807) (hlen : 1 ≤ len)
   (hbs : b ≠ s) (hcell : w.cell? ⟨b, off + (c % len).toNat, none⟩ = some (.int .i64 x)) (hx1 : -9223372036854775808 ≤ x) (hx2 : x ≤ 9223372036854775807) (hn : n ≤ 9223372036854775807) :
    Calls Tryz.prog 62 #[.pointer (some ⟨s, 0, none⟩), .int .i64 n] w fun e w' => ∃ r : Int, e = .returned (.int .i64 r) ∧ (0 ≤ r ∧ (1 ≤ n → r < n) ∧ (n < 1 → r = 0)) ∧ ∃ k, w' = (w.setCell ⟨s, 1, none⟩ (.int .i64 (c + 1))).drewN k := by
  have h0 : w.cell? ⟨s, 0, none⟩ = some (.slice (some ⟨b, off, none⟩) len cap) := by simp [World.cell?, h]
  have h1 : w.cell? ⟨s, 1, none⟩ = some (.int .i64 c) := by simp [World.cell?, h]
  have h2 : w.frozen? ⟨s, 1, none⟩ = false := by simp [World.frozen?, h]
  have hq1 : 0 ≤ c % (len : Int) := Int.emod_nonneg _ (by omega)
  have hq2 : c % (len : Int) < len := Int.emod_lt_of_pos _ (by omega)
  have hlb : ((len : Int) == 0) = false := by simp; omega
  have hcell2 : (w.setCell ⟨s, 1, none⟩ (.int .i64 (c + 1))).cell? ⟨b, off + (c % len).toNat, none⟩ = some (.int .i64 x) := by
    rw [World.cell?_setCell_other _ _ _ _ (by intro hh; injection hh with e1; exact hbs e1.symm)]; exact hcell
  clear h
  go_enter Tryz.func62, Tryz.ntmps62
  go_wp2_with fail
  go_quiet (fail)
  go_wp2_with fail
  go_quiet (fail)
  go_wp2_with fail
  refine (Below_any _ _ _ (by omega) (by omega) (by omega)).mono ?_
  rintro e w' ⟨r1, rfl, hr1, rfl⟩
  go_wp2_with fail
  refine (Below_any _ _ _ (by first | exact (wrap64_rng _).1 | omega) (by first | exact (wrap64_rng _).2 | omega) (by omega)).mono ?_
  rintro e w' ⟨r2, rfl, hr2, rfl⟩
  go_wp2
  go_ret
  exact ⟨_, rfl, hr2, _, rfl⟩

set_option maxHeartbeats 400000 in
set_option maxRecDepth 100000 in
theorem Next_none (s : Nat) (a : Option Addr) (cap : Nat) (c n : Int) (w : World) (h : w.heap[s]? = some (.cells #[.slice a 0 cap, .int .i64 c] 25 (0,0))) (hc0 : 0 ≤ c) (hc : c ≤ 1000000) (hn : n ≤ 9223372036854775807) :
    Calls Tryz.prog 62 #[.pointer (some ⟨s, 0, none⟩), .int .i64 n] w fun e w' => ∃ r : Int, e = .returned (.int .i64 r) ∧ (0 ≤ r ∧ (1 ≤ n → r < n) ∧ (n < 1 → r = 0)) ∧ ∃ k, w' = (w.setCell ⟨s, 1, none⟩ (.int .i64 (c + 1))).drewN k := by
  have h0 : w.cell? ⟨s, 0, none⟩ = some (.slice a 0 cap) := by simp [World.cell?, h]
  have h1 : w.cell? ⟨s, 1, none⟩ = some (.int .i64 c) := by simp [World.cell?, h]
  have h2 : w.frozen? ⟨s, 1, none⟩ = false := by simp [World.frozen?, h]
  clear h
  go_enter Tryz.func62, Tryz.ntmps62
  go_wp2_with fail
  refine (Below_any _ _ _ (by omega) (by omega) (by omega)).mono ?_
  rintro e w' ⟨r1, rfl, hr1, rfl⟩
  go_wp2
  go_ret
  exact ⟨_, rfl, hr1, 0, rfl⟩

theorem Next_any (s : Nat) (c n : Int) (w : World) (h : Str w s c) (hc : c ≤ 1000000) (hn : n ≤ 9223372036854775807) :
    Calls Tryz.prog 62 #[.pointer (some ⟨s, 0, none⟩), .int .i64 n] w fun e w' => ∃ r : Int, e = .returned (.int .i64 r) ∧ (0 ≤ r ∧ (1 ≤ n → r < n) ∧ (n < 1 → r = 0)) ∧ Str w' s (c + 1) ∧ w.grownBy w' (some s) := by
  obtain ⟨a, len, cap, m, h1, h2, h3, h4, h5⟩ := h
  by_cases hlen : 1 ≤ len
  · have hq1 : 0 ≤ m % (len : Int) := Int.emod_nonneg _ (by omega)
    have hq2 : m % (len : Int) < len := Int.emod_lt_of_pos _ (by omega)
    obtain ⟨b, o, x, rfl, hne, hlt, hcell, hx1, hx2⟩ := h5 (m % (len : Int)).toNat (by omega)
    refine (Next_some s b o len cap m n x w h1 h2 (by omega) h4 hlen (by omega) hcell hx1 hx2 hn).mono ?_
    rintro e w' ⟨r, he, hr, hw⟩
    exact ⟨r, he, hr, Str.step h1 h2 h3 h4 h5 hw⟩
  · obtain rfl : len = 0 := by omega
    refine (Next_none s a cap m n w h1 h2 (by omega) hn).mono ?_
    rintro e w' ⟨r, he, hr, hw⟩
    exact ⟨r, he, hr, Str.step h1 h2 h3 h4 h5 hw⟩

set_option maxHeartbeats 400000 in
theorem Flip_any (s : Nat) (c n : Int) (w : World) (h : Str w s c) (hc : c ≤ 1000000) (hn : n ≤ 9223372036854775807) :
    Calls Tryz.prog 61 #[.pointer (some ⟨s, 0, none⟩), .int .i64 n] w fun e w' => ∃ r : Bool, e = .returned (.bool r) ∧ Str w' s (c + 1) ∧ w.grownBy w' (some s) := by
  go_enter Tryz.func61, Tryz.ntmps61
  go_wp2_with fail
  refine (Next_any s c n _ h hc hn).mono ?_
  rintro e w' ⟨r, rfl, _, hS, hG⟩
  go_wp2
  go_ret
  exact ⟨_, rfl, hS, hG⟩

set_option maxHeartbeats 400000 in
theorem Pick_any (s : Nat) (c : Int) (l : List Int) (v : Value) (w : World) (h : Str w s c) (hc : c ≤ 1000000) (rl : Ints w (s + 1) v l) (h0 : 0 < l.length) (hl : l.length ≤ 1000) :
    Calls Tryz.prog 12 #[.pointer (some ⟨s, 0, none⟩), v] w fun e w' => ∃ r : Int, e = .returned (.int .i64 r) ∧ r ∈ l ∧ Str w' s (c + 1) ∧ w.grownBy w' (some s) := by
  obtain ⟨a, cap, rfl, hc1, hc2⟩ := Ints.form rl
  go_enter Tryz.func12, Tryz.ntmps12
  go_wp2_with fail
  refine (Next_any s c _ _ h hc (by omega)).mono ?_
  rintro e w' ⟨r, rfl, ⟨hr0, hr1, _⟩, hS, hG⟩
  have hr2 := hr1 (by omega)
  clear hr1
  obtain ⟨k, rfl⟩ := Int.eq_ofNat_of_zero_le hr0
  have hk : k < l.length := by omega
  obtain ⟨x, hx⟩ : ∃ x, l[k]? = some x := ⟨_, List.getElem?_eq_getElem hk⟩
  have HM := Lib.hid (List.mem_of_getElem? hx)
  obtain ⟨b, o, rfl, _, _, hcell⟩ := Ints.at (Ints.grown rl hG (Nat.lt_succ_self s)) hx
  clear hx
  go_wp2
  go_ret
  exact ⟨_, rfl, HM.out, hS, hG⟩

set_option maxHeartbeats 400000 in
theorem Range_any (s : Nat) (c lo hi : Int) (w : World) (h : Str w s c) (hc : c ≤ 1000000) (h1 : -2199023255552 ≤ lo) (h2 : lo ≤ 2199023255552) (h3 : -2199023255552 ≤ hi) (h4 : hi ≤ 2199023255552) :
    Calls Tryz.prog 60 #[.pointer (some ⟨s, 0, none⟩), .int .i64 lo, .int .i64 hi] w fun e w' => ∃ r : Int, e = .returned (.int .i64 r) ∧ (lo ≤ r ∧ (lo ≤ hi → r ≤ hi) ∧ (hi < lo → r = lo)) ∧ Str w' s (c + 1) ∧ w.grownBy w' (some s) := by
  by_cases hlh : hi < lo
  · go_enter Tryz.func60, Tryz.ntmps60
    go_wp2
    go_ret
    exact ⟨_, rfl, by omega, h.mono (by omega), Gr.refl _ _⟩
  · go_enter Tryz.func60, Tryz.ntmps60
    go_wp2_with fail
    refine (Next_any s c _ _ h hc (by omega)).mono ?_
    rintro e w' ⟨r, rfl, ⟨hr0, hr1, _⟩, hS, hG⟩
    have hr2 := hr1 (by omega)
    clear hr1
    go_wp2
    go_ret
    exact ⟨_, rfl, by omega, hS, hG⟩

set_option maxHeartbeats 400000 in
theorem Odd_any (s : Nat) (c lo hi : Int) (w : World) (h : Str w s c) (hc : c ≤ 999999) (h1 : -1099511627776 ≤ lo) (h2 : lo ≤ hi) (h4 : hi ≤ 1099511627776) :
    Calls Tryz.prog 63 #[.pointer (some ⟨s, 0, none⟩), .int .i64 lo, .int .i64 hi] w fun e w' => ∃ r : Int, e = .returned (.int .i64 r) ∧ (-1099511627777 ≤ r ∧ r ≤ 1099511627777) ∧ Str w' s (c + 2) ∧ w.grownBy w' (some s) := by
  go_enter Tryz.func63, Tryz.ntmps63
  go_wp2_with fail
  refine (Flip_any s c _ _ h (by omega) (by omega)).mono ?_
  rintro e w' ⟨r, rfl, hS, hG⟩
  cases r
  · go_wp2_with fail
    refine (Range_any s (c + 1) lo hi _ hS (by omega) (by omega) (by omega) (by omega) (by omega)).mono ?_
    rintro e w2 ⟨r, rfl, hr, hS2, hG2⟩
    go_wp2
    go_ret
    exact ⟨_, rfl, by omega, hS2.mono (by omega), Gr.trans hG hG2⟩
  · go_wp2_with fail
    refine (Pick_any s (c + 1) [lo - 1, hi + 1, lo, hi, -1099511627776, 1099511627776] _ _ (hS.alloc _) (by omega) (Ints.of_blk (blk_new _ _) rfl rfl (by simp) (by omega) hS.lt) (by simp) (by simp)).mono ?_
    rintro e w2 ⟨r, rfl, hr, hS2, hG2⟩
    go_wp2
    go_ret
    refine ⟨_, rfl, ?_, hS2.mono (by omega), Gr.trans (Gr.alloc hG _) hG2⟩
    simp only [List.mem_cons, List.not_mem_nil, or_false] at hr
    omega
end Go.Proofs.YtcfeoapbbkfbnaaGreatDoor
