/- Texts of the proof of a law, put together, part 4 of 41. Conditions: none beyond those that each theorem names. -/
import Derived.Test.YtihgnpobkpnipaaGreatDoorQz3
namespace Go.Proofs.YtihgnpobkpnipaaGreatDoor
open Go.RowKit Go.Sort
/-- a stream in block s over the list li, of which m numbers have been taken. -/
def StrX (w : World) (s : Nat) (li : List Int) (m : Nat) : Prop :=
  ∃ (a : Option Addr) (cap : Nat), w.heap[s]? = some (.cells #[.slice a li.length cap, .int .i64 m] 25 (0, 0)) ∧ li.length ≤ 9223372036854775807 ∧
    ∀ k (x : Int), li[k]? = some x → ∃ b o, a = some ⟨b, o, none⟩ ∧ b < s ∧ b < w.heap.size ∧ w.cell? ⟨b, o + k, none⟩ = some (.int .i64 x) ∧ -9223372036854775808 ≤ x ∧ x ≤ 9223372036854775807
theorem StrX.lt {w : World} {s m : Nat} {li : List Int} (h : StrX w s li m) : s < w.heap.size := by
  obtain ⟨a, cap, h1, _⟩ := h
  exact blk_lt h1
theorem StrX.below {w w' : World} {s m : Nat} {li : List Int} (h : StrX w s li m) (hb : Below w.heap.size w w') : StrX w' s li m := by
  obtain ⟨a, cap, h1, h4, h5⟩ := h
  refine ⟨a, cap, blk_below h1 hb, h4, fun k x hk => ?_⟩
  obtain ⟨b, o, e, hne, hlt, hc, hx⟩ := h5 k x hk
  exact ⟨b, o, e, hne, Nat.lt_of_lt_of_le hlt hb.size, ((bcell hb).1 b _ hlt).trans hc, hx⟩
theorem StrX.belowB {w w' : World} {s m B : Nat} {li : List Int} (h : StrX w s li m) (hb : Below B w w') (hs : s < B) : StrX w' s li m := by
  obtain ⟨a, cap, h1, h4, h5⟩ := h
  refine ⟨a, cap, (hb.block s hs).trans h1, h4, fun k x hk => ?_⟩
  obtain ⟨b, o, e, hne, hlt, hc, hx⟩ := h5 k x hk
  exact ⟨b, o, e, hne, Nat.lt_of_lt_of_le hlt hb.size, (hb.cell (p := ⟨b, o + k, none⟩) (by show b < B; omega)).trans hc, hx⟩
theorem StrX.drew {w : World} {s m : Nat} {li : List Int} (h : StrX w s li m) : StrX w.drew s li m := h
theorem StrX.alloc {w : World} {s m : Nat} {li : List Int} (h : StrX w s li m) (o : Obj) : StrX (w.alloc o) s li m := h.below ((Below.refl _ _).alloc (Nat.le_refl _) _)
theorem StrX.far {w : World} {s m : Nat} {li : List Int} (h : StrX w s li m) (b o : Nat) (hb : s < b) (u : Value) : StrX (w.setCell ⟨b, o, none⟩ u) s li m := by
  obtain ⟨a, cap, h1, h4, h5⟩ := h
  refine ⟨a, cap, blk_far h1 b o u (by omega), h4, fun k x hk => ?_⟩
  obtain ⟨b2, o2, ha, hlt, hb2, hc, hx⟩ := h5 k x hk
  exact ⟨b2, o2, ha, hlt, by simpa [World.setCell] using hb2, (World.cell?_of_block (w := w) (Below.heap_setCell w ⟨b, o, none⟩ u b2 (by show b2 ≠ b; omega))).trans hc, hx⟩
/-- another stream's turning leaves it as it is. -/
theorem StrX.other {w w' : World} {s s2 m : Nat} {li : List Int} (h : StrX w s li m) (hg : w.grownBy w' (some s2)) (hs : s < s2) : StrX w' s li m := by
  obtain ⟨a, cap, h1, h4, h5⟩ := h
  refine ⟨a, cap, (hg.block s (blk_lt h1) (by intro e; injection e with e; omega)).trans h1, h4, fun k x hk => ?_⟩
  obtain ⟨b, o, e, hne, hlt, hc, hx⟩ := h5 k x hk
  refine ⟨b, o, e, hne, Nat.lt_of_lt_of_le hlt hg.size, ?_, hx⟩
  exact (World.cell?_of_block (hg.block b hlt (by intro e; injection e with e; omega))).trans hc
theorem StrX.str {w : World} {s m : Nat} {li : List Int} (h : StrX w s li m) : Str w s m := by
  obtain ⟨a, cap, h1, h4, h5⟩ := h
  refine ⟨a, li.length, cap, m, h1, by omega, by omega, h4, fun k hk => ?_⟩
  obtain ⟨b, o, e, hne, hlt, hc, hx⟩ := h5 k _ (List.getElem?_eq_getElem hk)
  exact ⟨b, o, _, e, hne, hlt, hc, hx⟩
theorem StrX.begin {w : World} {a : Option Addr} {cap : Nat} {l : List Int} (rl : Ints w 0 (.slice a l.length cap) l) (hl : ∀ x ∈ l, -9223372036854775808 ≤ x ∧ x ≤ 9223372036854775807) :
    StrX (w.alloc (.cells #[.slice a l.length cap, .int .i64 0] 25)) w.heap.size l 0 := by
  obtain ⟨a', cap', hv, h1, h2⟩ := Ints.form rl
  injection hv with _ _ hcap
  refine ⟨a, cap, blk_new w _, by omega, fun k x hk => ?_⟩
  obtain ⟨b, o, ha, _, hb, hc⟩ := rl.at hk
  have hx := hl x (List.mem_of_getElem? hk)
  exact ⟨b, o, ha, hb, by simp; omega, ((bcell (Bl.alloc (Below.refl _ _) _)).1 _ _ hb).trans hc, hx.1, hx.2⟩
theorem StrX.step {w w' : World} {s m : Nat} {li : List Int} (h : StrX w s li m) (hw : ∃ k, w' = (w.setCell ⟨s, 1, none⟩ (.int .i64 ((m : Int) + 1))).drewN k) : StrX w' s li (m + 1) ∧ w.grownBy w' (some s) := by
  obtain ⟨q, rfl⟩ := hw
  obtain ⟨a, cap, h1, h4, h5⟩ := h
  refine ⟨⟨a, cap, blk_set h1 1 _, h4, fun k x hk => ?_⟩, Gr.drewN (Gr.setCell (Gr.refl _ _) (.inl rfl) _) _⟩
  obtain ⟨b, o, e, hne, hlt, hc, hx⟩ := h5 k x hk
  refine ⟨b, o, e, hne, by simpa [World.setCell] using hlt, ?_, hx⟩
  exact (World.cell?_setCell_other _ _ _ _ (by intro hh; injection hh with e1; omega)).trans hc
def blX (x n : Int) : Int := if n < 1 then 0 else if x.tmod n < 0 then x.tmod n + n else x.tmod n
theorem blX_rng (x n : Int) : 0 ≤ blX x n ∧ (1 ≤ n → blX x n < n) := by
  unfold blX
  by_cases h1 : n < 1
  · rw [if_pos h1]; omega
  · have a1 := Int.tmod_lt_of_pos x (show 0 < n by omega)
    have a2 : -n < x.tmod n := by
      have := Int.tmod_lt_of_pos (-x) (show 0 < n by omega)
      rw [Int.neg_tmod] at this; omega
    rw [if_neg h1]
    split <;> omega
set_option maxHeartbeats 400000 in
theorem Below_x (x n : Int) (w : World) (_ : -9223372036854775808 ≤ x) (_ : x ≤ 9223372036854775807) (hn : n ≤ 9223372036854775807) :
    Calls Tryz.prog 68 #[.int .i64 x, .int .i64 n] w fun e w' => e = .returned (.int .i64 (blX x n)) ∧ w = w' := by
  by_cases h1 : n < 1
  · have e : blX x n = 0 := by unfold blX; rw [if_pos h1]
    rw [e]
    clear e
    go_enter Tryz.func68, Tryz.ntmps68
    go_wp2
    go_ret
    exact ⟨rfl, rfl⟩
  · have a1 := Int.tmod_lt_of_pos x (show 0 < n by omega)
    have a2 : -n < x.tmod n := by
      have := Int.tmod_lt_of_pos (-x) (show 0 < n by omega)
      rw [Int.neg_tmod] at this; omega
    by_cases h2 : x.tmod n < 0
    · have HE : Hid (blX x n = x.tmod n + n) := Lib.hid (by unfold blX; rw [if_neg h1, if_pos h2])
      go_enter Tryz.func68, Tryz.ntmps68
      go_wp2
      go_ret
      exact ⟨by rw [HE.out] <;> rfl, rfl⟩
    · have HE : Hid (blX x n = x.tmod n) := Lib.hid (by unfold blX; rw [if_neg h1, if_neg h2])
      go_enter Tryz.func68, Tryz.ntmps68
      go_wp2
      go_ret
      exact ⟨by rw [HE.out] <;> rfl, rfl⟩
set_option maxHeartbeats 400000 in
set_option maxRecDepth 100000 in
theorem NextS_x (s b off : Nat) (len cap : Nat) (c n x : Int) (w : World) (h : w.heap[s]? = some (.cells #[.slice (some ⟨b, off, none⟩) len cap, .int .i64 c] 25 (0,0))) (hc0 : 0 ≤ c) (hc : c ≤ 1000000) (hl : len ≤ 9223372036854775807) (hlen : 1 ≤ len)
    (hbs : b ≠ s) (hcell : w.cell? ⟨b, off + (c % len).toNat, none⟩ = some (.int .i64 x)) (hx1 : -9223372036854775808 ≤ x) (hx2 : x ≤ 9223372036854775807) (hn : n ≤ 9223372036854775807) :
    Calls Tryz.prog 23 #[.pointer (some ⟨s, 0, none⟩), .int .i64 n] w fun e w' => e = .returned (.int .i64 (blX (wrap64 (blX x 1073741824 + wrap64 (c / (len : Int) * wrap64 (7919 + c % (len : Int))))) n)) ∧ ∃ k, w' = (w.setCell ⟨s, 1, none⟩ (.int .i64 (c + 1))).drewN k := by
  have h0 : w.cell? ⟨s, 0, none⟩ = some (.slice (some ⟨b, off, none⟩) len cap) := by simp [World.cell?, h]
  have h1 : w.cell? ⟨s, 1, none⟩ = some (.int .i64 c) := by simp [World.cell?, h]
  have h2 : w.frozen? ⟨s, 1, none⟩ = false := by simp [World.frozen?, h]
  have hq1 : 0 ≤ c % (len : Int) := Int.emod_nonneg _ (by omega)
  have hq2 : c % (len : Int) < len := Int.emod_lt_of_pos _ (by omega)
  have hlb : ((len : Int) == 0) = false := by simp; omega
  have hcell2 : (w.setCell ⟨s, 1, none⟩ (.int .i64 (c + 1))).cell? ⟨b, off + (c % len).toNat, none⟩ = some (.int .i64 x) := by
    rw [World.cell?_setCell_other _ _ _ _ (by intro hh; injection hh with e1; exact hbs e1.symm)]; exact hcell
  clear h
  go_enter Tryz.func23, Tryz.ntmps23
  go_wp2_with fail
  go_quiet (fail)
  go_wp2_with fail
  go_quiet (fail)
  go_wp2_with fail
  refine (Below_x _ _ _ (by omega) (by omega) (by omega)).mono ?_
  rintro e w' ⟨rfl, rfl⟩
  have hB := blX_rng x 1073741824
  go_wp2_with fail
  refine (Below_x _ _ _ (by first | exact (wrap64_rng _).1 | omega) (by first | exact (wrap64_rng _).2 | omega) (by omega)).mono ?_
  rintro e w' ⟨rfl, rfl⟩
  go_wp2
  go_ret
  exact ⟨rfl, _, rfl⟩
set_option maxHeartbeats 400000 in
set_option maxRecDepth 100000 in
theorem NextN_x (s : Nat) (a : Option Addr) (cap : Nat) (c n : Int) (w : World) (h : w.heap[s]? = some (.cells #[.slice a 0 cap, .int .i64 c] 25 (0,0))) (hc0 : 0 ≤ c) (hc : c ≤ 1000000) (hn : n ≤ 9223372036854775807) :
    Calls Tryz.prog 23 #[.pointer (some ⟨s, 0, none⟩), .int .i64 n] w fun e w' => e = .returned (.int .i64 (blX ((c + 1) * 7919) n)) ∧ ∃ k, w' = (w.setCell ⟨s, 1, none⟩ (.int .i64 (c + 1))).drewN k := by
  have h0 : w.cell? ⟨s, 0, none⟩ = some (.slice a 0 cap) := by simp [World.cell?, h]
  have h1 : w.cell? ⟨s, 1, none⟩ = some (.int .i64 c) := by simp [World.cell?, h]
  have h2 : w.frozen? ⟨s, 1, none⟩ = false := by simp [World.frozen?, h]
  clear h
  go_enter Tryz.func23, Tryz.ntmps23
  go_wp2_with fail
  refine (Below_x _ _ _ (by omega) (by omega) (by omega)).mono ?_
  rintro e w' ⟨rfl, rfl⟩
  go_wp2
  go_ret
  exact ⟨rfl, 0, rfl⟩
/-- the number that comes. -/
def nxX (li : List Int) (m : Nat) (n : Int) : Int :=
  if li.length = 0 then blX (((m : Int) + 1) * 7919) n
  else blX (wrap64 (blX ((li[((m : Int) % (li.length : Int)).toNat]?).getD 0) 1073741824 + wrap64 ((m : Int) / (li.length : Int) * wrap64 (7919 + (m : Int) % (li.length : Int))))) n
theorem nxX_rng (li : List Int) (m : Nat) (n : Int) : 0 ≤ nxX li m n ∧ (1 ≤ n → nxX li m n < n) := by
  unfold nxX
  split <;> exact blX_rng _ _
theorem Next_x (s m : Nat) (li : List Int) (n : Int) (w : World) (h : StrX w s li m) (hm : m ≤ 1000000) (hn : n ≤ 9223372036854775807) :
    Calls Tryz.prog 23 #[.pointer (some ⟨s, 0, none⟩), .int .i64 n] w fun e w' => e = .returned (.int .i64 (nxX li m n)) ∧ StrX w' s li (m + 1) ∧ w.grownBy w' (some s) := by
  have h' := h
  obtain ⟨a, cap, h1, h4, h5⟩ := h
  by_cases hlen : li.length = 0
  · rw [hlen] at h1
    refine (NextN_x s a cap m n w h1 (by omega) (by omega) hn).mono ?_
    rintro e w' ⟨he, hw⟩
    exact ⟨by rw [he]; unfold nxX; rw [if_pos hlen], h'.step hw⟩
  · have hq1 : 0 ≤ (m : Int) % (li.length : Int) := Int.emod_nonneg _ (by omega)
    have hq2 : (m : Int) % (li.length : Int) < li.length := Int.emod_lt_of_pos _ (by omega)
    obtain ⟨x, hx⟩ : ∃ x, li[((m : Int) % (li.length : Int)).toNat]? = some x := ⟨_, List.getElem?_eq_getElem (by omega)⟩
    obtain ⟨b, o, rfl, hne, hlt, hcell, hx1, hx2⟩ := h5 _ x hx
    refine (NextS_x s b o li.length cap m n x w h1 (by omega) (by omega) h4 (by omega) (by omega) hcell hx1 hx2 hn).mono ?_
    rintro e w' ⟨he, hw⟩
    exact ⟨by rw [he]; unfold nxX; rw [if_neg hlen, hx]; rfl, h'.step hw⟩
def flX (li : List Int) (m : Nat) (n : Int) : Bool := nxX li m n == 0
def pkX (li : List Int) (m : Nat) (l : List Int) : Int := (l[(nxX li m l.length).toNat]?).getD 0
def smX (li : List Int) (m : Nat) (l : List ByteArray) : ByteArray := (l[(nxX li m l.length).toNat]?).getD ByteArray.empty
theorem pkX_mem {li : List Int} {m : Nat} {l : List Int} (h : 0 < l.length) : pkX li m l ∈ l := by
  obtain ⟨h1, h2⟩ := nxX_rng li m l.length
  unfold pkX
  rw [List.getElem?_eq_getElem (by omega)]
  exact List.getElem_mem _
theorem smX_mem {li : List Int} {m : Nat} {l : List ByteArray} (h : 0 < l.length) : smX li m l ∈ l := by
  obtain ⟨h1, h2⟩ := nxX_rng li m l.length
  unfold smX
  rw [List.getElem?_eq_getElem (by omega)]
  exact List.getElem_mem _
set_option maxHeartbeats 400000 in
theorem Flip_x (s m : Nat) (li : List Int) (n : Int) (w : World) (h : StrX w s li m) (hm : m ≤ 1000000) (hn : n ≤ 9223372036854775807) :
    Calls Tryz.prog 36 #[.pointer (some ⟨s, 0, none⟩), .int .i64 n] w fun e w' => e = .returned (.bool (flX li m n)) ∧ StrX w' s li (m + 1) ∧ w.grownBy w' (some s) := by
  have HN := Lib.hid (Next_x s m li n w h hm hn)
  have HF : Hid (flX li m n = (nxX li m n == 0)) := Lib.hid rfl
  clear h
  go_enter Tryz.func36, Tryz.ntmps36
  go_wp2_with fail
  refine HN.out.mono ?_
  rintro e w' ⟨rfl, hS, hG⟩
  have HG := Lib.hid (And.intro hS hG)
  clear hS hG HN
  go_wp2
  go_ret
  exact ⟨by rw [HF.out] <;> rfl, HG.out.1, HG.out.2⟩
set_option maxHeartbeats 400000 in
theorem Pick_x (s m : Nat) (li : List Int) (l : List Int) (v : Value) (w : World) (h : StrX w s li m) (hm : m ≤ 1000000) (rl : Ints w (s + 1) v l) (h0 : 0 < l.length) (hl : l.length ≤ 1000) :
    Calls Tryz.prog 35 #[.pointer (some ⟨s, 0, none⟩), v] w fun e w' => e = .returned (.int .i64 (pkX li m l)) ∧ StrX w' s li (m + 1) ∧ w.grownBy w' (some s) := by
  obtain ⟨a, cap, rfl, hc1, hc2⟩ := Ints.form rl
  have HN := Lib.hid (Next_x s m li l.length w h hm (by omega))
  obtain ⟨r, hr⟩ : ∃ r, r = nxX li m l.length := ⟨_, rfl⟩
  obtain ⟨hr0, hr1⟩ := nxX_rng li m l.length
  have hr2 := hr1 (by omega)
  rw [← hr] at HN hr0 hr2
  obtain ⟨k, rfl⟩ := Int.eq_ofNat_of_zero_le hr0
  have hk : k < l.length := by omega
  obtain ⟨x, hx⟩ : ∃ x, l[k]? = some x := ⟨_, List.getElem?_eq_getElem hk⟩
  have HP : Hid (pkX li m l = x) := Lib.hid (by unfold pkX; rw [← hr]; show (l[k]?).getD 0 = x; rw [hx]; rfl)
  have RL := Lib.hid rl
  have HX := Lib.hid hx
  clear h hr rl hr1 hr0 hx
  go_enter Tryz.func35, Tryz.ntmps35
  go_wp2_with fail
  refine HN.out.mono ?_
  rintro e w' ⟨rfl, hS, hG⟩
  have HG := Lib.hid (And.intro hS hG)
  obtain ⟨b, o, rfl, _, _, hcell⟩ := Ints.at (Ints.grown RL.out hG (Nat.lt_succ_self s)) HX.out
  clear hS hG HN RL
  go_wp2
  go_ret
  exact ⟨by rw [HP.out] <;> rfl, HG.out.1, HG.out.2⟩
set_option maxHeartbeats 400000 in
theorem Some_x (s m : Nat) (li : List Int) (l : List ByteArray) (v : Value) (w : World) (h : StrX w s li m) (hm : m ≤ 1000000) (rl : RecR TS w (s + 1) v l) (h0 : 0 < l.length) (hl : l.length ≤ 1000) :
    Calls Tryz.prog 34 #[.pointer (some ⟨s, 0, none⟩), v] w fun e w' => e = .returned (.string (smX li m l)) ∧ StrX w' s li (m + 1) ∧ w.grownBy w' (some s) := by
  obtain ⟨a, cap, rfl, hc1, hc2⟩ := RecR.form rl
  have HN := Lib.hid (Next_x s m li l.length w h hm (by omega))
  obtain ⟨r, hr⟩ : ∃ r, r = nxX li m l.length := ⟨_, rfl⟩
  obtain ⟨hr0, hr1⟩ := nxX_rng li m l.length
  have hr2 := hr1 (by omega)
  rw [← hr] at HN hr0 hr2
  obtain ⟨k, rfl⟩ := Int.eq_ofNat_of_zero_le hr0
  have hk : k < l.length := by omega
  obtain ⟨x, hx⟩ : ∃ x, l[k]? = some x := ⟨_, List.getElem?_eq_getElem hk⟩
  have HP : Hid (smX li m l = x) := Lib.hid (by unfold smX; rw [← hr]; show (l[k]?).getD ByteArray.empty = x; rw [hx]; rfl)
  have RL := Lib.hid rl
  have HX := Lib.hid hx
  clear h hr rl hr1 hr0 hx
  go_enter Tryz.func34, Tryz.ntmps34
  go_wp2_with fail
  refine HN.out.mono ?_
  rintro e w' ⟨rfl, hS, hG⟩
  have HG := Lib.hid (And.intro hS hG)
  obtain ⟨b, o, rfl, _, _, hcell⟩ := (RL.out.grown hG (Nat.lt_succ_self s)).at TS.ok.len HX.out TS.ok.pos
  have hc0 : w'.cell? ⟨b, o + k, none⟩ = some (.string x) := by
    have h2 := hcell 0 _ rfl
    rw [show k * TS.k = k from Nat.mul_one k] at h2
    exact h2
  clear hS hG HN RL hcell
  go_wp2
  go_ret
  exact ⟨by rw [HP.out] <;> rfl, HG.out.1, HG.out.2⟩
set_option maxHeartbeats 400000 in
theorem Range_x (s m : Nat) (li : List Int) (hi : Int) (w : World) (h : StrX w s li m) (hm : m ≤ 1000000) (h1 : 0 ≤ hi) (h2 : hi ≤ 1000000) :
    Calls Tryz.prog 26 #[.pointer (some ⟨s, 0, none⟩), .int .i64 0, .int .i64 hi] w fun e w' => e = .returned (.int .i64 (nxX li m (hi + 1))) ∧ StrX w' s li (m + 1) ∧ w.grownBy w' (some s) := by
  have HN := Lib.hid (Next_x s m li (hi + 1) w h hm (by omega))
  obtain ⟨r, hr⟩ : ∃ r, r = nxX li m (hi + 1) := ⟨_, rfl⟩
  obtain ⟨hr0, hr1⟩ := nxX_rng li m (hi + 1)
  have hr2 := hr1 (by omega)
  rw [← hr] at HN hr0 hr2 ⊢
  clear h hr hr1
  have hw1 : IntKind.i64.wrap (hi - 0 + 1) = hi + 1 := by rw [IntWalk.i64_in _ (by omega)]; omega
  go_enter Tryz.func26, Tryz.ntmps26
  go_wp2_with fail
  refine HN.out.mono ?_
  rintro e w' ⟨rfl, hS, hG⟩
  have HG := Lib.hid (And.intro hS hG)
  clear hS hG HN
  go_wp2
  go_ret
  exact ⟨rfl, HG.out.1, HG.out.2⟩
end Go.Proofs.YtihgnpobkpnipaaGreatDoor
