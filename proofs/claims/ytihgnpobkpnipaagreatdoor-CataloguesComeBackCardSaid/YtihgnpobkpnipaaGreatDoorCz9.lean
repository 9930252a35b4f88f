/- Texts of the proof of a law, put together, part 9 of 35. Conditions: none beyond those that each theorem names. -/
import Derived.Test.YtihgnpobkpnipaaGreatDoorCz4
import Derived.Test.YtihgnpobkpnipaaGreatDoorCz5
import Derived.Test.YtihgnpobkpnipaaGreatDoorCz8
import Derived.BigQuiet
namespace Go.Proofs.YtihgnpobkpnipaaGreatDoor
open Go.RowKit Go.Sort
def TPt : Rty Prt := { e := 66, S := 26, k := 4, b := 48, z := .agg #[.string ByteArray.empty, .string ByteArray.empty, .int .i64 0, .int .i64 0], f := fun x => [.string x.1, .string x.2.1, .int .i64 x.2.2.1, .int .i64 x.2.2.2] }
theorem TPt.ok : TPt.Ok := ⟨by kernel_rfl, Tryz.underlying26, rfl, by decide, fun _ => rfl, fun x u hu => by simp [TPt] at hu; rcases hu with rfl | rfl | rfl | rfl <;> rfl, by decide⟩
def TAl : Rty Alt := { e := 72, S := 27, k := 3, b := 40, z := .agg #[.string ByteArray.empty, .string ByteArray.empty, .bool false], f := fun x => [.string x.1, .string x.2.1, .bool x.2.2] }
theorem TAl.ok : TAl.Ok := ⟨by kernel_rfl, Tryz.underlying27, rfl, by decide, fun _ => rfl, fun x u hu => by simp [TAl] at hu; rcases hu with rfl | rfl | rfl <;> rfl, by decide⟩
/-- strings that lie in memory. -/
def PrtZ (l : List Prt) : Prop := ∀ x ∈ l, x.1.size ≤ 140737488355328 ∧ x.2.1.size ≤ 140737488355328
def ordP (prev : Option ByteArray) (ky : ByteArray) : Int := match prev with
  | none => 0
  | some p => if blePt ky p = true then 7 else 0
set_option maxHeartbeats 1000000 in
theorem partAt1_any (x : Prt) (key : ByteArray) (w : World) :
    Calls Tryz.prog 167 #[.agg #[.string x.1, .string x.2.1, .int .i64 x.2.2.1, .int .i64 x.2.2.2], .string key] w fun e w' => e = .returned (.int .i64 (Lib.compareBytes x.1.data.toList key.data.toList)) ∧ Below w.heap.size w w' := by
  obtain ⟨k, p, m, bk⟩ := x
  have hX := blk_new w (.cells #[.string k, .string p, .int .i64 m, .int .i64 bk] 66)
  have hb := Bl.alloc (Below.refl w.heap.size w) (.cells #[.string k, .string p, .int .i64 m, .int .i64 bk] 66)
  have c0 : (w.alloc (.cells #[.string k, .string p, .int .i64 m, .int .i64 bk] 66)).cell? ⟨w.heap.size, 0, none⟩ = some (.string k) := blk_cell hX 0
  clear hX
  go_enter Tryz.func167, Tryz.ntmps167
  go_wp2_with fail
  refine (Tryz.strings_Compare k key _).mono ?_
  rintro e w' ⟨rfl, hq⟩
  rw [hq]
  go_wp2
  go_ret
  exact ⟨rfl, hb⟩
def cKp (key : ByteArray) (x : Prt) : Int := Lib.compareBytes x.1.data.toList key.data.toList
def SortP (l : List Prt) : Prop := l.Pairwise fun a b => Op.bytesLess a.1.toList b.1.toList = true
theorem prtF_zero {p : ByteArray} {x : Prt} (h : prtF (some p) x = 0) : Op.bytesLess p.toList x.1.toList = true := by
  unfold prtF at h
  split at h
  · exact absurd h (by decide)
  split at h
  · exact absurd h (by decide)
  split at h
  · exact absurd h (by decide)
  split at h
  · exact absurd h (by decide)
  by_cases h4 : blePt x.1 p = true
  · simp only [h4, if_true] at h; exact absurd h (by decide)
  · have h5 : blePt x.1 p = false := by simpa using h4
    unfold blePt at h5
    rw [Bool.or_eq_false_iff] at h5
    cases hq : Op.bytesLess p.toList x.1.toList
    · have := bl_tot _ _ h5.1 hq
      have h6 := h5.2
      rw [this] at h6
      simp at h6
    · rfl
theorem prtsF1_sorted : ∀ (l : List Prt) (p : Option ByteArray), prtsF1 p l = 0 → (∀ q, p = some q → ∀ x ∈ l, Op.bytesLess q.toList x.1.toList = true) ∧ SortP l
  | [], _, _ => ⟨fun _ _ _ hx => (List.not_mem_nil hx).elim, List.Pairwise.nil⟩
  | x :: l, p, h => by
    rw [prtsF1] at h
    by_cases h0 : prtF p x = 0
    · rw [if_pos h0] at h
      obtain ⟨g1, g2⟩ := prtsF1_sorted l _ h
      have hall := g1 x.1 rfl
      refine ⟨fun q hq y hy => ?_, List.Pairwise.cons hall g2⟩
      subst hq
      have hx := prtF_zero h0
      rcases List.mem_cons.1 hy with rfl | hy
      · exact hx
      · exact bl_trans _ _ _ hx (hall y hy)
    · rw [if_neg h0] at h; exact absurd h h0
theorem cKp_neg (key : ByteArray) (x : Prt) : cKp key x < 0 ↔ Op.bytesLess x.1.toList key.toList = true := by
  unfold cKp; rw [ByteArray.toList_eq, ByteArray.toList_eq]; exact cmpR_neg _ _
theorem cKp_eq (key : ByteArray) (x : Prt) : cKp key x = 0 ↔ x.1.toList = key.toList := by
  unfold cKp; rw [ByteArray.toList_eq, ByteArray.toList_eq]; exact cmpR_eq _ _
theorem SortP.at {l : List Prt} (h : SortP l) {i j : Nat} {x y : Prt} (hi : l[i]? = some x) (hj : l[j]? = some y) (hij : i < j) : Op.bytesLess x.1.toList y.1.toList = true := by
  obtain ⟨h1, rfl⟩ := List.getElem?_eq_some_iff.1 hi
  obtain ⟨h2, rfl⟩ := List.getElem?_eq_some_iff.1 hj
  exact List.pairwise_iff_getElem.1 h i j h1 h2 hij
def LowP (l : List Prt) (key : ByteArray) (lo hi : Nat) : Prop := (∀ m x, m < lo → l[m]? = some x → cKp key x < 0) ∧ (∀ m x, hi ≤ m → l[m]? = some x → 0 ≤ cKp key x)
theorem lowP_up {l : List Prt} {key : ByteArray} {lo hi mid : Nat} {t : Prt} (hs : SortP l) (h : LowP l key lo hi) (ht : l[mid]? = some t) (hc : cKp key t < 0) : LowP l key (mid + 1) hi := by
  refine ⟨fun m x hm hx => ?_, h.2⟩
  by_cases he : m = mid
  · subst he; rw [ht] at hx; cases hx; exact hc
  · exact (cKp_neg key x).2 (bl_trans _ _ _ (hs.at hx ht (by omega)) ((cKp_neg key t).1 hc))
theorem lowP_dn {l : List Prt} {key : ByteArray} {lo hi mid : Nat} {t : Prt} (hs : SortP l) (h : LowP l key lo hi) (ht : l[mid]? = some t) (hc : ¬ cKp key t < 0) : LowP l key lo mid := by
  refine ⟨h.1, fun m x hm hx => ?_⟩
  by_cases he : m = mid
  · subst he; rw [ht] at hx; cases hx; omega
  · by_cases hn : cKp key x < 0
    · exact absurd ((cKp_neg key t).2 (bl_trans _ _ _ (hs.at ht hx (by omega)) ((cKp_neg key x).1 hn))) hc
    · omega
theorem lowP_end {l : List Prt} {key : ByteArray} {lo : Nat} (h : LowP l key lo lo) (hl : l.length ≤ lo) : hasP l key = false := by
  unfold hasP
  rw [List.any_eq_false]
  intro x hx
  obtain ⟨m, hm⟩ := List.mem_iff_getElem?.1 hx
  obtain ⟨hlt, _⟩ := List.getElem?_eq_some_iff.1 hm
  have := h.1 m x (by omega) hm
  intro he
  have he' : x.1.toList = key.toList := by simpa using he
  have := (cKp_eq key x).2 he'
  omega
theorem lowP_at {l : List Prt} {key : ByteArray} {lo : Nat} {t : Prt} (hs : SortP l) (h : LowP l key lo lo) (ht : l[lo]? = some t) : hasP l key = decide (cKp key t = 0) := by
  by_cases hc : cKp key t = 0
  · rw [decide_eq_true hc]
    exact List.any_eq_true.2 ⟨t, List.mem_of_getElem? ht, by simpa using (cKp_eq key t).1 hc⟩
  · rw [decide_eq_false hc]
    unfold hasP
    rw [List.any_eq_false]
    intro x hx
    obtain ⟨m, hm⟩ := List.mem_iff_getElem?.1 hx
    intro he
    have he' : x.1.toList = key.toList := by simpa using he
    have h0 := (cKp_eq key x).2 he'
    by_cases h1 : m < lo
    · have := h.1 m x h1 hm; omega
    · by_cases h2 : m = lo
      · subst h2; rw [ht] at hm; cases hm; exact hc h0
      · have hlt := hs.at ht hm (by omega)
        rw [he'] at hlt
        have := (cKp_neg key t).2 hlt
        have := h.2 lo t (Nat.le_refl _) ht
        omega
set_option maxHeartbeats 4000000 in
set_option maxRecDepth 100000 in
theorem bsfP_any (l : List Prt) (key : ByteArray) (v : Value) (w : World) (hl : l.length ≤ 1000000) (hs : SortP l) (rl : RecR TPt w 0 v l) :
    Calls Tryz.prog 166 #[v, .string key, .func (.func 167) #[] #[]] w fun e w' => (∃ r : Int, e = .returned (.tuple #[.int .i64 r, .bool (hasP l key)]) ∧ (hasP l key = true → ∃ (i : Nat) (x : Prt), r = i ∧ l[i]? = some x ∧ x.1.toList = key.toList)) ∧ Below w.heap.size w w' := by
  obtain ⟨a, cap, rfl, hc1, hc2⟩ := rl.form
  have RL := Lib.hid rl
  have HS := Lib.hid hs
  clear rl hs
  go_enter Tryz.func166, Tryz.ntmps166
  go_wp2
  go_loopw [9, 10] (fun i j wr => ∃ lo hi : Nat, i = .int .i64 lo ∧ j = .int .i64 hi ∧ lo ≤ hi ∧ hi ≤ l.length ∧ Hid (LowP l key lo hi) ∧ Below w.heap.size w wr) (fun i j _ => (intOf j - intOf i).toNat)
  case atStart => exact ⟨0, l.length, rfl, rfl, Nat.zero_le _, Nat.le_refl _, Lib.hid ⟨fun _ _ h => by omega, fun m x h hx => by have := (List.getElem?_eq_some_iff.1 hx).1; omega⟩, Below.refl _ _⟩
  case round =>
    obtain ⟨lo, hi, rfl, rfl, hlh, hhl, HL, hb⟩ := hrel
    by_cases hlt : lo < hi
    · obtain ⟨t, ht⟩ : ∃ t, l[(lo + hi) / 2]? = some t := ⟨_, List.getElem?_eq_getElem (by omega)⟩
      have HU := Lib.hid (fun h => lowP_up HS.out HL.out ht h)
      have HD := Lib.hid (fun h => lowP_dn HS.out HL.out ht h)
      have HC := Lib.hid (partAt1_any t key wr)
      obtain ⟨b2', o2, rfl, _, hl2, hx2⟩ := (RL.out.below hb).at TPt.ok.len ht TPt.ok.pos
      obtain ⟨c, hc⟩ : ∃ c, c = cKp key t := ⟨_, rfl⟩
      have hc' : Lib.compareBytes t.1.data.toList key.data.toList = c := hc.symm
      rw [hc'] at HC
      rw [← hc] at HU HD
      obtain ⟨ky, pt, mn, bk⟩ := t
      have c0 : wr.cell? ⟨b2', o2 + (lo + hi) / 2 * 4, none⟩ = some (.string ky) := hx2 0 _ rfl
      have c1 : wr.cell? ⟨b2', o2 + (lo + hi) / 2 * 4 + 1, none⟩ = some (.string pt) := hx2 1 _ rfl
      have c2 : wr.cell? ⟨b2', o2 + (lo + hi) / 2 * 4 + 2, none⟩ = some (.int .i64 mn) := hx2 2 _ rfl
      have c3 : wr.cell? ⟨b2', o2 + (lo + hi) / 2 * 4 + 3, none⟩ = some (.int .i64 bk) := hx2 3 _ rfl
      have hw5 : IntKind.i64.wrap (((lo : Int) + hi) / 2 + 1) = (((lo + hi) / 2 + 1 : Nat) : Int) := by rw [IntWalk.i64_in _ (by omega)]; omega
      have j1 : (0 : Int) ≤ ((lo : Int) + hi) / 2 := by omega
      have j2 : ((lo : Int) + hi) / 2 < (l.length : Int) := by omega
      clear ht hx2 hc hc'
      go_wp2_with fail
      refine HC.out.mono ?_
      rintro e w2 ⟨rfl, hb2⟩
      have hb02 := Bl.trans hb hb2
      clear hb2
      by_cases hn : c < 0
      · have HL2 := Lib.hid (HU.out hn)
        go_wp2
        go_roundw
        case rel => exact ⟨(lo + hi) / 2 + 1, hi, by go_num, rfl, by omega, hhl, HL2, hb02⟩
        case measure => simp [intOf]; omega
      · have HL2 := Lib.hid (HD.out (by omega))
        go_wp2
        go_roundw
        case rel => exact ⟨lo, (lo + hi) / 2, rfl, by go_num, by omega, by omega, HL2, hb02⟩
        case measure => simp [intOf]; omega
    · obtain rfl : lo = hi := by omega
      by_cases hll : lo < l.length
      · obtain ⟨t, ht⟩ : ∃ t, l[lo]? = some t := ⟨_, List.getElem?_eq_getElem hll⟩
        have HE := Lib.hid (lowP_at HS.out HL.out ht)
        have HT1 := Lib.hid ht
        have HEQ := Lib.hid (cKp_eq key t)
        have HC := Lib.hid (partAt1_any t key wr)
        obtain ⟨b2', o2, rfl, _, hl2, hx2⟩ := (RL.out.below hb).at TPt.ok.len ht TPt.ok.pos
        obtain ⟨c, hc⟩ : ∃ c, c = cKp key t := ⟨_, rfl⟩
        have hc' : Lib.compareBytes t.1.data.toList key.data.toList = c := hc.symm
        rw [hc'] at HC
        rw [← hc] at HE HEQ
        obtain ⟨ky, pt, mn, bk⟩ := t
        have c0 : wr.cell? ⟨b2', o2 + lo * 4, none⟩ = some (.string ky) := hx2 0 _ rfl
        have c1 : wr.cell? ⟨b2', o2 + lo * 4 + 1, none⟩ = some (.string pt) := hx2 1 _ rfl
        have c2 : wr.cell? ⟨b2', o2 + lo * 4 + 2, none⟩ = some (.int .i64 mn) := hx2 2 _ rfl
        have c3 : wr.cell? ⟨b2', o2 + lo * 4 + 3, none⟩ = some (.int .i64 bk) := hx2 3 _ rfl
        have j2 : (lo : Int) < (l.length : Int) := by omega
        clear ht hx2 hc hc'
        go_wp2_with fail
        refine HC.out.mono ?_
        rintro e w2 ⟨rfl, hb2⟩
        have hb02 := Bl.trans hb hb2
        clear hb2
        by_cases hn : c = 0
        · have HV : Hid (hasP l key = true) := Lib.hid (by rw [HE.out, decide_eq_true hn])
          go_wp2
          refine bodyPost_ret (v := .tuple #[.int .i64 lo, .bool true]) (by simp [results, Tryz.results166, go_sem]) rfl ?_
          exact ⟨⟨_, by rw [HV.out], fun _ => ⟨lo, _, rfl, HT1.out, HEQ.out.1 hn⟩⟩, hb02⟩
        · have HV : Hid (hasP l key = false) := Lib.hid (by rw [HE.out, decide_eq_false hn])
          go_wp2
          refine bodyPost_ret (v := .tuple #[.int .i64 lo, .bool false]) (by simp [results, Tryz.results166, go_sem, hn]) rfl ?_
          exact ⟨⟨_, by rw [HV.out], fun h => by rw [HV.out] at h; cases h⟩, hb02⟩
      · have HV := Lib.hid (lowP_end HL.out (by omega))
        have j2 : ¬ (lo : Int) < (l.length : Int) := by omega
        go_wp2
        refine bodyPost_ret (v := .tuple #[.int .i64 lo, .bool false]) (by simp [results, Tryz.results166, go_sem]) rfl ?_
        exact ⟨⟨_, by rw [HV.out], fun h => by rw [HV.out] at h; cases h⟩, hb⟩
theorem partAt_any (l : List Prt) (key : ByteArray) (v : Value) (w : World) (hl : l.length ≤ 1000000) (hs : SortP l) (rl : RecR TPt w 0 v l) :
    Calls Tryz.prog 122 #[v, .string key] w fun e w' => (∃ r : Int, e = .returned (.tuple #[.int .i64 r, .bool (hasP l key)]) ∧ (hasP l key = true → ∃ (i : Nat) (x : Prt), r = i ∧ l[i]? = some x ∧ x.1.toList = key.toList)) ∧ Below w.heap.size w w' := by
  have HC := Lib.hid (bsfP_any l key v w hl hs rl)
  obtain ⟨a, cap, rfl, _, _⟩ := rl.form
  clear rl hs
  go_enter Tryz.func122, Tryz.ntmps122
  go_wp2_with fail
  refine HC.out.mono ?_
  rintro e w2 ⟨⟨r, rfl, hr⟩, hb⟩
  have HR := Lib.hid hr
  clear hr
  go_wp2
  refine bodyPost_ret (by simp [results, Tryz.results122, go_sem]; rfl) rfl ?_
  exact ⟨⟨r, rfl, HR.out⟩, hb⟩
end Go.Proofs.YtihgnpobkpnipaaGreatDoor
namespace Go.Proofs.YtihgnpobkpnipaaGreatDoor
open Go.RowKit Go.Sort
set_option maxHeartbeats 4000000 in
set_option maxRecDepth 100000 in
theorem partFault_any (l : List Prt) (k : Nat) (v : Value) (w : World) (_hl : l.length ≤ 1000000) (hk : k < l.length) (rl : RecR TPt w 0 v l) (hz : PrtZ l) (x : Prt) (hx : l[k]? = some x) :
    Calls Tryz.prog 45 #[v, .int .i64 k] w fun e w' => e = .returned (.int .i64 (prtF (prvP l k) x)) ∧ Below w.heap.size w w' := by
  obtain ⟨a, cap, rfl, _, _⟩ := rl.form
  obtain ⟨z1, z2⟩ := hz x (List.mem_of_getElem? hx)
  obtain ⟨b1, o1, rfl, _, hb1, hc1⟩ := rl.at TPt.ok.len hx TPt.ok.pos
  have HP : Hid (k = 0 ∧ prvP l k = none ∨ ∃ k' p, k = k' + 1 ∧ prvP l k = some p ∧ ∀ W, Below w.heap.size w W → W.cell? ⟨b1, o1 + k' * 4, none⟩ = some (.string p)) := Lib.hid (by
    match k with
    | 0 => exact .inl ⟨rfl, rfl⟩
    | k' + 1 =>
      obtain ⟨p, hp⟩ : ∃ x, l[k']? = some x := ⟨_, List.getElem?_eq_getElem (by omega)⟩
      refine .inr ⟨k', p.1, rfl, by show (l[k']?).map (·.1) = _; rw [hp]; rfl, fun W hW => ?_⟩
      obtain ⟨b4, o4, hae, _, hb4, hc4⟩ := rl.at TPt.ok.len hp TPt.ok.pos
      injection hae with hae
      injection hae with e1 e2 _
      subst e1 e2
      exact ((bcell hW).1 _ _ hb4).trans (hc4 0 _ rfl))
  obtain ⟨F, hF⟩ : ∃ F, F = prtF (prvP l k) x := ⟨_, rfl⟩
  rw [← hF]
  obtain ⟨ky, pk, lv, bk⟩ := x
  have c0 : w.cell? ⟨b1, o1 + k * 4, none⟩ = some (.string ky) := hc1 0 _ rfl
  have c1 : w.cell? ⟨b1, o1 + k * 4 + 1, none⟩ = some (.string pk) := hc1 1 _ rfl
  have c2 : w.cell? ⟨b1, o1 + k * 4 + 2, none⟩ = some (.int .i64 lv) := hc1 2 _ rfl
  have c3 : w.cell? ⟨b1, o1 + k * 4 + 3, none⟩ = some (.int .i64 bk) := hc1 3 _ rfl
  obtain ⟨w1, hw1⟩ : ∃ w1, w1 = w.alloc (.cells #[.string ky, .string pk, .int .i64 lv, .int .i64 bk] 66) := ⟨_, rfl⟩
  have HA1 : Hid (Below w.heap.size w w1) := Lib.hid (by rw [hw1]; exact Bl.alloc (Below.refl _ _) _)
  have HXC := Lib.hid (show ∀ W, Below w1.heap.size w1 W → W.cell? ⟨w.heap.size, 0, none⟩ = some (.string ky) ∧ W.cell? ⟨w.heap.size, 1, none⟩ = some (.string pk) ∧ W.cell? ⟨w.heap.size, 2, none⟩ = some (.int .i64 lv) ∧ W.cell? ⟨w.heap.size, 3, none⟩ = some (.int .i64 bk) from fun W hW => by
    have h : W.heap[w.heap.size]? = some (.cells #[.string ky, .string pk, .int .i64 lv, .int .i64 bk] 66 (0, 0)) := blk_below (by rw [hw1]; exact blk_new w _) hW
    exact ⟨blk_cell h 0, blk_cell h 1, blk_cell h 2, blk_cell h 3⟩)
  obtain ⟨kf, hkf⟩ : ∃ q, q = keyB ky := ⟨_, rfl⟩
  obtain ⟨kp, hkp⟩ : ∃ q, q = keyB pk := ⟨_, rfl⟩
  obtain ⟨il, hil⟩ : ∃ q, q = inB 1 lv 6 := ⟨_, rfl⟩
  obtain ⟨ib, hib⟩ : ∃ q, q = inB 0 bk 720000000 := ⟨_, rfl⟩
  obtain ⟨O, hO⟩ : ∃ q, q = ordP (prvP l k) ky := ⟨_, rfl⟩
  have HV : Hid (F = if kf = false then 5 else if kp = false then 5 else if il = false then 1 else if ib = false then 1 else O) := Lib.hid (by rw [hF, hkf, hkp, hil, hib, hO]; rfl)
  have HK1 : Hid (∀ W, Calls Tryz.prog 86 #[.string ky] W fun e w' => e = .returned (.bool kf) ∧ Below W.heap.size W w') := Lib.hid (fun W => by rw [hkf]; exact IsKey_any ky W z1)
  have HK2 : Hid (∀ W, Calls Tryz.prog 86 #[.string pk] W fun e w' => e = .returned (.bool kp) ∧ Below W.heap.size W w') := Lib.hid (fun W => by rw [hkp]; exact IsKey_any pk W z2)
  have HIL := Lib.hid (fun W => Outside_any lv 1 6 W)
  have HIB := Lib.hid (fun W => Outside_any bk 0 720000000 W)
  rw [← hil] at HIL
  rw [← hib] at HIB
  have HOO := Lib.hid hO
  have HW := Lib.hid hw1
  obtain ⟨x0, x1, x2, x3⟩ := HXC.out w1 (Below.refl _ _)
  have j1 : (0 : Int) ≤ (k : Int) := by omega
  have j2 : (k : Int) < (l.length : Int) := by omega
  clear hF hkf hkp hil hib hO hw1 z1 z2 hx hc1 rl hz
  cases kf
  · have HFF : Hid (F = 5) := Lib.hid HV.out
    go_enter Tryz.func45, Tryz.ntmps45
    go_wp2_with fail
    rw [← HW.out]
    go_wp2_with fail
    refine (HK1.out w1).mono ?_
    rintro e v2 ⟨rfl, hb⟩
    have HWv2 := Lib.hid (Bl.trans HA1.out hb)
    have HRv2 := Lib.hid (hb)
    obtain ⟨x0_0, x0_1, x0_2, x0_3⟩ := HXC.out v2 HRv2.out
    clear hb
    go_wp2
    go_ret
    exact ⟨ret_int HFF.out.symm, HWv2.out⟩
  cases kp
  · have HFF : Hid (F = 5) := Lib.hid HV.out
    go_enter Tryz.func45, Tryz.ntmps45
    go_wp2_with fail
    rw [← HW.out]
    go_wp2_with fail
    refine (HK1.out w1).mono ?_
    rintro e v2 ⟨rfl, hb⟩
    have HWv2 := Lib.hid (Bl.trans HA1.out hb)
    have HRv2 := Lib.hid (hb)
    obtain ⟨x0_0, x0_1, x0_2, x0_3⟩ := HXC.out v2 HRv2.out
    clear hb
    go_wp2_with fail
    refine (HK2.out v2).mono ?_
    rintro e v3 ⟨rfl, hb⟩
    have HWv3 := Lib.hid (Bl.trans HWv2.out hb)
    have HRv3 := Lib.hid (Bl.trans HRv2.out hb)
    obtain ⟨x1_0, x1_1, x1_2, x1_3⟩ := HXC.out v3 HRv3.out
    clear hb
    go_wp2
    go_ret
    exact ⟨ret_int HFF.out.symm, HWv3.out⟩
  cases il
  · have HFF : Hid (F = 1) := Lib.hid HV.out
    go_enter Tryz.func45, Tryz.ntmps45
    go_wp2_with fail
    rw [← HW.out]
    go_wp2_with fail
    refine (HK1.out w1).mono ?_
    rintro e v2 ⟨rfl, hb⟩
    have HWv2 := Lib.hid (Bl.trans HA1.out hb)
    have HRv2 := Lib.hid (hb)
    obtain ⟨x0_0, x0_1, x0_2, x0_3⟩ := HXC.out v2 HRv2.out
    clear hb
    go_wp2_with fail
    refine (HK2.out v2).mono ?_
    rintro e v3 ⟨rfl, hb⟩
    have HWv3 := Lib.hid (Bl.trans HWv2.out hb)
    have HRv3 := Lib.hid (Bl.trans HRv2.out hb)
    obtain ⟨x1_0, x1_1, x1_2, x1_3⟩ := HXC.out v3 HRv3.out
    clear hb
    go_wp2_with fail
    refine (HIL.out v3).mono ?_
    rintro e w' ⟨rfl, rfl⟩
    go_wp2
    go_ret
    exact ⟨ret_int HFF.out.symm, HWv3.out⟩
  cases ib
  · have HFF : Hid (F = 1) := Lib.hid HV.out
    go_enter Tryz.func45, Tryz.ntmps45
    go_wp2_with fail
    rw [← HW.out]
    go_wp2_with fail
    refine (HK1.out w1).mono ?_
    rintro e v2 ⟨rfl, hb⟩
    have HWv2 := Lib.hid (Bl.trans HA1.out hb)
    have HRv2 := Lib.hid (hb)
    obtain ⟨x0_0, x0_1, x0_2, x0_3⟩ := HXC.out v2 HRv2.out
    clear hb
    go_wp2_with fail
    refine (HK2.out v2).mono ?_
    rintro e v3 ⟨rfl, hb⟩
    have HWv3 := Lib.hid (Bl.trans HWv2.out hb)
    have HRv3 := Lib.hid (Bl.trans HRv2.out hb)
    obtain ⟨x1_0, x1_1, x1_2, x1_3⟩ := HXC.out v3 HRv3.out
    clear hb
    go_wp2_with fail
    refine (HIL.out v3).mono ?_
    rintro e w' ⟨rfl, rfl⟩
    go_wp2_with fail
    refine (HIB.out v3).mono ?_
    rintro e w' ⟨rfl, rfl⟩
    go_wp2
    go_ret
    exact ⟨ret_int HFF.out.symm, HWv3.out⟩
  have HFO : Hid (F = O) := Lib.hid HV.out
  clear HV
  rcases HP.out with ⟨h0, hn⟩ | ⟨k', p, hkk, hp, hcell⟩
  · have HFF : Hid (F = 0) := Lib.hid (by rw [HFO.out, HOO.out, hn]; rfl)
    have e1 : ¬ 0 < k := by omega
    have e2 : ¬ (0 : Int) < (k : Int) := by omega
    clear h0 hn
    go_enter Tryz.func45, Tryz.ntmps45
    go_wp2_with fail
    rw [← HW.out]
    go_wp2_with fail
    refine (HK1.out w1).mono ?_
    rintro e v2 ⟨rfl, hb⟩
    have HWv2 := Lib.hid (Bl.trans HA1.out hb)
    have HRv2 := Lib.hid (hb)
    obtain ⟨x0_0, x0_1, x0_2, x0_3⟩ := HXC.out v2 HRv2.out
    clear hb
    go_wp2_with fail
    refine (HK2.out v2).mono ?_
    rintro e v3 ⟨rfl, hb⟩
    have HWv3 := Lib.hid (Bl.trans HWv2.out hb)
    have HRv3 := Lib.hid (Bl.trans HRv2.out hb)
    obtain ⟨x1_0, x1_1, x1_2, x1_3⟩ := HXC.out v3 HRv3.out
    clear hb
    go_wp2_with fail
    refine (HIL.out v3).mono ?_
    rintro e w' ⟨rfl, rfl⟩
    go_wp2_with fail
    refine (HIB.out v3).mono ?_
    rintro e w' ⟨rfl, rfl⟩
    go_wp2_with fail
    go_quiet (fail)
    have HB9 := Lib.hid (fun n => Bl.drewN HWv3.out n)
    go_wp2
    go_ret
    exact ⟨ret_int HFF.out.symm, HB9.out _⟩
  · have hm1 : IntKind.i64.wrap ((k : Int) - 1) = (k' : Int) := by rw [IntWalk.i64_in _ (by omega)]; omega
    have e1 : 0 < k := by omega
    have e2 : (0 : Int) < (k : Int) := by omega
    have i1 : (0 : Int) ≤ (k' : Int) := by omega
    have i2 : (k' : Int) < (l.length : Int) := by omega
    have HCE := Lib.hid hcell
    obtain ⟨ql, hql⟩ : ∃ q, q = Op.bytesLess ky.toList p.toList := ⟨_, rfl⟩
    obtain ⟨qe, hqe⟩ : ∃ q, q = (ky.toList == p.toList) := ⟨_, rfl⟩
    have HFO2 : Hid (F = if (ql || qe) = true then 7 else 0) := Lib.hid (by rw [HFO.out, HOO.out, hp, hql, hqe]; rfl)
    have hqe2 : qe = true → ky.toList = p.toList := fun h => by rw [hqe] at h; simpa using h
    have hqe3 : qe = false → ¬ ky.toList = p.toList := fun h => by rw [hqe] at h; simpa using h
    clear hcell hkk hp
    cases ql
    · cases qe
      · have HFF : Hid (F = 0) := Lib.hid HFO2.out
        have y1 : Op.bytesLess ky.toList p.toList = false := hql.symm
        have y2 : (ky.toList == p.toList) = false := hqe.symm
        have y3 := hqe3 rfl
        clear hql hqe hqe2 hqe3
        go_enter Tryz.func45, Tryz.ntmps45
        go_wp2_with fail
        rw [← HW.out]
        go_wp2_with fail
        refine (HK1.out w1).mono ?_
        rintro e v2 ⟨rfl, hb⟩
        have HWv2 := Lib.hid (Bl.trans HA1.out hb)
        have HRv2 := Lib.hid (hb)
        obtain ⟨x0_0, x0_1, x0_2, x0_3⟩ := HXC.out v2 HRv2.out
        clear hb
        go_wp2_with fail
        refine (HK2.out v2).mono ?_
        rintro e v3 ⟨rfl, hb⟩
        have HWv3 := Lib.hid (Bl.trans HWv2.out hb)
        have HRv3 := Lib.hid (Bl.trans HRv2.out hb)
        obtain ⟨x1_0, x1_1, x1_2, x1_3⟩ := HXC.out v3 HRv3.out
        clear hb
        go_wp2_with fail
        refine (HIL.out v3).mono ?_
        rintro e w' ⟨rfl, rfl⟩
        go_wp2_with fail
        refine (HIB.out v3).mono ?_
        rintro e w' ⟨rfl, rfl⟩
        have d0 := HCE.out v3 HWv3.out
        go_wp2_with fail
        go_quiet (fail)
        have HB9 := Lib.hid (fun n => Bl.drewN HWv3.out n)
        clear hm1 e1 e2
        go_wp2
        go_ret
        exact ⟨ret_int HFF.out.symm, HB9.out _⟩
      · have HFF : Hid (F = 7) := Lib.hid HFO2.out
        have y1 : Op.bytesLess ky.toList p.toList = false := hql.symm
        have y2 : (ky.toList == p.toList) = true := hqe.symm
        clear hql hqe hqe2 hqe3
        go_enter Tryz.func45, Tryz.ntmps45
        go_wp2_with fail
        rw [← HW.out]
        go_wp2_with fail
        refine (HK1.out w1).mono ?_
        rintro e v2 ⟨rfl, hb⟩
        have HWv2 := Lib.hid (Bl.trans HA1.out hb)
        have HRv2 := Lib.hid (hb)
        obtain ⟨x0_0, x0_1, x0_2, x0_3⟩ := HXC.out v2 HRv2.out
        clear hb
        go_wp2_with fail
        refine (HK2.out v2).mono ?_
        rintro e v3 ⟨rfl, hb⟩
        have HWv3 := Lib.hid (Bl.trans HWv2.out hb)
        have HRv3 := Lib.hid (Bl.trans HRv2.out hb)
        obtain ⟨x1_0, x1_1, x1_2, x1_3⟩ := HXC.out v3 HRv3.out
        clear hb
        go_wp2_with fail
        refine (HIL.out v3).mono ?_
        rintro e w' ⟨rfl, rfl⟩
        go_wp2_with fail
        refine (HIB.out v3).mono ?_
        rintro e w' ⟨rfl, rfl⟩
        have d0 := HCE.out v3 HWv3.out
        go_wp2_with fail
        go_quiet (fail)
        have HB9 := Lib.hid (fun n => Bl.drewN HWv3.out n)
        clear hm1 e1 e2
        go_wp2
        go_ret
        exact ⟨ret_int HFF.out.symm, HB9.out _⟩
    · have HFF : Hid (F = 7) := Lib.hid HFO2.out
      have y1 : Op.bytesLess ky.toList p.toList = true := hql.symm
      clear hql hqe hqe2 hqe3
      go_enter Tryz.func45, Tryz.ntmps45
      go_wp2_with fail
      rw [← HW.out]
      go_wp2_with fail
      refine (HK1.out w1).mono ?_
      rintro e v2 ⟨rfl, hb⟩
      have HWv2 := Lib.hid (Bl.trans HA1.out hb)
      have HRv2 := Lib.hid (hb)
      obtain ⟨x0_0, x0_1, x0_2, x0_3⟩ := HXC.out v2 HRv2.out
      clear hb
      go_wp2_with fail
      refine (HK2.out v2).mono ?_
      rintro e v3 ⟨rfl, hb⟩
      have HWv3 := Lib.hid (Bl.trans HWv2.out hb)
      have HRv3 := Lib.hid (Bl.trans HRv2.out hb)
      obtain ⟨x1_0, x1_1, x1_2, x1_3⟩ := HXC.out v3 HRv3.out
      clear hb
      go_wp2_with fail
      refine (HIL.out v3).mono ?_
      rintro e w' ⟨rfl, rfl⟩
      go_wp2_with fail
      refine (HIB.out v3).mono ?_
      rintro e w' ⟨rfl, rfl⟩
      have d0 := HCE.out v3 HWv3.out
      go_wp2_with fail
      go_quiet (fail)
      have HB9 := Lib.hid (fun n => Bl.drewN HWv3.out n)
      clear hm1 e1 e2
      go_wp2
      go_ret
      exact ⟨ret_int HFF.out.symm, HB9.out _⟩
end Go.Proofs.YtihgnpobkpnipaaGreatDoor
