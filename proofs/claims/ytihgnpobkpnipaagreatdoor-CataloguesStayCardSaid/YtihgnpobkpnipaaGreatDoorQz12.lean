/- Texts of the proof of a law, put together, part 12 of 41. Conditions: none beyond those that each theorem names. -/
import Derived.Test.YtihgnpobkpnipaaGreatDoorQz1
import Derived.Test.YtihgnpobkpnipaaGreatDoorQz2
import Derived.Test.YtihgnpobkpnipaaGreatDoorQz3
import Derived.Test.YtihgnpobkpnipaaGreatDoorQz11
namespace Go.Proofs.YtihgnpobkpnipaaGreatDoor
open Go.RowKit Go.Sort
end Go.Proofs.YtihgnpobkpnipaaGreatDoor
namespace Go.Proofs.YtihgnpobkpnipaaGreatDoor
open Go.RowKit Go.Sort
theorem cmpR_neg : ∀ x y : List UInt8, Lib.compareBytes x y < 0 ↔ Op.bytesLess x y = true
  | [], [] => by simp [Lib.compareBytes, Op.bytesLess]
  | [], _ :: _ => by simp [Lib.compareBytes, Op.bytesLess]
  | _ :: _, [] => by simp [Lib.compareBytes, Op.bytesLess]
  | a :: x, b :: y => by
    rw [Lib.compareBytes, bl_cons]
    by_cases h1 : a < b
    · simp [h1]
    · by_cases h2 : b < a
      · have hne : ¬ a = b := fun e => by subst e; exact absurd h2 (UInt8.lt_irrefl a)
        simp [h1, h2, hne]
      · have he : a = b := u8_eq (by have := mt (u8_lt a b).2 h1; have := mt (u8_lt b a).2 h2; omega)
        subst he
        rw [if_neg h1, if_neg h1, cmpR_neg x y]
        simp [h1]
theorem cmpR_eq : ∀ x y : List UInt8, Lib.compareBytes x y = 0 ↔ x = y
  | [], [] => by simp [Lib.compareBytes]
  | [], _ :: _ => by simp [Lib.compareBytes]
  | _ :: _, [] => by simp [Lib.compareBytes]
  | a :: x, b :: y => by
    rw [Lib.compareBytes]
    by_cases h1 : a < b
    · have hne : ¬ a = b := fun e => by subst e; exact absurd h1 (UInt8.lt_irrefl a)
      simp [h1, hne]
    · by_cases h2 : b < a
      · have hne : ¬ a = b := fun e => by subst e; exact absurd h2 (UInt8.lt_irrefl a)
        simp [h1, h2, hne]
      · have he : a = b := u8_eq (by have := mt (u8_lt a b).2 h1; have := mt (u8_lt b a).2 h2; omega)
        subst he
        rw [if_neg h1, if_neg h1, cmpR_eq x y]
        simp
def SortR (l : List Rel) : Prop := l.Pairwise fun a b => Op.bytesLess a.1.toList b.1.toList = true
theorem SortR.at {l : List Rel} (h : SortR l) {i j : Nat} {x y : Rel} (hi : l[i]? = some x) (hj : l[j]? = some y) (hij : i < j) : Op.bytesLess x.1.toList y.1.toList = true := by
  obtain ⟨h1, rfl⟩ := List.getElem?_eq_some_iff.1 hi
  obtain ⟨h2, rfl⟩ := List.getElem?_eq_some_iff.1 hj
  exact List.pairwise_iff_getElem.1 h i j h1 h2 hij
end Go.Proofs.YtihgnpobkpnipaaGreatDoor
namespace Go.Proofs.YtihgnpobkpnipaaGreatDoor
open Go.RowKit Go.Sort
def TPt : Rty Prt := { e := 66, S := 26, k := 4, b := 48, z := .agg #[.string ByteArray.empty, .string ByteArray.empty, .int .i64 0, .int .i64 0], f := fun x => [.string x.1, .string x.2.1, .int .i64 x.2.2.1, .int .i64 x.2.2.2] }
theorem TPt.ok : TPt.Ok := ⟨by kernel_rfl, Tryz.underlying26, rfl, by decide, fun _ => rfl, fun x u hu => by simp [TPt] at hu; rcases hu with rfl | rfl | rfl | rfl <;> rfl, by decide⟩
def TAl : Rty Alt := { e := 72, S := 27, k := 3, b := 40, z := .agg #[.string ByteArray.empty, .string ByteArray.empty, .bool false], f := fun x => [.string x.1, .string x.2.1, .bool x.2.2] }
theorem TAl.ok : TAl.Ok := ⟨by kernel_rfl, Tryz.underlying27, rfl, by decide, fun _ => rfl, fun x u hu => by simp [TAl] at hu; rcases hu with rfl | rfl | rfl <;> rfl, by decide⟩
/-- strings that lie in memory. -/
def PrtZ (l : List Prt) : Prop := ∀ x ∈ l, x.1.size ≤ 140737488355328 ∧ x.2.1.size ≤ 140737488355328
def ordP (prev : Option ByteArray) (ky : ByteArray) : Int := match prev with
  | none => 0
  | some p => if blePt ky p = true then 7 else 0
set_option maxHeartbeats 1000000 in
theorem partAt1_any (x : Prt) (key : ByteArray) (w : World) :
    Calls Tryz.prog 167 #[.agg #[.string x.1, .string x.2.1, .int .i64 x.2.2.1, .int .i64 x.2.2.2], .string key] w fun e w' => e = .returned (.int .i64 (Lib.compareBytes x.1.data.toList key.data.toList)) ∧ Below w.heap.size w w' := by
  obtain ⟨k, p, m, bk⟩ := x
  have hX := blk_new w (.cells #[.string k, .string p, .int .i64 m, .int .i64 bk] 66)
  have hb := Bl.alloc (Below.refl w.heap.size w) (.cells #[.string k, .string p, .int .i64 m, .int .i64 bk] 66)
  have c0 : (w.alloc (.cells #[.string k, .string p, .int .i64 m, .int .i64 bk] 66)).cell? ⟨w.heap.size, 0, none⟩ = some (.string k) := blk_cell hX 0
  clear hX
  go_enter Tryz.func167, Tryz.ntmps167
  go_wp2_with fail
  refine (Tryz.strings_Compare k key _).mono ?_
  rintro e w' ⟨rfl, hq⟩
  rw [hq]
  go_wp2
  go_ret
  exact ⟨rfl, hb⟩
def cKp (key : ByteArray) (x : Prt) : Int := Lib.compareBytes x.1.data.toList key.data.toList
def SortP (l : List Prt) : Prop := l.Pairwise fun a b => Op.bytesLess a.1.toList b.1.toList = true
theorem prtF_zero {p : ByteArray} {x : Prt} (h : prtF (some p) x = 0) : Op.bytesLess p.toList x.1.toList = true := by
  unfold prtF at h
  split at h
  · exact absurd h (by decide)
  split at h
  · exact absurd h (by decide)
  split at h
  · exact absurd h (by decide)
  split at h
  · exact absurd h (by decide)
  by_cases h4 : blePt x.1 p = true
  · simp only [h4, if_true] at h; exact absurd h (by decide)
  · have h5 : blePt x.1 p = false := by simpa using h4
    unfold blePt at h5
    rw [Bool.or_eq_false_iff] at h5
    cases hq : Op.bytesLess p.toList x.1.toList
    · have := bl_tot _ _ h5.1 hq
      have h6 := h5.2
      rw [this] at h6
      simp at h6
    · rfl
theorem prtsF1_sorted : ∀ (l : List Prt) (p : Option ByteArray), prtsF1 p l = 0 → (∀ q, p = some q → ∀ x ∈ l, Op.bytesLess q.toList x.1.toList = true) ∧ SortP l
  | [], _, _ => ⟨fun _ _ _ hx => (List.not_mem_nil hx).elim, List.Pairwise.nil⟩
  | x :: l, p, h => by
    rw [prtsF1] at h
    by_cases h0 : prtF p x = 0
    · rw [if_pos h0] at h
      obtain ⟨g1, g2⟩ := prtsF1_sorted l _ h
      have hall := g1 x.1 rfl
      refine ⟨fun q hq y hy => ?_, List.Pairwise.cons hall g2⟩
      subst hq
      have hx := prtF_zero h0
      rcases List.mem_cons.1 hy with rfl | hy
      · exact hx
      · exact bl_trans _ _ _ hx (hall y hy)
    · rw [if_neg h0] at h; exact absurd h h0
theorem cKp_neg (key : ByteArray) (x : Prt) : cKp key x < 0 ↔ Op.bytesLess x.1.toList key.toList = true := by
  unfold cKp; rw [ByteArray.toList_eq, ByteArray.toList_eq]; exact cmpR_neg _ _
theorem cKp_eq (key : ByteArray) (x : Prt) : cKp key x = 0 ↔ x.1.toList = key.toList := by
  unfold cKp; rw [ByteArray.toList_eq, ByteArray.toList_eq]; exact cmpR_eq _ _
theorem SortP.at {l : List Prt} (h : SortP l) {i j : Nat} {x y : Prt} (hi : l[i]? = some x) (hj : l[j]? = some y) (hij : i < j) : Op.bytesLess x.1.toList y.1.toList = true := by
  obtain ⟨h1, rfl⟩ := List.getElem?_eq_some_iff.1 hi
  obtain ⟨h2, rfl⟩ := List.getElem?_eq_some_iff.1 hj
  exact List.pairwise_iff_getElem.1 h i j h1 h2 hij
def LowP (l : List Prt) (key : ByteArray) (lo hi : Nat) : Prop := (∀ m x, m < lo → l[m]? = some x → cKp key x < 0) ∧ (∀ m x, hi ≤ m → l[m]? = some x → 0 ≤ cKp key x)
theorem lowP_up {l : List Prt} {key : ByteArray} {lo hi mid : Nat} {t : Prt} (hs : SortP l) (h : LowP l key lo hi) (ht : l[mid]? = some t) (hc : cKp key t < 0) : LowP l key (mid + 1) hi := by
  refine ⟨fun m x hm hx => ?_, h.2⟩
  by_cases he : m = mid
  · subst he; rw [ht] at hx; cases hx; exact hc
  · exact (cKp_neg key x).2 (bl_trans _ _ _ (hs.at hx ht (by omega)) ((cKp_neg key t).1 hc))
theorem lowP_dn {l : List Prt} {key : ByteArray} {lo hi mid : Nat} {t : Prt} (hs : SortP l) (h : LowP l key lo hi) (ht : l[mid]? = some t) (hc : ¬ cKp key t < 0) : LowP l key lo mid := by
  refine ⟨h.1, fun m x hm hx => ?_⟩
  by_cases he : m = mid
  · subst he; rw [ht] at hx; cases hx; omega
  · by_cases hn : cKp key x < 0
    · exact absurd ((cKp_neg key t).2 (bl_trans _ _ _ (hs.at ht hx (by omega)) ((cKp_neg key x).1 hn))) hc
    · omega
theorem lowP_end {l : List Prt} {key : ByteArray} {lo : Nat} (h : LowP l key lo lo) (hl : l.length ≤ lo) : hasP l key = false := by
  unfold hasP
  rw [List.any_eq_false]
  intro x hx
  obtain ⟨m, hm⟩ := List.mem_iff_getElem?.1 hx
  obtain ⟨hlt, _⟩ := List.getElem?_eq_some_iff.1 hm
  have := h.1 m x (by omega) hm
  intro he
  have he' : x.1.toList = key.toList := by simpa using he
  have := (cKp_eq key x).2 he'
  omega
theorem lowP_at {l : List Prt} {key : ByteArray} {lo : Nat} {t : Prt} (hs : SortP l) (h : LowP l key lo lo) (ht : l[lo]? = some t) : hasP l key = decide (cKp key t = 0) := by
  by_cases hc : cKp key t = 0
  · rw [decide_eq_true hc]
    exact List.any_eq_true.2 ⟨t, List.mem_of_getElem? ht, by simpa using (cKp_eq key t).1 hc⟩
  · rw [decide_eq_false hc]
    unfold hasP
    rw [List.any_eq_false]
    intro x hx
    obtain ⟨m, hm⟩ := List.mem_iff_getElem?.1 hx
    intro he
    have he' : x.1.toList = key.toList := by simpa using he
    have h0 := (cKp_eq key x).2 he'
    by_cases h1 : m < lo
    · have := h.1 m x h1 hm; omega
    · by_cases h2 : m = lo
      · subst h2; rw [ht] at hm; cases hm; exact hc h0
      · have hlt := hs.at ht hm (by omega)
        rw [he'] at hlt
        have := (cKp_neg key t).2 hlt
        have := h.2 lo t (Nat.le_refl _) ht
        omega
set_option maxHeartbeats 4000000 in
set_option maxRecDepth 100000 in
theorem bsfP_any (l : List Prt) (key : ByteArray) (v : Value) (w : World) (hl : l.length ≤ 1000000) (hs : SortP l) (rl : RecR TPt w 0 v l) :
    Calls Tryz.prog 166 #[v, .string key, .func (.func 167) #[] #[]] w fun e w' => (∃ r : Int, e = .returned (.tuple #[.int .i64 r, .bool (hasP l key)]) ∧ (hasP l key = true → ∃ (i : Nat) (x : Prt), r = i ∧ l[i]? = some x ∧ x.1.toList = key.toList)) ∧ Below w.heap.size w w' := by
  obtain ⟨a, cap, rfl, hc1, hc2⟩ := rl.form
  have RL := Lib.hid rl
  have HS := Lib.hid hs
  clear rl hs
  go_enter Tryz.func166, Tryz.ntmps166
  go_wp2
  go_loopw [9, 10] (fun i j wr => ∃ lo hi : Nat, i = .int .i64 lo ∧ j = .int .i64 hi ∧ lo ≤ hi ∧ hi ≤ l.length ∧ Hid (LowP l key lo hi) ∧ Below w.heap.size w wr) (fun i j _ => (intOf j - intOf i).toNat)
  case atStart => exact ⟨0, l.length, rfl, rfl, Nat.zero_le _, Nat.le_refl _, Lib.hid ⟨fun _ _ h => by omega, fun m x h hx => by have := (List.getElem?_eq_some_iff.1 hx).1; omega⟩, Below.refl _ _⟩
  case round =>
    obtain ⟨lo, hi, rfl, rfl, hlh, hhl, HL, hb⟩ := hrel
    by_cases hlt : lo < hi
    · obtain ⟨t, ht⟩ : ∃ t, l[(lo + hi) / 2]? = some t := ⟨_, List.getElem?_eq_getElem (by omega)⟩
      have HU := Lib.hid (fun h => lowP_up HS.out HL.out ht h)
      have HD := Lib.hid (fun h => lowP_dn HS.out HL.out ht h)
      have HC := Lib.hid (partAt1_any t key wr)
      obtain ⟨b2', o2, rfl, _, hl2, hx2⟩ := (RL.out.below hb).at TPt.ok.len ht TPt.ok.pos
      obtain ⟨c, hc⟩ : ∃ c, c = cKp key t := ⟨_, rfl⟩
      have hc' : Lib.compareBytes t.1.data.toList key.data.toList = c := hc.symm
      rw [hc'] at HC
      rw [← hc] at HU HD
      obtain ⟨ky, pt, mn, bk⟩ := t
      have c0 : wr.cell? ⟨b2', o2 + (lo + hi) / 2 * 4, none⟩ = some (.string ky) := hx2 0 _ rfl
      have c1 : wr.cell? ⟨b2', o2 + (lo + hi) / 2 * 4 + 1, none⟩ = some (.string pt) := hx2 1 _ rfl
      have c2 : wr.cell? ⟨b2', o2 + (lo + hi) / 2 * 4 + 2, none⟩ = some (.int .i64 mn) := hx2 2 _ rfl
      have c3 : wr.cell? ⟨b2', o2 + (lo + hi) / 2 * 4 + 3, none⟩ = some (.int .i64 bk) := hx2 3 _ rfl
      have hw5 : IntKind.i64.wrap (((lo : Int) + hi) / 2 + 1) = (((lo + hi) / 2 + 1 : Nat) : Int) := by rw [IntWalk.i64_in _ (by omega)]; omega
      have j1 : (0 : Int) ≤ ((lo : Int) + hi) / 2 := by omega
      have j2 : ((lo : Int) + hi) / 2 < (l.length : Int) := by omega
      clear ht hx2 hc hc'
      go_wp2_with fail
      refine HC.out.mono ?_
      rintro e w2 ⟨rfl, hb2⟩
      have hb02 := Bl.trans hb hb2
      clear hb2
      by_cases hn : c < 0
      · have HL2 := Lib.hid (HU.out hn)
        go_wp2
        go_roundw
        case rel => exact ⟨(lo + hi) / 2 + 1, hi, by go_num, rfl, by omega, hhl, HL2, hb02⟩
        case measure => simp [intOf]; omega
      · have HL2 := Lib.hid (HD.out (by omega))
        go_wp2
        go_roundw
        case rel => exact ⟨lo, (lo + hi) / 2, rfl, by go_num, by omega, by omega, HL2, hb02⟩
        case measure => simp [intOf]; omega
    · obtain rfl : lo = hi := by omega
      by_cases hll : lo < l.length
      · obtain ⟨t, ht⟩ : ∃ t, l[lo]? = some t := ⟨_, List.getElem?_eq_getElem hll⟩
        have HE := Lib.hid (lowP_at HS.out HL.out ht)
        have HT1 := Lib.hid ht
        have HEQ := Lib.hid (cKp_eq key t)
        have HC := Lib.hid (partAt1_any t key wr)
        obtain ⟨b2', o2, rfl, _, hl2, hx2⟩ := (RL.out.below hb).at TPt.ok.len ht TPt.ok.pos
        obtain ⟨c, hc⟩ : ∃ c, c = cKp key t := ⟨_, rfl⟩
        have hc' : Lib.compareBytes t.1.data.toList key.data.toList = c := hc.symm
        rw [hc'] at HC
        rw [← hc] at HE HEQ
        obtain ⟨ky, pt, mn, bk⟩ := t
        have c0 : wr.cell? ⟨b2', o2 + lo * 4, none⟩ = some (.string ky) := hx2 0 _ rfl
        have c1 : wr.cell? ⟨b2', o2 + lo * 4 + 1, none⟩ = some (.string pt) := hx2 1 _ rfl
        have c2 : wr.cell? ⟨b2', o2 + lo * 4 + 2, none⟩ = some (.int .i64 mn) := hx2 2 _ rfl
        have c3 : wr.cell? ⟨b2', o2 + lo * 4 + 3, none⟩ = some (.int .i64 bk) := hx2 3 _ rfl
        have j2 : (lo : Int) < (l.length : Int) := by omega
        clear ht hx2 hc hc'
        go_wp2_with fail
        refine HC.out.mono ?_
        rintro e w2 ⟨rfl, hb2⟩
        have hb02 := Bl.trans hb hb2
        clear hb2
        by_cases hn : c = 0
        · have HV : Hid (hasP l key = true) := Lib.hid (by rw [HE.out, decide_eq_true hn])
          go_wp2
          refine bodyPost_ret (v := .tuple #[.int .i64 lo, .bool true]) (by simp [results, Tryz.results166, go_sem]) rfl ?_
          exact ⟨⟨_, by rw [HV.out], fun _ => ⟨lo, _, rfl, HT1.out, HEQ.out.1 hn⟩⟩, hb02⟩
        · have HV : Hid (hasP l key = false) := Lib.hid (by rw [HE.out, decide_eq_false hn])
          go_wp2
          refine bodyPost_ret (v := .tuple #[.int .i64 lo, .bool false]) (by simp [results, Tryz.results166, go_sem, hn]) rfl ?_
          exact ⟨⟨_, by rw [HV.out], fun h => by rw [HV.out] at h; cases h⟩, hb02⟩
      · have HV := Lib.hid (lowP_end HL.out (by omega))
        have j2 : ¬ (lo : Int) < (l.length : Int) := by omega
        go_wp2
        refine bodyPost_ret (v := .tuple #[.int .i64 lo, .bool false]) (by simp [results, Tryz.results166, go_sem]) rfl ?_
        exact ⟨⟨_, by rw [HV.out], fun h => by rw [HV.out] at h; cases h⟩, hb⟩
theorem partAt_any (l : List Prt) (key : ByteArray) (v : Value) (w : World) (hl : l.length ≤ 1000000) (hs : SortP l) (rl : RecR TPt w 0 v l) :
    Calls Tryz.prog 122 #[v, .string key] w fun e w' => (∃ r : Int, e = .returned (.tuple #[.int .i64 r, .bool (hasP l key)]) ∧ (hasP l key = true → ∃ (i : Nat) (x : Prt), r = i ∧ l[i]? = some x ∧ x.1.toList = key.toList)) ∧ Below w.heap.size w w' := by
  have HC := Lib.hid (bsfP_any l key v w hl hs rl)
  obtain ⟨a, cap, rfl, _, _⟩ := rl.form
  clear rl hs
  go_enter Tryz.func122, Tryz.ntmps122
  go_wp2_with fail
  refine HC.out.mono ?_
  rintro e w2 ⟨⟨r, rfl, hr⟩, hb⟩
  have HR := Lib.hid hr
  clear hr
  go_wp2
  refine bodyPost_ret (by simp [results, Tryz.results122, go_sem]; rfl) rfl ?_
  exact ⟨⟨r, rfl, HR.out⟩, hb⟩
end Go.Proofs.YtihgnpobkpnipaaGreatDoor
namespace Go.Proofs.YtihgnpobkpnipaaGreatDoor
open Go.RowKit Go.Sort
/-- events: when, kind, feeder, reel, how many, board. -/
abbrev Fed := Int × Int × ByteArray × ByteArray × Int × ByteArray
end Go.Proofs.YtihgnpobkpnipaaGreatDoor
namespace Go.Proofs.YtihgnpobkpnipaaGreatDoor
open Go.RowKit Go.Sort
abbrev Lf := ByteArray → Int
def updL (left : Lf) (k : ByteArray) (n : Int) : Lf := fun x => if x = k then n else left x
theorem updL_at (left : Lf) (k : ByteArray) (n : Int) : updL left k n k = n := if_pos rfl
theorem updL_ne (left : Lf) {k x : ByteArray} (n : Int) (h : x ≠ k) : updL left k n x = left x := if_neg h
theorem updL_upd (left : Lf) (k : ByteArray) (n m : Int) : updL (updL left k n) k m = updL left k m := by
  funext x; unfold updL; by_cases h : x = k <;> simp [h]
/-- empty reels that others follow are taken out. -/
def dropE (left : Lf) : List ByteArray → List ByteArray
  | [] => []
  | [a] => [a]
  | a :: b :: l => if left a = 0 then dropE left (b :: l) else a :: b :: l
def addT : List (ByteArray × Int) → ByteArray → List (ByteArray × Int)
  | [], k => [(k, 1)]
  | (x, m) :: r, k => if x = k then (x, m + 1) :: r else (k, 1) :: (x, m) :: r
/-- one by one. -/
def takeO : Nat → Lf → List ByteArray → List (ByteArray × Int) → Lf × List ByteArray × List (ByteArray × Int)
  | 0, left, l, log => (left, dropE left l, log)
  | n + 1, left, l, log => match dropE left l with
    | [] => (left, [], log)
    | k :: r => takeO n (updL left k (left k - 1)) (k :: r) (addT log k)
/-- reel by reel, of a row that is cleared. -/
def takeP : Nat → Int → Lf → List ByteArray → List (ByteArray × Int) → Lf × List ByteArray × List (ByteArray × Int)
  | 0, _, left, l, log => (left, l, log)
  | fuel + 1, n, left, l, log => if n ≤ 0 then (left, l, log) else match l with
    | [] => (left, l, log)
    | k :: r => takeP fuel (n - min n (left k)) (updL left k (left k - min n (left k))) (dropE (updL left k (left k - min n (left k))) (k :: r)) ((k, min n (left k)) :: log)
def sumL (left : Lf) : List ByteArray → Int
  | [] => 0
  | k :: r => left k + sumL left r
theorem dropE_pos {left : Lf} {k : ByteArray} (r : List ByteArray) (h : left k ≠ 0) : dropE left (k :: r) = k :: r := by
  cases r with
  | nil => rfl
  | cons b l => show (if left k = 0 then _ else _) = _; rw [if_neg h]
theorem dropE_idem (left : Lf) : ∀ l : List ByteArray, dropE left (dropE left l) = dropE left l
  | [] => rfl
  | [a] => rfl
  | a :: b :: l => by
    by_cases h : left a = 0
    · have e : dropE left (a :: b :: l) = dropE left (b :: l) := by show (if left a = 0 then _ else _) = _; rw [if_pos h]
      rw [e]; exact dropE_idem left (b :: l)
    · have e := dropE_pos (b :: l) h
      rw [e, e]
theorem dropE_suffix (left : Lf) : ∀ l : List ByteArray, dropE left l <:+ l
  | [] => List.suffix_refl _
  | [a] => List.suffix_refl _
  | a :: b :: l => by
    by_cases h : left a = 0
    · have e : dropE left (a :: b :: l) = dropE left (b :: l) := by show (if left a = 0 then _ else _) = _; rw [if_pos h]
      rw [e]; exact (dropE_suffix left (b :: l)).trans (List.suffix_cons a _)
    · rw [dropE_pos (b :: l) h]; exact List.suffix_refl _
theorem dropE_sum (left : Lf) : ∀ l : List ByteArray, sumL left (dropE left l) = sumL left l
  | [] => rfl
  | [a] => rfl
  | a :: b :: l => by
    by_cases h : left a = 0
    · have e : dropE left (a :: b :: l) = dropE left (b :: l) := by show (if left a = 0 then _ else _) = _; rw [if_pos h]
      rw [e, dropE_sum left (b :: l)]
      show _ = left a + sumL left (b :: l)
      omega
    · rw [dropE_pos (b :: l) h]
theorem takeO_drop (n : Nat) (left : Lf) (l : List ByteArray) (log : List (ByteArray × Int)) : takeO n left (dropE left l) log = takeO n left l log := by
  cases n with
  | zero => show (left, dropE left (dropE left l), log) = _; rw [dropE_idem]; rfl
  | succ n => rw [takeO, takeO, dropE_idem]
theorem takeO_run (k : ByteArray) (r : List ByteArray) (log : List (ByteArray × Int)) (m : Nat) : ∀ (t : Nat) (left : Lf) (a : Int), (t : Int) ≤ left k → takeO (t + m) left (k :: r) ((k, a) :: log) = takeO m (updL left k (left k - t)) (k :: r) ((k, a + t) :: log)
  | 0, left, a, _ => by
    have e : updL left k (left k - (0 : Nat)) = left := by
      funext x; unfold updL; by_cases h : x = k
      · rw [if_pos h, h]; simp
      · rw [if_neg h]
    rw [e, Nat.zero_add]
    simp
  | t + 1, left, a, h => by
    have hk : left k ≠ 0 := by omega
    rw [show t + 1 + m = (t + m) + 1 by omega, takeO, dropE_pos r hk]
    show takeO (t + m) (updL left k (left k - 1)) (k :: r) (if k = k then (k, a + 1) :: log else _) = _
    rw [if_pos rfl, takeO_run k r log m t (updL left k (left k - 1)) (a + 1) (by rw [updL_at]; omega), updL_upd, updL_at]
    have e1 : left k - 1 - (t : Int) = left k - ((t + 1 : Nat) : Int) := by omega
    have e2 : a + 1 + (t : Int) = a + ((t + 1 : Nat) : Int) := by omega
    rw [e1, e2]
theorem takeO_first (k : ByteArray) (r : List ByteArray) (log : List (ByteArray × Int)) (m t : Nat) (left : Lf) (h : ((t + 1 : Nat) : Int) ≤ left k) (hl : ∀ x, log.head? = some x → x.1 ≠ k) :
    takeO (t + 1 + m) left (k :: r) log = takeO m (updL left k (left k - (t + 1 : Nat))) (k :: r) ((k, ((t + 1 : Nat) : Int)) :: log) := by
  have hk : left k ≠ 0 := by omega
  have ha : addT log k = (k, 1) :: log := by
    cases log with
    | nil => rfl
    | cons x r => obtain ⟨y, c⟩ := x; show (if y = k then _ else _) = _; rw [if_neg (hl (y, c) rfl)]
  rw [show t + 1 + m = (t + m) + 1 by omega, takeO, dropE_pos r hk]
  show takeO (t + m) (updL left k (left k - 1)) (k :: r) (addT log k) = _
  rw [ha, takeO_run k r log m t _ 1 (by rw [updL_at]; omega), updL_upd, updL_at]
  have e1 : left k - 1 - (t : Int) = left k - ((t + 1 : Nat) : Int) := by omega
  have e2 : (1 : Int) + (t : Int) = ((t + 1 : Nat) : Int) := by omega
  rw [e1, e2]
theorem sumL_upd (left : Lf) (k : ByteArray) (n : Int) : ∀ l : List ByteArray, k ∉ l → sumL (updL left k n) l = sumL left l
  | [], _ => rfl
  | x :: r, h => by
    have hx : x ≠ k := fun e => h (by rw [e]; exact List.mem_cons_self ..)
    show updL left k n x + sumL (updL left k n) r = left x + sumL left r
    rw [updL_ne left n hx, sumL_upd left k n r (fun hm => h (List.mem_cons_of_mem _ hm))]
/-- both ways to take leave the same. -/
theorem takeO_P : ∀ (N n : Nat) (fuel : Nat) (left : Lf) (l : List ByteArray) (log : List (ByteArray × Int)), n ≤ N → n ≤ fuel → dropE left l = l → (n : Int) ≤ sumL left l → (∀ x ∈ l, 0 ≤ left x) → l.Nodup → (n = 0 ∨ ∀ x, log.head? = some x → x.1 ∉ l) →
    takeO n left l log = takeP fuel n left l log
  | _, 0, fuel, left, l, log, _, _, hd, _, _, _, _ => by
    show (left, dropE left l, log) = _
    rw [hd]
    cases fuel with
    | zero => rfl
    | succ f => rw [takeP.eq_def]; exact (if_pos (by omega : ((0 : Nat) : Int) ≤ 0)).symm
  | 0, n + 1, _, _, _, _, h, _, _, _, _, _, _ => by omega
  | N + 1, n + 1, 0, _, _, _, _, h, _, _, _, _, _ => by omega
  | N + 1, n + 1, fuel + 1, left, l, log, hN, hf, hd, hs, h0, hnd, hlog => by
    have hlog' : ∀ x, log.head? = some x → x.1 ∉ l := by
      rcases hlog with h | h
      · omega
      · exact h
    cases l with
    | nil => simp only [sumL] at hs; omega
    | cons k r =>
      have hk0 := h0 k (List.mem_cons_self ..)
      have hkr : k ∉ r := (List.nodup_cons.1 hnd).1
      have hkp : 0 < left k := by
        cases r with
        | nil => simp only [sumL] at hs; omega
        | cons b t =>
          by_cases hz : left k = 0
          · have e : dropE left (k :: b :: t) = dropE left (b :: t) := by show (if left k = 0 then _ else _) = _; rw [if_pos hz]
            rw [e] at hd
            have hl := (dropE_suffix left (b :: t)).length_le
            rw [hd] at hl
            simp at hl
            omega
          · omega
      rw [takeP, if_neg (by omega)]
      show _ = takeP fuel _ _ _ _
      obtain ⟨t, ht⟩ : ∃ t : Nat, ((t + 1 : Nat) : Int) = min ((n + 1 : Nat) : Int) (left k) := ⟨(min ((n + 1 : Nat) : Int) (left k)).toNat - 1, by omega⟩
      rw [← ht]
      obtain ⟨m, hm⟩ : ∃ m, n + 1 = t + 1 + m := ⟨n + 1 - (t + 1), by omega⟩
      rw [hm, takeO_first k r log m t left (by omega) (fun x hx e => hlog' x hx (by rw [e]; exact List.mem_cons_self ..)), ← takeO_drop]
      have e3 : ((t + 1 + m : Nat) : Int) - ((t + 1 : Nat) : Int) = (m : Int) := by omega
      rw [e3]
      have hsum : sumL (updL left k (left k - ((t + 1 : Nat) : Int))) (k :: r) = sumL left (k :: r) - ((t + 1 : Nat) : Int) := by
        show updL left k _ k + sumL (updL left k _) r = left k + sumL left r - _
        rw [updL_at, sumL_upd left k _ r hkr]; omega
      have hsf := dropE_suffix (updL left k (left k - ((t + 1 : Nat) : Int))) (k :: r)
      refine takeO_P N m fuel _ _ _ (by omega) (by omega) (dropE_idem _ _) (by rw [dropE_sum, hsum]; omega) ?_ (hnd.sublist hsf.sublist) ?_
      · intro x hx
        have hx' := hsf.subset hx
        by_cases he : x = k
        · rw [he, updL_at]; omega
        · rw [updL_ne left _ he]; exact h0 x hx'
      · by_cases hm0 : m = 0
        · exact .inl hm0
        · refine .inr fun x hx => ?_
          simp only [List.head?_cons, Option.some.injEq] at hx
          subst hx
          have htk : ((t + 1 : Nat) : Int) = left k := by omega
          intro hmem
          cases r with
          | nil => simp only [sumL] at hs; omega
          | cons b u =>
            have e : dropE (updL left k (left k - ((t + 1 : Nat) : Int))) (k :: b :: u) = dropE (updL left k (left k - ((t + 1 : Nat) : Int))) (b :: u) := by
              show (if updL left k _ k = 0 then _ else _) = _
              rw [updL_at, if_pos (by omega)]
            rw [e] at hmem
            exact hkr ((dropE_suffix _ _).subset hmem)
end Go.Proofs.YtihgnpobkpnipaaGreatDoor
