/- Whether there is a reel: the reference's search, and the program's binary search in reels that are right. Conditions: at most 10^6 reels. · The program's binary search in reels that are right finds what lies there; how many an event takes. Conditions: at most 10^6 reels. -/
import Derived.Test.YtcfeoapbbkfbnaaGreatDoorRe1
import Derived.Test.YtcfeoapbbkfbnaaGreatDoorShelf
import Derived.Test.YtcfeoapbbkfbnaaGreatDoorNms
namespace Go.Proofs.YtcfeoapbbkfbnaaGreatDoor
open Go.RowKit Go.Sort

def hasB (l : List Rel) (key : ByteArray) : Bool := l.any fun x => x.1.toList == key.toList
set_option maxHeartbeats 1000000 in
theorem hasR1_any (x : Rel) (key : ByteArray) (B : Nat) (w : World) (hB : w.heap[B]? = some (.cells #[.string key] 9 (0, 0))) :
    Calls Tryz.prog 81 #[.agg #[.string x.1, .string x.2.1, .int .i64 x.2.2], .pointer (some ⟨B, 0, none⟩)] w fun e w' => e = .returned (.bool (x.1.toList == key.toList)) ∧ Below w.heap.size w w' := by
  obtain ⟨k, p, m⟩ := x
  have hX := blk_new w (.cells #[.string k, .string p, .int .i64 m] 73)
  have hb := Bl.alloc (Below.refl w.heap.size w) (.cells #[.string k, .string p, .int .i64 m] 73)
  have c0 : (w.alloc (.cells #[.string k, .string p, .int .i64 m] 73)).cell? ⟨w.heap.size, 0, none⟩ = some (.string k) := blk_cell hX 0
  have c1 : (w.alloc (.cells #[.string k, .string p, .int .i64 m] 73)).cell? ⟨B, 0, none⟩ = some (.string key) := blk_cell (blk_old hB _) 0
  clear hX hB
  go_enter Tryz.func81, Tryz.ntmps81
  go_wp2
  go_ret
  exact ⟨rfl, hb⟩
set_option maxHeartbeats 2000000 in
theorem IndexRe_any (l : List Rel) (key : ByteArray) (B : Nat) (v : Value) (w : World) (_hl : l.length ≤ 1000000) (hB : w.heap[B]? = some (.cells #[.string key] 9 (0, 0))) (rl : RecR TRe w 0 v l) :
    Calls Tryz.prog 117 #[v, .func (.func 81) #[] #[.pointer (some ⟨B, 0, none⟩)]] w fun e w' => (∃ r : Int, e = .returned (.int .i64 r) ∧ decide (0 ≤ r) = hasB l key) ∧ Below w.heap.size w w' := by
  obtain ⟨a, cap, rfl, hc1, hc2⟩ := rl.form
  have HB0 := Lib.hid hB
  have RL := Lib.hid rl
  clear hB rl
  go_enter Tryz.func117, Tryz.ntmps117
  go_wp2
  go_loopw [8] (fun i wr => ∃ k : Nat, k ≤ l.length ∧ i = .int .i64 k ∧ Hid (hasB (l.take k) key = false) ∧ Below w.heap.size w wr) (fun i _ => l.length - (intOf i).toNat)
  case atStart => exact ⟨0, Nat.zero_le _, rfl, Lib.hid rfl, Below.refl _ _⟩
  case round =>
    obtain ⟨k, hk, rfl, hf, hb⟩ := hrel
    by_cases hlt : k < l.length
    · obtain ⟨t, ht⟩ : ∃ t, l[k]? = some t := ⟨_, List.getElem?_eq_getElem hlt⟩
      have HS : Hid (hasB (l.take (k + 1)) key = (hasB (l.take k) key || t.1.toList == key.toList)) := Lib.hid (by unfold hasB; rw [List.take_add_one, ht]; simp)
      have HM := Lib.hid (List.mem_of_getElem? ht)
      have HC := Lib.hid (hasR1_any t key B wr (blk_below HB0.out hb))
      obtain ⟨b2', o2, rfl, _, hl2, hx2⟩ := (RL.out.below hb).at TRe.ok.len ht TRe.ok.pos
      obtain ⟨ky, pt, mn⟩ := t
      have c0 : wr.cell? ⟨b2', o2 + k * 3, none⟩ = some (.string ky) := hx2 0 _ rfl
      have c1 : wr.cell? ⟨b2', o2 + k * 3 + 1, none⟩ = some (.string pt) := hx2 1 _ rfl
      have c2 : wr.cell? ⟨b2', o2 + k * 3 + 2, none⟩ = some (.int .i64 mn) := hx2 2 _ rfl
      have hw1 : IntKind.i64.wrap ((k : Int) + 1) = ((k + 1 : Nat) : Int) := by rw [IntWalk.i64_in _ (by omega)]; omega
      clear ht hx2
      obtain ⟨q, hq⟩ : ∃ q, q = (ky.toList == key.toList) := ⟨_, rfl⟩
      simp only [← hq] at HC HS
      have HQ := Lib.hid hq
      clear hq
      go_wp2_with fail
      refine HC.out.mono ?_
      rintro e w2 ⟨rfl, hb2⟩
      have hb02 := Bl.trans hb hb2
      clear hb2
      cases q
      · go_wp2
        go_roundw
        case rel => exact ⟨k + 1, by omega, by go_num, Lib.hid (by rw [HS.out, hf.out]; rfl), hb02⟩
        case measure => simp [intOf]; omega
      · go_wp2
        go_ret
        refine ⟨⟨_, rfl, ?_⟩, hb02⟩
        have : hasB l key = true := List.any_eq_true.2 ⟨_, HM.out, HQ.out.symm⟩
        rw [this]; simp
    · obtain rfl : k = l.length := by omega
      rw [List.take_length] at hf
      go_wp2
      go_ret
      exact ⟨⟨_, rfl, by rw [hf.out]; rfl⟩, hb⟩
theorem ContainsRe_any (l : List Rel) (key : ByteArray) (B : Nat) (v : Value) (w : World) (hl : l.length ≤ 1000000) (hB : w.heap[B]? = some (.cells #[.string key] 9 (0, 0))) (rl : RecR TRe w 0 v l) :
    Calls Tryz.prog 80 #[v, .func (.func 81) #[] #[.pointer (some ⟨B, 0, none⟩)]] w fun e w' => e = .returned (.bool (hasB l key)) ∧ Below w.heap.size w w' := by
  obtain ⟨a, cap, rfl, _, _⟩ := rl.form
  have HI := Lib.hid (IndexRe_any l key B _ w hl hB rl)
  clear rl
  go_enter Tryz.func80, Tryz.ntmps80
  go_wp2_with fail
  refine HI.out.mono ?_
  rintro e w2 ⟨⟨r, rfl, hr⟩, hb⟩
  have HR := Lib.hid hr
  clear hr
  go_wp2
  go_ret
  exact ⟨ret_bool HR.out, hb⟩
theorem HasReel_any (l : List Rel) (key : ByteArray) (v : Value) (w : World) (hl : l.length ≤ 1000000) (rl : RecR TRe w 0 v l) :
    Calls Tryz.prog 25 #[v, .string key] w fun e w' => e = .returned (.bool (hasB l key)) ∧ Below w.heap.size w w' := by
  have hb0 := Bl.alloc (Below.refl w.heap.size w) (.cells #[.string key] 9)
  have HC := Lib.hid (ContainsRe_any l key w.heap.size v _ hl (blk_new w _) (rl.below hb0))
  have hmf : ∀ (fn : Fn) (first cap : Array Value) (w : World), (Instr.makeFunc fn first cap).run Tryz.prog w = .ok (.func fn first cap) w := fun _ _ _ _ => rfl
  obtain ⟨a, cap, rfl, _, _⟩ := rl.form
  clear rl
  go_enter Tryz.func25, Tryz.ntmps25
  go_wp2_with fail
  refine HC.out.mono ?_
  rintro e w2 ⟨rfl, hb⟩
  go_wp2
  go_ret
  exact ⟨rfl, Bl.trans hb0 hb⟩
set_option maxHeartbeats 1000000 in
theorem reelAt1_any (x : Rel) (key : ByteArray) (w : World) :
    Calls Tryz.prog 153 #[.agg #[.string x.1, .string x.2.1, .int .i64 x.2.2], .string key] w fun e w' => e = .returned (.int .i64 (Lib.compareBytes x.1.data.toList key.data.toList)) ∧ Below w.heap.size w w' := by
  obtain ⟨k, p, m⟩ := x
  have hX := blk_new w (.cells #[.string k, .string p, .int .i64 m] 73)
  have hb := Bl.alloc (Below.refl w.heap.size w) (.cells #[.string k, .string p, .int .i64 m] 73)
  have c0 : (w.alloc (.cells #[.string k, .string p, .int .i64 m] 73)).cell? ⟨w.heap.size, 0, none⟩ = some (.string k) := blk_cell hX 0
  clear hX
  go_enter Tryz.func153, Tryz.ntmps153
  go_wp2_with fail
  refine (Tryz.strings_Compare k key _).mono ?_
  rintro e w' ⟨rfl, hq⟩
  rw [hq]
  go_wp2
  go_ret
  exact ⟨rfl, hb⟩
end Go.Proofs.YtcfeoapbbkfbnaaGreatDoor
namespace Go.Proofs.YtcfeoapbbkfbnaaGreatDoor
open Go.RowKit Go.Sort

theorem cmpR_neg : ∀ x y : List UInt8, Lib.compareBytes x y < 0 ↔ Op.bytesLess x y = true
  | [], [] => by simp [Lib.compareBytes, Op.bytesLess]
  | [], _ :: _ => by simp [Lib.compareBytes, Op.bytesLess]
  | _ :: _, [] => by simp [Lib.compareBytes, Op.bytesLess]
  | a :: x, b :: y => by
    rw [Lib.compareBytes, bl_cons]
    by_cases h1 : a < b
    · simp [h1]
    · by_cases h2 : b < a
      · have hne : ¬ a = b := fun e => by subst e; exact absurd h2 (UInt8.lt_irrefl a)
        simp [h1, h2, hne]
      · have he : a = b := u8_eq (by have := mt (u8_lt a b).2 h1; have := mt (u8_lt b a).2 h2; omega)
        subst he
        rw [if_neg h1, if_neg h1, cmpR_neg x y]
        simp [h1]
theorem cmpR_eq : ∀ x y : List UInt8, Lib.compareBytes x y = 0 ↔ x = y
  | [], [] => by simp [Lib.compareBytes]
  | [], _ :: _ => by simp [Lib.compareBytes]
  | _ :: _, [] => by simp [Lib.compareBytes]
  | a :: x, b :: y => by
    rw [Lib.compareBytes]
    by_cases h1 : a < b
    · have hne : ¬ a = b := fun e => by subst e; exact absurd h1 (UInt8.lt_irrefl a)
      simp [h1, hne]
    · by_cases h2 : b < a
      · have hne : ¬ a = b := fun e => by subst e; exact absurd h2 (UInt8.lt_irrefl a)
        simp [h1, h2, hne]
      · have he : a = b := u8_eq (by have := mt (u8_lt a b).2 h1; have := mt (u8_lt b a).2 h2; omega)
        subst he
        rw [if_neg h1, if_neg h1, cmpR_eq x y]
        simp
def cK (key : ByteArray) (x : Rel) : Int := Lib.compareBytes x.1.data.toList key.data.toList
def SortR (l : List Rel) : Prop := l.Pairwise fun a b => Op.bytesLess a.1.toList b.1.toList = true
theorem reelF_zero {p : ByteArray} {x : Rel} (h : reelF (some p) x = 0) : Op.bytesLess p.toList x.1.toList = true := by
  unfold reelF at h
  by_cases h1 : keyB x.1 = false
  · rw [if_pos h1] at h; exact absurd h (by decide)
  · rw [if_neg h1] at h
    by_cases h2 : keyB x.2.1 = false
    · rw [if_pos h2] at h; exact absurd h (by decide)
    · rw [if_neg h2] at h
      by_cases h3 : inB 0 x.2.2 100000 = false
      · rw [if_pos h3] at h; exact absurd h (by decide)
      · rw [if_neg h3] at h
        by_cases h4 : bleB x.1 p = true
        · simp only [h4, if_true] at h; exact absurd h (by decide)
        · have h5 : bleB x.1 p = false := by simpa using h4
          unfold bleB at h5
          rw [Bool.or_eq_false_iff] at h5
          cases hq : Op.bytesLess p.toList x.1.toList
          · have := bl_tot _ _ h5.1 hq
            have h6 := h5.2
            rw [this] at h6
            simp at h6
          · rfl
theorem reelsF1_sorted : ∀ (l : List Rel) (p : Option ByteArray), reelsF1 p l = 0 → (∀ q, p = some q → ∀ x ∈ l, Op.bytesLess q.toList x.1.toList = true) ∧ SortR l
  | [], _, _ => ⟨fun _ _ _ hx => (List.not_mem_nil hx).elim, List.Pairwise.nil⟩
  | x :: l, p, h => by
    rw [reelsF1] at h
    by_cases h0 : reelF p x = 0
    · rw [if_pos h0] at h
      obtain ⟨g1, g2⟩ := reelsF1_sorted l _ h
      have hall := g1 x.1 rfl
      refine ⟨fun q hq y hy => ?_, List.Pairwise.cons hall g2⟩
      subst hq
      have hx := reelF_zero h0
      rcases List.mem_cons.1 hy with rfl | hy
      · exact hx
      · exact bl_trans _ _ _ hx (hall y hy)
    · rw [if_neg h0] at h; exact absurd h h0
theorem reelsF_sorted {l : List Rel} (h : reelsF l = 0) : SortR l ∧ l.length ≤ 1000 := by
  unfold reelsF at h
  by_cases h1 : 1000 < l.length
  · rw [if_pos h1] at h; exact absurd h (by decide)
  · rw [if_neg h1] at h; exact ⟨(reelsF1_sorted l _ h).2, by omega⟩
theorem cK_neg (key : ByteArray) (x : Rel) : cK key x < 0 ↔ Op.bytesLess x.1.toList key.toList = true := by
  unfold cK; rw [ByteArray.toList_eq, ByteArray.toList_eq]; exact cmpR_neg _ _
theorem cK_eq (key : ByteArray) (x : Rel) : cK key x = 0 ↔ x.1.toList = key.toList := by
  unfold cK; rw [ByteArray.toList_eq, ByteArray.toList_eq]; exact cmpR_eq _ _
theorem SortR.at {l : List Rel} (h : SortR l) {i j : Nat} {x y : Rel} (hi : l[i]? = some x) (hj : l[j]? = some y) (hij : i < j) : Op.bytesLess x.1.toList y.1.toList = true := by
  obtain ⟨h1, rfl⟩ := List.getElem?_eq_some_iff.1 hi
  obtain ⟨h2, rfl⟩ := List.getElem?_eq_some_iff.1 hj
  exact List.pairwise_iff_getElem.1 h i j h1 h2 hij
def LowR (l : List Rel) (key : ByteArray) (lo hi : Nat) : Prop := (∀ m x, m < lo → l[m]? = some x → cK key x < 0) ∧ (∀ m x, hi ≤ m → l[m]? = some x → 0 ≤ cK key x)
theorem low_up {l : List Rel} {key : ByteArray} {lo hi mid : Nat} {t : Rel} (hs : SortR l) (h : LowR l key lo hi) (ht : l[mid]? = some t) (hc : cK key t < 0) : LowR l key (mid + 1) hi := by
  refine ⟨fun m x hm hx => ?_, h.2⟩
  by_cases he : m = mid
  · subst he; rw [ht] at hx; cases hx; exact hc
  · exact (cK_neg key x).2 (bl_trans _ _ _ (hs.at hx ht (by omega)) ((cK_neg key t).1 hc))
theorem low_dn {l : List Rel} {key : ByteArray} {lo hi mid : Nat} {t : Rel} (hs : SortR l) (h : LowR l key lo hi) (ht : l[mid]? = some t) (hc : ¬ cK key t < 0) : LowR l key lo mid := by
  refine ⟨h.1, fun m x hm hx => ?_⟩
  by_cases he : m = mid
  · subst he; rw [ht] at hx; cases hx; omega
  · by_cases hn : cK key x < 0
    · exact absurd ((cK_neg key t).2 (bl_trans _ _ _ (hs.at ht hx (by omega)) ((cK_neg key x).1 hn))) hc
    · omega
theorem low_end {l : List Rel} {key : ByteArray} {lo : Nat} (h : LowR l key lo lo) (hl : l.length ≤ lo) : hasB l key = false := by
  unfold hasB
  rw [List.any_eq_false]
  intro x hx
  obtain ⟨m, hm⟩ := List.mem_iff_getElem?.1 hx
  obtain ⟨hlt, _⟩ := List.getElem?_eq_some_iff.1 hm
  have := h.1 m x (by omega) hm
  intro he
  have he' : x.1.toList = key.toList := by simpa using he
  have := (cK_eq key x).2 he'
  omega
theorem low_at {l : List Rel} {key : ByteArray} {lo : Nat} {t : Rel} (hs : SortR l) (h : LowR l key lo lo) (ht : l[lo]? = some t) : hasB l key = decide (cK key t = 0) := by
  by_cases hc : cK key t = 0
  · rw [decide_eq_true hc]
    exact List.any_eq_true.2 ⟨t, List.mem_of_getElem? ht, by simpa using (cK_eq key t).1 hc⟩
  · rw [decide_eq_false hc]
    unfold hasB
    rw [List.any_eq_false]
    intro x hx
    obtain ⟨m, hm⟩ := List.mem_iff_getElem?.1 hx
    intro he
    have he' : x.1.toList = key.toList := by simpa using he
    have h0 := (cK_eq key x).2 he'
    by_cases h1 : m < lo
    · have := h.1 m x h1 hm; omega
    · by_cases h2 : m = lo
      · subst h2; rw [ht] at hm; cases hm; exact hc h0
      · have hlt := hs.at ht hm (by omega)
        rw [he'] at hlt
        have := (cK_neg key t).2 hlt
        have := h.2 lo t (Nat.le_refl _) ht
        omega
set_option maxHeartbeats 4000000 in
set_option maxRecDepth 100000 in
theorem bsf_any (l : List Rel) (key : ByteArray) (v : Value) (w : World) (hl : l.length ≤ 1000000) (hs : SortR l) (rl : RecR TRe w 0 v l) :
    Calls Tryz.prog 152 #[v, .string key, .func (.func 153) #[] #[]] w fun e w' => (∃ r : Int, e = .returned (.tuple #[.int .i64 r, .bool (hasB l key)])) ∧ Below w.heap.size w w' := by
  obtain ⟨a, cap, rfl, hc1, hc2⟩ := rl.form
  have RL := Lib.hid rl
  have HS := Lib.hid hs
  clear rl hs
  go_enter Tryz.func152, Tryz.ntmps152
  go_wp2
  go_loopw [9, 10] (fun i j wr => ∃ lo hi : Nat, i = .int .i64 lo ∧ j = .int .i64 hi ∧ lo ≤ hi ∧ hi ≤ l.length ∧ Hid (LowR l key lo hi) ∧ Below w.heap.size w wr) (fun i j _ => (intOf j - intOf i).toNat)
  case atStart => exact ⟨0, l.length, rfl, rfl, Nat.zero_le _, Nat.le_refl _, Lib.hid ⟨fun _ _ h => by omega, fun m x h hx => by have := (List.getElem?_eq_some_iff.1 hx).1; omega⟩, Below.refl _ _⟩
  case round =>
    obtain ⟨lo, hi, rfl, rfl, hlh, hhl, HL, hb⟩ := hrel
    by_cases hlt : lo < hi
    · obtain ⟨t, ht⟩ : ∃ t, l[(lo + hi) / 2]? = some t := ⟨_, List.getElem?_eq_getElem (by omega)⟩
      have HU := Lib.hid (fun h => low_up HS.out HL.out ht h)
      have HD := Lib.hid (fun h => low_dn HS.out HL.out ht h)
      have HC := Lib.hid (reelAt1_any t key wr)
      obtain ⟨b2', o2, rfl, _, hl2, hx2⟩ := (RL.out.below hb).at TRe.ok.len ht TRe.ok.pos
      obtain ⟨c, hc⟩ : ∃ c, c = cK key t := ⟨_, rfl⟩
      have hc' : Lib.compareBytes t.1.data.toList key.data.toList = c := hc.symm
      rw [hc'] at HC
      rw [← hc] at HU HD
      obtain ⟨ky, pt, mn⟩ := t
      have c0 : wr.cell? ⟨b2', o2 + (lo + hi) / 2 * 3, none⟩ = some (.string ky) := hx2 0 _ rfl
      have c1 : wr.cell? ⟨b2', o2 + (lo + hi) / 2 * 3 + 1, none⟩ = some (.string pt) := hx2 1 _ rfl
      have c2 : wr.cell? ⟨b2', o2 + (lo + hi) / 2 * 3 + 2, none⟩ = some (.int .i64 mn) := hx2 2 _ rfl
      have hw5 : IntKind.i64.wrap (((lo : Int) + hi) / 2 + 1) = (((lo + hi) / 2 + 1 : Nat) : Int) := by rw [IntWalk.i64_in _ (by omega)]; omega
      have j1 : (0 : Int) ≤ ((lo : Int) + hi) / 2 := by omega
      have j2 : ((lo : Int) + hi) / 2 < (l.length : Int) := by omega
      clear ht hx2 hc hc'
      go_wp2_with fail
      refine HC.out.mono ?_
      rintro e w2 ⟨rfl, hb2⟩
      have hb02 := Bl.trans hb hb2
      clear hb2
      by_cases hn : c < 0
      · have HL2 := Lib.hid (HU.out hn)
        go_wp2
        go_roundw
        case rel => exact ⟨(lo + hi) / 2 + 1, hi, by go_num, rfl, by omega, hhl, HL2, hb02⟩
        case measure => simp [intOf]; omega
      · have HL2 := Lib.hid (HD.out (by omega))
        go_wp2
        go_roundw
        case rel => exact ⟨lo, (lo + hi) / 2, rfl, by go_num, by omega, by omega, HL2, hb02⟩
        case measure => simp [intOf]; omega
    · obtain rfl : lo = hi := by omega
      by_cases hll : lo < l.length
      · obtain ⟨t, ht⟩ : ∃ t, l[lo]? = some t := ⟨_, List.getElem?_eq_getElem hll⟩
        have HE := Lib.hid (low_at HS.out HL.out ht)
        have HC := Lib.hid (reelAt1_any t key wr)
        obtain ⟨b2', o2, rfl, _, hl2, hx2⟩ := (RL.out.below hb).at TRe.ok.len ht TRe.ok.pos
        obtain ⟨c, hc⟩ : ∃ c, c = cK key t := ⟨_, rfl⟩
        have hc' : Lib.compareBytes t.1.data.toList key.data.toList = c := hc.symm
        rw [hc'] at HC
        rw [← hc] at HE
        obtain ⟨ky, pt, mn⟩ := t
        have c0 : wr.cell? ⟨b2', o2 + lo * 3, none⟩ = some (.string ky) := hx2 0 _ rfl
        have c1 : wr.cell? ⟨b2', o2 + lo * 3 + 1, none⟩ = some (.string pt) := hx2 1 _ rfl
        have c2 : wr.cell? ⟨b2', o2 + lo * 3 + 2, none⟩ = some (.int .i64 mn) := hx2 2 _ rfl
        have j2 : (lo : Int) < (l.length : Int) := by omega
        clear ht hx2 hc hc'
        go_wp2_with fail
        refine HC.out.mono ?_
        rintro e w2 ⟨rfl, hb2⟩
        have hb02 := Bl.trans hb hb2
        clear hb2
        by_cases hn : c = 0
        · have HV : Hid (hasB l key = true) := Lib.hid (by rw [HE.out, decide_eq_true hn])
          go_wp2
          refine bodyPost_ret (v := .tuple #[.int .i64 lo, .bool true]) (by simp [results, Tryz.results152, go_sem]) rfl ?_
          exact ⟨⟨_, by rw [HV.out]⟩, hb02⟩
        · have HV : Hid (hasB l key = false) := Lib.hid (by rw [HE.out, decide_eq_false hn])
          go_wp2
          refine bodyPost_ret (v := .tuple #[.int .i64 lo, .bool false]) (by simp [results, Tryz.results152, go_sem, hn]) rfl ?_
          exact ⟨⟨_, by rw [HV.out]⟩, hb02⟩
      · have HV := Lib.hid (low_end HL.out (by omega))
        have j2 : ¬ (lo : Int) < (l.length : Int) := by omega
        go_wp2
        refine bodyPost_ret (v := .tuple #[.int .i64 lo, .bool false]) (by simp [results, Tryz.results152, go_sem]) rfl ?_
        exact ⟨⟨_, by rw [HV.out]⟩, hb⟩
theorem reelAt_any (l : List Rel) (key : ByteArray) (v : Value) (w : World) (hl : l.length ≤ 1000000) (hs : SortR l) (rl : RecR TRe w 0 v l) :
    Calls Tryz.prog 116 #[v, .string key] w fun e w' => (∃ r : Int, e = .returned (.tuple #[.int .i64 r, .bool (hasB l key)])) ∧ Below w.heap.size w w' := by
  have HC := Lib.hid (bsf_any l key v w hl hs rl)
  obtain ⟨a, cap, rfl, _, _⟩ := rl.form
  clear rl hs
  go_enter Tryz.func116, Tryz.ntmps116
  go_wp2_with fail
  refine HC.out.mono ?_
  rintro e w2 ⟨⟨r, rfl⟩, hb⟩
  go_wp2
  refine bodyPost_ret (by simp [results, Tryz.results116, go_sem]; rfl) rfl ?_
  exact ⟨⟨r, rfl⟩, hb⟩
end Go.Proofs.YtcfeoapbbkfbnaaGreatDoor
