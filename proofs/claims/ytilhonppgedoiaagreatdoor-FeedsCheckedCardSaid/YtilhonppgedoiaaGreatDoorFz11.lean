/- Texts of the proof of a law, put together, part 11 of 46. Conditions: none beyond those that each theorem names. -/
import Derived.Test.YtilhonppgedoiaaGreatDoorFz1
import Derived.Test.YtilhonppgedoiaaGreatDoorFz2
import Derived.Test.YtilhonppgedoiaaGreatDoorFz3
import Derived.Test.YtilhonppgedoiaaGreatDoorFz5
import Derived.Test.YtilhonppgedoiaaGreatDoorFz8
import Derived.Test.YtilhonppgedoiaaGreatDoorFz9
import Derived.Lib.SlicesS
import GoSem.Op.String
namespace Go.Proofs.YtilhonppgedoiaaGreatDoor
section
variable {α : Type} [DecidableEq α] (lt : α → α → Bool)
theorem sub_len {l m : List α} (hnd : l.Nodup) (hs : ∀ x ∈ l, x ∈ m) : l.length ≤ m.length := by
  induction l generalizing m with
  | nil => simp
  | cons x l ih =>
    obtain ⟨h1, h2⟩ := List.nodup_cons.1 hnd
    have hx := hs x (by simp)
    have := ih (m := m.erase x) h2 fun i hi => (List.mem_erase_of_ne fun e => h1 (by rw [← e]; exact hi)).2 (hs i (List.mem_cons_of_mem _ hi))
    rw [List.length_erase_of_mem hx] at this
    have := List.length_pos_of_mem hx
    simp only [List.length_cons]; omega
end
end Go.Proofs.YtilhonppgedoiaaGreatDoor
namespace Go.Proofs.YtilhonppgedoiaaGreatDoor
/-- two full sets that differ in one member. -/
structure Swap {α : Type} (h : Nat) (u v : α) (a b : List α) : Prop where
  na : a.Nodup
  nb : b.Nodup
  la : a.length = h
  lb : b.length = h
  ua : u ∈ a
  vb : v ∈ b
  ub : u ∉ b
  va : v ∉ a
  eq : ∀ x, x ≠ u → x ≠ v → (x ∈ a ↔ x ∈ b)
theorem Swap.symm {α : Type} {h : Nat} {u v : α} {a b : List α} (s : Swap h u v a b) : Swap h v u b a := ⟨s.nb, s.na, s.lb, s.la, s.vb, s.ua, s.va, s.ub, fun x h1 h2 => (s.eq x h2 h1).symm⟩
section
variable {α : Type} [DecidableEq α] (lt : α → α → Bool)
/-- two sets of the same members. -/
structure Same (a b : List α) : Prop where
  na : a.Nodup
  nb : b.Nodup
  eq : ∀ x, x ∈ a ↔ x ∈ b
theorem Same.len {a b : List α} (s : Same a b) : a.length = b.length :=
  Nat.le_antisymm (sub_len s.na fun x hx => (s.eq x).1 hx) (sub_len s.nb fun x hx => (s.eq x).2 hx)
end
end Go.Proofs.YtilhonppgedoiaaGreatDoor
namespace Go.Proofs.YtilhonppgedoiaaGreatDoor
open Go
theorem u8_lt (a b : UInt8) : a < b ↔ a.toNat < b.toNat := UInt8.lt_iff_toNat_lt
theorem u8_eq {a b : UInt8} (h : a.toNat = b.toNat) : a = b := UInt8.toNat_inj.1 h
theorem bl_cons (a b : UInt8) (x y : List UInt8) : Op.bytesLess (a :: x) (b :: y) = (decide (a < b) || (a == b && Op.bytesLess x y)) := rfl
theorem bl_tot : ∀ x y : List UInt8, Op.bytesLess x y = false → Op.bytesLess y x = false → x = y
  | [], [], _, _ => rfl
  | [], _ :: _, h, _ => by simp [Op.bytesLess] at h
  | _ :: _, [], _, h => by simp [Op.bytesLess] at h
  | a :: x, b :: y, h1, h2 => by
    rw [bl_cons] at h1 h2
    simp only [Bool.or_eq_false_iff, decide_eq_false_iff_not, Bool.and_eq_false_iff, beq_eq_false_iff_ne] at h1 h2
    have hab : a = b := u8_eq (by have := mt (u8_lt a b).2 h1.1; have := mt (u8_lt b a).2 h2.1; omega)
    subst hab
    rw [bl_tot x y (h1.2.resolve_left fun h => h rfl) (h2.2.resolve_left fun h => h rfl)]
theorem bl_trans : ∀ x y z : List UInt8, Op.bytesLess x y = true → Op.bytesLess y z = true → Op.bytesLess x z = true
  | _, [], _, h, _ => by cases ‹List UInt8› <;> simp [Op.bytesLess] at h
  | _, _ :: _, [], _, h => by simp [Op.bytesLess] at h
  | [], _ :: _, _ :: _, _, _ => rfl
  | a :: x, b :: y, c :: z, h1, h2 => by
    rw [bl_cons] at h1 h2 ⊢
    simp only [Bool.or_eq_true, decide_eq_true_eq, Bool.and_eq_true, beq_iff_eq] at h1 h2 ⊢
    rcases h1 with h1 | ⟨rfl, h1⟩
    · rcases h2 with h2 | ⟨rfl, h2⟩
      · exact .inl ((u8_lt _ _).2 (by have := (u8_lt _ _).1 h1; have := (u8_lt _ _).1 h2; omega))
      · exact .inl h1
    · rcases h2 with h2 | ⟨rfl, h2⟩
      · exact .inl h2
      · exact .inr ⟨rfl, bl_trans x y z h1 h2⟩
section
variable {α : Type} [DecidableEq α]
end
end Go.Proofs.YtilhonppgedoiaaGreatDoor
namespace Go.Proofs.YtilhonppgedoiaaGreatDoor
open Go.RowKit Go.Sort
def hasB (l : List Rel) (key : ByteArray) : Bool := l.any fun x => x.1.toList == key.toList
set_option maxHeartbeats 1000000 in
theorem hasR1_any (x : Rel) (key : ByteArray) (B : Nat) (w : World) (hB : w.heap[B]? = some (.cells #[.string key] 9 (0, 0))) :
    Calls Tryz.prog 91 #[.agg #[.string x.1, .string x.2.1, .int .i64 x.2.2], .pointer (some ⟨B, 0, none⟩)] w fun e w' => e = .returned (.bool (x.1.toList == key.toList)) ∧ Below w.heap.size w w' := by
  obtain ⟨k, p, m⟩ := x
  have hX := blk_new w (.cells #[.string k, .string p, .int .i64 m] 90)
  have hb := Bl.alloc (Below.refl w.heap.size w) (.cells #[.string k, .string p, .int .i64 m] 90)
  have c0 : (w.alloc (.cells #[.string k, .string p, .int .i64 m] 90)).cell? ⟨w.heap.size, 0, none⟩ = some (.string k) := blk_cell hX 0
  have c1 : (w.alloc (.cells #[.string k, .string p, .int .i64 m] 90)).cell? ⟨B, 0, none⟩ = some (.string key) := blk_cell (blk_old hB _) 0
  clear hX hB
  go_enter Tryz.func91, Tryz.ntmps91
  go_wp2
  go_ret
  exact ⟨rfl, hb⟩
set_option maxHeartbeats 2000000 in
theorem IndexRe_any (l : List Rel) (key : ByteArray) (B : Nat) (v : Value) (w : World) (_hl : l.length ≤ 1000000) (hB : w.heap[B]? = some (.cells #[.string key] 9 (0, 0))) (rl : RecR TRe w 0 v l) :
    Calls Tryz.prog 135 #[v, .func (.func 91) #[] #[.pointer (some ⟨B, 0, none⟩)]] w fun e w' => (∃ r : Int, e = .returned (.int .i64 r) ∧ decide (0 ≤ r) = hasB l key) ∧ Below w.heap.size w w' := by
  obtain ⟨a, cap, rfl, hc1, hc2⟩ := rl.form
  have HB0 := Lib.hid hB
  have RL := Lib.hid rl
  clear hB rl
  go_enter Tryz.func135, Tryz.ntmps135
  go_wp2
  go_loopw [8] (fun i wr => ∃ k : Nat, k ≤ l.length ∧ i = .int .i64 k ∧ Hid (hasB (l.take k) key = false) ∧ Below w.heap.size w wr) (fun i _ => l.length - (intOf i).toNat)
  case atStart => exact ⟨0, Nat.zero_le _, rfl, Lib.hid rfl, Below.refl _ _⟩
  case round =>
    obtain ⟨k, hk, rfl, hf, hb⟩ := hrel
    by_cases hlt : k < l.length
    · obtain ⟨t, ht⟩ : ∃ t, l[k]? = some t := ⟨_, List.getElem?_eq_getElem hlt⟩
      have HS : Hid (hasB (l.take (k + 1)) key = (hasB (l.take k) key || t.1.toList == key.toList)) := Lib.hid (by unfold hasB; rw [List.take_add_one, ht]; simp)
      have HM := Lib.hid (List.mem_of_getElem? ht)
      have HC := Lib.hid (hasR1_any t key B wr (blk_below HB0.out hb))
      obtain ⟨b2', o2, rfl, _, hl2, hx2⟩ := (RL.out.below hb).at TRe.ok.len ht TRe.ok.pos
      obtain ⟨ky, pt, mn⟩ := t
      have c0 : wr.cell? ⟨b2', o2 + k * 3, none⟩ = some (.string ky) := hx2 0 _ rfl
      have c1 : wr.cell? ⟨b2', o2 + k * 3 + 1, none⟩ = some (.string pt) := hx2 1 _ rfl
      have c2 : wr.cell? ⟨b2', o2 + k * 3 + 2, none⟩ = some (.int .i64 mn) := hx2 2 _ rfl
      have hw1 : IntKind.i64.wrap ((k : Int) + 1) = ((k + 1 : Nat) : Int) := by rw [IntWalk.i64_in _ (by omega)]; omega
      clear ht hx2
      obtain ⟨q, hq⟩ : ∃ q, q = (ky.toList == key.toList) := ⟨_, rfl⟩
      simp only [← hq] at HC HS
      have HQ := Lib.hid hq
      clear hq
      go_wp2_with fail
      refine HC.out.mono ?_
      rintro e w2 ⟨rfl, hb2⟩
      have hb02 := Bl.trans hb hb2
      clear hb2
      cases q
      · go_wp2
        go_roundw
        case rel => exact ⟨k + 1, by omega, by go_num, Lib.hid (by rw [HS.out, hf.out]; rfl), hb02⟩
        case measure => simp [intOf]; omega
      · go_wp2
        go_ret
        refine ⟨⟨_, rfl, ?_⟩, hb02⟩
        have : hasB l key = true := List.any_eq_true.2 ⟨_, HM.out, HQ.out.symm⟩
        rw [this]; simp
    · obtain rfl : k = l.length := by omega
      rw [List.take_length] at hf
      go_wp2
      go_ret
      exact ⟨⟨_, rfl, by rw [hf.out]; rfl⟩, hb⟩
theorem ContainsRe_any (l : List Rel) (key : ByteArray) (B : Nat) (v : Value) (w : World) (hl : l.length ≤ 1000000) (hB : w.heap[B]? = some (.cells #[.string key] 9 (0, 0))) (rl : RecR TRe w 0 v l) :
    Calls Tryz.prog 90 #[v, .func (.func 91) #[] #[.pointer (some ⟨B, 0, none⟩)]] w fun e w' => e = .returned (.bool (hasB l key)) ∧ Below w.heap.size w w' := by
  obtain ⟨a, cap, rfl, _, _⟩ := rl.form
  have HI := Lib.hid (IndexRe_any l key B _ w hl hB rl)
  clear rl
  go_enter Tryz.func90, Tryz.ntmps90
  go_wp2_with fail
  refine HI.out.mono ?_
  rintro e w2 ⟨⟨r, rfl, hr⟩, hb⟩
  have HR := Lib.hid hr
  clear hr
  go_wp2
  go_ret
  exact ⟨ret_bool HR.out, hb⟩
theorem HasReel_any (l : List Rel) (key : ByteArray) (v : Value) (w : World) (hl : l.length ≤ 1000000) (rl : RecR TRe w 0 v l) :
    Calls Tryz.prog 51 #[v, .string key] w fun e w' => e = .returned (.bool (hasB l key)) ∧ Below w.heap.size w w' := by
  have hb0 := Bl.alloc (Below.refl w.heap.size w) (.cells #[.string key] 9)
  have HC := Lib.hid (ContainsRe_any l key w.heap.size v _ hl (blk_new w _) (rl.below hb0))
  have hmf : ∀ (fn : Fn) (first cap : Array Value) (w : World), (Instr.makeFunc fn first cap).run Tryz.prog w = .ok (.func fn first cap) w := fun _ _ _ _ => rfl
  obtain ⟨a, cap, rfl, _, _⟩ := rl.form
  clear rl
  go_enter Tryz.func51, Tryz.ntmps51
  go_wp2_with fail
  refine HC.out.mono ?_
  rintro e w2 ⟨rfl, hb⟩
  go_wp2
  go_ret
  exact ⟨rfl, Bl.trans hb0 hb⟩
set_option maxHeartbeats 1000000 in
theorem reelAt1_any (x : Rel) (key : ByteArray) (w : World) :
    Calls Tryz.prog 138 #[.agg #[.string x.1, .string x.2.1, .int .i64 x.2.2], .string key] w fun e w' => e = .returned (.int .i64 (Lib.compareBytes x.1.data.toList key.data.toList)) ∧ Below w.heap.size w w' := by
  obtain ⟨k, p, m⟩ := x
  have hX := blk_new w (.cells #[.string k, .string p, .int .i64 m] 90)
  have hb := Bl.alloc (Below.refl w.heap.size w) (.cells #[.string k, .string p, .int .i64 m] 90)
  have c0 : (w.alloc (.cells #[.string k, .string p, .int .i64 m] 90)).cell? ⟨w.heap.size, 0, none⟩ = some (.string k) := blk_cell hX 0
  clear hX
  go_enter Tryz.func138, Tryz.ntmps138
  go_wp2_with fail
  refine (Tryz.strings_Compare k key _).mono ?_
  rintro e w' ⟨rfl, hq⟩
  rw [hq]
  go_wp2
  go_ret
  exact ⟨rfl, hb⟩
end Go.Proofs.YtilhonppgedoiaaGreatDoor
namespace Go.Proofs.YtilhonppgedoiaaGreatDoor
open Go.RowKit Go.Sort
theorem cmpR_neg : ∀ x y : List UInt8, Lib.compareBytes x y < 0 ↔ Op.bytesLess x y = true
  | [], [] => by simp [Lib.compareBytes, Op.bytesLess]
  | [], _ :: _ => by simp [Lib.compareBytes, Op.bytesLess]
  | _ :: _, [] => by simp [Lib.compareBytes, Op.bytesLess]
  | a :: x, b :: y => by
    rw [Lib.compareBytes, bl_cons]
    by_cases h1 : a < b
    · simp [h1]
    · by_cases h2 : b < a
      · have hne : ¬ a = b := fun e => by subst e; exact absurd h2 (UInt8.lt_irrefl a)
        simp [h1, h2, hne]
      · have he : a = b := u8_eq (by have := mt (u8_lt a b).2 h1; have := mt (u8_lt b a).2 h2; omega)
        subst he
        rw [if_neg h1, if_neg h1, cmpR_neg x y]
        simp [h1]
theorem cmpR_eq : ∀ x y : List UInt8, Lib.compareBytes x y = 0 ↔ x = y
  | [], [] => by simp [Lib.compareBytes]
  | [], _ :: _ => by simp [Lib.compareBytes]
  | _ :: _, [] => by simp [Lib.compareBytes]
  | a :: x, b :: y => by
    rw [Lib.compareBytes]
    by_cases h1 : a < b
    · have hne : ¬ a = b := fun e => by subst e; exact absurd h1 (UInt8.lt_irrefl a)
      simp [h1, hne]
    · by_cases h2 : b < a
      · have hne : ¬ a = b := fun e => by subst e; exact absurd h2 (UInt8.lt_irrefl a)
        simp [h1, h2, hne]
      · have he : a = b := u8_eq (by have := mt (u8_lt a b).2 h1; have := mt (u8_lt b a).2 h2; omega)
        subst he
        rw [if_neg h1, if_neg h1, cmpR_eq x y]
        simp
def cK (key : ByteArray) (x : Rel) : Int := Lib.compareBytes x.1.data.toList key.data.toList
def SortR (l : List Rel) : Prop := l.Pairwise fun a b => Op.bytesLess a.1.toList b.1.toList = true
theorem reelF_zero {p : ByteArray} {x : Rel} (h : reelF (some p) x = 0) : Op.bytesLess p.toList x.1.toList = true := by
  unfold reelF at h
  by_cases h1 : keyB x.1 = false
  · rw [if_pos h1] at h; exact absurd h (by decide)
  · rw [if_neg h1] at h
    by_cases h2 : keyB x.2.1 = false
    · rw [if_pos h2] at h; exact absurd h (by decide)
    · rw [if_neg h2] at h
      by_cases h3 : inB 0 x.2.2 100000 = false
      · rw [if_pos h3] at h; exact absurd h (by decide)
      · rw [if_neg h3] at h
        by_cases h4 : bleB x.1 p = true
        · simp only [h4, if_true] at h; exact absurd h (by decide)
        · have h5 : bleB x.1 p = false := by simpa using h4
          unfold bleB at h5
          rw [Bool.or_eq_false_iff] at h5
          cases hq : Op.bytesLess p.toList x.1.toList
          · have := bl_tot _ _ h5.1 hq
            have h6 := h5.2
            rw [this] at h6
            simp at h6
          · rfl
theorem reelsF1_sorted : ∀ (l : List Rel) (p : Option ByteArray), reelsF1 p l = 0 → (∀ q, p = some q → ∀ x ∈ l, Op.bytesLess q.toList x.1.toList = true) ∧ SortR l
  | [], _, _ => ⟨fun _ _ _ hx => (List.not_mem_nil hx).elim, List.Pairwise.nil⟩
  | x :: l, p, h => by
    rw [reelsF1] at h
    by_cases h0 : reelF p x = 0
    · rw [if_pos h0] at h
      obtain ⟨g1, g2⟩ := reelsF1_sorted l _ h
      have hall := g1 x.1 rfl
      refine ⟨fun q hq y hy => ?_, List.Pairwise.cons hall g2⟩
      subst hq
      have hx := reelF_zero h0
      rcases List.mem_cons.1 hy with rfl | hy
      · exact hx
      · exact bl_trans _ _ _ hx (hall y hy)
    · rw [if_neg h0] at h; exact absurd h h0
theorem reelsF_sorted {l : List Rel} (h : reelsF l = 0) : SortR l ∧ l.length ≤ 1000 := by
  unfold reelsF at h
  by_cases h1 : 1000 < l.length
  · rw [if_pos h1] at h; exact absurd h (by decide)
  · rw [if_neg h1] at h; exact ⟨(reelsF1_sorted l _ h).2, by omega⟩
theorem cK_neg (key : ByteArray) (x : Rel) : cK key x < 0 ↔ Op.bytesLess x.1.toList key.toList = true := by
  unfold cK; rw [ByteArray.toList_eq, ByteArray.toList_eq]; exact cmpR_neg _ _
theorem cK_eq (key : ByteArray) (x : Rel) : cK key x = 0 ↔ x.1.toList = key.toList := by
  unfold cK; rw [ByteArray.toList_eq, ByteArray.toList_eq]; exact cmpR_eq _ _
theorem SortR.at {l : List Rel} (h : SortR l) {i j : Nat} {x y : Rel} (hi : l[i]? = some x) (hj : l[j]? = some y) (hij : i < j) : Op.bytesLess x.1.toList y.1.toList = true := by
  obtain ⟨h1, rfl⟩ := List.getElem?_eq_some_iff.1 hi
  obtain ⟨h2, rfl⟩ := List.getElem?_eq_some_iff.1 hj
  exact List.pairwise_iff_getElem.1 h i j h1 h2 hij
def LowR (l : List Rel) (key : ByteArray) (lo hi : Nat) : Prop := (∀ m x, m < lo → l[m]? = some x → cK key x < 0) ∧ (∀ m x, hi ≤ m → l[m]? = some x → 0 ≤ cK key x)
theorem low_up {l : List Rel} {key : ByteArray} {lo hi mid : Nat} {t : Rel} (hs : SortR l) (h : LowR l key lo hi) (ht : l[mid]? = some t) (hc : cK key t < 0) : LowR l key (mid + 1) hi := by
  refine ⟨fun m x hm hx => ?_, h.2⟩
  by_cases he : m = mid
  · subst he; rw [ht] at hx; cases hx; exact hc
  · exact (cK_neg key x).2 (bl_trans _ _ _ (hs.at hx ht (by omega)) ((cK_neg key t).1 hc))
theorem low_dn {l : List Rel} {key : ByteArray} {lo hi mid : Nat} {t : Rel} (hs : SortR l) (h : LowR l key lo hi) (ht : l[mid]? = some t) (hc : ¬ cK key t < 0) : LowR l key lo mid := by
  refine ⟨h.1, fun m x hm hx => ?_⟩
  by_cases he : m = mid
  · subst he; rw [ht] at hx; cases hx; omega
  · by_cases hn : cK key x < 0
    · exact absurd ((cK_neg key t).2 (bl_trans _ _ _ (hs.at ht hx (by omega)) ((cK_neg key x).1 hn))) hc
    · omega
theorem low_end {l : List Rel} {key : ByteArray} {lo : Nat} (h : LowR l key lo lo) (hl : l.length ≤ lo) : hasB l key = false := by
  unfold hasB
  rw [List.any_eq_false]
  intro x hx
  obtain ⟨m, hm⟩ := List.mem_iff_getElem?.1 hx
  obtain ⟨hlt, _⟩ := List.getElem?_eq_some_iff.1 hm
  have := h.1 m x (by omega) hm
  intro he
  have he' : x.1.toList = key.toList := by simpa using he
  have := (cK_eq key x).2 he'
  omega
theorem low_at {l : List Rel} {key : ByteArray} {lo : Nat} {t : Rel} (hs : SortR l) (h : LowR l key lo lo) (ht : l[lo]? = some t) : hasB l key = decide (cK key t = 0) := by
  by_cases hc : cK key t = 0
  · rw [decide_eq_true hc]
    exact List.any_eq_true.2 ⟨t, List.mem_of_getElem? ht, by simpa using (cK_eq key t).1 hc⟩
  · rw [decide_eq_false hc]
    unfold hasB
    rw [List.any_eq_false]
    intro x hx
    obtain ⟨m, hm⟩ := List.mem_iff_getElem?.1 hx
    intro he
    have he' : x.1.toList = key.toList := by simpa using he
    have h0 := (cK_eq key x).2 he'
    by_cases h1 : m < lo
    · have := h.1 m x h1 hm; omega
    · by_cases h2 : m = lo
      · subst h2; rw [ht] at hm; cases hm; exact hc h0
      · have hlt := hs.at ht hm (by omega)
        rw [he'] at hlt
        have := (cK_neg key t).2 hlt
        have := h.2 lo t (Nat.le_refl _) ht
        omega
set_option maxHeartbeats 4000000 in
set_option maxRecDepth 100000 in
theorem bsf_any (l : List Rel) (key : ByteArray) (v : Value) (w : World) (hl : l.length ≤ 1000000) (hs : SortR l) (rl : RecR TRe w 0 v l) :
    Calls Tryz.prog 137 #[v, .string key, .func (.func 138) #[] #[]] w fun e w' => (∃ r : Int, e = .returned (.tuple #[.int .i64 r, .bool (hasB l key)])) ∧ Below w.heap.size w w' := by
  obtain ⟨a, cap, rfl, hc1, hc2⟩ := rl.form
  have RL := Lib.hid rl
  have HS := Lib.hid hs
  clear rl hs
  go_enter Tryz.func137, Tryz.ntmps137
  go_wp2
  go_loopw [9, 10] (fun i j wr => ∃ lo hi : Nat, i = .int .i64 lo ∧ j = .int .i64 hi ∧ lo ≤ hi ∧ hi ≤ l.length ∧ Hid (LowR l key lo hi) ∧ Below w.heap.size w wr) (fun i j _ => (intOf j - intOf i).toNat)
  case atStart => exact ⟨0, l.length, rfl, rfl, Nat.zero_le _, Nat.le_refl _, Lib.hid ⟨fun _ _ h => by omega, fun m x h hx => by have := (List.getElem?_eq_some_iff.1 hx).1; omega⟩, Below.refl _ _⟩
  case round =>
    obtain ⟨lo, hi, rfl, rfl, hlh, hhl, HL, hb⟩ := hrel
    by_cases hlt : lo < hi
    · obtain ⟨t, ht⟩ : ∃ t, l[(lo + hi) / 2]? = some t := ⟨_, List.getElem?_eq_getElem (by omega)⟩
      have HU := Lib.hid (fun h => low_up HS.out HL.out ht h)
      have HD := Lib.hid (fun h => low_dn HS.out HL.out ht h)
      have HC := Lib.hid (reelAt1_any t key wr)
      obtain ⟨b2', o2, rfl, _, hl2, hx2⟩ := (RL.out.below hb).at TRe.ok.len ht TRe.ok.pos
      obtain ⟨c, hc⟩ : ∃ c, c = cK key t := ⟨_, rfl⟩
      have hc' : Lib.compareBytes t.1.data.toList key.data.toList = c := hc.symm
      rw [hc'] at HC
      rw [← hc] at HU HD
      obtain ⟨ky, pt, mn⟩ := t
      have c0 : wr.cell? ⟨b2', o2 + (lo + hi) / 2 * 3, none⟩ = some (.string ky) := hx2 0 _ rfl
      have c1 : wr.cell? ⟨b2', o2 + (lo + hi) / 2 * 3 + 1, none⟩ = some (.string pt) := hx2 1 _ rfl
      have c2 : wr.cell? ⟨b2', o2 + (lo + hi) / 2 * 3 + 2, none⟩ = some (.int .i64 mn) := hx2 2 _ rfl
      have hw5 : IntKind.i64.wrap (((lo : Int) + hi) / 2 + 1) = (((lo + hi) / 2 + 1 : Nat) : Int) := by rw [IntWalk.i64_in _ (by omega)]; omega
      have j1 : (0 : Int) ≤ ((lo : Int) + hi) / 2 := by omega
      have j2 : ((lo : Int) + hi) / 2 < (l.length : Int) := by omega
      clear ht hx2 hc hc'
      go_wp2_with fail
      refine HC.out.mono ?_
      rintro e w2 ⟨rfl, hb2⟩
      have hb02 := Bl.trans hb hb2
      clear hb2
      by_cases hn : c < 0
      · have HL2 := Lib.hid (HU.out hn)
        go_wp2
        go_roundw
        case rel => exact ⟨(lo + hi) / 2 + 1, hi, by go_num, rfl, by omega, hhl, HL2, hb02⟩
        case measure => simp [intOf]; omega
      · have HL2 := Lib.hid (HD.out (by omega))
        go_wp2
        go_roundw
        case rel => exact ⟨lo, (lo + hi) / 2, rfl, by go_num, by omega, by omega, HL2, hb02⟩
        case measure => simp [intOf]; omega
    · obtain rfl : lo = hi := by omega
      by_cases hll : lo < l.length
      · obtain ⟨t, ht⟩ : ∃ t, l[lo]? = some t := ⟨_, List.getElem?_eq_getElem hll⟩
        have HE := Lib.hid (low_at HS.out HL.out ht)
        have HC := Lib.hid (reelAt1_any t key wr)
        obtain ⟨b2', o2, rfl, _, hl2, hx2⟩ := (RL.out.below hb).at TRe.ok.len ht TRe.ok.pos
        obtain ⟨c, hc⟩ : ∃ c, c = cK key t := ⟨_, rfl⟩
        have hc' : Lib.compareBytes t.1.data.toList key.data.toList = c := hc.symm
        rw [hc'] at HC
        rw [← hc] at HE
        obtain ⟨ky, pt, mn⟩ := t
        have c0 : wr.cell? ⟨b2', o2 + lo * 3, none⟩ = some (.string ky) := hx2 0 _ rfl
        have c1 : wr.cell? ⟨b2', o2 + lo * 3 + 1, none⟩ = some (.string pt) := hx2 1 _ rfl
        have c2 : wr.cell? ⟨b2', o2 + lo * 3 + 2, none⟩ = some (.int .i64 mn) := hx2 2 _ rfl
        have j2 : (lo : Int) < (l.length : Int) := by omega
        clear ht hx2 hc hc'
        go_wp2_with fail
        refine HC.out.mono ?_
        rintro e w2 ⟨rfl, hb2⟩
        have hb02 := Bl.trans hb hb2
        clear hb2
        by_cases hn : c = 0
        · have HV : Hid (hasB l key = true) := Lib.hid (by rw [HE.out, decide_eq_true hn])
          go_wp2
          refine bodyPost_ret (v := .tuple #[.int .i64 lo, .bool true]) (by simp [results, Tryz.results137, go_sem]) rfl ?_
          exact ⟨⟨_, by rw [HV.out]⟩, hb02⟩
        · have HV : Hid (hasB l key = false) := Lib.hid (by rw [HE.out, decide_eq_false hn])
          go_wp2
          refine bodyPost_ret (v := .tuple #[.int .i64 lo, .bool false]) (by simp [results, Tryz.results137, go_sem, hn]) rfl ?_
          exact ⟨⟨_, by rw [HV.out]⟩, hb02⟩
      · have HV := Lib.hid (low_end HL.out (by omega))
        have j2 : ¬ (lo : Int) < (l.length : Int) := by omega
        go_wp2
        refine bodyPost_ret (v := .tuple #[.int .i64 lo, .bool false]) (by simp [results, Tryz.results137, go_sem]) rfl ?_
        exact ⟨⟨_, by rw [HV.out]⟩, hb⟩
theorem reelAt_any (l : List Rel) (key : ByteArray) (v : Value) (w : World) (hl : l.length ≤ 1000000) (hs : SortR l) (rl : RecR TRe w 0 v l) :
    Calls Tryz.prog 98 #[v, .string key] w fun e w' => (∃ r : Int, e = .returned (.tuple #[.int .i64 r, .bool (hasB l key)])) ∧ Below w.heap.size w w' := by
  have HC := Lib.hid (bsf_any l key v w hl hs rl)
  obtain ⟨a, cap, rfl, _, _⟩ := rl.form
  clear rl hs
  go_enter Tryz.func98, Tryz.ntmps98
  go_wp2_with fail
  refine HC.out.mono ?_
  rintro e w2 ⟨⟨r, rfl⟩, hb⟩
  go_wp2
  refine bodyPost_ret (by simp [results, Tryz.results98, go_sem]; rfl) rfl ?_
  exact ⟨⟨r, rfl⟩, hb⟩
end Go.Proofs.YtilhonppgedoiaaGreatDoor
namespace Go.Proofs.YtilhonppgedoiaaGreatDoor
open Go.RowKit Go.Sort
abbrev Nm := ByteArray
theorem strs_at {w : World} {lo : Nat} {a : Option Addr} {n cap : Nat} {l : List Nm} (h : RecR TS w lo (.slice a n cap) l) {k : Nat} {x : Nm} (hk : l[k]? = some x) :
    ∃ b o, a = some ⟨b, o, none⟩ ∧ lo ≤ b ∧ b < w.heap.size ∧ w.cell? ⟨b, o + k, none⟩ = some (.string x) := by
  obtain ⟨b, o, rfl, h1, h2, h3⟩ := h.at TS.ok.len hk TS.ok.pos
  refine ⟨b, o, rfl, h1, h2, ?_⟩
  have := h3 0 _ rfl
  simpa [TS] using this
theorem strs_cells {w : World} {lo : Nat} {b o n cap : Nat} {l : List Nm} (h : RecR TS w lo (.slice (some ⟨b, o, none⟩) n cap) l) : ∀ j, j < l.length → w.cell? ⟨b, o + j, none⟩ = some (.string (l.getD j ByteArray.empty)) := by
  intro j hj
  obtain ⟨b', o', e, _, _, hc⟩ := strs_at h (k := j) (x := l.getD j ByteArray.empty) (by simp [List.getD_eq_getElem?_getD, hj])
  injection e with e; injection e with e1 e2 _; subst e1 e2
  exact hc
theorem ContainsS_any (l : List Nm) (v : Value) (x : Nm) (w : World) (hlen : l.length ≤ 100000) (rl : RecR TS w 0 v l) :
    Calls Tryz.prog 106 #[v, .string x] w fun e w' => e = .returned (.bool (Lib.containsS l x)) ∧ w = w' := by
  obtain ⟨a, cap, rfl, hc1, hc2⟩ := rl.form
  by_cases h0 : l = []
  · subst h0
    exact (Tryz.slices_Contains_string_empty a cap x w).mono fun e w' ⟨h1, h2⟩ => ⟨by rw [h1]; rfl, h2.symm⟩
  · obtain ⟨y, hy⟩ : ∃ y, l[0]? = some y := ⟨_, List.getElem?_eq_getElem (List.length_pos_iff.2 h0)⟩
    obtain ⟨b, o, rfl, _, _, _⟩ := strs_at rl hy
    have := Tryz.slices_Contains_string b o l.length cap l x w (Nat.le_refl _) (by omega) (strs_cells rl)
    rw [List.take_length] at this
    exact this.mono fun e w' ⟨h1, h2⟩ => ⟨h1, h2.symm⟩
end Go.Proofs.YtilhonppgedoiaaGreatDoor
