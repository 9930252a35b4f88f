/- Texts of the proof of a law, put together, part 13 of 35. Conditions: none beyond those that each theorem names. -/
import Derived.Test.YtihgnpobkpnipaaGreatDoorCz2
import Derived.Test.YtihgnpobkpnipaaGreatDoorCz4
import Derived.Test.YtihgnpobkpnipaaGreatDoorCz5
import Derived.Test.YtihgnpobkpnipaaGreatDoorCz7
import Derived.Test.YtihgnpobkpnipaaGreatDoorCz8
import Derived.BigQuiet
import Derived.Deep.QuietTactic
import Derived.Laws.Runes
import Derived.Deep.RegionLaw
namespace Go.Proofs.YtihgnpobkpnipaaGreatDoor
open Go.RowKit Go.Sort
theorem enc_le (n : Int) : (Utf8.encode n).size ≤ 4 := by
  unfold Utf8.encode
  have h : ∀ (c : Nat), (let b (n : Nat) : UInt8 := UInt8.ofNat n
    if c < 0x80 then (⟨#[b c]⟩ : ByteArray)
    else if c < 0x800 then ⟨#[b (0xC0 + c / 64), b (0x80 + c % 64)]⟩
    else if c < 0x10000 then ⟨#[b (0xE0 + c / 4096), b (0x80 + c / 64 % 64), b (0x80 + c % 64)]⟩
    else ⟨#[b (0xF0 + c / 262144), b (0x80 + c / 4096 % 64), b (0x80 + c / 64 % 64), b (0x80 + c % 64)]⟩).size ≤ 4 := by
    intro c
    simp only
    split
    · show 1 ≤ 4; omega
    · split
      · show 2 ≤ 4; omega
      · split
        · show 3 ≤ 4; omega
        · show 4 ≤ 4; omega
  exact h _
theorem sz3 {A E C : ByteArray} {n u : Nat} (h2 : E.size ≤ 4) (h3 : A.size + C.size ≤ n) : (A ++ E ++ C).size ≤ n + u + 4 := by
  rw [ByteArray.size_append, ByteArray.size_append]; omega
theorem sz2 {A C : ByteArray} {n u : Nat} (h3 : A.size + C.size ≤ n) : (A ++ C).size ≤ n + u + 4 := by
  rw [ByteArray.size_append]; omega
theorem big_no {n a b c : Nat} (h1 : a + c ≤ n) (h2 : b ≤ 4) (h3 : n ≤ 1099511627776) : (¬ 9223372036854775807 < a + b) ∧ ¬ 9223372036854775807 < a + b + c := by omega
set_option maxHeartbeats 4000000 in
set_option maxRecDepth 100000 in
theorem Changed_any (s : Nat) (c : Int) (t u : ByteArray) (w : World) (h : Str w s c) (hc : c ≤ 999990) (ht : t.size ≤ 1099511627776) (hu : 0 < u.size) (hu2 : u.size ≤ 1000) :
    Calls Tryz.prog 52 #[.pointer (some ⟨s, 0, none⟩), .string t, .string u] w fun e w' => ∃ r : ByteArray, e = .returned (.string r) ∧ r.size ≤ t.size + u.size + 4 ∧ Str w' s (c + 3) ∧ w.grownBy w' (some s) := by
  have e1 : u.toList.isEmpty = false := by
    rw [ByteArray.toList_eq]
    cases h : u.data.toList with
    | nil =>
      have : u.data.toList.length = u.size := Array.length_toList
      rw [h] at this; simp at this; omega
    | cons => rfl
  have e2 : ¬ u.toList = [] := by
    intro h; rw [h] at e1; cases e1
  by_cases h0 : t.size = 0
  · obtain rfl : t = ⟨#[]⟩ := by
      apply ByteArray.ext
      exact Array.eq_empty_of_size_eq_zero h0
    go_enter Tryz.func52, Tryz.ntmps52
    go_wp2
    go_ret
    exact ⟨_, rfl, by omega, h.mono (by omega), Gr.refl _ _⟩
  · have f1 : t.toList.isEmpty = false := by
      rw [ByteArray.toList_eq]
      cases h : t.data.toList with
      | nil =>
        have : t.data.toList.length = t.size := Array.length_toList
        rw [h] at this; simp at this; omega
      | cons => rfl
    have f2 : ¬ t.toList = [] := by
      intro h; rw [h] at f1; cases f1
    go_enter Tryz.func52, Tryz.ntmps52
    go_wp2_with fail
    refine (Next_any s c t.size w h (by omega) (by omega)).mono ?_
    rintro e w1 ⟨i, rfl, ⟨hi0, hi1, _⟩, hS1, hG1⟩
    have hi2 := hi1 (by omega)
    clear hi1
    obtain ⟨i, rfl⟩ := Int.eq_ofNat_of_zero_le hi0
    go_wp2_with fail
    refine (Next_any s (c + 1) u.size w1 hS1 (by omega) (by omega)).mono ?_
    rintro e w2 ⟨j, rfl, ⟨hj0, hj1, _⟩, hS2, hG2⟩
    have hj2 := hj1 (by omega)
    clear hj1
    obtain ⟨j, rfl⟩ := Int.eq_ofNat_of_zero_le hj0
    have hj3 : j < u.size := by omega
    have hi3 : i < t.size := by omega
    have hi4 : i ≤ t.size := by omega
    have hi5 : ((i : Nat) : Int) ≤ (t.size : Int) := by omega
    have hi6 : ((i : Nat) : Int) + 1 ≤ (t.size : Int) := by omega
    have hwr : IntKind.i64.wrap ((i : Int) + 1) = ((i + 1 : Nat) : Int) := by rw [IntWalk.i64_in _ (by omega)]; omega
    have hg12 := Gr.trans hG1 hG2
    go_wp2_with fail
    refine (Next_any s (c + 1 + 1) 3 w2 hS2 (by omega) (by omega)).mono ?_
    rintro e w3 ⟨k, rfl, ⟨hk0, hk1, _⟩, hS3, hG3⟩
    have hk2 := hk1 (by omega)
    have hg := Gr.trans hg12 hG3
    clear hk1 hG1 hG2 hG3 hg12 hS1 hS2
    have hwu : IntKind.i32.wrap ((u[j].toNat : Nat) : Int) = ((u[j].toNat : Nat) : Int) := by
      have := u[j].toNat_lt
      unfold IntKind.wrap
      simp [IntKind.bits, IntKind.signed]
      omega
    have hen := enc_le ((u[j].toNat : Nat) : Int)
    have hx1 : (t.extract 0 i).size = i := by rw [ByteArray.size_extract]; omega
    have hx2 : (t.extract i t.size).size = t.size - i := by rw [ByteArray.size_extract]; omega
    have hx3 : (t.extract (i + 1) t.size).size = t.size - (i + 1) := by rw [ByteArray.size_extract]; omega
    have hs1 : (t.extract 0 i).size + (t.extract (i + 1) t.size).size ≤ t.size := by rw [hx1, hx3]; omega
    have hs2 : (t.extract 0 i).size + (t.extract i t.size).size ≤ t.size := by rw [hx1, hx2]; omega
    have hs0 : (t.extract 0 i).size ≤ t.size := by rw [hx1]; omega
    have hq1 := sz3 (u := u.size) hen hs1
    have hq2 := sz3 (u := u.size) hen hs2
    have hq3 := sz2 (u := u.size) hs1
    have HSZ := Lib.hid (And.intro hq1 (And.intro hq2 hq3))
    obtain ⟨hz1, hz2⟩ := big_no hs1 hen ht
    obtain ⟨_, hz3⟩ := big_no hs2 hen ht
    have HG : ∀ nq, w.grownBy (w3.drewN nq) (some s) := fun nq => ⟨hg.os, hg.tape, hg.output, hg.size, hg.block⟩
    clear hs1 hs2 hs0 hq1 hq2 hq3
    rcases (show k = 0 ∨ k = 1 ∨ k = 2 by omega) with rfl | rfl | rfl
    · go_wp2
      go_quiet (fail)
      go_wp2
      go_ret
      exact ⟨_, rfl, HSZ.out.1, (hS3.mono (by omega)), HG _⟩
    · go_wp2
      go_quiet (fail)
      go_wp2
      go_ret
      exact ⟨_, rfl, HSZ.out.2.1, (hS3.mono (by omega)), HG _⟩
    · go_wp2
      go_quiet (fail)
      go_wp2
      go_ret
      exact ⟨_, rfl, HSZ.out.2.2, (hS3.mono (by omega)), HG _⟩
theorem lays166 : Go.Proofs.Lays.n166 Tryz.prog Tryz.lays156_ren := { Tryz.lays156 with }
theorem byteCells_str (s : ByteArray) : Lib.strCells s = Lib.byteCells s.data.toList := by
  simp [Lib.strCells, Lib.byteCells]
theorem byteCells_app (a b : List UInt8) : Lib.byteCells (a ++ b) = Lib.byteCells a ++ Lib.byteCells b := by
  simp [Lib.byteCells]
/-- the builder at b holds these bytes. -/
def Bd8 (B b : Nat) (l : List UInt8) (w : World) : Prop := Lib.IsBuilder 93 5 B b (Lib.byteCells l) w
theorem WriteString_any (B b : Nat) (l : List UInt8) (s : ByteArray) (w : World) (h : Bd8 B b l w) (hlen : l.length + s.size ≤ 140737488355328) (hBw : B ≤ w.heap.size) :
    Calls Tryz.prog 48 #[.pointer (some ⟨b, 0, none⟩), .string s] w fun e w' => e = .returned (.tuple #[.int .i64 s.size, .nilIface]) ∧ Bd8 B b (l ++ s.data.toList) w' ∧ Below B w w' := by
  refine (Any.Builder_WriteString lays166 Tryz.Builder_Extra_156 B b _ s w h (by simpa [Lib.byteCells] using hlen) hBw).mono ?_
  rintro e w' ⟨rfl, h1, h2⟩
  refine ⟨rfl, ?_, h2⟩
  unfold Bd8
  rw [byteCells_app, ← byteCells_str]
  exact .inr h1
theorem BString_any (B b : Nat) (l : List UInt8) (w : World) (h : Bd8 B b l w) (hBw : B ≤ w.heap.size) :
    Calls Tryz.prog 51 #[.pointer (some ⟨b, 0, none⟩)] w fun e w' => e = .returned (.string ⟨l.toArray⟩) ∧ Below B w w' := Tryz.Builder_String_any B b l w h hBw
theorem Bd8.below {B b : Nat} {l : List UInt8} {w w' : World} (h : Bd8 B b l w) (hb : Below w.heap.size w w') : Bd8 B b l w' := by
  rcases h with ⟨h0, v, h1, h2, h3⟩ | ⟨h0, v, h1, h2, h3⟩
  · exact .inl ⟨h0, v, blk_below h1 hb, own_belowA h2 hb, h3⟩
  · exact .inr ⟨h0, v, blk_below h1 hb, own_belowA h2 hb, h3⟩
theorem BLen_any (B b : Nat) (l : List UInt8) (w : World) (h : Bd8 B b l w) :
    Calls Tryz.prog 50 #[.pointer (some ⟨b, 0, none⟩)] w fun e w' => e = .returned (.int .i64 l.length) ∧ w' = w := by
  have := Tryz.Builder_Len B b _ w h
  rw [show (Lib.byteCells l).length = l.length by simp [Lib.byteCells]] at this
  exact this
end Go.Proofs.YtihgnpobkpnipaaGreatDoor
namespace Go.Proofs.YtihgnpobkpnipaaGreatDoor
open Go.RowKit Go.Sort Go.Maps
theorem JoinR_any (v : Value) (xs : List ByteArray) (w : World) (h : RecR TS w 0 v xs) (hne : xs ≠ []) (hN : xs.length ≤ 1000000) (hlen : (joinL 32 (xs.map bsOf)).length ≤ 1000000) :
    Calls Tryz.prog 49 #[v] w fun e w' => ∃ r : ByteArray, e = .returned (.string r) ∧ bsOf r = joinL 32 (xs.map bsOf) ++ [10] ∧ Below w.heap.size w w' := by
  obtain ⟨a, c, rfl, hc1, hc2⟩ := h.form
  obtain ⟨x, hx⟩ : ∃ x, xs[0]? = some x := ⟨_, List.getElem?_eq_getElem (List.length_pos_iff.2 hne)⟩
  obtain ⟨b, o, rfl, _, hb, _⟩ := str_at h hx
  have hj : Lib.join (xs.map (·.data.toList)) [32] = joinL 32 (xs.map bsOf) := join_is _
  refine (JoinK_any b o c xs w (fun j y hj => ?_) hb hN hc1 (by rw [hj]; exact hlen)).mono ?_
  · obtain ⟨b', o', e, _, _, hc⟩ := str_at h hj
    injection e with e
    injection e with e1 e2
    subst e1; subst e2
    exact hc
  · rintro e w' ⟨r, rfl, hr, hb'⟩
    exact ⟨r, rfl, by rw [← hj]; exact hr, hb'⟩
theorem TxW.low {w w' : World} {B : Nat} (h : TxW w) (hb : Below B w w') (h1 : 3 < B) (h2 : 0 < B) : TxW w' := by
  refine ⟨?_, ?_⟩
  · have hgn : Tryz.prog.globalNamed "internal/strconv.uint64pow10" = some 3 := by kernel_rfl
    have ht := h.tab
    unfold Lib.TabIs World.var? at ht ⊢
    rw [hgn] at ht ⊢
    simp only [Option.bind_some] at ht ⊢
    rw [hb.block _ h1]
    exact ht
  · obtain ⟨m, hm⟩ := h.max
    refine ⟨m, ?_⟩
    unfold World.cell? at hm ⊢
    rw [hb.block _ h2]
    exact hm
end Go.Proofs.YtihgnpobkpnipaaGreatDoor
namespace Go.Proofs.YtihgnpobkpnipaaGreatDoor
open Go.RowKit Go.Sort
end Go.Proofs.YtihgnpobkpnipaaGreatDoor
namespace Go.Proofs.YtihgnpobkpnipaaGreatDoor
open Go.RowKit Go.Sort Go.Maps
/-- a literal row of strings. -/
theorem ownS_new (w : World) (B n : Nat) (l : List ByteArray) (hB : B ≤ w.heap.size) (hn : l.length = n) (hm : n ≤ 1000000) : OwnR TS (w.alloc (.cells (l.map Value.string).toArray 9)) B (.slice (some ⟨w.heap.size, 0, none⟩) n n) l := by
  subst hn
  refine OwnR.of_blk (T := TS) hB (blk_new w _) (Nat.le_refl _) (by unfold maxLen; omega) (by show ((l.map Value.string).toArray).size = l.length * 1; simp) ?_ (by rw [flat_len TS.ok.len])
  have h1 : l.flatMap TS.f = l.map Value.string := by
    clear hm
    induction l with
    | nil => rfl
    | cons x r ih => rw [List.flatMap_cons, ih]; rfl
  rw [h1, show TS.k = 1 from rfl, Nat.mul_one, List.toList_toArray]
  exact List.take_of_length_le (by rw [List.length_map]; exact Nat.le_refl _)
/-- the front of a row. -/
theorem RecR.take {α : Type} {T : Rty α} {w : World} {lo n cap : Nat} {a : Option Addr} {l : List α} (h : RecR T w lo (.slice a n cap) l) (k : Nat) (hk : k ≤ l.length) : RecR T w lo (.slice a k cap) (l.take k) := by
  obtain ⟨a', cap', hv, h1, h2, h3⟩ := h
  injection hv with e1 e2 e3
  subst e1; subst e3
  refine ⟨a, cap, by rw [List.length_take, Nat.min_eq_left hk], by rw [List.length_take]; omega, h2, fun j x hj => h3 j x ?_⟩
  have e : l.flatMap T.f = (l.take k).flatMap T.f ++ (l.drop k).flatMap T.f := by rw [← List.flatMap_append, List.take_append_drop]
  rw [e, List.getElem?_append_left (List.getElem?_eq_some_iff.1 hj).1]
  exact hj
theorem splitS_le (c : UInt8) : ∀ (l : List UInt8), ∀ z ∈ splitL c l, z.length ≤ l.length
  | [], z, h => by simp [splitL] at h; subst h; simp
  | b :: r, z, h => by
    have ih := splitS_le c r
    simp only [splitL] at h
    split at h
    · rcases List.mem_cons.1 h with rfl | h
      · simp
      · have := ih z h; simp; omega
    · split at h
      · rename_i e; exact absurd e (splitL_ne c r)
      · rename_i y ys e
        rw [e] at ih
        rcases List.mem_cons.1 h with rfl | h
        · have := ih y (by simp); simp; omega
        · have := ih z (List.mem_cons_of_mem _ h); simp; omega
theorem ba_ne {x : ByteArray} (h : ¬ x.size = 0) : x.toList.isEmpty = false ∧ ¬ x.toList = [] := by
  have hne : x.data.toList ≠ [] := by
    intro e
    have : x.data.toList.length = x.size := Array.length_toList
    rw [e] at this; exact h this.symm
  rw [ByteArray.toList_eq]
  exact ⟨by cases h : x.data.toList with | nil => exact absurd h hne | cons => rfl, hne⟩
set_option maxHeartbeats 4000000 in
set_option maxRecDepth 100000 in
theorem KWords_any (s : ByteArray) (w : World) (hT : TxW w) (hs : s.size ≤ 1000000) :
    Calls Tryz.prog 93 #[.string s] w fun e w' => ∃ v, e = .returned (.tuple #[v, .bool (decide ([] ∉ splitL 32 (bsOf s)))]) ∧ ([] ∉ splitL 32 (bsOf s) → ∃ l, OwnR TS w' w.heap.size v l ∧ l.map bsOf = splitL 32 (bsOf s) ∧ l.length ≤ 1000001) ∧ Below w.heap.size w w' := by
  have HSP := Lib.hid (Split_any s 32 w hT hs)
  obtain ⟨Ls, hLs⟩ : ∃ Ls, Ls = splitL 32 (bsOf s) := ⟨_, rfl⟩
  have HLS := Lib.hid hLs
  rw [← hLs]
  clear hLs hT hs
  go_enter Tryz.func93, Tryz.ntmps93
  go_wp2_with fail
  refine HSP.out.mono ?_
  rintro e w1 ⟨v, l, rfl, hO, hm, hl1, hb⟩
  obtain ⟨sa, scap, rfl, hc1, hc2⟩ := hO.form
  have hm' : l.map bsOf = Ls := by rw [HLS.out]; exact hm
  have HO := Lib.hid (And.intro hO (And.intro hm' hl1))
  have HB := Lib.hid hb
  clear hO hm hm' hb HSP
  go_wp2_with fail
  go_loopw [11] (fun i wr => ∃ k : Nat, k ≤ l.length ∧ i = .int .i64 k ∧ Hid ([] ∉ Ls.take k) ∧ w1 = wr) (fun i _ => l.length - (intOf i).toNat)
  case atStart => exact ⟨0, Nat.zero_le _, rfl, Lib.hid (by simp), rfl⟩
  case round =>
    obtain ⟨k, hk, rfl, HN, rfl⟩ := hrel
    by_cases hlt : k < l.length
    · obtain ⟨x, hx⟩ : ∃ x, l[k]? = some x := ⟨_, List.getElem?_eq_getElem hlt⟩
      have hLx : Ls[k]? = some (bsOf x) := by rw [← HO.out.2.1, List.getElem?_map, hx]; rfl
      obtain ⟨b, o, rfl, _, hbb, c0⟩ := str_at HO.out.1.rec hx
      have hw1 : IntKind.i64.wrap ((k : Int) + 1) = ((k + 1 : Nat) : Int) := by rw [IntWalk.i64_in _ (by omega)]; omega
      by_cases h0 : x.size = 0
      · obtain rfl := ba_empty h0
        have hmem : [] ∈ Ls := List.mem_of_getElem? hLx
        have HR : Hid (decide ([] ∉ Ls) = false ∧ [] ∈ Ls) := Lib.hid ⟨by simp [hmem], hmem⟩
        clear hx hLx h0 hmem
        go_wp2
        go_ret2
        exact ⟨_, by rw [HR.out.1] <;> rfl, fun h => absurd HR.out.2 h, HB.out⟩
      · have HN2 : Hid ([] ∉ Ls.take (k + 1)) := Lib.hid (by
          rw [List.take_add_one, hLx]
          intro hm
          rcases List.mem_append.1 hm with hm | hm
          · exact HN.out hm
          · have hz : bsOf x = [] := by simpa using hm
            have := bsOf_len x
            rw [hz] at this
            exact h0 this.symm)
        obtain ⟨e1, e2⟩ := ba_ne h0
        clear hx hLx h0
        go_wp2
        go_roundw
        case rel => exact ⟨k + 1, by omega, by go_num, HN2, by first | trivial | rfl⟩
        case measure => simp [intOf]; omega
    · obtain rfl : k = l.length := by omega
      have hLl : Ls.length = l.length := by rw [← HO.out.2.1, List.length_map]
      have hno : [] ∉ Ls := by
        have := HN.out
        rw [← hLl, List.take_length] at this
        exact this
      have HR : Hid (decide ([] ∉ Ls) = true) := Lib.hid (by simp [hno])
      clear hLl hno
      go_wp2
      go_ret2
      exact ⟨_, by rw [HR.out] <;> rfl, fun _ => ⟨l, HO.out⟩, HB.out⟩
theorem linesS_le (t : List UInt8) : ∀ z ∈ (linesK t).1, z.length ≤ t.length := by
  intro z hz
  unfold linesK at hz
  split at hz
  · simp at hz
  · split at hz
    · have := splitS_le 10 _ z hz
      simp at this; omega
    · exact splitS_le 10 _ z hz
theorem linesS_len (t : List UInt8) : (linesK t).1.length ≤ t.length + 1 := by
  unfold linesK
  split
  · simp
  · split
    · have h1 := splitL_len 10 t.dropLast
      have h2 := List.count_le_length (a := (10 : UInt8)) (l := t.dropLast)
      simp only
      rw [h1]
      simp at h2
      omega
    · have h1 := splitL_len 10 t
      have h2 := List.count_le_length (a := (10 : UInt8)) (l := t)
      simp only
      rw [h1]
      omega
end Go.Proofs.YtihgnpobkpnipaaGreatDoor
