/- Texts of the proof of a law, put together, part 3 of 46. Conditions: none beyond those that each theorem names. -/
import Derived.Test.YtilhonppgedoiaaGreatDoorFz1
import Derived.Test.YtilhonppgedoiaaGreatDoorFz2
import Derived.ShutString
namespace Go.Proofs.YtilhonppgedoiaaGreatDoor
open Go.RowKit Go.Sort
def smallL : List UInt8 := [97, 98, 99, 100, 101, 102, 103, 104, 105, 106, 107, 108, 109, 110, 111, 112, 113, 114, 115, 116, 117, 118, 119, 120, 121, 122]
def keyL : List UInt8 := [97, 98, 99, 100, 101, 102, 103, 104, 105, 106, 107, 108, 109, 110, 111, 112, 113, 114, 115, 116, 117, 118, 119, 120, 121, 122, 48, 49, 50, 51, 52, 53, 54, 55, 56, 57, 45, 95]
def keyB (s : ByteArray) : Bool := decide (0 < s.size) && decide (s.size ≤ 40) && smallL.contains (s.data.toList.headD 0) && s.data.toList.all fun c => keyL.contains c
set_option maxRecDepth 100000 in
theorem key_ascii : ∀ (j : Nat) b, (⟨#[97, 98, 99, 100, 101, 102, 103, 104, 105, 106, 107, 108, 109, 110, 111, 112, 113, 114, 115, 116, 117, 118, 119, 120, 121, 122, 48, 49, 50, 51, 52, 53, 54, 55, 56, 57, 45, 95]⟩ : ByteArray).data.toList[j]? = some b → b.toNat < 128 := by
  intro j b h
  have hb := List.mem_of_getElem? h
  have : ((⟨#[97, 98, 99, 100, 101, 102, 103, 104, 105, 106, 107, 108, 109, 110, 111, 112, 113, 114, 115, 116, 117, 118, 119, 120, 121, 122, 48, 49, 50, 51, 52, 53, 54, 55, 56, 57, 45, 95]⟩ : ByteArray).data.toList.all fun b => decide (b.toNat < 128)) = true := by decide +kernel
  rw [List.all_eq_true] at this
  simpa using this b hb
theorem trimS_nil (l cs : List UInt8) : Lib.trimS l cs = [] ↔ (l.all fun c => cs.contains c) = true := by
  unfold Lib.trimS Lib.trimLeftS Lib.trimRightS
  rw [List.all_eq_true]
  have hdw : ∀ m : List UInt8, m.dropWhile (cs.contains ·) = [] ↔ ∀ x ∈ m, cs.contains x = true := by
    intro m
    induction m with
    | nil => simp
    | cons x m ih =>
      rw [List.dropWhile_cons]
      by_cases hx : cs.contains x = true
      · rw [if_pos hx, ih]; simp at *; exact fun h => by simpa using hx
      · rw [if_neg hx]; simp at hx ⊢; exact fun h => absurd h hx
  rw [hdw]
  constructor
  · intro h x hx
    apply Classical.byContradiction
    intro hn
    have hrev : x ∈ l.reverse := List.mem_reverse.2 hx
    have hmem : ∀ m : List UInt8, x ∈ m → x ∈ m.dropWhile (cs.contains ·) := by
      intro m
      induction m with
      | nil => intro h; simp at h
      | cons y m ih =>
        intro hm
        rw [List.dropWhile_cons]
        by_cases hy : cs.contains y = true
        · rw [if_pos hy]
          rcases List.mem_cons.1 hm with rfl | hm
          · exact absurd hy hn
          · exact ih hm
        · rw [if_neg hy]; exact hm
    exact hn (h x (List.mem_reverse.2 (hmem _ hrev)))
  · intro h x hx
    have := List.mem_reverse.1 hx
    exact h x (List.mem_reverse.1 ((List.dropWhile_sublist _).subset this))
theorem indexByte_has (c : UInt8) : ∀ l : List UInt8, (0 ≤ Lib.indexByte l c ↔ l.contains c = true) ∧ -1 ≤ Lib.indexByte l c
  | [] => by simp [Lib.indexByte]
  | b :: l => by
    obtain ⟨h1, h2⟩ := indexByte_has c l
    simp only [Lib.indexByte]
    by_cases hb : (b == c) = true
    · rw [if_pos hb]
      have : b = c := by simpa using hb
      simp [this]
    · rw [if_neg hb]
      have hbc : ¬ b = c := by simpa using hb
      by_cases hm : (Lib.indexByte l c == -1) = true
      · rw [if_pos hm]
        have hm' : Lib.indexByte l c = -1 := by simpa using hm
        refine ⟨⟨fun h => by omega, fun h => ?_⟩, by omega⟩
        have : l.contains c = true := by
          simp at h ⊢
          rcases h with h | h
          · exact absurd h.symm hbc
          · exact h
        have := h1.2 this
        omega
      · rw [if_neg hm]
        have hm' : Lib.indexByte l c ≠ -1 := by simpa using hm
        refine ⟨⟨fun _ => ?_, fun _ => by omega⟩, by omega⟩
        have : l.contains c = true := h1.1 (by omega)
        simp at this ⊢
        exact .inr this
theorem ib_any (c : UInt8) (w : World) : Calls Tryz.prog 94 #[.string ⟨#[97, 98, 99, 100, 101, 102, 103, 104, 105, 106, 107, 108, 109, 110, 111, 112, 113, 114, 115, 116, 117, 118, 119, 120, 121, 122]⟩, .int .u8 c.toNat] w fun e w' => e = .returned (.int .i64 (Lib.indexByte smallL c)) ∧ w = w' :=
  (Tryz.strings_IndexByte ⟨#[97, 98, 99, 100, 101, 102, 103, 104, 105, 106, 107, 108, 109, 110, 111, 112, 113, 114, 115, 116, 117, 118, 119, 120, 121, 122]⟩ c.toNat w).mono fun e w' ⟨h1, h2⟩ => ⟨by
    have e : ((c.toNat : Int)).toNat.toUInt8 = c := by rw [Int.toNat_natCast]; exact UInt8.ofNat_toNat
    rw [h1, e]; rfl, h2.symm⟩
set_option maxRecDepth 100000 in
theorem trim_any (s : ByteArray) (w : World) (hs : s.size ≤ 140737488355328) : Calls Tryz.prog 89 #[.string s, .string ⟨#[97, 98, 99, 100, 101, 102, 103, 104, 105, 106, 107, 108, 109, 110, 111, 112, 113, 114, 115, 116, 117, 118, 119, 120, 121, 122, 48, 49, 50, 51, 52, 53, 54, 55, 56, 57, 45, 95]⟩] w fun e w' => e = .returned (.string ⟨(Lib.trimS s.data.toList keyL).toArray⟩) ∧ Below w.heap.size w w' :=
  Tryz.strings_Trim s ⟨#[97, 98, 99, 100, 101, 102, 103, 104, 105, 106, 107, 108, 109, 110, 111, 112, 113, 114, 115, 116, 117, 118, 119, 120, 121, 122, 48, 49, 50, 51, 52, 53, 54, 55, 56, 57, 45, 95]⟩ w (by omega) (by show 38 < 4294967281; omega) key_ascii
set_option maxHeartbeats 1000000 in
set_option maxRecDepth 100000 in
theorem IsKey_any (s : ByteArray) (w : World) (hs : s.size ≤ 140737488355328) :
    Calls Tryz.prog 53 #[.string s] w fun e w' => e = .returned (.bool (keyB s)) ∧ Below w.heap.size w w' := by
  by_cases h0 : s.size = 0
  · have he : s = ⟨#[]⟩ := by
      obtain ⟨⟨l⟩⟩ := s
      have : l = [] := List.eq_nil_of_length_eq_zero h0
      rw [this]
    subst he
    go_enter Tryz.func53, Tryz.ntmps53
    go_wp2
    go_ret
    exact ⟨ret_bool rfl, Below.refl _ _⟩
  · have hl : s.data.toList.length = s.size := Array.length_toList
    have e1 : s.toList.isEmpty = false := by
      rw [Lib.toList_data]
      cases h : s.data.toList with
      | nil => rw [h] at hl; simp at hl; omega
      | cons b l => rfl
    have e2 : ¬ s.toList = [] := by
      intro h; rw [h] at e1; simp at e1
    have hpos : 0 < s.size := by omega
    have hposI : (0 : Int) < (s.size : Int) := by omega
    by_cases h40 : s.size ≤ 40
    · have hh : s.data.toList.headD 0 = s[0] := by
        obtain ⟨⟨l⟩⟩ := s
        cases l with
        | nil => exact absurd rfl h0
        | cons b l => rfl
      have hkb : keyB s = (smallL.contains s[0] && s.data.toList.all fun c => keyL.contains c) := by
        unfold keyB
        rw [hh, decide_eq_true hpos, decide_eq_true h40]; simp only [Bool.true_and]
      obtain ⟨r1, r2⟩ := indexByte_has s[0] smallL
      have hib := ib_any s[0]
      generalize Lib.indexByte smallL s[0] = r at *
      have HIB := Lib.hid hib
      clear hib
      by_cases hr : 0 ≤ r
      · have htn := trimS_nil s.data.toList keyL
        have htr := fun w => trim_any s w hs
        have HTR := Lib.hid htr
        clear htr
        by_cases hall : (s.data.toList.all fun c => keyL.contains c) = true
        · have HX : Hid (keyB s = true) := Lib.hid (by rw [hkb, r1.1 hr, hall]; rfl)
          rw [htn.2 hall] at HTR
          clear htn hall hkb r1 hh hl
          go_enter Tryz.func53, Tryz.ntmps53
          go_wp2_with fail
          refine (HIB.out _).mono ?_
          rintro e w' ⟨rfl, rfl⟩
          go_wp2_with fail
          refine (HTR.out _).mono ?_
          rintro e w1 ⟨rfl, hb1⟩
          go_wp2
          go_ret
          exact ⟨ret_bool HX.out.symm, hb1⟩
        · have HX : Hid (keyB s = false) := Lib.hid (by rw [hkb]; simp only [Bool.not_eq_true] at hall; rw [hall, Bool.and_false])
          obtain ⟨b, m, hbm⟩ : ∃ b m, Lib.trimS s.data.toList keyL = b :: m := by
            cases h : Lib.trimS s.data.toList keyL with
            | nil => exact absurd (htn.1 h) hall
            | cons b m => exact ⟨b, m, rfl⟩
          rw [hbm] at HTR
          have f1 : (⟨(b :: m).toArray⟩ : ByteArray).toList.isEmpty = false := by rw [Lib.toList_data]; rfl
          have f2 : ¬ (⟨(b :: m).toArray⟩ : ByteArray).toList = [] := by rw [Lib.toList_data]; simp
          clear htn hall hkb r1 hh hl hbm
          generalize (⟨(b :: m).toArray⟩ : ByteArray) = tr at *
          go_enter Tryz.func53, Tryz.ntmps53
          go_wp2_with fail
          refine (HIB.out _).mono ?_
          rintro e w' ⟨rfl, rfl⟩
          go_wp2_with fail
          refine (HTR.out _).mono ?_
          rintro e w1 ⟨rfl, hb1⟩
          go_wp2
          go_ret
          exact ⟨ret_bool HX.out.symm, hb1⟩
      · have HX : Hid (keyB s = false) := Lib.hid (by
          rw [hkb]
          have : smallL.contains s[0] = false := by
            cases h : smallL.contains s[0]
            · rfl
            · exact absurd (r1.2 h) hr
          rw [this, Bool.false_and])
        clear hkb r1 hh hl
        go_enter Tryz.func53, Tryz.ntmps53
        go_wp2_with fail
        refine (HIB.out _).mono ?_
        rintro e w' ⟨rfl, rfl⟩
        go_wp2
        go_ret
        exact ⟨ret_bool HX.out.symm, Below.refl _ _⟩
    · have HX : Hid (keyB s = false) := Lib.hid (by unfold keyB; simp [h40])
      have h40' : ¬ (s.size : Int) ≤ 40 := by omega
      go_enter Tryz.func53, Tryz.ntmps53
      go_wp2
      go_ret
      exact ⟨ret_bool HX.out.symm, Below.refl _ _⟩
theorem has1_any (c : UInt8) (w : World) : Calls Tryz.prog 88 #[.string ⟨#[97, 98, 99, 100, 101, 102, 103, 104, 105, 106, 107, 108, 109, 110, 111, 112, 113, 114, 115, 116, 117, 118, 119, 120, 121, 122]⟩, .string ⟨#[c]⟩] w fun e w' => e = .returned (.bool (smallL.contains c)) ∧ w = w' :=
  (Tryz.strings_Contains_one ⟨#[97, 98, 99, 100, 101, 102, 103, 104, 105, 106, 107, 108, 109, 110, 111, 112, 113, 114, 115, 116, 117, 118, 119, 120, 121, 122]⟩ c w).mono fun e w' ⟨h1, h2⟩ => ⟨by
    have h3 := (indexByte_has c smallL).1
    have h4 : decide (0 ≤ Lib.indexByte smallL c) = smallL.contains c := by
      rw [Bool.eq_iff_iff]; simpa using h3
    rw [h1]
    exact congrArg (fun b => Ending.returned (.bool b)) h4, h2.symm⟩
set_option maxHeartbeats 1000000 in
set_option maxRecDepth 100000 in
theorem Key_any (s : ByteArray) (w : World) (hs : s.size ≤ 140737488355328) :
    Calls Tryz.prog 50 #[.string s] w fun e w' => e = .returned (.bool (keyB s)) ∧ Below w.heap.size w w' := by
  by_cases hin : 0 < s.size ∧ s.size ≤ 40
  · obtain ⟨hpos, h40⟩ := hin
    have hib : inB 1 (s.size : Int) 40 = true := by unfold inB; simp; omega
    have hh : s.data.toList.headD 0 = s[0] := by
      obtain ⟨⟨l⟩⟩ := s
      cases l with
      | nil => exact absurd hpos (Nat.lt_irrefl 0)
      | cons b l => rfl
    have hext : s.extract 0 1 = ⟨#[s[0]]⟩ := by
      obtain ⟨⟨l⟩⟩ := s
      cases l with
      | nil => exact absurd hpos (Nat.lt_irrefl 0)
      | cons b l =>
        apply ByteArray.ext
        simp [ByteArray.extract, ByteArray.copySlice]
        rfl
    have hkb : keyB s = (smallL.contains s[0] && s.data.toList.all fun c => keyL.contains c) := by
      unfold keyB
      rw [hh, decide_eq_true hpos, decide_eq_true h40]; simp only [Bool.true_and]
    have hh1 : ∀ w, Calls Tryz.prog 88 #[.string ⟨#[97, 98, 99, 100, 101, 102, 103, 104, 105, 106, 107, 108, 109, 110, 111, 112, 113, 114, 115, 116, 117, 118, 119, 120, 121, 122]⟩, .string (s.extract 0 1)] w fun e w' => e = .returned (.bool (smallL.contains s[0])) ∧ w = w' := fun w => by rw [hext]; exact has1_any _ w
    have hposI : (1 : Int) ≤ (s.size : Int) := by omega
    have HH := Lib.hid hh1
    clear hh1 hext hh
    cases hsm : smallL.contains s[0]
    · have HX : Hid (keyB s = false) := Lib.hid (by rw [hkb, hsm, Bool.false_and])
      rw [hsm] at HH
      clear hkb hsm
      go_enter Tryz.func50, Tryz.ntmps50
      go_wp2_with (go_at_call 48; refine (in_any _ _ _ _).mono ?_; rintro e w' ⟨rfl, rfl⟩)
      refine (HH.out _).mono ?_
      rintro e w' ⟨rfl, rfl⟩
      go_wp2
      go_ret
      exact ⟨ret_bool HX.out.symm, Below.refl _ _⟩
    · have htn := trimS_nil s.data.toList keyL
      have htr := fun w => trim_any s w hs
      have HTR := Lib.hid htr
      rw [hsm] at HH
      clear htr
      by_cases hall : (s.data.toList.all fun c => keyL.contains c) = true
      · have HX : Hid (keyB s = true) := Lib.hid (by rw [hkb, hsm, hall]; rfl)
        rw [htn.2 hall] at HTR
        clear htn hall hkb hsm
        go_enter Tryz.func50, Tryz.ntmps50
        go_wp2_with (go_at_call 48; refine (in_any _ _ _ _).mono ?_; rintro e w' ⟨rfl, rfl⟩)
        refine (HH.out _).mono ?_
        rintro e w' ⟨rfl, rfl⟩
        go_wp2_with fail
        refine (HTR.out _).mono ?_
        rintro e w1 ⟨rfl, hb1⟩
        go_wp2
        go_ret
        exact ⟨ret_bool HX.out.symm, hb1⟩
      · have HX : Hid (keyB s = false) := Lib.hid (by rw [hkb]; simp only [Bool.not_eq_true] at hall; rw [hall, Bool.and_false])
        obtain ⟨b, m, hbm⟩ : ∃ b m, Lib.trimS s.data.toList keyL = b :: m := by
          cases h : Lib.trimS s.data.toList keyL with
          | nil => exact absurd (htn.1 h) hall
          | cons b m => exact ⟨b, m, rfl⟩
        rw [hbm] at HTR
        have f1 : (⟨(b :: m).toArray⟩ : ByteArray).toList.isEmpty = false := by rw [Lib.toList_data]; rfl
        have f2 : ¬ (⟨(b :: m).toArray⟩ : ByteArray).toList = [] := by rw [Lib.toList_data]; simp
        clear htn hall hkb hsm hbm
        generalize (⟨(b :: m).toArray⟩ : ByteArray) = tr at *
        go_enter Tryz.func50, Tryz.ntmps50
        go_wp2_with (go_at_call 48; refine (in_any _ _ _ _).mono ?_; rintro e w' ⟨rfl, rfl⟩)
        refine (HH.out _).mono ?_
        rintro e w' ⟨rfl, rfl⟩
        go_wp2_with fail
        refine (HTR.out _).mono ?_
        rintro e w1 ⟨rfl, hb1⟩
        go_wp2
        go_ret
        exact ⟨ret_bool HX.out.symm, hb1⟩
  · have hib : inB 1 (s.size : Int) 40 = false := by
      unfold inB
      by_cases h1 : 0 < s.size
      · have : ¬ ((s.size : Int) ≤ 40) := by omega
        simp [this]
      · have : ¬ ((1 : Int) ≤ (s.size : Int)) := by omega
        simp [this]
    have HX : Hid (keyB s = false) := Lib.hid (by
      unfold keyB
      by_cases h1 : 0 < s.size
      · have : ¬ s.size ≤ 40 := fun h => hin ⟨h1, h⟩
        simp [this]
      · simp [h1])
    clear hin
    go_enter Tryz.func50, Tryz.ntmps50
    go_wp2_with (go_at_call 48; refine (in_any _ _ _ _).mono ?_; rintro e w' ⟨rfl, rfl⟩)
    go_ret
    exact ⟨ret_bool HX.out.symm, Below.refl _ _⟩
end Go.Proofs.YtilhonppgedoiaaGreatDoor
namespace Go.Proofs.YtilhonppgedoiaaGreatDoor
open Go.RowKit Go.Sort
/-- where the head stands, and how far it has gone, behind an order. -/
def walkTo (P : List Pt) : Pt → Int → List Nat → Pt × Int
  | at', n, [] => (at', n)
  | at', n, k :: r => walkTo P (P.getD k (0, 0)) (n + dist at' (P.getD k (0, 0))) r
def lenOf (st : Pt) (P : List Pt) (o : List Nat) : Int := (walkTo P st 0 o).2 + dist (walkTo P st 0 o).1 st
end Go.Proofs.YtilhonppgedoiaaGreatDoor
namespace Go.Proofs.YtilhonppgedoiaaGreatDoor
open Go.RowKit Go.Sort
def Own (w : World) (B : Nat) (v : Value) (l : List Int) : Prop := w.ownsRow B 3 1 v l.length (ics l)
theorem Own.ints {w : World} {B : Nat} {v : Value} {l : List Int} (h : Own w B v l) : Ints w B v l := Rd.of_own h
theorem Own.nil (w : World) (B : Nat) : Own w B (.slice none 0 0) [] := World.ownsRow_nil w B _ 1
theorem Ints.cells {w : World} {lo b o n cap : Nat} {l : List Int} (h : Ints w lo (.slice (some ⟨b, o, none⟩) n cap) l) : ∀ j, j < l.length → w.cell? ⟨b, o + j, none⟩ = some (.int .i64 (l.getD j 0)) := by
  intro j hj
  obtain ⟨b', o', ha, _, _, hc⟩ := h.at (k := j) (x := l.getD j 0) (by simp [List.getD, hj])
  injection ha with e
  injection e with e1 e2 e3
  subst e1 e2
  exact hc
/-- a list with other elements from a place on. -/
def splice {α : Type} (l : List α) (o : Nat) (r : List α) : List α := l.take o ++ r ++ l.drop (o + r.length)
theorem splice_cons {α : Type} {l r : List α} {o : Nat} {x : α} (h : o + r.length < l.length) : splice (l.set o x) (o + 1) r = splice l o (x :: r) := by
  apply List.ext_getElem?
  intro k
  simp only [splice, List.length_cons]
  simp only [List.getElem?_append, List.length_append, List.length_take, List.length_set, List.length_cons, List.getElem?_take, List.getElem?_drop, List.getElem?_set]
  by_cases h1 : k < o
  · simp only [show k < min o l.length by omega, show k < min o l.length + (r.length + 1) by omega, show k < min (o + 1) l.length by omega, show k < min (o + 1) l.length + r.length by omega, if_true, show k < o + 1 by omega, show o ≠ k by omega, if_false, h1]
  · by_cases h2 : k = o
    · subst h2
      simp only [show k < min (k + 1) l.length by omega, show k < min (k + 1) l.length + r.length by omega, if_true, show k < k + 1 by omega, show ¬ k < min k l.length by omega, show k < min k l.length + (r.length + 1) by omega, if_false, show k < l.length by omega]
      rw [show k - min k l.length = 0 by omega]
      simp
    · by_cases h3 : k < o + 1 + r.length
      · simp only [show k < min (o + 1) l.length + r.length by omega, if_true, show ¬ k < min (o + 1) l.length by omega, if_false, show k < min o l.length + (r.length + 1) by omega, show ¬ k < min o l.length by omega]
        rw [show k - min (o + 1) l.length = k - min o l.length - 1 by omega]
        rw [List.getElem?_cons, if_neg (by omega)]
      · simp only [show ¬ k < min (o + 1) l.length + r.length by omega, if_false, show ¬ k < min o l.length + (r.length + 1) by omega]
        rw [if_neg (by omega)]
        congr 1
        omega
theorem Own.setCells {B g n cap : Nat} : ∀ (r : List Int) (o : Nat) (l : List Int) (w : World), o + r.length ≤ l.length → n = l.length → Own w B (.slice (some ⟨g, 0, none⟩) n cap) l →
    Own (w.setCells g o (ics r)) B (.slice (some ⟨g, 0, none⟩) n cap) (splice l o r) ∧ w.grownBy (w.setCells g o (ics r)) (some g)
  | [], o, l, w, _, _, h => ⟨by (have e : splice l o [] = l := by simp [splice]); rw [e]; exact h, Gr.refl _ _⟩
  | x :: r, o, l, w, h1, h2, h => by
    subst h2
    have hs := World.ownsRow.stored h o (.int .i64 x)
    have e1 : (ics l).set o (.int .i64 x) = ics (l.set o x) := by simp [ics, List.map_set]
    rw [e1] at hs
    have h' : Own (w.setCell ⟨g, o, none⟩ (.int .i64 x)) B (.slice (some ⟨g, 0, none⟩) l.length cap) (l.set o x) := by
      have := hs.1
      unfold Own
      rw [List.length_set]; exact this
    simp only [List.length_cons] at h1
    have ih := Own.setCells r (o + 1) (l.set o x) (w.setCell ⟨g, o, none⟩ (.int .i64 x)) (by rw [List.length_set]; omega) (by rw [List.length_set]) h'
    rw [splice_cons (by omega)] at ih
    exact ⟨ih.1, Gr.trans hs.2 ih.2⟩
theorem Own.drop {w : World} {B g n cap : Nat} {l : List Int} (h : Own w B (.slice (some ⟨g, 0, none⟩) n cap) l) (_hn : n = l.length) (i : Nat) : ∀ j, j < (l.drop i).length → w.cell? ⟨g, i + j, none⟩ = some (.int .i64 ((l.drop i).getD j 0)) := by
  intro j hj
  rw [List.length_drop] at hj
  have := Ints.cells h.ints (i + j) (by omega)
  rw [Nat.zero_add] at this
  rw [this]
  congr 2
  simp [List.getD]
theorem own_grown {w w' : World} {B s : Nat} {e : TypeId} {size : Nat} {v : Value} {n : Nat} {xs : List Value} (h : w.ownsRow B e size v n xs) (hg : w.grownBy w' (some s)) (hs : s < B) : w'.ownsRow B e size v n xs :=
  h.kept hg (by
    cases hv : v.ownBlock with
    | none => exact .inl rfl
    | some k => exact .inr (by intro e; injection e with e; have := (h.lt k hv).1; omega))
theorem own_belowA {w w' : World} {B : Nat} {e : TypeId} {size : Nat} {v : Value} {n : Nat} {xs : List Value} (h : w.ownsRow B e size v n xs) (hb : Below w.heap.size w w') : w'.ownsRow B e size v n xs :=
  h.kept (Gr.of_below hb none) (by cases hv : v.ownBlock <;> simp)
theorem Own.grown {w w' : World} {B s : Nat} {v : Value} {l : List Int} (h : Own w B v l) (hg : w.grownBy w' (some s)) (hs : s < B) : Own w' B v l := own_grown h hg hs
theorem Own.below {w w' : World} {B : Nat} {v : Value} {l : List Int} (h : Own w B v l) (hb : Below w.heap.size w w') : Own w' B v l := own_belowA h hb
theorem Own.alloc {w : World} {B : Nat} {v : Value} {l : List Int} (h : Own w B v l) (o : Obj) : Own (w.alloc o) B v l := h.below ((Below.refl _ _).alloc (Nat.le_refl _) _)
def OwnP (w : World) (B : Nat) (v : Value) (l : List Pt) : Prop := w.ownsRow B 78 2 v l.length (pcs l)
theorem OwnP.pts {w : World} {B : Nat} {v : Value} {l : List Pt} (h : OwnP w B v l) : Pts w B v l := Rd.of_own h
theorem OwnP.nil (w : World) (B : Nat) : OwnP w B (.slice none 0 0) [] := World.ownsRow_nil w B _ 2
theorem OwnP.grown {w w' : World} {B s : Nat} {v : Value} {l : List Pt} (h : OwnP w B v l) (hg : w.grownBy w' (some s)) (hs : s < B) : OwnP w' B v l := own_grown h hg hs
theorem OwnP.below {w w' : World} {B : Nat} {v : Value} {l : List Pt} (h : OwnP w B v l) (hb : Below w.heap.size w w') : OwnP w' B v l := own_belowA h hb
theorem OwnP.alloc {w : World} {B : Nat} {v : Value} {l : List Pt} (h : OwnP w B v l) (o : Obj) : OwnP (w.alloc o) B v l := h.below ((Below.refl _ _).alloc (Nat.le_refl _) _)
theorem Gr.app {a w w' : World} {s B : Nat} {e : TypeId} {size : Nat} {v : Value} {n : Nat} {xs : List Value} (h : a.grownBy w (some s)) (ho : w.ownsRow B e size v n xs) (hg : w.grownBy w' v.ownBlock) (hB : a.heap.size ≤ B) : a.grownBy w' (some s) :=
  ⟨hg.os.trans h.os, hg.tape.trans h.tape, hg.output.trans h.output, Nat.le_trans h.size hg.size, fun i hi hn => (hg.block i (Nat.lt_of_lt_of_le hi h.size) (by
    intro e; have := (ho.lt i e.symm).1; omega)).trans (h.block i hi hn)⟩
end Go.Proofs.YtilhonppgedoiaaGreatDoor
