/- The contracts of kit.IsKey and of the reference's Key. Condition: strings of at most 2^47 bytes. -/
import Derived.Test.YtcfeoapbbkfbnaaGreatDoorDist
import Derived.Test.YtcfeoapbbkfbnaaGreatDoorShelf
import Derived.ShutString
namespace Go.Proofs.YtcfeoapbbkfbnaaGreatDoor
open Go.RowKit Go.Sort

def smallL : List UInt8 := [97, 98, 99, 100, 101, 102, 103, 104, 105, 106, 107, 108, 109, 110, 111, 112, 113, 114, 115, 116, 117, 118, 119, 120, 121, 122]
def keyL : List UInt8 := [97, 98, 99, 100, 101, 102, 103, 104, 105, 106, 107, 108, 109, 110, 111, 112, 113, 114, 115, 116, 117, 118, 119, 120, 121, 122, 48, 49, 50, 51, 52, 53, 54, 55, 56, 57, 45, 95]
def keyB (s : ByteArray) : Bool := decide (0 < s.size) && decide (s.size ≤ 40) && smallL.contains (s.data.toList.headD 0) && s.data.toList.all fun c => keyL.contains c
set_option maxRecDepth 100000 in
theorem key_ascii : ∀ (j : Nat) b, (⟨#[97, 98, 99, 100, 101, 102, 103, 104, 105, 106, 107, 108, 109, 110, 111, 112, 113, 114, 115, 116, 117, 118, 119, 120, 121, 122, 48, 49, 50, 51, 52, 53, 54, 55, 56, 57, 45, 95]⟩ : ByteArray).data.toList[j]? = some b → b.toNat < 128 := by
  intro j b h
  have hb := List.mem_of_getElem? h
  have : ((⟨#[97, 98, 99, 100, 101, 102, 103, 104, 105, 106, 107, 108, 109, 110, 111, 112, 113, 114, 115, 116, 117, 118, 119, 120, 121, 122, 48, 49, 50, 51, 52, 53, 54, 55, 56, 57, 45, 95]⟩ : ByteArray).data.toList.all fun b => decide (b.toNat < 128)) = true := by decide +kernel
  rw [List.all_eq_true] at this
  simpa using this b hb
theorem trimS_nil (l cs : List UInt8) : Lib.trimS l cs = [] ↔ (l.all fun c => cs.contains c) = true := by
  unfold Lib.trimS Lib.trimLeftS Lib.trimRightS
  rw [List.all_eq_true]
  have hdw : ∀ m : List UInt8, m.dropWhile (cs.contains ·) = [] ↔ ∀ x ∈ m, cs.contains x = true := by
    intro m
    induction m with
    | nil => simp
    | cons x m ih =>
      rw [List.dropWhile_cons]
      by_cases hx : cs.contains x = true
      · rw [if_pos hx, ih]; simp at *; exact fun h => by simpa using hx
      · rw [if_neg hx]; simp at hx ⊢; exact fun h => absurd h hx
  rw [hdw]
  constructor
  · intro h x hx
    apply Classical.byContradiction
    intro hn
    have hrev : x ∈ l.reverse := List.mem_reverse.2 hx
    have hmem : ∀ m : List UInt8, x ∈ m → x ∈ m.dropWhile (cs.contains ·) := by
      intro m
      induction m with
      | nil => intro h; simp at h
      | cons y m ih =>
        intro hm
        rw [List.dropWhile_cons]
        by_cases hy : cs.contains y = true
        · rw [if_pos hy]
          rcases List.mem_cons.1 hm with rfl | hm
          · exact absurd hy hn
          · exact ih hm
        · rw [if_neg hy]; exact hm
    exact hn (h x (List.mem_reverse.2 (hmem _ hrev)))
  · intro h x hx
    have := List.mem_reverse.1 hx
    exact h x (List.mem_reverse.1 ((List.dropWhile_sublist _).subset this))
theorem indexByte_has (c : UInt8) : ∀ l : List UInt8, (0 ≤ Lib.indexByte l c ↔ l.contains c = true) ∧ -1 ≤ Lib.indexByte l c
  | [] => by simp [Lib.indexByte]
  | b :: l => by
    obtain ⟨h1, h2⟩ := indexByte_has c l
    simp only [Lib.indexByte]
    by_cases hb : (b == c) = true
    · rw [if_pos hb]
      have : b = c := by simpa using hb
      simp [this]
    · rw [if_neg hb]
      have hbc : ¬ b = c := by simpa using hb
      by_cases hm : (Lib.indexByte l c == -1) = true
      · rw [if_pos hm]
        have hm' : Lib.indexByte l c = -1 := by simpa using hm
        refine ⟨⟨fun h => by omega, fun h => ?_⟩, by omega⟩
        have : l.contains c = true := by
          simp at h ⊢
          rcases h with h | h
          · exact absurd h.symm hbc
          · exact h
        have := h1.2 this
        omega
      · rw [if_neg hm]
        have hm' : Lib.indexByte l c ≠ -1 := by simpa using hm
        refine ⟨⟨fun _ => ?_, fun _ => by omega⟩, by omega⟩
        have : l.contains c = true := h1.1 (by omega)
        simp at this ⊢
        exact .inr this

theorem ib_any (c : UInt8) (w : World) : Calls Tryz.prog 151 #[.string ⟨#[97, 98, 99, 100, 101, 102, 103, 104, 105, 106, 107, 108, 109, 110, 111, 112, 113, 114, 115, 116, 117, 118, 119, 120, 121, 122]⟩, .int .u8 c.toNat] w fun e w' => e = .returned (.int .i64 (Lib.indexByte smallL c)) ∧ w = w' :=
  (Tryz.strings_IndexByte ⟨#[97, 98, 99, 100, 101, 102, 103, 104, 105, 106, 107, 108, 109, 110, 111, 112, 113, 114, 115, 116, 117, 118, 119, 120, 121, 122]⟩ c.toNat w).mono fun e w' ⟨h1, h2⟩ => ⟨by
    have e : ((c.toNat : Int)).toNat.toUInt8 = c := by rw [Int.toNat_natCast]; exact UInt8.ofNat_toNat
    rw [h1, e]; rfl, h2.symm⟩
set_option maxRecDepth 100000 in
theorem trim_any (s : ByteArray) (w : World) (hs : s.size ≤ 140737488355328) : Calls Tryz.prog 112 #[.string s, .string ⟨#[97, 98, 99, 100, 101, 102, 103, 104, 105, 106, 107, 108, 109, 110, 111, 112, 113, 114, 115, 116, 117, 118, 119, 120, 121, 122, 48, 49, 50, 51, 52, 53, 54, 55, 56, 57, 45, 95]⟩] w fun e w' => e = .returned (.string ⟨(Lib.trimS s.data.toList keyL).toArray⟩) ∧ Below w.heap.size w w' :=
  Tryz.strings_Trim s ⟨#[97, 98, 99, 100, 101, 102, 103, 104, 105, 106, 107, 108, 109, 110, 111, 112, 113, 114, 115, 116, 117, 118, 119, 120, 121, 122, 48, 49, 50, 51, 52, 53, 54, 55, 56, 57, 45, 95]⟩ w (by omega) (by show 38 < 4294967281; omega) key_ascii
set_option maxHeartbeats 1000000 in
set_option maxRecDepth 100000 in
theorem IsKey_any (s : ByteArray) (w : World) (hs : s.size ≤ 140737488355328) :
    Calls Tryz.prog 113 #[.string s] w fun e w' => e = .returned (.bool (keyB s)) ∧ Below w.heap.size w w' := by
  by_cases h0 : s.size = 0
  · have he : s = ⟨#[]⟩ := by
      obtain ⟨⟨l⟩⟩ := s
      have : l = [] := List.eq_nil_of_length_eq_zero h0
      rw [this]
    subst he
    go_enter Tryz.func113, Tryz.ntmps113
    go_wp2
    go_ret
    exact ⟨ret_bool rfl, Below.refl _ _⟩
  · have hl : s.data.toList.length = s.size := Array.length_toList
    have e1 : s.toList.isEmpty = false := by
      rw [Lib.toList_data]
      cases h : s.data.toList with
      | nil => rw [h] at hl; simp at hl; omega
      | cons b l => rfl
    have e2 : ¬ s.toList = [] := by
      intro h; rw [h] at e1; simp at e1
    have hpos : 0 < s.size := by omega
    have hposI : (0 : Int) < (s.size : Int) := by omega
    by_cases h40 : s.size ≤ 40
    · have hh : s.data.toList.headD 0 = s[0] := by
        obtain ⟨⟨l⟩⟩ := s
        cases l with
        | nil => exact absurd rfl h0
        | cons b l => rfl
      have hkb : keyB s = (smallL.contains s[0] && s.data.toList.all fun c => keyL.contains c) := by
        unfold keyB
        rw [hh, decide_eq_true hpos, decide_eq_true h40]; simp only [Bool.true_and]
      obtain ⟨r1, r2⟩ := indexByte_has s[0] smallL
      have hib := ib_any s[0]
      generalize Lib.indexByte smallL s[0] = r at *
      have HIB := Lib.hid hib
      clear hib
      by_cases hr : 0 ≤ r
      · have htn := trimS_nil s.data.toList keyL
        have htr := fun w => trim_any s w hs
        have HTR := Lib.hid htr
        clear htr
        by_cases hall : (s.data.toList.all fun c => keyL.contains c) = true
        · have HX : Hid (keyB s = true) := Lib.hid (by rw [hkb, r1.1 hr, hall]; rfl)
          rw [htn.2 hall] at HTR
          clear htn hall hkb r1 hh hl
          go_enter Tryz.func113, Tryz.ntmps113
          go_wp2_with fail
          refine (HIB.out _).mono ?_
          rintro e w' ⟨rfl, rfl⟩
          go_wp2_with fail
          refine (HTR.out _).mono ?_
          rintro e w1 ⟨rfl, hb1⟩
          go_wp2
          go_ret
          exact ⟨ret_bool HX.out.symm, hb1⟩
        · have HX : Hid (keyB s = false) := Lib.hid (by rw [hkb]; simp only [Bool.not_eq_true] at hall; rw [hall, Bool.and_false])
          obtain ⟨b, m, hbm⟩ : ∃ b m, Lib.trimS s.data.toList keyL = b :: m := by
            cases h : Lib.trimS s.data.toList keyL with
            | nil => exact absurd (htn.1 h) hall
            | cons b m => exact ⟨b, m, rfl⟩
          rw [hbm] at HTR
          have f1 : (⟨(b :: m).toArray⟩ : ByteArray).toList.isEmpty = false := by rw [Lib.toList_data]; rfl
          have f2 : ¬ (⟨(b :: m).toArray⟩ : ByteArray).toList = [] := by rw [Lib.toList_data]; simp
          clear htn hall hkb r1 hh hl hbm
          generalize (⟨(b :: m).toArray⟩ : ByteArray) = tr at *
          go_enter Tryz.func113, Tryz.ntmps113
          go_wp2_with fail
          refine (HIB.out _).mono ?_
          rintro e w' ⟨rfl, rfl⟩
          go_wp2_with fail
          refine (HTR.out _).mono ?_
          rintro e w1 ⟨rfl, hb1⟩
          go_wp2
          go_ret
          exact ⟨ret_bool HX.out.symm, hb1⟩
      · have HX : Hid (keyB s = false) := Lib.hid (by
          rw [hkb]
          have : smallL.contains s[0] = false := by
            cases h : smallL.contains s[0]
            · rfl
            · exact absurd (r1.2 h) hr
          rw [this, Bool.false_and])
        clear hkb r1 hh hl
        go_enter Tryz.func113, Tryz.ntmps113
        go_wp2_with fail
        refine (HIB.out _).mono ?_
        rintro e w' ⟨rfl, rfl⟩
        go_wp2
        go_ret
        exact ⟨ret_bool HX.out.symm, Below.refl _ _⟩
    · have HX : Hid (keyB s = false) := Lib.hid (by unfold keyB; simp [h40])
      have h40' : ¬ (s.size : Int) ≤ 40 := by omega
      go_enter Tryz.func113, Tryz.ntmps113
      go_wp2
      go_ret
      exact ⟨ret_bool HX.out.symm, Below.refl _ _⟩
theorem has1_any (c : UInt8) (w : World) : Calls Tryz.prog 111 #[.string ⟨#[97, 98, 99, 100, 101, 102, 103, 104, 105, 106, 107, 108, 109, 110, 111, 112, 113, 114, 115, 116, 117, 118, 119, 120, 121, 122]⟩, .string ⟨#[c]⟩] w fun e w' => e = .returned (.bool (smallL.contains c)) ∧ w = w' :=
  (Tryz.strings_Contains_one ⟨#[97, 98, 99, 100, 101, 102, 103, 104, 105, 106, 107, 108, 109, 110, 111, 112, 113, 114, 115, 116, 117, 118, 119, 120, 121, 122]⟩ c w).mono fun e w' ⟨h1, h2⟩ => ⟨by
    have h3 := (indexByte_has c smallL).1
    have h4 : decide (0 ≤ Lib.indexByte smallL c) = smallL.contains c := by
      rw [Bool.eq_iff_iff]; simpa using h3
    rw [h1]
    exact congrArg (fun b => Ending.returned (.bool b)) h4, h2.symm⟩
set_option maxHeartbeats 1000000 in
set_option maxRecDepth 100000 in
theorem Key_any (s : ByteArray) (w : World) (hs : s.size ≤ 140737488355328) :
    Calls Tryz.prog 70 #[.string s] w fun e w' => e = .returned (.bool (keyB s)) ∧ Below w.heap.size w w' := by
  by_cases hin : 0 < s.size ∧ s.size ≤ 40
  · obtain ⟨hpos, h40⟩ := hin
    have hib : inB 1 (s.size : Int) 40 = true := by unfold inB; simp; omega
    have hh : s.data.toList.headD 0 = s[0] := by
      obtain ⟨⟨l⟩⟩ := s
      cases l with
      | nil => exact absurd hpos (Nat.lt_irrefl 0)
      | cons b l => rfl
    have hext : s.extract 0 1 = ⟨#[s[0]]⟩ := by
      obtain ⟨⟨l⟩⟩ := s
      cases l with
      | nil => exact absurd hpos (Nat.lt_irrefl 0)
      | cons b l =>
        apply ByteArray.ext
        simp [ByteArray.extract, ByteArray.copySlice]
        rfl
    have hkb : keyB s = (smallL.contains s[0] && s.data.toList.all fun c => keyL.contains c) := by
      unfold keyB
      rw [hh, decide_eq_true hpos, decide_eq_true h40]; simp only [Bool.true_and]
    have hh1 : ∀ w, Calls Tryz.prog 111 #[.string ⟨#[97, 98, 99, 100, 101, 102, 103, 104, 105, 106, 107, 108, 109, 110, 111, 112, 113, 114, 115, 116, 117, 118, 119, 120, 121, 122]⟩, .string (s.extract 0 1)] w fun e w' => e = .returned (.bool (smallL.contains s[0])) ∧ w = w' := fun w => by rw [hext]; exact has1_any _ w
    have hposI : (1 : Int) ≤ (s.size : Int) := by omega
    have HH := Lib.hid hh1
    clear hh1 hext hh
    cases hsm : smallL.contains s[0]
    · have HX : Hid (keyB s = false) := Lib.hid (by rw [hkb, hsm, Bool.false_and])
      rw [hsm] at HH
      clear hkb hsm
      go_enter Tryz.func70, Tryz.ntmps70
      go_wp2_with (go_at_call 68; refine (in_any _ _ _ _).mono ?_; rintro e w' ⟨rfl, rfl⟩)
      refine (HH.out _).mono ?_
      rintro e w' ⟨rfl, rfl⟩
      go_wp2
      go_ret
      exact ⟨ret_bool HX.out.symm, Below.refl _ _⟩
    · have htn := trimS_nil s.data.toList keyL
      have htr := fun w => trim_any s w hs
      have HTR := Lib.hid htr
      rw [hsm] at HH
      clear htr
      by_cases hall : (s.data.toList.all fun c => keyL.contains c) = true
      · have HX : Hid (keyB s = true) := Lib.hid (by rw [hkb, hsm, hall]; rfl)
        rw [htn.2 hall] at HTR
        clear htn hall hkb hsm
        go_enter Tryz.func70, Tryz.ntmps70
        go_wp2_with (go_at_call 68; refine (in_any _ _ _ _).mono ?_; rintro e w' ⟨rfl, rfl⟩)
        refine (HH.out _).mono ?_
        rintro e w' ⟨rfl, rfl⟩
        go_wp2_with fail
        refine (HTR.out _).mono ?_
        rintro e w1 ⟨rfl, hb1⟩
        go_wp2
        go_ret
        exact ⟨ret_bool HX.out.symm, hb1⟩
      · have HX : Hid (keyB s = false) := Lib.hid (by rw [hkb]; simp only [Bool.not_eq_true] at hall; rw [hall, Bool.and_false])
        obtain ⟨b, m, hbm⟩ : ∃ b m, Lib.trimS s.data.toList keyL = b :: m := by
          cases h : Lib.trimS s.data.toList keyL with
          | nil => exact absurd (htn.1 h) hall
          | cons b m => exact ⟨b, m, rfl⟩
        rw [hbm] at HTR
        have f1 : (⟨(b :: m).toArray⟩ : ByteArray).toList.isEmpty = false := by rw [Lib.toList_data]; rfl
        have f2 : ¬ (⟨(b :: m).toArray⟩ : ByteArray).toList = [] := by rw [Lib.toList_data]; simp
        clear htn hall hkb hsm hbm
        generalize (⟨(b :: m).toArray⟩ : ByteArray) = tr at *
        go_enter Tryz.func70, Tryz.ntmps70
        go_wp2_with (go_at_call 68; refine (in_any _ _ _ _).mono ?_; rintro e w' ⟨rfl, rfl⟩)
        refine (HH.out _).mono ?_
        rintro e w' ⟨rfl, rfl⟩
        go_wp2_with fail
        refine (HTR.out _).mono ?_
        rintro e w1 ⟨rfl, hb1⟩
        go_wp2
        go_ret
        exact ⟨ret_bool HX.out.symm, hb1⟩
  · have hib : inB 1 (s.size : Int) 40 = false := by
      unfold inB
      by_cases h1 : 0 < s.size
      · have : ¬ ((s.size : Int) ≤ 40) := by omega
        simp [this]
      · have : ¬ ((1 : Int) ≤ (s.size : Int)) := by omega
        simp [this]
    have HX : Hid (keyB s = false) := Lib.hid (by
      unfold keyB
      by_cases h1 : 0 < s.size
      · have : ¬ s.size ≤ 40 := fun h => hin ⟨h1, h⟩
        simp [this]
      · simp [h1])
    clear hin
    go_enter Tryz.func70, Tryz.ntmps70
    go_wp2_with (go_at_call 68; refine (in_any _ _ _ _).mono ?_; rintro e w' ⟨rfl, rfl⟩)
    go_ret
    exact ⟨ret_bool HX.out.symm, Below.refl _ _⟩
end Go.Proofs.YtcfeoapbbkfbnaaGreatDoor
