/- Texts of the proof of a law, put together, part 11 of 41. Conditions: none beyond those that each theorem names. -/
import Derived.Test.YtihgnpobkpnipaaGreatDoorQz1
import Derived.Test.YtihgnpobkpnipaaGreatDoorQz2
import Derived.Test.YtihgnpobkpnipaaGreatDoorQz3
import Derived.Test.YtihgnpobkpnipaaGreatDoorQz10
import Derived.ShutString
import Derived.Deep.RegionWith
import Derived.Lib.SlicesS
import GoSem.Op.String
namespace Go.Proofs.YtihgnpobkpnipaaGreatDoor
open Go.RowKit Go.Sort
def smallL : List UInt8 := [97, 98, 99, 100, 101, 102, 103, 104, 105, 106, 107, 108, 109, 110, 111, 112, 113, 114, 115, 116, 117, 118, 119, 120, 121, 122]
def keyL : List UInt8 := [97, 98, 99, 100, 101, 102, 103, 104, 105, 106, 107, 108, 109, 110, 111, 112, 113, 114, 115, 116, 117, 118, 119, 120, 121, 122, 48, 49, 50, 51, 52, 53, 54, 55, 56, 57, 45, 95]
def keyB (s : ByteArray) : Bool := decide (0 < s.size) && decide (s.size ≤ 40) && smallL.contains (s.data.toList.headD 0) && s.data.toList.all fun c => keyL.contains c
set_option maxRecDepth 100000 in
theorem key_ascii : ∀ (j : Nat) b, (⟨#[97, 98, 99, 100, 101, 102, 103, 104, 105, 106, 107, 108, 109, 110, 111, 112, 113, 114, 115, 116, 117, 118, 119, 120, 121, 122, 48, 49, 50, 51, 52, 53, 54, 55, 56, 57, 45, 95]⟩ : ByteArray).data.toList[j]? = some b → b.toNat < 128 := by
  intro j b h
  have hb := List.mem_of_getElem? h
  have : ((⟨#[97, 98, 99, 100, 101, 102, 103, 104, 105, 106, 107, 108, 109, 110, 111, 112, 113, 114, 115, 116, 117, 118, 119, 120, 121, 122, 48, 49, 50, 51, 52, 53, 54, 55, 56, 57, 45, 95]⟩ : ByteArray).data.toList.all fun b => decide (b.toNat < 128)) = true := by decide +kernel
  rw [List.all_eq_true] at this
  simpa using this b hb
theorem trimS_nil (l cs : List UInt8) : Lib.trimS l cs = [] ↔ (l.all fun c => cs.contains c) = true := by
  unfold Lib.trimS Lib.trimLeftS Lib.trimRightS
  rw [List.all_eq_true]
  have hdw : ∀ m : List UInt8, m.dropWhile (cs.contains ·) = [] ↔ ∀ x ∈ m, cs.contains x = true := by
    intro m
    induction m with
    | nil => simp
    | cons x m ih =>
      rw [List.dropWhile_cons]
      by_cases hx : cs.contains x = true
      · rw [if_pos hx, ih]; simp at *; exact fun h => by simpa using hx
      · rw [if_neg hx]; simp at hx ⊢; exact fun h => absurd h hx
  rw [hdw]
  constructor
  · intro h x hx
    apply Classical.byContradiction
    intro hn
    have hrev : x ∈ l.reverse := List.mem_reverse.2 hx
    have hmem : ∀ m : List UInt8, x ∈ m → x ∈ m.dropWhile (cs.contains ·) := by
      intro m
      induction m with
      | nil => intro h; simp at h
      | cons y m ih =>
        intro hm
        rw [List.dropWhile_cons]
        by_cases hy : cs.contains y = true
        · rw [if_pos hy]
          rcases List.mem_cons.1 hm with rfl | hm
          · exact absurd hy hn
          · exact ih hm
        · rw [if_neg hy]; exact hm
    exact hn (h x (List.mem_reverse.2 (hmem _ hrev)))
  · intro h x hx
    have := List.mem_reverse.1 hx
    exact h x (List.mem_reverse.1 ((List.dropWhile_sublist _).subset this))
theorem indexByte_has (c : UInt8) : ∀ l : List UInt8, (0 ≤ Lib.indexByte l c ↔ l.contains c = true) ∧ -1 ≤ Lib.indexByte l c
  | [] => by simp [Lib.indexByte]
  | b :: l => by
    obtain ⟨h1, h2⟩ := indexByte_has c l
    simp only [Lib.indexByte]
    by_cases hb : (b == c) = true
    · rw [if_pos hb]
      have : b = c := by simpa using hb
      simp [this]
    · rw [if_neg hb]
      have hbc : ¬ b = c := by simpa using hb
      by_cases hm : (Lib.indexByte l c == -1) = true
      · rw [if_pos hm]
        have hm' : Lib.indexByte l c = -1 := by simpa using hm
        refine ⟨⟨fun h => by omega, fun h => ?_⟩, by omega⟩
        have : l.contains c = true := by
          simp at h ⊢
          rcases h with h | h
          · exact absurd h.symm hbc
          · exact h
        have := h1.2 this
        omega
      · rw [if_neg hm]
        have hm' : Lib.indexByte l c ≠ -1 := by simpa using hm
        refine ⟨⟨fun _ => ?_, fun _ => by omega⟩, by omega⟩
        have : l.contains c = true := h1.1 (by omega)
        simp at this ⊢
        exact .inr this
theorem ib_any (c : UInt8) (w : World) : Calls Tryz.prog 121 #[.string ⟨#[97, 98, 99, 100, 101, 102, 103, 104, 105, 106, 107, 108, 109, 110, 111, 112, 113, 114, 115, 116, 117, 118, 119, 120, 121, 122]⟩, .int .u8 c.toNat] w fun e w' => e = .returned (.int .i64 (Lib.indexByte smallL c)) ∧ w = w' :=
  (Tryz.strings_IndexByte ⟨#[97, 98, 99, 100, 101, 102, 103, 104, 105, 106, 107, 108, 109, 110, 111, 112, 113, 114, 115, 116, 117, 118, 119, 120, 121, 122]⟩ c.toNat w).mono fun e w' ⟨h1, h2⟩ => ⟨by
    have e : ((c.toNat : Int)).toNat.toUInt8 = c := by rw [Int.toNat_natCast]; exact UInt8.ofNat_toNat
    rw [h1, e]; rfl, h2.symm⟩
set_option maxRecDepth 100000 in
theorem trim_any (s : ByteArray) (w : World) (hs : s.size ≤ 140737488355328) : Calls Tryz.prog 70 #[.string s, .string ⟨#[97, 98, 99, 100, 101, 102, 103, 104, 105, 106, 107, 108, 109, 110, 111, 112, 113, 114, 115, 116, 117, 118, 119, 120, 121, 122, 48, 49, 50, 51, 52, 53, 54, 55, 56, 57, 45, 95]⟩] w fun e w' => e = .returned (.string ⟨(Lib.trimS s.data.toList keyL).toArray⟩) ∧ Below w.heap.size w w' :=
  Tryz.strings_Trim s ⟨#[97, 98, 99, 100, 101, 102, 103, 104, 105, 106, 107, 108, 109, 110, 111, 112, 113, 114, 115, 116, 117, 118, 119, 120, 121, 122, 48, 49, 50, 51, 52, 53, 54, 55, 56, 57, 45, 95]⟩ w (by omega) (by show 38 < 4294967281; omega) key_ascii
set_option maxHeartbeats 1000000 in
set_option maxRecDepth 100000 in
theorem IsKey_any (s : ByteArray) (w : World) (hs : s.size ≤ 140737488355328) :
    Calls Tryz.prog 86 #[.string s] w fun e w' => e = .returned (.bool (keyB s)) ∧ Below w.heap.size w w' := by
  by_cases h0 : s.size = 0
  · have he : s = ⟨#[]⟩ := by
      obtain ⟨⟨l⟩⟩ := s
      have : l = [] := List.eq_nil_of_length_eq_zero h0
      rw [this]
    subst he
    go_enter Tryz.func86, Tryz.ntmps86
    go_wp2
    go_ret
    exact ⟨ret_bool rfl, Below.refl _ _⟩
  · have hl : s.data.toList.length = s.size := Array.length_toList
    have e1 : s.toList.isEmpty = false := by
      rw [Lib.toList_data]
      cases h : s.data.toList with
      | nil => rw [h] at hl; simp at hl; omega
      | cons b l => rfl
    have e2 : ¬ s.toList = [] := by
      intro h; rw [h] at e1; simp at e1
    have hpos : 0 < s.size := by omega
    have hposI : (0 : Int) < (s.size : Int) := by omega
    by_cases h40 : s.size ≤ 40
    · have hh : s.data.toList.headD 0 = s[0] := by
        obtain ⟨⟨l⟩⟩ := s
        cases l with
        | nil => exact absurd rfl h0
        | cons b l => rfl
      have hkb : keyB s = (smallL.contains s[0] && s.data.toList.all fun c => keyL.contains c) := by
        unfold keyB
        rw [hh, decide_eq_true hpos, decide_eq_true h40]; simp only [Bool.true_and]
      obtain ⟨r1, r2⟩ := indexByte_has s[0] smallL
      have hib := ib_any s[0]
      generalize Lib.indexByte smallL s[0] = r at *
      have HIB := Lib.hid hib
      clear hib
      by_cases hr : 0 ≤ r
      · have htn := trimS_nil s.data.toList keyL
        have htr := fun w => trim_any s w hs
        have HTR := Lib.hid htr
        clear htr
        by_cases hall : (s.data.toList.all fun c => keyL.contains c) = true
        · have HX : Hid (keyB s = true) := Lib.hid (by rw [hkb, r1.1 hr, hall]; rfl)
          rw [htn.2 hall] at HTR
          clear htn hall hkb r1 hh hl
          go_enter Tryz.func86, Tryz.ntmps86
          go_wp2_with fail
          refine (HIB.out _).mono ?_
          rintro e w' ⟨rfl, rfl⟩
          go_wp2_with fail
          refine (HTR.out _).mono ?_
          rintro e w1 ⟨rfl, hb1⟩
          go_wp2
          go_ret
          exact ⟨ret_bool HX.out.symm, hb1⟩
        · have HX : Hid (keyB s = false) := Lib.hid (by rw [hkb]; simp only [Bool.not_eq_true] at hall; rw [hall, Bool.and_false])
          obtain ⟨b, m, hbm⟩ : ∃ b m, Lib.trimS s.data.toList keyL = b :: m := by
            cases h : Lib.trimS s.data.toList keyL with
            | nil => exact absurd (htn.1 h) hall
            | cons b m => exact ⟨b, m, rfl⟩
          rw [hbm] at HTR
          have f1 : (⟨(b :: m).toArray⟩ : ByteArray).toList.isEmpty = false := by rw [Lib.toList_data]; rfl
          have f2 : ¬ (⟨(b :: m).toArray⟩ : ByteArray).toList = [] := by rw [Lib.toList_data]; simp
          clear htn hall hkb r1 hh hl hbm
          generalize (⟨(b :: m).toArray⟩ : ByteArray) = tr at *
          go_enter Tryz.func86, Tryz.ntmps86
          go_wp2_with fail
          refine (HIB.out _).mono ?_
          rintro e w' ⟨rfl, rfl⟩
          go_wp2_with fail
          refine (HTR.out _).mono ?_
          rintro e w1 ⟨rfl, hb1⟩
          go_wp2
          go_ret
          exact ⟨ret_bool HX.out.symm, hb1⟩
      · have HX : Hid (keyB s = false) := Lib.hid (by
          rw [hkb]
          have : smallL.contains s[0] = false := by
            cases h : smallL.contains s[0]
            · rfl
            · exact absurd (r1.2 h) hr
          rw [this, Bool.false_and])
        clear hkb r1 hh hl
        go_enter Tryz.func86, Tryz.ntmps86
        go_wp2_with fail
        refine (HIB.out _).mono ?_
        rintro e w' ⟨rfl, rfl⟩
        go_wp2
        go_ret
        exact ⟨ret_bool HX.out.symm, Below.refl _ _⟩
    · have HX : Hid (keyB s = false) := Lib.hid (by unfold keyB; simp [h40])
      have h40' : ¬ (s.size : Int) ≤ 40 := by omega
      go_enter Tryz.func86, Tryz.ntmps86
      go_wp2
      go_ret
      exact ⟨ret_bool HX.out.symm, Below.refl _ _⟩
theorem has1_any (c : UInt8) (w : World) : Calls Tryz.prog 82 #[.string ⟨#[97, 98, 99, 100, 101, 102, 103, 104, 105, 106, 107, 108, 109, 110, 111, 112, 113, 114, 115, 116, 117, 118, 119, 120, 121, 122]⟩, .string ⟨#[c]⟩] w fun e w' => e = .returned (.bool (smallL.contains c)) ∧ w = w' :=
  (Tryz.strings_Contains_one ⟨#[97, 98, 99, 100, 101, 102, 103, 104, 105, 106, 107, 108, 109, 110, 111, 112, 113, 114, 115, 116, 117, 118, 119, 120, 121, 122]⟩ c w).mono fun e w' ⟨h1, h2⟩ => ⟨by
    have h3 := (indexByte_has c smallL).1
    have h4 : decide (0 ≤ Lib.indexByte smallL c) = smallL.contains c := by
      rw [Bool.eq_iff_iff]; simpa using h3
    rw [h1]
    exact congrArg (fun b => Ending.returned (.bool b)) h4, h2.symm⟩
set_option maxHeartbeats 1000000 in
set_option maxRecDepth 100000 in
theorem Key_any (s : ByteArray) (w : World) (hs : s.size ≤ 140737488355328) :
    Calls Tryz.prog 40 #[.string s] w fun e w' => e = .returned (.bool (keyB s)) ∧ Below w.heap.size w w' := by
  by_cases hin : 0 < s.size ∧ s.size ≤ 40
  · obtain ⟨hpos, h40⟩ := hin
    have hib : inB 1 (s.size : Int) 40 = true := by unfold inB; simp; omega
    have hh : s.data.toList.headD 0 = s[0] := by
      obtain ⟨⟨l⟩⟩ := s
      cases l with
      | nil => exact absurd hpos (Nat.lt_irrefl 0)
      | cons b l => rfl
    have hext : s.extract 0 1 = ⟨#[s[0]]⟩ := by
      obtain ⟨⟨l⟩⟩ := s
      cases l with
      | nil => exact absurd hpos (Nat.lt_irrefl 0)
      | cons b l =>
        apply ByteArray.ext
        simp [ByteArray.extract, ByteArray.copySlice]
        rfl
    have hkb : keyB s = (smallL.contains s[0] && s.data.toList.all fun c => keyL.contains c) := by
      unfold keyB
      rw [hh, decide_eq_true hpos, decide_eq_true h40]; simp only [Bool.true_and]
    have hh1 : ∀ w, Calls Tryz.prog 82 #[.string ⟨#[97, 98, 99, 100, 101, 102, 103, 104, 105, 106, 107, 108, 109, 110, 111, 112, 113, 114, 115, 116, 117, 118, 119, 120, 121, 122]⟩, .string (s.extract 0 1)] w fun e w' => e = .returned (.bool (smallL.contains s[0])) ∧ w = w' := fun w => by rw [hext]; exact has1_any _ w
    have hposI : (1 : Int) ≤ (s.size : Int) := by omega
    have HH := Lib.hid hh1
    clear hh1 hext hh
    cases hsm : smallL.contains s[0]
    · have HX : Hid (keyB s = false) := Lib.hid (by rw [hkb, hsm, Bool.false_and])
      rw [hsm] at HH
      clear hkb hsm
      go_enter Tryz.func40, Tryz.ntmps40
      go_wp2_with (go_at_call 41; refine (in_any _ _ _ _).mono ?_; rintro e w' ⟨rfl, rfl⟩)
      refine (HH.out _).mono ?_
      rintro e w' ⟨rfl, rfl⟩
      go_wp2
      go_ret
      exact ⟨ret_bool HX.out.symm, Below.refl _ _⟩
    · have htn := trimS_nil s.data.toList keyL
      have htr := fun w => trim_any s w hs
      have HTR := Lib.hid htr
      rw [hsm] at HH
      clear htr
      by_cases hall : (s.data.toList.all fun c => keyL.contains c) = true
      · have HX : Hid (keyB s = true) := Lib.hid (by rw [hkb, hsm, hall]; rfl)
        rw [htn.2 hall] at HTR
        clear htn hall hkb hsm
        go_enter Tryz.func40, Tryz.ntmps40
        go_wp2_with (go_at_call 41; refine (in_any _ _ _ _).mono ?_; rintro e w' ⟨rfl, rfl⟩)
        refine (HH.out _).mono ?_
        rintro e w' ⟨rfl, rfl⟩
        go_wp2_with fail
        refine (HTR.out _).mono ?_
        rintro e w1 ⟨rfl, hb1⟩
        go_wp2
        go_ret
        exact ⟨ret_bool HX.out.symm, hb1⟩
      · have HX : Hid (keyB s = false) := Lib.hid (by rw [hkb]; simp only [Bool.not_eq_true] at hall; rw [hall, Bool.and_false])
        obtain ⟨b, m, hbm⟩ : ∃ b m, Lib.trimS s.data.toList keyL = b :: m := by
          cases h : Lib.trimS s.data.toList keyL with
          | nil => exact absurd (htn.1 h) hall
          | cons b m => exact ⟨b, m, rfl⟩
        rw [hbm] at HTR
        have f1 : (⟨(b :: m).toArray⟩ : ByteArray).toList.isEmpty = false := by rw [Lib.toList_data]; rfl
        have f2 : ¬ (⟨(b :: m).toArray⟩ : ByteArray).toList = [] := by rw [Lib.toList_data]; simp
        clear htn hall hkb hsm hbm
        generalize (⟨(b :: m).toArray⟩ : ByteArray) = tr at *
        go_enter Tryz.func40, Tryz.ntmps40
        go_wp2_with (go_at_call 41; refine (in_any _ _ _ _).mono ?_; rintro e w' ⟨rfl, rfl⟩)
        refine (HH.out _).mono ?_
        rintro e w' ⟨rfl, rfl⟩
        go_wp2_with fail
        refine (HTR.out _).mono ?_
        rintro e w1 ⟨rfl, hb1⟩
        go_wp2
        go_ret
        exact ⟨ret_bool HX.out.symm, hb1⟩
  · have hib : inB 1 (s.size : Int) 40 = false := by
      unfold inB
      by_cases h1 : 0 < s.size
      · have : ¬ ((s.size : Int) ≤ 40) := by omega
        simp [this]
      · have : ¬ ((1 : Int) ≤ (s.size : Int)) := by omega
        simp [this]
    have HX : Hid (keyB s = false) := Lib.hid (by
      unfold keyB
      by_cases h1 : 0 < s.size
      · have : ¬ s.size ≤ 40 := fun h => hin ⟨h1, h⟩
        simp [this]
      · simp [h1])
    clear hin
    go_enter Tryz.func40, Tryz.ntmps40
    go_wp2_with (go_at_call 41; refine (in_any _ _ _ _).mono ?_; rintro e w' ⟨rfl, rfl⟩)
    go_ret
    exact ⟨ret_bool HX.out.symm, Below.refl _ _⟩
end Go.Proofs.YtihgnpobkpnipaaGreatDoor
namespace Go.Proofs.YtihgnpobkpnipaaGreatDoor
open Go.RowKit Go.Sort Go.Maps
/-- parts: key, package, level, bake. -/
abbrev Prt := ByteArray × ByteArray × Int × Int
/-- alternates: for, by, both. -/
abbrev Alt := ByteArray × ByteArray × Bool
def blePt (a b : ByteArray) : Bool := Op.bytesLess a.toList b.toList || a.toList == b.toList
/-- what is wrong with a part behind another one. -/
def prtF (prev : Option ByteArray) (x : Prt) : Int :=
  if keyB x.1 = false then 5 else if keyB x.2.1 = false then 5 else if inB 1 x.2.2.1 6 = false then 1 else if inB 0 x.2.2.2 720000000 = false then 1 else match prev with
    | none => 0
    | some p => if blePt x.1 p = true then 7 else 0
def prtsF1 : Option ByteArray → List Prt → Int
  | _, [] => 0
  | p, x :: l => if prtF p x = 0 then prtsF1 (some x.1) l else prtF p x
def prvP (l : List Prt) : Nat → Option ByteArray
  | 0 => none
  | k + 1 => (l[k]?).map (·.1)
theorem prtsF1_go {l : List Prt} {k : Nat} {x : Prt} (hx : l[k]? = some x) (h : prtF (prvP l k) x = 0) : prtsF1 (prvP l k) (l.drop k) = prtsF1 (prvP l (k + 1)) (l.drop (k + 1)) := by
  obtain ⟨hk, e⟩ := List.getElem?_eq_some_iff.1 hx
  rw [List.drop_eq_getElem_cons hk, e, prtsF1, if_pos h]
  show _ = prtsF1 ((l[k]?).map (·.1)) _
  rw [hx]; rfl
theorem prtsF1_stop {l : List Prt} {k : Nat} {x : Prt} (hx : l[k]? = some x) (h : prtF (prvP l k) x ≠ 0) : prtsF1 (prvP l k) (l.drop k) = prtF (prvP l k) x := by
  obtain ⟨hk, e⟩ := List.getElem?_eq_some_iff.1 hx
  rw [List.drop_eq_getElem_cons hk, e, prtsF1, if_neg h]
def hasP (ps : List Prt) (k : ByteArray) : Bool := ps.any fun x => x.1.toList == k.toList
/-- how two alternates lie. -/
def altC (y x : Alt) : Int := if Lib.compareBytes (bsOf y.1) (bsOf x.1) = 0 then Lib.compareBytes (bsOf y.2.1) (bsOf x.2.1) else Lib.compareBytes (bsOf y.1) (bsOf x.1)
def altF (ps : List Prt) (prev : Option Alt) (x : Alt) : Int :=
  if hasP ps x.1 = false then 8 else if hasP ps x.2.1 = false then 8 else if x.1 = x.2.1 then 3 else match prev with
    | none => 0
    | some y => if 0 ≤ altC y x then 7 else 0
def altsF1 (ps : List Prt) : Option Alt → List Alt → Int
  | _, [] => 0
  | p, x :: l => if altF ps p x = 0 then altsF1 ps (some x) l else altF ps p x
def prvA (l : List Alt) : Nat → Option Alt
  | 0 => none
  | k + 1 => l[k]?
theorem altsF1_go {ps : List Prt} {l : List Alt} {k : Nat} {x : Alt} (hx : l[k]? = some x) (h : altF ps (prvA l k) x = 0) : altsF1 ps (prvA l k) (l.drop k) = altsF1 ps (prvA l (k + 1)) (l.drop (k + 1)) := by
  obtain ⟨hk, e⟩ := List.getElem?_eq_some_iff.1 hx
  rw [List.drop_eq_getElem_cons hk, e, altsF1, if_pos h]
  show _ = altsF1 ps (l[k]?) _
  rw [hx]
theorem altsF1_stop {ps : List Prt} {l : List Alt} {k : Nat} {x : Alt} (hx : l[k]? = some x) (h : altF ps (prvA l k) x ≠ 0) : altsF1 ps (prvA l k) (l.drop k) = altF ps (prvA l k) x := by
  obtain ⟨hk, e⟩ := List.getElem?_eq_some_iff.1 hx
  rw [List.drop_eq_getElem_cons hk, e, altsF1, if_neg h]
/-- what replaces what, as an alternate tells. -/
def waysA (x : Alt) : List (Bs × Bs) := (bsOf x.1, bsOf x.2.1) :: if x.2.2 = true then [(bsOf x.2.1, bsOf x.1)] else []
def waysL (l : List Alt) : List (Bs × Bs) := l.flatMap waysA
def twiceB : List (Bs × Bs) → List (Bs × Bs) → Bool
  | _, [] => false
  | seen, x :: r => decide (x ∈ seen) || twiceB (x :: seen) r
/-- what is wrong with a catalogue. -/
def catsF (ps : List Prt) (l : List Alt) : Int :=
  if 1000 < ps.length then 2 else if prtsF1 none ps ≠ 0 then prtsF1 none ps else if 2000 < l.length then 2 else if altsF1 ps none l ≠ 0 then altsF1 ps none l else if twiceB [] (waysL l) = true then 6 else 0
/-- what directly replaces a part, sorted. -/
def nextL (l : List Alt) (p : Bs) : List Bs := (((waysL l).filter fun x => decide (x.1 = p)).map (·.2)).mergeSort leB
theorem nextL_mem {l : List Alt} {p s : Bs} : s ∈ nextL l p ↔ (p, s) ∈ waysL l := by
  unfold nextL
  rw [(List.mergeSort_perm _ _).mem_iff]
  constructor
  · intro h
    obtain ⟨⟨a, b⟩, hx, rfl⟩ := List.mem_map.1 h
    obtain ⟨h1, h2⟩ := List.mem_filter.1 hx
    have e : a = p := of_decide_eq_true h2
    exact e ▸ h1
  · intro h
    exact List.mem_map.2 ⟨(p, s), List.mem_filter.2 ⟨h, by simp⟩, rfl⟩
/-- the parts that an alternate names are there. -/
theorem altsF1_has {ps : List Prt} : ∀ {l : List Alt} {p : Option Alt}, altsF1 ps p l = 0 → ∀ x ∈ l, hasP ps x.1 = true ∧ hasP ps x.2.1 = true ∧ x.1 ≠ x.2.1
  | [], _, _, _, hx => by cases hx
  | y :: l, p, h, x, hx => by
    rw [altsF1] at h
    by_cases h0 : altF ps p y = 0
    · rw [if_pos h0] at h
      rcases List.mem_cons.1 hx with rfl | hx
      · unfold altF at h0
        split at h0
        · exact absurd h0 (by decide)
        rename_i h1
        split at h0
        · exact absurd h0 (by decide)
        rename_i h2
        split at h0
        · exact absurd h0 (by decide)
        rename_i h3
        exact ⟨by simpa using h1, by simpa using h2, h3⟩
      · exact altsF1_has h x hx
    · rw [if_neg h0] at h; exact absurd h h0
theorem hasP_key {ps : List Prt} {k : ByteArray} (h : hasP ps k = true) : bsOf k ∈ ps.map fun x => bsOf x.1 := by
  unfold hasP at h
  obtain ⟨x, hx, he⟩ := List.any_eq_true.1 h
  have e : x.1.toList = k.toList := by simpa using he
  rw [ByteArray.toList_eq, ByteArray.toList_eq] at e
  exact List.mem_map.2 ⟨x, hx, e⟩
theorem catsF_ok {ps : List Prt} {l : List Alt} (h : catsF ps l = 0) : ps.length ≤ 1000 ∧ prtsF1 none ps = 0 ∧ l.length ≤ 2000 ∧ altsF1 ps none l = 0 := by
  unfold catsF at h
  split at h
  · exact absurd h (by decide)
  split at h
  · rename_i q; exact absurd h q
  split at h
  · exact absurd h (by decide)
  split at h
  · rename_i q; exact absurd h q
  refine ⟨by omega, ?_, by omega, ?_⟩
  · rename_i a b c d; exact Decidable.not_not.1 b
  · rename_i a b c d; exact Decidable.not_not.1 d
/-- what replaces a part is a part, and another one. -/
theorem ways_in {ps : List Prt} {l : List Alt} (h : altsF1 ps none l = 0) {a b : Bs} (hw : (a, b) ∈ waysL l) : (a ∈ ps.map fun x => bsOf x.1) ∧ (b ∈ ps.map fun x => bsOf x.1) ∧ a ≠ b := by
  unfold waysL at hw
  obtain ⟨x, hx, hy⟩ := List.mem_flatMap.1 hw
  obtain ⟨h1, h2, h3⟩ := altsF1_has h x hx
  have hne : bsOf x.1 ≠ bsOf x.2.1 := fun e => h3 (by
    have := congrArg baOf e
    rwa [show baOf (bsOf x.1) = x.1 by unfold baOf bsOf; simp, show baOf (bsOf x.2.1) = x.2.1 by unfold baOf bsOf; simp] at this)
  unfold waysA at hy
  rcases List.mem_cons.1 hy with e | hy
  · injection e with e1 e2
    subst e1; subst e2
    exact ⟨hasP_key h1, hasP_key h2, hne⟩
  · split at hy
    · have e := List.mem_singleton.1 hy
      injection e with e1 e2
      subst e1; subst e2
      exact ⟨hasP_key h2, hasP_key h1, Ne.symm hne⟩
    · cases hy
/-! rows by parts -/
def ofW (l : List (Bs × Bs)) (p : Bs) : List Bs := (l.filter fun x => decide (x.1 = p)).map (·.2)
end Go.Proofs.YtihgnpobkpnipaaGreatDoor
namespace Go.Proofs.YtihgnpobkpnipaaGreatDoor
open Go.RowKit Go.Sort
/-- reels: key, part, how many. -/
abbrev Rel := ByteArray × ByteArray × Int
end Go.Proofs.YtihgnpobkpnipaaGreatDoor
namespace Go.Proofs.YtihgnpobkpnipaaGreatDoor
section
variable {α : Type} [DecidableEq α] (lt : α → α → Bool)
theorem sub_len {l m : List α} (hnd : l.Nodup) (hs : ∀ x ∈ l, x ∈ m) : l.length ≤ m.length := by
  induction l generalizing m with
  | nil => simp
  | cons x l ih =>
    obtain ⟨h1, h2⟩ := List.nodup_cons.1 hnd
    have hx := hs x (by simp)
    have := ih (m := m.erase x) h2 fun i hi => (List.mem_erase_of_ne fun e => h1 (by rw [← e]; exact hi)).2 (hs i (List.mem_cons_of_mem _ hi))
    rw [List.length_erase_of_mem hx] at this
    have := List.length_pos_of_mem hx
    simp only [List.length_cons]; omega
end
end Go.Proofs.YtihgnpobkpnipaaGreatDoor
namespace Go.Proofs.YtihgnpobkpnipaaGreatDoor
/-- two full sets that differ in one member. -/
structure Swap {α : Type} (h : Nat) (u v : α) (a b : List α) : Prop where
  na : a.Nodup
  nb : b.Nodup
  la : a.length = h
  lb : b.length = h
  ua : u ∈ a
  vb : v ∈ b
  ub : u ∉ b
  va : v ∉ a
  eq : ∀ x, x ≠ u → x ≠ v → (x ∈ a ↔ x ∈ b)
theorem Swap.symm {α : Type} {h : Nat} {u v : α} {a b : List α} (s : Swap h u v a b) : Swap h v u b a := ⟨s.nb, s.na, s.lb, s.la, s.vb, s.ua, s.va, s.ub, fun x h1 h2 => (s.eq x h2 h1).symm⟩
section
variable {α : Type} [DecidableEq α] (lt : α → α → Bool)
/-- two sets of the same members. -/
structure Same (a b : List α) : Prop where
  na : a.Nodup
  nb : b.Nodup
  eq : ∀ x, x ∈ a ↔ x ∈ b
theorem Same.len {a b : List α} (s : Same a b) : a.length = b.length :=
  Nat.le_antisymm (sub_len s.na fun x hx => (s.eq x).1 hx) (sub_len s.nb fun x hx => (s.eq x).2 hx)
end
end Go.Proofs.YtihgnpobkpnipaaGreatDoor
namespace Go.Proofs.YtihgnpobkpnipaaGreatDoor
open Go
theorem u8_lt (a b : UInt8) : a < b ↔ a.toNat < b.toNat := UInt8.lt_iff_toNat_lt
theorem u8_eq {a b : UInt8} (h : a.toNat = b.toNat) : a = b := UInt8.toNat_inj.1 h
theorem bl_cons (a b : UInt8) (x y : List UInt8) : Op.bytesLess (a :: x) (b :: y) = (decide (a < b) || (a == b && Op.bytesLess x y)) := rfl
theorem bl_tot : ∀ x y : List UInt8, Op.bytesLess x y = false → Op.bytesLess y x = false → x = y
  | [], [], _, _ => rfl
  | [], _ :: _, h, _ => by simp [Op.bytesLess] at h
  | _ :: _, [], _, h => by simp [Op.bytesLess] at h
  | a :: x, b :: y, h1, h2 => by
    rw [bl_cons] at h1 h2
    simp only [Bool.or_eq_false_iff, decide_eq_false_iff_not, Bool.and_eq_false_iff, beq_eq_false_iff_ne] at h1 h2
    have hab : a = b := u8_eq (by have := mt (u8_lt a b).2 h1.1; have := mt (u8_lt b a).2 h2.1; omega)
    subst hab
    rw [bl_tot x y (h1.2.resolve_left fun h => h rfl) (h2.2.resolve_left fun h => h rfl)]
theorem bl_trans : ∀ x y z : List UInt8, Op.bytesLess x y = true → Op.bytesLess y z = true → Op.bytesLess x z = true
  | _, [], _, h, _ => by cases ‹List UInt8› <;> simp [Op.bytesLess] at h
  | _, _ :: _, [], _, h => by simp [Op.bytesLess] at h
  | [], _ :: _, _ :: _, _, _ => rfl
  | a :: x, b :: y, c :: z, h1, h2 => by
    rw [bl_cons] at h1 h2 ⊢
    simp only [Bool.or_eq_true, decide_eq_true_eq, Bool.and_eq_true, beq_iff_eq] at h1 h2 ⊢
    rcases h1 with h1 | ⟨rfl, h1⟩
    · rcases h2 with h2 | ⟨rfl, h2⟩
      · exact .inl ((u8_lt _ _).2 (by have := (u8_lt _ _).1 h1; have := (u8_lt _ _).1 h2; omega))
      · exact .inl h1
    · rcases h2 with h2 | ⟨rfl, h2⟩
      · exact .inl h2
      · exact .inr ⟨rfl, bl_trans x y z h1 h2⟩
end Go.Proofs.YtihgnpobkpnipaaGreatDoor
