/- strings.Builder: WriteString, String, as the texts use them. Conditions: at most 2^47 bytes. · The reference's PointLines. Conditions: what lies in the library (TxW); at most 1000 points. · tour.Text. Conditions: what lies in the library (TxW); at most 1000 points, within 2^41. -/
import Derived.Test.YtgcmlhpocbgkaaaGreatDoorTcl
import Derived.Test.YtgcmlhpocbgkaaaGreatDoorRrd
import Derived.Test.YtgcmlhpocbgkaaaGreatDoorStep
namespace Go.Proofs.YtgcmlhpocbgkaaaGreatDoor
open Go.RowKit Go.Sort

theorem lays166 : Go.Proofs.Lays.n166 Tryz.prog Tryz.lays156_ren := { Tryz.lays156 with }
theorem byteCells_str (s : ByteArray) : Lib.strCells s = Lib.byteCells s.data.toList := by
  simp [Lib.strCells, Lib.byteCells]
theorem byteCells_app (a b : List UInt8) : Lib.byteCells (a ++ b) = Lib.byteCells a ++ Lib.byteCells b := by
  simp [Lib.byteCells]
/-- the builder at b holds these bytes. -/
def Bd8 (B b : Nat) (l : List UInt8) (w : World) : Prop := Lib.IsBuilder 115 5 B b (Lib.byteCells l) w
theorem WriteString_any (B b : Nat) (l : List UInt8) (s : ByteArray) (w : World) (h : Bd8 B b l w) (hlen : l.length + s.size ≤ 140737488355328) (hBw : B ≤ w.heap.size) :
    Calls Tryz.prog 91 #[.pointer (some ⟨b, 0, none⟩), .string s] w fun e w' => e = .returned (.tuple #[.int .i64 s.size, .nilIface]) ∧ Bd8 B b (l ++ s.data.toList) w' ∧ Below B w w' := by
  refine (Any.Builder_WriteString lays166 Tryz.Builder_Extra_156 B b _ s w h (by simpa [Lib.byteCells] using hlen) hBw).mono ?_
  rintro e w' ⟨rfl, h1, h2⟩
  refine ⟨rfl, ?_, h2⟩
  unfold Bd8
  rw [byteCells_app, ← byteCells_str]
  exact .inr h1
theorem BString_any (B b : Nat) (l : List UInt8) (w : World) (h : Bd8 B b l w) (hBw : B ≤ w.heap.size) :
    Calls Tryz.prog 94 #[.pointer (some ⟨b, 0, none⟩)] w fun e w' => e = .returned (.string ⟨l.toArray⟩) ∧ Below B w w' := Tryz.Builder_String_any B b l w h hBw
end Go.Proofs.YtgcmlhpocbgkaaaGreatDoor
namespace Go.Proofs.YtgcmlhpocbgkaaaGreatDoor
open Go.RowKit Go.Sort

theorem Bd8.below {B b : Nat} {l : List UInt8} {w w' : World} (h : Bd8 B b l w) (hb : Below w.heap.size w w') : Bd8 B b l w' := by
  rcases h with ⟨h0, v, h1, h2, h3⟩ | ⟨h0, v, h1, h2, h3⟩
  · exact .inl ⟨h0, v, blk_below h1 hb, own_belowA h2 hb, h3⟩
  · exact .inr ⟨h0, v, blk_below h1 hb, own_belowA h2 hb, h3⟩
theorem textL_len (P : List Pt) (hP : ∀ p ∈ P, (wrP p).length ≤ 100) : (textL wrP P).length ≤ P.length * 101 := by
  induction P with
  | nil => simp [textL]
  | cons p r ih =>
    have h1 := hP p (by simp)
    have h2 := ih fun q hq => hP q (List.mem_cons_of_mem _ hq)
    rw [textL_cons]
    simp only [List.length_append, List.length_cons]
    omega
set_option maxHeartbeats 4000000 in
set_option maxRecDepth 100000 in
theorem RLinesOf_any (P : List Pt) (v : Value) (w : World) (hT : TxW w) (hlen : P.length ≤ 1000) (rp : Pts w 0 v P) (hP : ∀ p ∈ P, Bd p ∧ (wrP p).length ≤ 100) :
    Calls Tryz.prog 37 #[v] w fun e w' => ∃ r : ByteArray, e = .returned (.string r) ∧ r.data.toList = textL wrP P ∧ Below w.heap.size w w' := by
  obtain ⟨a, cap, rfl, hc1, hc2⟩ := Pts.form rp
  have HT := Lib.hid hT
  have RP := Lib.hid rp
  clear hT rp
  go_enter Tryz.func37, Tryz.ntmps37
  go_wp2_with fail
  go_loopw [8] (fun i wr => ∃ (k : Nat), k ≤ P.length ∧ i = .int .i64 k ∧ Hid (Bd8 w.heap.size w.heap.size (textL wrP (P.take k)) wr) ∧ Below w.heap.size w wr) (fun i _ => P.length - (intOf i).toNat)
  case atStart =>
    refine ⟨0, Nat.zero_le _, rfl, Lib.hid ?_, by first | exact Bl.alloc (Below.refl _ _) _ | exact Below.refl _ _⟩
    refine .inl ⟨Nat.le_refl _, .slice none 0 0, blk_new w _, World.ownsRow_nil _ _ _ 1, by simp [Value.ownBlock]⟩
  case round =>
    obtain ⟨k, hk, rfl, hBd, hB⟩ := hrel
    have hz := hB.size
    by_cases hlt : k < P.length
    · obtain ⟨p, hp⟩ : ∃ p, P[k]? = some p := ⟨_, List.getElem?_eq_getElem hlt⟩
      have HPB := Lib.hid (hP p (List.mem_of_getElem? hp))
      have HTK : Hid (textL wrP (P.take (k + 1)) = textL wrP (P.take k) ++ (wrP p ++ [10])) := Lib.hid (by
        rw [List.take_add_one, hp]
        simp [textL])
      obtain ⟨b2, o2, rfl, _, hl2, hx2, hx3⟩ := Pts.at RP.out hp
      obtain ⟨px, py⟩ := p
      have y2 := ((bcell hB).1 b2 (o2 + k * 2) hl2).trans hx2
      have y3 := ((bcell hB).1 b2 (o2 + k * 2 + 1) hl2).trans hx3
      have hw1 : IntKind.i64.wrap ((k : Int) + 1) = ((k + 1 : Nat) : Int) := by rw [IntWalk.i64_in _ (by omega)]; omega
      clear hp hx2 hx3
      obtain ⟨ix, hix⟩ : ∃ ix : ByteArray, ix = ⟨(Lib.itoa px).toArray⟩ := ⟨_, rfl⟩
      obtain ⟨iy, hiy⟩ : ∃ iy : ByteArray, iy = ⟨(Lib.itoa py).toArray⟩ := ⟨_, rfl⟩
      obtain ⟨⟨q1, q2, q3, q4⟩, q5⟩ := HPB.out
      obtain ⟨W5, hW5⟩ : ∃ W5, W5 = wr.alloc (.cells #[.int .i64 px, .int .i64 py] 57) := ⟨_, rfl⟩
      have hA : Below wr.heap.size wr W5 := by rw [hW5]; exact Bl.alloc (Below.refl _ _) _
      have hB5 := Bl.trans hB hA
      have HT5 := Lib.hid (HT.out.below hB5)
      have HIX : Hid (∀ U, Below W5.heap.size W5 U → Calls Tryz.prog 93 #[.int .i64 px] U fun e w' => e = .returned (.string ix) ∧ Below U.heap.size U w') := Lib.hid fun U hU => by rw [hix]; exact Itoa_any px U (HT5.out.below hU) (by omega) (by omega)
      have HIY : Hid (∀ U, Below W5.heap.size W5 U → Calls Tryz.prog 93 #[.int .i64 py] U fun e w' => e = .returned (.string iy) ∧ Below U.heap.size U w') := Lib.hid fun U hU => by rw [hiy]; exact Itoa_any py U (HT5.out.below hU) (by omega) (by omega)
      have hstr : (ix ++ ⟨#[32]⟩ ++ iy ++ ⟨#[10]⟩ : ByteArray).data.toList = wrP (px, py) ++ [10] := by
        rw [hix, hiy]
        simp [wrP]
      have hss : (ix ++ ⟨#[32]⟩ ++ iy ++ ⟨#[10]⟩ : ByteArray).size ≤ 101 := by
        have h1 : ∀ z : ByteArray, z.data.toList.length = z.size := fun z => Array.length_toList
        rw [← h1, hstr, List.length_append, List.length_singleton]
        omega
      have hsxy : ix.size ≤ 100 ∧ iy.size ≤ 100 := by
        have h1 : ∀ z : ByteArray, z.data.toList.length = z.size := fun z => Array.length_toList
        rw [← h1, ← h1, hix, hiy]
        have h2 : (Lib.itoa px).length + ((Lib.itoa py).length + 1) ≤ 100 := by
          have := q5
          rw [wrP, List.length_append, List.length_cons] at this
          exact this
        simp only [List.toList_toArray]
        omega
      obtain ⟨hsx, hsy⟩ := hsxy
      have hs1 : ¬ 9223372036854775807 < ix.size + 1 := by omega
      have hs2 : ¬ 9223372036854775807 < ix.size + 1 + iy.size := by omega
      have hs3 : ¬ 9223372036854775807 < ix.size + 1 + iy.size + 1 := by omega
      have hb8 := hBd.out.below hA
      have htl := textL_len (P.take k) fun q hq => (hP q (List.mem_of_mem_take hq)).2
      have hkl : (P.take k).length ≤ 1000 := by rw [List.length_take]; omega
      have hWS0 : ∀ (st : ByteArray), st.data.toList = wrP (px, py) ++ [10] → st.size ≤ 101 → ∀ U, Below W5.heap.size W5 U → Calls Tryz.prog 91 #[.pointer (some ⟨w.heap.size, 0, none⟩), .string st] U fun e w' => (∃ rv, e = .returned rv) ∧ Bd8 w.heap.size w.heap.size (textL wrP (P.take (k + 1))) w' ∧ Below w.heap.size W5 w' := by
        intro st e1 e2 U hU
        have hz5 := hB5.size
        have hzU := hU.size
        refine (WriteString_any w.heap.size w.heap.size _ st U (hb8.below hU) (by omega) (by omega)).mono ?_
        rintro e w' ⟨h0, h1, h2⟩
        rw [e1, ← HTK.out] at h1
        exact ⟨⟨_, h0⟩, h1, (hU.mono hz5).trans h2⟩
      have HWS := Lib.hid (hWS0 _ hstr hss)
      clear hWS0
      have HB5 := Lib.hid hB5
      have hsz5 : wr.heap.size < W5.heap.size := by rw [hW5]; simp
      have c50 : W5.cell? ⟨wr.heap.size, 0, none⟩ = some (.int .i64 px) := by rw [hW5, blk_cell (blk_new wr _) 0]; rfl
      have c51 : W5.cell? ⟨wr.heap.size, 1, none⟩ = some (.int .i64 py) := by rw [hW5, blk_cell (blk_new wr _) 1]; rfl
      go_wp2
      rw [← hW5]
      clear hW5 hA hB5 hb8 hstr hss hix hiy htl y2 y3 q1 q2 q3 q4 q5 hB hBd
      go_region_law (first
        | (refine step_goN rfl 93 #[.tmp 13] _ rfl (enters_of Tryz.func93 (by kernel_rfl) rfl) #[.int .i64 px] (by simp [Act.eval, Act.put]) _ (HIX.out _ (Below.drew (Below.refl _ _))) ?_; rintro e w1 ⟨rfl, hb1⟩; refine ⟨_, rfl, ?_⟩; have hb1' := Bl.trans (Below.drew (Below.refl W5.heap.size W5)) hb1; have d1 := (hb1'.cell (p := ⟨wr.heap.size, 1, none⟩) hsz5).trans c51; clear hb1)
        | (refine step_goN rfl 93 #[.tmp 17] _ rfl (enters_of Tryz.func93 (by kernel_rfl) rfl) #[.int .i64 py] (by simp [Act.eval, Act.put]) _ (HIY.out _ hb1') ?_; rintro e w2 ⟨rfl, hb2⟩; refine ⟨_, rfl, ?_⟩; have hb2' := Bl.trans hb1' hb2; clear hb2)
        | (refine step_goN rfl 91 #[.tmp 3, .tmp 20] _ rfl (enters_of Tryz.func91 (by kernel_rfl) rfl) #[.pointer (some ⟨w.heap.size, 0, none⟩), .string (ix ++ ⟨#[32]⟩ ++ iy ++ ⟨#[10]⟩)] (by simp [Act.eval, Act.put]) (fun e w' => (∃ rv, e = .returned rv) ∧ Bd8 w.heap.size w.heap.size (textL wrP (P.take (k + 1))) w' ∧ Below w.heap.size W5 w') (by (have hh := HWS.out _ hb2'); exact hh) ?_; rintro e w3 ⟨⟨rv, rfl⟩, hb8, hb3⟩; refine ⟨_, rfl, ?_⟩))
      all_goals (
        have H8 := Lib.hid hb8
        have HF3 := Lib.hid ((HB5.out).trans hb3)
        clear hb8 hb3
        go_wp2
        go_roundw
        case rel => exact ⟨k + 1, by omega, by go_num, H8, HF3.out⟩
        case measure => simp [intOf]; omega)
    · obtain rfl : k = P.length := by omega
      have HS := Lib.hid fun (U : World) (hU : Bd8 w.heap.size w.heap.size (textL wrP P) U) (hz : w.heap.size ≤ U.heap.size) => BString_any w.heap.size w.heap.size (textL wrP P) U hU hz
      have hb0 := hBd.out
      rw [List.take_length] at hb0
      go_wp2_with fail
      refine (HS.out _ hb0 (by omega)).mono ?_
      rintro e w2 ⟨rfl, hb⟩
      go_wp2
      go_ret
      exact ⟨_, rfl, rfl, hB.trans hb⟩
end Go.Proofs.YtgcmlhpocbgkaaaGreatDoor
namespace Go.Proofs.YtgcmlhpocbgkaaaGreatDoor
open Go.RowKit Go.Sort

theorem itoa_small {n : Int} (h1 : -2199023255552 ≤ n) (h2 : n ≤ 2199023255552) : (Lib.itoa n).length ≤ 20 := by
  have hd : (Lib.decDigits n.natAbs).length ≤ 12 + 1 := digits_le (by show n.natAbs < 10000000000000; omega)
  unfold Lib.itoa
  split
  · rw [List.length_cons]; omega
  · rename_i hn
    have : n.toNat = n.natAbs := by omega
    rw [this]; omega
theorem wrP_small {p : Pt} (h : Bd p) : (wrP p).length ≤ 100 := by
  obtain ⟨h1, h2, h3, h4⟩ := h
  have a := itoa_small h1 h2
  have b := itoa_small h3 h4
  unfold wrP
  rw [List.length_append, List.length_cons]
  omega
theorem join_two (a b : List UInt8) : Lib.join [a, b] [32] = a ++ 32 :: b := by simp [Lib.join]
/-- what Text writes. -/
def ptsTxt (P : List Pt) : List UInt8 := if ptsF P 500 = 0 then textL wrP P else []
set_option maxHeartbeats 4000000 in
set_option maxRecDepth 100000 in
theorem Text_any (P : List Pt) (v : Value) (w : World) (hT : TxW w) (hlen : P.length ≤ 1000) (rp : Pts w 0 v P) (hP : ∀ p ∈ P, Bd p) :
    Calls Tryz.prog 36 #[v] w fun e w' => ∃ r : ByteArray, e = .returned (.tuple #[.string r, .int .i64 (ptsF P 500)]) ∧ r.data.toList = ptsTxt P ∧ Below w.heap.size w w' := by
  have hP2 : ∀ p ∈ P, Bd p ∧ (wrP p).length ≤ 100 := fun p hp => ⟨hP p hp, wrP_small (hP p hp)⟩
  have HCP := Lib.hid (CheckPoints_big P v w (by omega) rp)
  obtain ⟨f, hf⟩ : ∃ f, f = ptsF P 500 := ⟨_, rfl⟩
  have HTX : Hid (ptsTxt P = if f = 0 then textL wrP P else []) := Lib.hid (by rw [hf]; rfl)
  rw [← hf] at HCP ⊢
  obtain ⟨a, cap, rfl, hc1, hc2⟩ := Pts.form rp
  have HT := Lib.hid hT
  have RP := Lib.hid rp
  clear hT rp hf hP
  by_cases h0 : f = 0
  · subst h0
    have HTX2 : Hid (ptsTxt P = textL wrP P) := Lib.hid (by rw [HTX.out]; rfl)
    clear HTX
    go_enter Tryz.func36, Tryz.ntmps36
    go_wp2_with fail
    refine HCP.out.mono ?_
    rintro e w0 ⟨rfl, hb0⟩
    have hz0 := hb0.size
    have HB0 := Lib.hid hb0
    clear hb0
    go_wp2_with fail
    go_loopw [15] (fun i wr => ∃ (k : Nat), k ≤ P.length ∧ i = .int .i64 k ∧ Hid (Bd8 w0.heap.size w0.heap.size (textL wrP (P.take k)) wr) ∧ Below w0.heap.size w0 wr) (fun i _ => P.length - (intOf i).toNat)
    case atStart =>
      refine ⟨0, Nat.zero_le _, rfl, Lib.hid ?_, by first | exact Bl.alloc (Below.refl _ _) _ | exact Below.refl _ _⟩
      refine .inl ⟨Nat.le_refl _, .slice none 0 0, blk_new w0 _, World.ownsRow_nil _ _ _ 1, by simp [Value.ownBlock]⟩
    case round =>
      obtain ⟨k, hk, rfl, hBd, hBr⟩ := hrel
      have hz := hBr.size
      have hB := HB0.out.trans (hBr.mono hz0)
      by_cases hlt : k < P.length
      · obtain ⟨p, hp⟩ : ∃ p, P[k]? = some p := ⟨_, List.getElem?_eq_getElem hlt⟩
        have HPB := Lib.hid (hP2 p (List.mem_of_getElem? hp))
        have HTK : Hid (textL wrP (P.take (k + 1)) = textL wrP (P.take k) ++ (wrP p ++ [10])) := Lib.hid (by
          rw [List.take_add_one, hp]
          simp [textL])
        obtain ⟨b2, o2, rfl, _, hl2, hx2, hx3⟩ := Pts.at RP.out hp
        obtain ⟨px, py⟩ := p
        have y2 := ((bcell hB).1 b2 (o2 + k * 2) hl2).trans hx2
        have y3 := ((bcell hB).1 b2 (o2 + k * 2 + 1) hl2).trans hx3
        have hw1 : IntKind.i64.wrap ((k : Int) + 1) = ((k + 1 : Nat) : Int) := by rw [IntWalk.i64_in _ (by omega)]; omega
        clear hp hx2 hx3
        obtain ⟨ix, hix⟩ : ∃ ix : ByteArray, ix = ⟨(Lib.itoa px).toArray⟩ := ⟨_, rfl⟩
        obtain ⟨iy, hiy⟩ : ∃ iy : ByteArray, iy = ⟨(Lib.itoa py).toArray⟩ := ⟨_, rfl⟩
        obtain ⟨⟨q1, q2, q3, q4⟩, q5⟩ := HPB.out
        obtain ⟨W5, hW5⟩ : ∃ W5, W5 = wr.alloc (.cells #[.int .i64 px, .int .i64 py] 57) := ⟨_, rfl⟩
        have hA : Below wr.heap.size wr W5 := by rw [hW5]; exact Bl.alloc (Below.refl _ _) _
        have hB5 := Bl.trans hB hA
        have hBr5 := Bl.trans hBr hA
        have HT5 := Lib.hid (HT.out.below hB5)
        have HIX : Hid (∀ U, Below W5.heap.size W5 U → Calls Tryz.prog 93 #[.int .i64 px] U fun e w' => e = .returned (.string ix) ∧ Below U.heap.size U w') := Lib.hid fun U hU => by rw [hix]; exact Itoa_any px U (HT5.out.below hU) (by omega) (by omega)
        have HIY : Hid (∀ U, Below W5.heap.size W5 U → Calls Tryz.prog 93 #[.int .i64 py] U fun e w' => e = .returned (.string iy) ∧ Below U.heap.size U w') := Lib.hid fun U hU => by rw [hiy]; exact Itoa_any py U (HT5.out.below hU) (by omega) (by omega)
        have hj0 : Lib.join ([ix, iy].map (·.data.toList)) [32] ++ [10] = wrP (px, py) ++ [10] := by
          rw [hix, hiy]
          show Lib.join [Lib.itoa px, Lib.itoa py] [32] ++ [10] = _
          rw [join_two]; rfl
        have hj1 : (Lib.join ([ix, iy].map (·.data.toList)) [32]).length ≤ 1000000 := by
          have := congrArg List.length hj0
          rw [List.length_append, List.length_append] at this
          omega
        have HJN : Hid (∀ U, Below W5.heap.size W5 U → Calls Tryz.prog 92 #[.slice (some ⟨U.heap.size, 0, none⟩) 2 2] (U.alloc (.cells #[.string ix, .string iy] 9)) fun e w' => ∃ r : ByteArray, e = .returned (.string r) ∧ r.data.toList = wrP (px, py) ++ [10] ∧ Below W5.heap.size W5 w') := Lib.hid fun U hU => by
          refine (JoinK_any U.heap.size 0 2 [ix, iy] _ ?_ ?_ (by simp) (by simp) hj1).mono ?_
          · intro j x hx
            rw [blk_cell (blk_new U _)]
            rw [Nat.zero_add]
            match j, hx with
            | 0, hx => simp at hx; subst hx; rfl
            | 1, hx => simp at hx; subst hx; rfl
          · simp
          · rintro e w' ⟨r, rfl, h1, h2⟩
            have hA2 : Below U.heap.size U (U.alloc (.cells #[.string ix, .string iy] 9)) := Bl.alloc (Below.refl _ _) _
            exact ⟨r, rfl, h1.trans hj0, Bl.trans hU (Bl.trans hA2 h2)⟩
        have hb8 := hBd.out.below hA
        have htl := textL_len (P.take k) fun q hq => (hP2 q (List.mem_of_mem_take hq)).2
        have hkl : (P.take k).length ≤ 1000 := by rw [List.length_take]; omega
        have HWS : Hid (∀ (st : ByteArray), st.data.toList = wrP (px, py) ++ [10] → ∀ U, Below W5.heap.size W5 U → Calls Tryz.prog 91 #[.pointer (some ⟨w0.heap.size, 0, none⟩), .string st] U fun e w' => (∃ rv, e = .returned rv) ∧ Bd8 w0.heap.size w0.heap.size (textL wrP (P.take (k + 1))) w' ∧ Below w0.heap.size W5 w') := Lib.hid fun st e1 U hU => by
          have hz5 := hBr5.size
          have hzU := hU.size
          have e2 : st.size ≤ 101 := by
            have h1 : st.data.toList.length = st.size := Array.length_toList
            rw [← h1, e1, List.length_append, List.length_singleton]
            omega
          refine (WriteString_any w0.heap.size w0.heap.size _ st U (hb8.below hU) (by omega) (by omega)).mono ?_
          rintro e w' ⟨h0, h1, h2⟩
          rw [e1, ← HTK.out] at h1
          exact ⟨⟨_, h0⟩, h1, (hU.mono hz5).trans h2⟩
        have HBr5 := Lib.hid hBr5
        have hsz5 : wr.heap.size < W5.heap.size := by rw [hW5]; simp
        have c50 : W5.cell? ⟨wr.heap.size, 0, none⟩ = some (.int .i64 px) := by rw [hW5, blk_cell (blk_new wr _) 0]; rfl
        have c51 : W5.cell? ⟨wr.heap.size, 1, none⟩ = some (.int .i64 py) := by rw [hW5, blk_cell (blk_new wr _) 1]; rfl
        go_wp2
        rw [← hW5]
        clear hW5 hA hB5 hBr5 hb8 hix hiy htl y2 y3 q1 q2 q3 q4 q5 hB hBr hBd hj0 hj1
        go_region_law (first
          | (refine step_goN rfl 93 #[.tmp 20] _ rfl (enters_of Tryz.func93 (by kernel_rfl) rfl) #[.int .i64 px] (by simp [Act.eval, Act.put]) _ (HIX.out _ (Below.drew (Below.refl _ _))) ?_; rintro e w1 ⟨rfl, hb1⟩; refine ⟨_, rfl, ?_⟩; have hb1' := Bl.trans (Below.drew (Below.refl W5.heap.size W5)) hb1; have d1 := (hb1'.cell (p := ⟨wr.heap.size, 1, none⟩) hsz5).trans c51; clear hb1)
          | (refine step_goN rfl 93 #[.tmp 23] _ rfl (enters_of Tryz.func93 (by kernel_rfl) rfl) #[.int .i64 py] (by simp [Act.eval, Act.put]) _ (HIY.out _ hb1') ?_; rintro e w2 ⟨rfl, hb2⟩; refine ⟨_, rfl, ?_⟩; have hb2' := Bl.trans hb1' hb2; clear hb2)
          | (refine step_goN rfl 92 #[.tmp 25] _ rfl (enters_of Tryz.func92 (by kernel_rfl) rfl) #[.slice (some ⟨w2.heap.size, 0, none⟩) 2 2] (by simp [Act.eval, Act.put]) (fun e w' => ∃ r : ByteArray, e = .returned (.string r) ∧ r.data.toList = wrP (px, py) ++ [10] ∧ Below W5.heap.size W5 w') (by (have hh := HJN.out _ hb2'); exact hh) ?_; rintro e w3 ⟨r, rfl, hr, hb3'⟩; refine ⟨_, rfl, ?_⟩; have HR3 := Lib.hid hr; clear hr)
          | (refine step_goN rfl 91 #[.tmp 5, .tmp 26] _ rfl (enters_of Tryz.func91 (by kernel_rfl) rfl) #[.pointer (some ⟨w0.heap.size, 0, none⟩), .string r] (by simp [Act.eval, Act.put]) (fun e w' => (∃ rv, e = .returned rv) ∧ Bd8 w0.heap.size w0.heap.size (textL wrP (P.take (k + 1))) w' ∧ Below w0.heap.size W5 w') (by (have hh := HWS.out r HR3.out _ hb3'); exact hh) ?_; rintro e w4 ⟨⟨rv, rfl⟩, hb8, hb4⟩; refine ⟨_, rfl, ?_⟩))
        all_goals (
          have H8 := Lib.hid hb8
          have HF3 := Lib.hid ((HBr5.out).trans hb4)
          clear hb8 hb4
          go_wp2
          go_roundw
          case rel => exact ⟨k + 1, by omega, by go_num, H8, HF3.out⟩
          case measure => simp [intOf]; omega)
      · obtain rfl : k = P.length := by omega
        have HS := Lib.hid fun (U : World) (hU : Bd8 w0.heap.size w0.heap.size (textL wrP P) U) (hz : w0.heap.size ≤ U.heap.size) => BString_any w0.heap.size w0.heap.size (textL wrP P) U hU hz
        have hb0 := hBd.out
        rw [List.take_length] at hb0
        go_wp2_with fail
        refine (HS.out _ hb0 (by omega)).mono ?_
        rintro e w2 ⟨rfl, hb⟩
        have hBF := hB.trans (hb.mono hz0)
        go_wp2
        go_ret2
        exact ⟨_, rfl, by rw [HTX2.out], hBF⟩
  · have HTX2 : Hid (ptsTxt P = []) := Lib.hid (by rw [HTX.out, if_neg h0])
    clear HTX
    go_enter Tryz.func36, Tryz.ntmps36
    go_wp2_with fail
    refine HCP.out.mono ?_
    rintro e w0 ⟨rfl, hb0⟩
    go_wp2
    go_ret2
    exact ⟨_, rfl, by rw [HTX2.out], hb0⟩
end Go.Proofs.YtgcmlhpocbgkaaaGreatDoor
