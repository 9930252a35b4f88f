/- Stream.Changed: some string of about the same length. Conditions: strings of at most 2^40 bytes. · strings.Builder: WriteString, String, Len, as the texts use them. Conditions: at most 2^47 bytes. · rework.Text. Conditions: what lies in the library (TxW); at most 300000 steps; right steps' text is at most 200000 bytes. · The reference's wordsOf and StepLines; Stream.StepString: some short string of steps. Conditions: what lies in the library (TxW), below the stream. -/
import Derived.Test.YthdolfnfiggkjaaGreatDoorStream
import Derived.Test.YthdolfnfiggkjaaGreatDoorDist
import Derived.BigQuiet
import Derived.Deep.QuietTactic
import Derived.Laws.Runes
import Derived.Test.YthdolfnfiggkjaaGreatDoorTcl
import Derived.Test.YthdolfnfiggkjaaGreatDoorStep
import Derived.Test.YthdolfnfiggkjaaGreatDoorSrd
import Derived.Test.YthdolfnfiggkjaaGreatDoorTmp
namespace Go.Proofs.YthdolfnfiggkjaaGreatDoor
open Go.RowKit Go.Sort

theorem enc_le (n : Int) : (Utf8.encode n).size ≤ 4 := by
  unfold Utf8.encode
  have h : ∀ (c : Nat), (let b (n : Nat) : UInt8 := UInt8.ofNat n
    if c < 0x80 then (⟨#[b c]⟩ : ByteArray)
    else if c < 0x800 then ⟨#[b (0xC0 + c / 64), b (0x80 + c % 64)]⟩
    else if c < 0x10000 then ⟨#[b (0xE0 + c / 4096), b (0x80 + c / 64 % 64), b (0x80 + c % 64)]⟩
    else ⟨#[b (0xF0 + c / 262144), b (0x80 + c / 4096 % 64), b (0x80 + c / 64 % 64), b (0x80 + c % 64)]⟩).size ≤ 4 := by
    intro c
    simp only
    split
    · show 1 ≤ 4; omega
    · split
      · show 2 ≤ 4; omega
      · split
        · show 3 ≤ 4; omega
        · show 4 ≤ 4; omega
  exact h _
theorem sz3 {A E C : ByteArray} {n u : Nat} (h2 : E.size ≤ 4) (h3 : A.size + C.size ≤ n) : (A ++ E ++ C).size ≤ n + u + 4 := by
  rw [ByteArray.size_append, ByteArray.size_append]; omega
theorem sz2 {A C : ByteArray} {n u : Nat} (h3 : A.size + C.size ≤ n) : (A ++ C).size ≤ n + u + 4 := by
  rw [ByteArray.size_append]; omega
theorem big_no {n a b c : Nat} (h1 : a + c ≤ n) (h2 : b ≤ 4) (h3 : n ≤ 1099511627776) : (¬ 9223372036854775807 < a + b) ∧ ¬ 9223372036854775807 < a + b + c := by omega
set_option maxHeartbeats 4000000 in
set_option maxRecDepth 100000 in
theorem Changed_any (s : Nat) (c : Int) (t u : ByteArray) (w : World) (h : Str w s c) (hc : c ≤ 999990) (ht : t.size ≤ 1099511627776) (hu : 0 < u.size) (hu2 : u.size ≤ 1000) :
    Calls Tryz.prog 79 #[.pointer (some ⟨s, 0, none⟩), .string t, .string u] w fun e w' => ∃ r : ByteArray, e = .returned (.string r) ∧ r.size ≤ t.size + u.size + 4 ∧ Str w' s (c + 3) ∧ w.grownBy w' (some s) := by
  have e1 : u.toList.isEmpty = false := by
    rw [ByteArray.toList_eq]
    cases h : u.data.toList with
    | nil =>
      have : u.data.toList.length = u.size := Array.length_toList
      rw [h] at this; simp at this; omega
    | cons => rfl
  have e2 : ¬ u.toList = [] := by
    intro h; rw [h] at e1; cases e1
  by_cases h0 : t.size = 0
  · obtain rfl : t = ⟨#[]⟩ := by
      apply ByteArray.ext
      exact Array.eq_empty_of_size_eq_zero h0
    go_enter Tryz.func79, Tryz.ntmps79
    go_wp2
    go_ret
    exact ⟨_, rfl, by omega, h.mono (by omega), Gr.refl _ _⟩
  · have f1 : t.toList.isEmpty = false := by
      rw [ByteArray.toList_eq]
      cases h : t.data.toList with
      | nil =>
        have : t.data.toList.length = t.size := Array.length_toList
        rw [h] at this; simp at this; omega
      | cons => rfl
    have f2 : ¬ t.toList = [] := by
      intro h; rw [h] at f1; cases f1
    go_enter Tryz.func79, Tryz.ntmps79
    go_wp2_with fail
    refine (Next_any s c t.size w h (by omega) (by omega)).mono ?_
    rintro e w1 ⟨i, rfl, ⟨hi0, hi1, _⟩, hS1, hG1⟩
    have hi2 := hi1 (by omega)
    clear hi1
    obtain ⟨i, rfl⟩ := Int.eq_ofNat_of_zero_le hi0
    go_wp2_with fail
    refine (Next_any s (c + 1) u.size w1 hS1 (by omega) (by omega)).mono ?_
    rintro e w2 ⟨j, rfl, ⟨hj0, hj1, _⟩, hS2, hG2⟩
    have hj2 := hj1 (by omega)
    clear hj1
    obtain ⟨j, rfl⟩ := Int.eq_ofNat_of_zero_le hj0
    have hj3 : j < u.size := by omega
    have hi3 : i < t.size := by omega
    have hi4 : i ≤ t.size := by omega
    have hi5 : ((i : Nat) : Int) ≤ (t.size : Int) := by omega
    have hi6 : ((i : Nat) : Int) + 1 ≤ (t.size : Int) := by omega
    have hwr : IntKind.i64.wrap ((i : Int) + 1) = ((i + 1 : Nat) : Int) := by rw [IntWalk.i64_in _ (by omega)]; omega
    have hg12 := Gr.trans hG1 hG2
    go_wp2_with fail
    refine (Next_any s (c + 1 + 1) 3 w2 hS2 (by omega) (by omega)).mono ?_
    rintro e w3 ⟨k, rfl, ⟨hk0, hk1, _⟩, hS3, hG3⟩
    have hk2 := hk1 (by omega)
    have hg := Gr.trans hg12 hG3
    clear hk1 hG1 hG2 hG3 hg12 hS1 hS2
    have hwu : IntKind.i32.wrap ((u[j].toNat : Nat) : Int) = ((u[j].toNat : Nat) : Int) := by
      have := u[j].toNat_lt
      unfold IntKind.wrap
      simp [IntKind.bits, IntKind.signed]
      omega
    have hen := enc_le ((u[j].toNat : Nat) : Int)
    have hx1 : (t.extract 0 i).size = i := by rw [ByteArray.size_extract]; omega
    have hx2 : (t.extract i t.size).size = t.size - i := by rw [ByteArray.size_extract]; omega
    have hx3 : (t.extract (i + 1) t.size).size = t.size - (i + 1) := by rw [ByteArray.size_extract]; omega
    have hs1 : (t.extract 0 i).size + (t.extract (i + 1) t.size).size ≤ t.size := by rw [hx1, hx3]; omega
    have hs2 : (t.extract 0 i).size + (t.extract i t.size).size ≤ t.size := by rw [hx1, hx2]; omega
    have hs0 : (t.extract 0 i).size ≤ t.size := by rw [hx1]; omega
    have hq1 := sz3 (u := u.size) hen hs1
    have hq2 := sz3 (u := u.size) hen hs2
    have hq3 := sz2 (u := u.size) hs1
    have HSZ := Lib.hid (And.intro hq1 (And.intro hq2 hq3))
    obtain ⟨hz1, hz2⟩ := big_no hs1 hen ht
    obtain ⟨_, hz3⟩ := big_no hs2 hen ht
    have HG : ∀ nq, w.grownBy (w3.drewN nq) (some s) := fun nq => ⟨hg.os, hg.tape, hg.output, hg.size, hg.block⟩
    clear hs1 hs2 hs0 hq1 hq2 hq3
    rcases (show k = 0 ∨ k = 1 ∨ k = 2 by omega) with rfl | rfl | rfl
    · go_wp2
      go_quiet (fail)
      go_wp2
      go_ret
      exact ⟨_, rfl, HSZ.out.1, (hS3.mono (by omega)), HG _⟩
    · go_wp2
      go_quiet (fail)
      go_wp2
      go_ret
      exact ⟨_, rfl, HSZ.out.2.1, (hS3.mono (by omega)), HG _⟩
    · go_wp2
      go_quiet (fail)
      go_wp2
      go_ret
      exact ⟨_, rfl, HSZ.out.2.2, (hS3.mono (by omega)), HG _⟩
end Go.Proofs.YthdolfnfiggkjaaGreatDoor
namespace Go.Proofs.YthdolfnfiggkjaaGreatDoor
open Go.RowKit Go.Sort

theorem lays166 : Go.Proofs.Lays.n166 Tryz.prog Tryz.lays156_ren := { Tryz.lays156 with }
theorem byteCells_str (s : ByteArray) : Lib.strCells s = Lib.byteCells s.data.toList := by
  simp [Lib.strCells, Lib.byteCells]
theorem byteCells_app (a b : List UInt8) : Lib.byteCells (a ++ b) = Lib.byteCells a ++ Lib.byteCells b := by
  simp [Lib.byteCells]
/-- the builder at b holds these bytes. -/
def Bd8 (B b : Nat) (l : List UInt8) (w : World) : Prop := Lib.IsBuilder 116 5 B b (Lib.byteCells l) w
theorem WriteString_any (B b : Nat) (l : List UInt8) (s : ByteArray) (w : World) (h : Bd8 B b l w) (hlen : l.length + s.size ≤ 140737488355328) (hBw : B ≤ w.heap.size) :
    Calls Tryz.prog 71 #[.pointer (some ⟨b, 0, none⟩), .string s] w fun e w' => e = .returned (.tuple #[.int .i64 s.size, .nilIface]) ∧ Bd8 B b (l ++ s.data.toList) w' ∧ Below B w w' := by
  refine (Any.Builder_WriteString lays166 Tryz.Builder_Extra_156 B b _ s w h (by simpa [Lib.byteCells] using hlen) hBw).mono ?_
  rintro e w' ⟨rfl, h1, h2⟩
  refine ⟨rfl, ?_, h2⟩
  unfold Bd8
  rw [byteCells_app, ← byteCells_str]
  exact .inr h1
theorem BString_any (B b : Nat) (l : List UInt8) (w : World) (h : Bd8 B b l w) (hBw : B ≤ w.heap.size) :
    Calls Tryz.prog 76 #[.pointer (some ⟨b, 0, none⟩)] w fun e w' => e = .returned (.string ⟨l.toArray⟩) ∧ Below B w w' := Tryz.Builder_String_any B b l w h hBw
theorem Bd8.below {B b : Nat} {l : List UInt8} {w w' : World} (h : Bd8 B b l w) (hb : Below w.heap.size w w') : Bd8 B b l w' := by
  rcases h with ⟨h0, v, h1, h2, h3⟩ | ⟨h0, v, h1, h2, h3⟩
  · exact .inl ⟨h0, v, blk_below h1 hb, own_belowA h2 hb, h3⟩
  · exact .inr ⟨h0, v, blk_below h1 hb, own_belowA h2 hb, h3⟩
theorem BLen_any (B b : Nat) (l : List UInt8) (w : World) (h : Bd8 B b l w) :
    Calls Tryz.prog 75 #[.pointer (some ⟨b, 0, none⟩)] w fun e w' => e = .returned (.int .i64 l.length) ∧ w' = w := by
  have := Tryz.Builder_Len B b _ w h
  rw [show (Lib.byteCells l).length = l.length by simp [Lib.byteCells]] at this
  exact this
end Go.Proofs.YthdolfnfiggkjaaGreatDoor
namespace Go.Proofs.YthdolfnfiggkjaaGreatDoor
open Go.RowKit Go.Sort Go.Maps

/-- what Text writes. -/
def stTxt (l : List Stp) : Bs := if stepsF l = 0 then textL wrS l else []
theorem JoinR_any (v : Value) (xs : List ByteArray) (w : World) (h : RecR TS w 0 v xs) (hne : xs ≠ []) (hN : xs.length ≤ 1000000) (hlen : (joinL 32 (xs.map bsOf)).length ≤ 1000000) :
    Calls Tryz.prog 72 #[v] w fun e w' => ∃ r : ByteArray, e = .returned (.string r) ∧ bsOf r = joinL 32 (xs.map bsOf) ++ [10] ∧ Below w.heap.size w w' := by
  obtain ⟨a, c, rfl, hc1, hc2⟩ := h.form
  obtain ⟨x, hx⟩ : ∃ x, xs[0]? = some x := ⟨_, List.getElem?_eq_getElem (List.length_pos_iff.2 hne)⟩
  obtain ⟨b, o, rfl, _, hb, _⟩ := str_at h hx
  have hj : Lib.join (xs.map (·.data.toList)) [32] = joinL 32 (xs.map bsOf) := join_is _
  refine (JoinK_any b o c xs w (fun j y hj => ?_) hb hN hc1 (by rw [hj]; exact hlen)).mono ?_
  · obtain ⟨b', o', e, _, _, hc⟩ := str_at h hj
    injection e with e
    injection e with e1 e2
    subst e1; subst e2
    exact hc
  · rintro e w' ⟨r, rfl, hr, hb'⟩
    exact ⟨r, rfl, by rw [← hj]; exact hr, hb'⟩
theorem stepsF_len {l : List Stp} (h : stepsF l = 0) : l.length ≤ 5000 := by
  unfold stepsF at h
  by_cases h1 : 5000 < l.length
  · rw [if_pos h1] at h; cases h
  · omega
theorem textS_take {l : List Stp} {k : Nat} {s : Stp} (h : l[k]? = some s) : textL wrS (l.take (k + 1)) = textL wrS (l.take k) ++ (wrS s ++ [10]) := by
  rw [List.take_add_one, h]
  simp [textL]
set_option maxHeartbeats 4000000 in
set_option maxRecDepth 100000 in
theorem StText_any (l : List Stp) (v : Value) (w : World) (hT : TxW w) (hlen : l.length ≤ 300000) (rp : RecR TSt w 0 v l) (hz : StpZ l) (ht : stepsF l = 0 → (textL wrS l).length ≤ 200000) :
    Calls Tryz.prog 17 #[v] w fun e w' => ∃ r : ByteArray, e = .returned (.tuple #[.string r, .int .i64 (stepsF l)]) ∧ bsOf r = stTxt l ∧ Below w.heap.size w w' := by
  have HCP := Lib.hid (CheckSteps_any l v w (by omega) rp hz)
  have HW := Lib.hid (fun h : stepsF l = 0 => And.intro (stepsF_W h) (And.intro (stepsF_len h) (ht h)))
  obtain ⟨f, hf⟩ : ∃ f, f = stepsF l := ⟨_, rfl⟩
  have HTX : Hid (stTxt l = if f = 0 then textL wrS l else []) := Lib.hid (by rw [hf]; rfl)
  rw [← hf] at HCP HW ⊢
  obtain ⟨a, cap, rfl, hc1, hc2⟩ := rp.form
  have HT := Lib.hid hT
  have RP := Lib.hid rp
  clear hT rp hf hz ht
  by_cases h0 : f = 0
  · subst h0
    have HTX2 : Hid (stTxt l = textL wrS l) := Lib.hid (by rw [HTX.out]; rfl)
    have HWW := Lib.hid (HW.out rfl)
    have hl5 := (HW.out rfl).2.1
    clear HTX HW
    go_enter Tryz.func17, Tryz.ntmps17
    go_wp2_with fail
    refine HCP.out.mono ?_
    rintro e w0 ⟨rfl, hb0⟩
    have hz0 := hb0.size
    have HB0 := Lib.hid hb0
    clear hb0
    go_wp2_with fail
    go_loopw [15] (fun i wr => ∃ (k : Nat), k ≤ l.length ∧ i = .int .i64 k ∧ Hid (Bd8 w0.heap.size w0.heap.size (textL wrS (l.take k)) wr) ∧ Below w0.heap.size w0 wr) (fun i _ => l.length - (intOf i).toNat)
    case atStart =>
      refine ⟨0, Nat.zero_le _, rfl, Lib.hid ?_, by first | exact Bl.alloc (Below.refl _ _) _ | exact Below.refl _ _⟩
      refine .inl ⟨Nat.le_refl _, .slice none 0 0, blk_new w0 _, World.ownsRow_nil _ _ _ 1, by simp [Value.ownBlock]⟩
    case round =>
      obtain ⟨k, hk, rfl, hBd, hBr⟩ := hrel
      have hz := hBr.size
      have hB := HB0.out.trans (hBr.mono hz0)
      by_cases hlt : k < l.length
      · obtain ⟨s, hs⟩ : ∃ x, l[k]? = some x := ⟨_, List.getElem?_eq_getElem hlt⟩
        have HTK : Hid (textL wrS (l.take (k + 1)) = textL wrS (l.take k) ++ (wrS s ++ [10])) := Lib.hid (textS_take hs)
        have hW := HWW.out.1 s (List.mem_of_getElem? hs)
        have hwl := wrS_len hW
        have htl : (textL wrS (l.take k)).length ≤ 555000 := by
          have h1 := textS_len (l.take k) fun q hq => HWW.out.1 q (List.mem_of_mem_take hq)
          have h2 : (l.take k).length ≤ 5000 := by rw [List.length_take]; omega
          omega
        obtain ⟨b1, o1, rfl, _, hbb1, hc1⟩ := (RP.out.below hB).at TSt.ok.len hs TSt.ok.pos
        obtain ⟨at1, bs, kd, cs⟩ := s
        have c0 : wr.cell? ⟨b1, o1 + k * 4, none⟩ = some (.int .i64 at1) := hc1 0 _ rfl
        have c1 : wr.cell? ⟨b1, o1 + k * 4 + 1, none⟩ = some (.string bs) := hc1 1 _ rfl
        have c2 : wr.cell? ⟨b1, o1 + k * 4 + 2, none⟩ = some (.int .i64 kd) := hc1 2 _ rfl
        have c3 : wr.cell? ⟨b1, o1 + k * 4 + 3, none⟩ = some (.string cs) := hc1 3 _ rfl
        have hw1 : IntKind.i64.wrap ((k : Int) + 1) = ((k + 1 : Nat) : Int) := by rw [IntWalk.i64_in _ (by omega)]; omega
        have hat : 0 ≤ at1 ∧ at1 ≤ 345686399999 := hW.at'
        have hkd : 1 ≤ kd ∧ kd ≤ 6 := hW.kd
        clear hs hc1
        obtain ⟨ix, hix⟩ : ∃ ix : ByteArray, ix = ⟨(Lib.itoa at1).toArray⟩ := ⟨_, rfl⟩
        obtain ⟨W5, hW5⟩ : ∃ W5, W5 = wr.alloc (.cells #[.int .i64 at1, .string bs, .int .i64 kd, .string cs] 50) := ⟨_, rfl⟩
        have hA : Below wr.heap.size wr W5 := by rw [hW5]; exact Bl.alloc (Below.refl _ _) _
        have hB5 := Bl.trans hB hA
        have hBr5 := Bl.trans hBr hA
        have HT5 := Lib.hid (HT.out.below hB5)
        have HIX : Hid (∀ U, Below W5.heap.size W5 U → Calls Tryz.prog 73 #[.int .i64 at1] U fun e w' => e = .returned (.string ix) ∧ Below U.heap.size U w') := Lib.hid fun U hU => by rw [hix]; exact Itoa_any at1 U (HT5.out.below hU) (by omega) (by omega)
        have HWO : Hid (∀ U : World, Calls Tryz.prog 74 #[.agg #[.int .i64 at1, .string bs, .int .i64 kd, .string cs]] U fun e w' => ∃ (q : Addr) (c : Nat) (ws : List ByteArray), e = .returned (.slice (some q) ws.length c) ∧ Hid (RecR TS w' 0 (.slice (some q) ws.length c) ws ∧ ws.map bsOf = wordsS (at1, bs, kd, cs) ∧ [ix].length + ws.length ≤ 1000000) ∧ Below U.heap.size U w') := Lib.hid fun U => by
          refine (Words_any (at1, bs, kd, cs) U (by show 0 ≤ kd ∧ kd ≤ 6; omega)).mono ?_
          rintro e w' ⟨v, ws, rfl, hO, hm, hb⟩
          have hwn : ws.length ≤ 3 := by
            have h1 := congrArg List.length hm
            rw [List.length_map] at h1
            rw [h1]
            unfold wordsS
            split <;> simp
          obtain ⟨g, c2, cur, rfl, _⟩ := hO.blk (by
            intro h
            rw [h] at hm
            unfold wordsS at hm
            cases hm)
          exact ⟨_, _, ws, rfl, Lib.hid ⟨hO.rec0, hm, by simp; omega⟩, hb⟩
        have HJN : Hid (∀ (ws : List ByteArray), ws.map bsOf = wordsS (at1, bs, kd, cs) → ∀ (U : World) (v : Value), RecR TS U 0 v ([ix] ++ ws) → Calls Tryz.prog 72 #[v] U fun e w' => ∃ r : ByteArray, e = .returned (.string r) ∧ Hid (bsOf r = wrS (at1, bs, kd, cs) ++ [10]) ∧ Below U.heap.size U w') := Lib.hid fun ws hm U v hR => by
          have he : ([ix] ++ ws).map bsOf = Lib.itoa at1 :: wordsS (at1, bs, kd, cs) := by
            rw [List.map_append, hm, hix]; rfl
          have hwn : ws.length ≤ 3 := by
            have h1 := congrArg List.length hm
            rw [List.length_map] at h1
            rw [h1]
            unfold wordsS
            split <;> simp
          refine (JoinR_any v ([ix] ++ ws) U hR (by simp) (by simp; omega) (by rw [he]; exact Nat.le_trans hwl (by decide))).mono ?_
          rintro e w' ⟨r, rfl, h1, h2⟩
          exact ⟨r, rfl, Lib.hid (by rw [h1, he]; rfl), h2⟩
        have hb8 := hBd.out.below hA
        have HWS : Hid (∀ (st : ByteArray), bsOf st = wrS (at1, bs, kd, cs) ++ [10] → ∀ U, Below W5.heap.size W5 U → Calls Tryz.prog 71 #[.pointer (some ⟨w0.heap.size, 0, none⟩), .string st] U fun e w' => (∃ rv, e = .returned rv) ∧ Bd8 w0.heap.size w0.heap.size (textL wrS (l.take (k + 1))) w' ∧ Below w0.heap.size W5 w') := Lib.hid fun st e1 U hU => by
          have hz5 := hBr5.size
          have hzU := hU.size
          have e2 : st.size ≤ 111 := by
            rw [← bsOf_len, e1, List.length_append, List.length_singleton]
            omega
          refine (WriteString_any w0.heap.size w0.heap.size _ st U (hb8.below hU) (by omega) (by omega)).mono ?_
          rintro e w' ⟨h0, h1, h2⟩
          have e3 : st.data.toList = wrS (at1, bs, kd, cs) ++ [10] := e1
          rw [e3, ← HTK.out] at h1
          exact ⟨⟨_, h0⟩, h1, (hU.mono hz5).trans h2⟩
        have HBr5 := Lib.hid hBr5
        have hsz5 : wr.heap.size < W5.heap.size := by rw [hW5]; simp
        have c50 : W5.cell? ⟨wr.heap.size, 0, none⟩ = some (.int .i64 at1) := by rw [hW5, blk_cell (blk_new wr _) 0]; rfl
        have c51 : W5.cell? ⟨wr.heap.size, 1, none⟩ = some (.string bs) := by rw [hW5, blk_cell (blk_new wr _) 1]; rfl
        have c52 : W5.cell? ⟨wr.heap.size, 2, none⟩ = some (.int .i64 kd) := by rw [hW5, blk_cell (blk_new wr _) 2]; rfl
        have c53 : W5.cell? ⟨wr.heap.size, 3, none⟩ = some (.string cs) := by rw [hW5, blk_cell (blk_new wr _) 3]; rfl
        go_wp2
        rw [← hW5]
        clear hW5 hA hB5 hBr5 hb8 hix htl c0 c1 c2 c3 hB hBr hBd hat hkd hW hwl
        go_region_law (first
          | (refine step_goN rfl 73 #[.tmp 20] _ rfl (enters_of Tryz.func73 (by kernel_rfl) rfl) #[.int .i64 at1] (by simp [Act.eval, Act.put]) (fun e w' => e = .returned (.string ix) ∧ Below W5.heap.size W5 w') (by refine (HIX.out _ (Below.drew (Below.refl _ _))).mono ?_; rintro e w' ⟨rfl, hh⟩; exact ⟨rfl, Bl.trans (Below.drew (Below.refl W5.heap.size W5)) hh⟩) ?_; rintro e w1 ⟨rfl, hb1⟩; refine ⟨_, rfl, ?_⟩; have d0 := (hb1.cell (p := ⟨wr.heap.size, 0, none⟩) hsz5).trans c50; have d1 := (hb1.cell (p := ⟨wr.heap.size, 1, none⟩) hsz5).trans c51; have d2 := (hb1.cell (p := ⟨wr.heap.size, 2, none⟩) hsz5).trans c52; have d3 := (hb1.cell (p := ⟨wr.heap.size, 3, none⟩) hsz5).trans c53; have lz1 : wr.heap.size < w1.heap.size := Nat.lt_of_lt_of_le hsz5 hb1.size; have HB1 := Lib.hid hb1; clear hb1)
          | (refine step_goN rfl 74 #[.tmp 23] _ rfl (enters_of Tryz.func74 (by kernel_rfl) rfl) #[.agg #[.int .i64 at1, .string bs, .int .i64 kd, .string cs]] (by simp [Act.eval, Act.put]) _ (by have hh := HWO.out; exact hh _) ?_; rintro e w2 ⟨q, c, ws, rfl, HR2, hb2⟩; refine ⟨_, rfl, ?_⟩; have hb2' : Below W5.heap.size W5 w2 := (by first | exact Bl.trans HB1.out hb2 | exact Bl.trans (Bl.trans HB1.out (Bl.alloc (Below.refl _ _) _)) hb2); (first | (have HOB : Hid (OwnR TS w2 W5.heap.size (.slice (some ⟨w1.heap.size, 0, none⟩) 1 1) [ix]) := Lib.hid ((ownS_new w1 W5.heap.size 1 [ix] HB1.out.size rfl (by decide)).below hb2)) | skip); have HB2 := Lib.hid hb2'; clear hb2 hb2')
          | (refine step_app_recs TS.ok rfl (.tmp 22) (.tmp 24) rfl W5.heap.size (.slice (some ⟨w1.heap.size, 0, none⟩) 1 1) [ix] (by simp [Act.eval, Act.put]) HOB.out q c ws (by simp [Act.eval, Act.put]) (recs_cells HR2.out.1) HR2.out.2.2 HB2.out.size ?_; intro v3 w3 hO3 hg3 hb3; have HB3 : Hid (Below W5.heap.size W5 w3) := Lib.hid (Below.trans HB2.out hb3); have HR3 := Lib.hid hO3.rec0; clear hO3 hg3 hb3)
          | (refine step_app_recs TS.ok rfl (.tmp 22) (.tmp 24) rfl W5.heap.size (.slice (some ⟨w2.heap.size, 0, none⟩) 1 1) [ix] (by simp [Act.eval, Act.put]) (ownS_new w2 W5.heap.size 1 [ix] HB2.out.size rfl (by decide)) q c ws (by simp [Act.eval, Act.put]) (recs_cells (HR2.out.1.alloc _)) HR2.out.2.2 (by have := HB2.out.size; simp; omega) ?_; intro v3 w3 hO3 hg3 hb3; have HB3 : Hid (Below W5.heap.size W5 w3) := Lib.hid (Below.trans (Bl.alloc HB2.out _) hb3); have HR3 := Lib.hid hO3.rec0; clear hO3 hg3 hb3)
          | (refine step_goN rfl 72 #[.tmp 25] _ rfl (enters_of Tryz.func72 (by kernel_rfl) rfl) #[v3] (by simp [Act.eval, Act.put]) (fun e w' => ∃ r : ByteArray, e = .returned (.string r) ∧ Hid (bsOf r = wrS (at1, bs, kd, cs) ++ [10]) ∧ Below W5.heap.size W5 w') (by refine (HJN.out ws HR2.out.2.1 _ v3 HR3.out).mono ?_; rintro e w' ⟨r, rfl, h1, h2⟩; exact ⟨r, rfl, h1, Bl.trans HB3.out h2⟩) ?_; rintro e w4 ⟨r, rfl, HRS, hb4⟩; refine ⟨_, rfl, ?_⟩; have HB4 := Lib.hid hb4; clear hb4)
          | (refine step_goN rfl 71 #[.tmp 5, .tmp 26] _ rfl (enters_of Tryz.func71 (by kernel_rfl) rfl) #[.pointer (some ⟨w0.heap.size, 0, none⟩), .string r] (by simp [Act.eval, Act.put]) (fun e w' => (∃ rv, e = .returned rv) ∧ Bd8 w0.heap.size w0.heap.size (textL wrS (l.take (k + 1))) w' ∧ Below w0.heap.size W5 w') (by have hh := HWS.out r HRS.out _ HB4.out; exact hh) ?_; rintro e w5 ⟨⟨rv, rfl⟩, hb8, hb5⟩; refine ⟨_, rfl, ?_⟩))
        all_goals (
          have H8 := Lib.hid hb8
          have HF3 := Lib.hid ((HBr5.out).trans hb5)
          clear hb8 hb5
          go_wp2
          go_roundw
          case rel => exact ⟨k + 1, by omega, by go_num, H8, HF3.out⟩
          case measure => simp [intOf]; omega)
      · obtain rfl : k = l.length := by omega
        have HS := Lib.hid fun (U : World) (hU : Bd8 w0.heap.size w0.heap.size (textL wrS l) U) (hz : w0.heap.size ≤ U.heap.size) => BString_any w0.heap.size w0.heap.size (textL wrS l) U hU hz
        have hb0 := hBd.out
        rw [List.take_length] at hb0
        have HL := Lib.hid (BLen_any w0.heap.size w0.heap.size (textL wrS l) wr hb0)
        obtain ⟨tl, htl⟩ : ∃ n, n = (textL wrS l).length := ⟨_, rfl⟩
        rw [← htl] at HL
        have htl2 : ¬ (200000 : Int) < (tl : Int) := by have := HWW.out.2.2; omega
        clear htl
        go_wp2_with fail
        refine HL.out.mono ?_
        rintro e w2 ⟨rfl, rfl⟩
        go_wp2_with fail
        refine (HS.out _ hb0 (by omega)).mono ?_
        rintro e w3 ⟨rfl, hb⟩
        have hBF := hB.trans (hb.mono hz0)
        go_wp2
        go_ret2
        exact ⟨_, rfl, by rw [HTX2.out]; exact bsOf_baOf _, hBF⟩
  · have HTX2 : Hid (stTxt l = []) := Lib.hid (by rw [HTX.out, if_neg h0])
    clear HTX HW
    go_enter Tryz.func17, Tryz.ntmps17
    go_wp2_with fail
    refine HCP.out.mono ?_
    rintro e w0 ⟨rfl, hb0⟩
    go_wp2
    go_ret2
    exact ⟨_, rfl, by rw [HTX2.out]; rfl, hb0⟩
end Go.Proofs.YthdolfnfiggkjaaGreatDoor
namespace Go.Proofs.YthdolfnfiggkjaaGreatDoor
open Go.RowKit Go.Sort Go.Maps

theorem TxW.low {w w' : World} {B : Nat} (h : TxW w) (hb : Below B w w') (h1 : 1 < B) (h2 : 0 < B) : TxW w' := by
  refine ⟨?_, ?_⟩
  · have hgn : Tryz.prog.globalNamed "internal/strconv.uint64pow10" = some 1 := by kernel_rfl
    have ht := h.tab
    unfold Lib.TabIs World.var? at ht ⊢
    rw [hgn] at ht ⊢
    simp only [Option.bind_some] at ht ⊢
    rw [hb.block _ h1]
    exact ht
  · obtain ⟨m, hm⟩ := h.max
    refine ⟨m, ?_⟩
    unfold World.cell? at hm ⊢
    rw [hb.block _ h2]
    exact hm
theorem wordsS_join {s : Stp} (h : StW s) : joinL 32 (wordsS s) = if s.co.size = 0 then bsOf s.bd ++ 32 :: kwOf s.kd else bsOf s.bd ++ 32 :: (kwOf s.kd ++ 32 :: bsOf s.co) := by
  unfold wordsS
  cases hn : namB s.kd with
  | true =>
    have h1 := keyB_size (h.co hn)
    have h2 := (keyB_mem (h.co hn)).1
    have h3 : ¬ s.co.size = 0 := fun e => h2 (List.eq_nil_of_length_eq_zero (by rw [bsOf_len]; exact e))
    rw [if_pos rfl, if_neg h3]
    simp [joinL]
  | false =>
    rw [if_neg (by decide), if_pos (h.no hn)]
    simp [joinL]
theorem wrS_is {s : Stp} : wrS s = Lib.itoa s.at ++ 32 :: joinL 32 (wordsS s) := by
  unfold wrS wordsS
  rfl
theorem stepWords_any (w : World) : Calls Tryz.prog 143 #[] w fun e w' => e = .returned (.slice (some ⟨w.heap.size, 0, none⟩) 7 7) ∧ OwnR TS w' w.heap.size (.slice (some ⟨w.heap.size, 0, none⟩) 7 7) kwB ∧ Below w.heap.size w w' := by
  have HF := Lib.hid (And.intro (ownS_new w w.heap.size 7 kwB (Nat.le_refl _) rfl (by decide)) (Bl.alloc (Below.refl w.heap.size w) (.cells (kwB.map Value.string).toArray 9)))
  go_enter Tryz.func143, Tryz.ntmps143
  go_wp2
  go_ret
  exact ⟨rfl, HF.out.1, HF.out.2⟩
set_option maxHeartbeats 4000000 in
set_option maxRecDepth 100000 in
theorem wordsOf_any (s : Stp) (w : World) (h : StW s) :
    Calls Tryz.prog 77 #[stpV s] w fun e w' => ∃ r : ByteArray, e = .returned (.string r) ∧ bsOf r = joinL 32 (wordsS s) ∧ Below w.heap.size w w' := by
  have HJ := Lib.hid (wordsS_join h)
  have hsb := keyB_size h.bd
  have hk := h.kd
  have hsc : s.co.size ≤ 1000 := by
    cases hn : namB s.kd with
    | true => have := keyB_size (h.co hn); omega
    | false => have := h.no hn; omega
  obtain ⟨at', bd, kd, co⟩ := s
  obtain ⟨kn, rfl⟩ : ∃ kn : Nat, kd = kn := ⟨kd.toNat, by have : 1 ≤ kd := hk.1; omega⟩
  have hkn : kn < 7 := by have : (kn : Int) ≤ 6 := hk.2; omega
  have hkz : (kn : Int) < 7 := by omega
  have hsb : bd.size ≤ 1000 := Nat.le_trans hsb (by decide)
  have hsc : co.size ≤ 1000 := hsc
  have hKA := kwB_at (show 0 ≤ (kn : Int) ∧ (kn : Int) ≤ 6 by omega)
  obtain ⟨wd, hwd⟩ : ∃ wd, wd = baOf (kwOf (kn : Int)) := ⟨_, rfl⟩
  have hwl : wd.size ≤ 6 := by
    rw [← bsOf_len, hwd, bsOf_baOf]
    exact kw_len hk
  have HWD := Lib.hid (And.intro hwd hKA)
  clear hwd hKA hk h
  have HKW : Hid (∀ U : World, Calls Tryz.prog 143 #[] U fun e w' => e = .returned (.slice (some ⟨U.heap.size, 0, none⟩) 7 7) ∧ w'.cell? ⟨U.heap.size, kn, none⟩ = some (.string wd) ∧ Below U.heap.size U w') := Lib.hid (fun U => by
    refine (stepWords_any U).mono ?_
    rintro e w' ⟨rfl, hO, hb⟩
    refine ⟨rfl, ?_, hb⟩
    obtain ⟨b, o, he, _, _, hc⟩ := str_at hO.rec (k := kn) (x := wd) (by rw [HWD.out.1]; exact HWD.out.2)
    injection he with he
    injection he with h1 h2
    subst h1; subst h2
    rw [Nat.zero_add] at hc
    exact hc)
  obtain ⟨w0, hw0⟩ : ∃ w0, w0 = w.alloc (.cells #[.int .i64 at', .string bd, .int .i64 kn, .string co] 50) := ⟨_, rfl⟩
  have hA : Below w.heap.size w w0 := by rw [hw0]; exact Bl.alloc (Below.refl _ _) _
  have hX0 : w0.heap[w.heap.size]? = some (.cells #[.int .i64 at', .string bd, .int .i64 kn, .string co] 50 (0, 0)) := by rw [hw0]; exact blk_new w _
  change Calls _ _ #[.agg #[.int .i64 at', .string bd, .int .i64 kn, .string co]] _ _
  have c1 : w0.cell? ⟨w.heap.size, 1, none⟩ = some (.string bd) := blk_cell hX0 1
  have c2 : w0.cell? ⟨w.heap.size, 2, none⟩ = some (.int .i64 kn) := blk_cell hX0 2
  have c3 : w0.cell? ⟨w.heap.size, 3, none⟩ = some (.string co) := blk_cell hX0 3
  have lX := blk_lt hX0
  have HA0 := Lib.hid hA
  clear hX0 hA
  have z1 : ¬ 9223372036854775807 < bd.size + 1 := by omega
  have z2 : ¬ 9223372036854775807 < bd.size + 1 + wd.size := by omega
  have z3 : ¬ 9223372036854775807 < 1 + co.size := by omega
  have z4 : ¬ 9223372036854775807 < bd.size + 1 + wd.size + (1 + co.size) := by omega
  go_enter Tryz.func77, Tryz.ntmps77
  go_wp2
  rw [← hw0]
  clear hw0
  go_region_law (refine step_goN rfl 143 #[] _ rfl (enters_of Tryz.func143 (by kernel_rfl) rfl) #[] (by simp [Act.eval, Act.put]) (fun e w' => e = .returned (.slice (some ⟨w0.heap.size, 0, none⟩) 7 7) ∧ w'.cell? ⟨w0.heap.size, kn, none⟩ = some (.string wd) ∧ Below w0.heap.size w0 w') (by (have hh := HKW.out w0.drew; refine hh.mono ?_; rintro e w' ⟨h1, h2, h3⟩; exact ⟨h1, h2, Below.trans (Below.drew (Below.refl _ _)) h3⟩)) ?_; rintro e w1 ⟨rfl, d0, hb1⟩; refine ⟨_, rfl, ?_⟩; have d1 := (hb1.cell (p := ⟨w.heap.size, 1, none⟩) lX).trans c1; have d2 := (hb1.cell (p := ⟨w.heap.size, 2, none⟩) lX).trans c2)
  all_goals (
    have d3 := (hb1.cell (p := ⟨w.heap.size, 3, none⟩) lX).trans c3
    have HB1 := Lib.hid (Below.trans HA0.out (hb1.mono (Nat.le_of_lt lX)))
    clear hb1 HKW d0 d1 d2 c1 c2 c3
    by_cases h0 : co.size = 0
    · obtain rfl := ba_empty h0
      have HRR := HJ.out
      have hz9 : (Stp.co (at', bd, (kn : Int), (⟨#[]⟩ : ByteArray))).size = 0 := rfl
      rw [if_pos hz9] at HRR
      clear hz9
      have HR := Lib.hid HRR
      clear HRR h0
      go_wp2
      go_ret
      exact ⟨_, rfl, by rw [HR.out, HWD.out.1]; simp [bsOf, baOf], HB1.out⟩
    · have HRR := HJ.out
      rw [if_neg h0] at HRR
      have HR := Lib.hid HRR
      have e12 : co.toList.isEmpty = false ∧ ¬ co.toList = [] := by
        have hne : co.data.toList ≠ [] := by
          intro e
          have : co.data.toList.length = co.size := Array.length_toList
          rw [e] at this; exact h0 this.symm
        rw [ByteArray.toList_eq]
        exact ⟨by cases h : co.data.toList with | nil => exact absurd h hne | cons => rfl, hne⟩
      obtain ⟨e1, e2⟩ := e12
      clear HRR h0
      go_wp2
      go_ret
      exact ⟨_, rfl, by rw [HR.out, HWD.out.1]; simp [bsOf, baOf], HB1.out⟩)
set_option maxHeartbeats 4000000 in
set_option maxRecDepth 100000 in
theorem SLines_any (l : List Stp) (v : Value) (w : World) (hT : TxW w) (hlen : l.length ≤ 5000) (rp : RecR TSt w 0 v l) (hW : ∀ s ∈ l, StW s) :
    Calls Tryz.prog 18 #[v] w fun e w' => ∃ r : ByteArray, e = .returned (.string r) ∧ bsOf r = textL wrS l ∧ Below w.heap.size w w' := by
  obtain ⟨a, cap, rfl, hc1, hc2⟩ := rp.form
  have HT := Lib.hid hT
  have RP := Lib.hid rp
  have HWW := Lib.hid hW
  clear hT rp hW
  go_enter Tryz.func18, Tryz.ntmps18
  go_wp2_with fail
  go_loopw [8] (fun i wr => ∃ (k : Nat), k ≤ l.length ∧ i = .int .i64 k ∧ Hid (Bd8 w.heap.size w.heap.size (textL wrS (l.take k)) wr) ∧ Below w.heap.size w wr) (fun i _ => l.length - (intOf i).toNat)
  case atStart =>
    refine ⟨0, Nat.zero_le _, rfl, Lib.hid ?_, by first | exact Bl.alloc (Below.refl _ _) _ | exact Below.refl _ _⟩
    refine .inl ⟨Nat.le_refl _, .slice none 0 0, blk_new w _, World.ownsRow_nil _ _ _ 1, by simp [Value.ownBlock]⟩
  case round =>
    obtain ⟨k, hk, rfl, hBd, hB⟩ := hrel
    have hz := hB.size
    by_cases hlt : k < l.length
    · obtain ⟨s, hs⟩ : ∃ x, l[k]? = some x := ⟨_, List.getElem?_eq_getElem hlt⟩
      have HTK : Hid (textL wrS (l.take (k + 1)) = textL wrS (l.take k) ++ (wrS s ++ [10])) := Lib.hid (by
        rw [List.take_add_one, hs]
        simp [textL])
      have hW := HWW.out s (List.mem_of_getElem? hs)
      have hwl := wrS_len hW
      have htl : (textL wrS (l.take k)).length ≤ 555000 := by
        have h1 := textS_len (l.take k) fun q hq => HWW.out q (List.mem_of_mem_take hq)
        have h2 : (l.take k).length ≤ 5000 := by rw [List.length_take]; omega
        omega
      obtain ⟨b1, o1, rfl, _, hbb1, hc1⟩ := (RP.out.below hB).at TSt.ok.len hs TSt.ok.pos
      obtain ⟨at1, bs, kd, cs⟩ := s
      have c0 : wr.cell? ⟨b1, o1 + k * 4, none⟩ = some (.int .i64 at1) := hc1 0 _ rfl
      have c1 : wr.cell? ⟨b1, o1 + k * 4 + 1, none⟩ = some (.string bs) := hc1 1 _ rfl
      have c2 : wr.cell? ⟨b1, o1 + k * 4 + 2, none⟩ = some (.int .i64 kd) := hc1 2 _ rfl
      have c3 : wr.cell? ⟨b1, o1 + k * 4 + 3, none⟩ = some (.string cs) := hc1 3 _ rfl
      have hw1 : IntKind.i64.wrap ((k : Int) + 1) = ((k + 1 : Nat) : Int) := by rw [IntWalk.i64_in _ (by omega)]; omega
      have hat : 0 ≤ at1 ∧ at1 ≤ 345686399999 := hW.at'
      have HWst := Lib.hid hW
      clear hs hc1
      obtain ⟨ix, hix⟩ : ∃ ix : ByteArray, ix = ⟨(Lib.itoa at1).toArray⟩ := ⟨_, rfl⟩
      obtain ⟨W5, hW5⟩ : ∃ W5, W5 = wr.alloc (.cells #[.int .i64 at1, .string bs, .int .i64 kd, .string cs] 50) := ⟨_, rfl⟩
      have hA : Below wr.heap.size wr W5 := by rw [hW5]; exact Bl.alloc (Below.refl _ _) _
      have hB5 := Bl.trans hB hA
      have HT5 := Lib.hid (HT.out.below hB5)
      have hixl : bsOf ix = Lib.itoa at1 := by rw [hix]; exact bsOf_baOf _
      have hixs : ix.size ≤ 100 := by rw [← bsOf_len, hixl]; have := itoa_mom hat; omega
      have HIX : Hid (∀ U, Below W5.heap.size W5 U → Calls Tryz.prog 73 #[.int .i64 at1] U fun e w' => e = .returned (.string ix) ∧ Below W5.heap.size W5 w') := Lib.hid fun U hU => by
        rw [hix]
        refine (Itoa_any at1 U (HT5.out.below hU) (by omega) (by omega)).mono ?_
        rintro e w' ⟨rfl, hh⟩
        exact ⟨rfl, Bl.trans hU hh⟩
      have HWO : Hid (∀ U : World, Below W5.heap.size W5 U → Calls Tryz.prog 77 #[.agg #[.int .i64 at1, .string bs, .int .i64 kd, .string cs]] U fun e w' => ∃ r : ByteArray, e = .returned (.string r) ∧ r.size ≤ 110 ∧ Hid (bsOf (ix ++ ⟨#[32]⟩ ++ r ++ ⟨#[10]⟩) = wrS (at1, bs, kd, cs) ++ [10]) ∧ Below W5.heap.size W5 w') := Lib.hid fun U hU => by
        refine (wordsOf_any (at1, bs, kd, cs) U HWst.out).mono ?_
        rintro e w' ⟨r, rfl, hr, hb⟩
        have h1 : wrS (at1, bs, kd, cs) = Lib.itoa at1 ++ 32 :: joinL 32 (wordsS (at1, bs, kd, cs)) := wrS_is
        refine ⟨r, rfl, ?_, Lib.hid ?_, Bl.trans hU hb⟩
        · rw [h1] at hwl
          rw [← bsOf_len, hr]
          simp only [List.length_append, List.length_cons] at hwl
          omega
        · rw [h1, ← hixl, ← hr]
          simp [bsOf]
      have hb8 := hBd.out.below hA
      have HWS : Hid (∀ (st : ByteArray), bsOf st = wrS (at1, bs, kd, cs) ++ [10] → ∀ U, Below W5.heap.size W5 U → Calls Tryz.prog 71 #[.pointer (some ⟨w.heap.size, 0, none⟩), .string st] U fun e w' => (∃ rv, e = .returned rv) ∧ Bd8 w.heap.size w.heap.size (textL wrS (l.take (k + 1))) w' ∧ Below w.heap.size W5 w') := Lib.hid fun st e1 U hU => by
        have hz5 := hB5.size
        have hzU := hU.size
        have e2 : st.size ≤ 111 := by
          rw [← bsOf_len, e1, List.length_append, List.length_singleton]
          omega
        refine (WriteString_any w.heap.size w.heap.size _ st U (hb8.below hU) (by omega) (by omega)).mono ?_
        rintro e w' ⟨h0, h1, h2⟩
        have e3 : st.data.toList = wrS (at1, bs, kd, cs) ++ [10] := e1
        rw [e3, ← HTK.out] at h1
        exact ⟨⟨_, h0⟩, h1, (hU.mono hz5).trans h2⟩
      have HB5 := Lib.hid hB5
      have hsz5 : wr.heap.size < W5.heap.size := by rw [hW5]; simp
      have c50 : W5.cell? ⟨wr.heap.size, 0, none⟩ = some (.int .i64 at1) := by rw [hW5, blk_cell (blk_new wr _) 0]; rfl
      have c51 : W5.cell? ⟨wr.heap.size, 1, none⟩ = some (.string bs) := by rw [hW5, blk_cell (blk_new wr _) 1]; rfl
      have c52 : W5.cell? ⟨wr.heap.size, 2, none⟩ = some (.int .i64 kd) := by rw [hW5, blk_cell (blk_new wr _) 2]; rfl
      have c53 : W5.cell? ⟨wr.heap.size, 3, none⟩ = some (.string cs) := by rw [hW5, blk_cell (blk_new wr _) 3]; rfl
      have z1 : ¬ 9223372036854775807 < ix.size + 1 := by omega
      go_wp2
      rw [← hW5]
      clear hW5 hA hB5 hb8 hix htl c0 c1 c2 c3 hB hBd hat hW hwl hixl
      go_region_law (first
        | (refine step_goN rfl 73 #[.tmp 13] _ rfl (enters_of Tryz.func73 (by kernel_rfl) rfl) #[.int .i64 at1] (by simp [Act.eval, Act.put]) (fun e w' => e = .returned (.string ix) ∧ Below W5.heap.size W5 w') (by have hh := HIX.out _ (Below.drew (Below.refl _ _)); exact hh) ?_; rintro e w1 ⟨rfl, hb1⟩; refine ⟨_, rfl, ?_⟩; have d0 := (hb1.cell (p := ⟨wr.heap.size, 0, none⟩) hsz5).trans c50; have d1 := (hb1.cell (p := ⟨wr.heap.size, 1, none⟩) hsz5).trans c51; have d2 := (hb1.cell (p := ⟨wr.heap.size, 2, none⟩) hsz5).trans c52; have d3 := (hb1.cell (p := ⟨wr.heap.size, 3, none⟩) hsz5).trans c53; have lz1 : wr.heap.size < w1.heap.size := Nat.lt_of_lt_of_le hsz5 hb1.size; have HB1 := Lib.hid hb1; clear hb1)
        | (refine step_goN rfl 77 #[.tmp 16] _ rfl (enters_of Tryz.func77 (by kernel_rfl) rfl) #[.agg #[.int .i64 at1, .string bs, .int .i64 kd, .string cs]] (by simp [Act.eval, Act.put]) _ (by have hh := HWO.out _ HB1.out; exact hh) ?_; rintro e w2 ⟨r, rfl, hr9, HRS, hb2⟩; refine ⟨_, rfl, ?_⟩; have HB2 := Lib.hid hb2; have z2 : ¬ 9223372036854775807 < ix.size + 1 + r.size := (by omega); have z3 : ¬ 9223372036854775807 < ix.size + 1 + r.size + 1 := (by omega); clear hb2)
        | (refine step_goN rfl 71 #[.tmp 3, .tmp 19] _ rfl (enters_of Tryz.func71 (by kernel_rfl) rfl) #[.pointer (some ⟨w.heap.size, 0, none⟩), .string (ix ++ ⟨#[32]⟩ ++ r ++ ⟨#[10]⟩)] (by simp [Act.eval, Act.put]) (fun e w' => (∃ rv, e = .returned rv) ∧ Bd8 w.heap.size w.heap.size (textL wrS (l.take (k + 1))) w' ∧ Below w.heap.size W5 w') (by have hh := HWS.out _ HRS.out _ HB2.out; exact hh) ?_; rintro e w5 ⟨⟨rv, rfl⟩, hb8, hb5⟩; refine ⟨_, rfl, ?_⟩))
      all_goals (
        have H8 := Lib.hid hb8
        have HF3 := Lib.hid ((HB5.out).trans hb5)
        clear hb8 hb5
        go_wp2
        go_roundw
        case rel => exact ⟨k + 1, by omega, by go_num, H8, HF3.out⟩
        case measure => simp [intOf]; omega)
    · obtain rfl : k = l.length := by omega
      have HS := Lib.hid fun (U : World) (hU : Bd8 w.heap.size w.heap.size (textL wrS l) U) (hz : w.heap.size ≤ U.heap.size) => BString_any w.heap.size w.heap.size (textL wrS l) U hU hz
      have hb0 := hBd.out
      rw [List.take_length] at hb0
      go_wp2_with fail
      refine (HS.out _ hb0 (by omega)).mono ?_
      rintro e w2 ⟨rfl, hb⟩
      have hBF := hB.trans hb
      go_wp2
      go_ret
      exact ⟨_, rfl, bsOf_baOf _, hBF⟩
set_option maxHeartbeats 4000000 in
set_option maxRecDepth 100000 in
theorem StepString_any (s : Nat) (c : Int) (w : World) (h : Str w s c) (hT : TxW w) (hg1 : 1 < s) (hg2 : 0 < s) (hc : c ≤ 700000) :
    Calls Tryz.prog 19 #[.pointer (some ⟨s, 0, none⟩)] w fun e w' => ∃ r : ByteArray, e = .returned (.string r) ∧ r.size ≤ 2000 ∧ Str w' s (c + 40100) ∧ w.grownBy w' (some s) := by
  have ls := h.lt
  have HT := Lib.hid hT
  clear hT
  go_enter Tryz.func19, Tryz.ntmps19
  go_wp2_with fail
  refine (RightSteps_any s c w h (by omega)).mono ?_
  rintro e w1 ⟨vx, x, rfl, hO1, hx24, hxok, hx0, hS1, hG1⟩
  obtain ⟨xa, xcap, rfl, hx1, hx2⟩ := hO1.form
  have hz1 := hG1.size
  have HT1 := Lib.hid (HT.out.low (Gr.below hG1 (Nat.le_refl _) (Nat.le_of_lt ls)) hg1 hg2)
  obtain ⟨n, hn⟩ : ∃ n, n = min x.length 6 := ⟨_, rfl⟩
  have hn1 : n ≤ x.length ∧ n ≤ 6 := by omega
  have hmin : min (x.length : Int) 6 = (n : Int) := by omega
  have HS := Lib.hid (fun q (hq : q ∈ x.take n) => stepsF_W hx0 q (List.mem_of_mem_take hq))
  have HR := Lib.hid (hO1.rec0.take n hn1.1)
  have HSL := Lib.hid (SLines_any (x.take n) (.slice xa n xcap) w1 HT1.out (by rw [List.length_take]; omega) HR.out HS.out)
  have HLEN : Hid (∀ r : ByteArray, bsOf r = textL wrS (x.take n) → r.size ≤ 700) := Lib.hid fun r hr => by
    have h1 := textS_len (x.take n) HS.out
    have h2 : (x.take n).length ≤ 6 := by rw [List.length_take]; omega
    rw [← bsOf_len, hr]
    omega
  have hn2 : (n : Int) ≤ (xcap : Int) := by omega
  have hn3 : n ≤ xcap := by omega
  clear hO1 hxok hx0 hn
  go_wp2_with fail
  refine HSL.out.mono ?_
  rintro e w2 ⟨r, rfl, hr, hb2⟩
  have hrs := HLEN.out r hr
  have hz2 := hb2.size
  have hG2 := Gr.trans hG1 (Gr.of_below hb2 (some s))
  have hS3 := (hS1.below hb2).alloc (.cells #[.int .i64 0, .int .i64 0, .int .i64 1, .int .i64 2] 3)
  have hG3' := Gr.alloc hG2 (.cells #[.int .i64 0, .int .i64 0, .int .i64 1, .int .i64 2] 3)
  clear hr hb2 hG1 hS1 hG2 HSL
  go_wp2_with fail
  refine (Pick_any s _ [0, 0, 1, 2] _ _ hS3 (by omega) (Ints.of_blk (blk_new _ _) rfl rfl (by simp) (by omega) (by omega)) (by simp) (by simp)).mono ?_
  rintro e w4 ⟨m, rfl, hm, hS4, hG4⟩
  obtain ⟨m, rfl, hm2⟩ : ∃ m' : Nat, m = (m' : Int) ∧ m' ≤ 2 := by
    simp only [List.mem_cons, List.not_mem_nil, or_false] at hm
    exact ⟨m.toNat, by omega, by omega⟩
  have hG4' := Gr.trans hG3' hG4
  clear hm hG3' hG4 hS3
  go_wp2_with fail
  go_loopw [4, 16] (fun v i wr => ∃ (k : Nat) (t : ByteArray), k ≤ m ∧ i = .int .i64 k ∧ v = .string t ∧ t.size ≤ 700 + 11 * k ∧ Str wr s (c + 40001 + 3 * k) ∧ w.grownBy wr (some s)) (fun _ i _ => m - (intOf i).toNat)
  case atStart => exact ⟨0, r, Nat.zero_le _, rfl, rfl, by omega, hS4.mono (by omega), hG4'⟩
  case round =>
    obtain ⟨k, t, hk, rfl, rfl, ht, hS, hG⟩ := hrel
    by_cases hlt : k < m
    · have hw1 : IntKind.i64.wrap ((k : Int) + 1) = ((k + 1 : Nat) : Int) := by rw [IntWalk.i64_in _ (by omega)]; omega
      have HC := Lib.hid (Changed_any s _ t ⟨#[32, 10, 48, 49, 114, 117, 45]⟩ wr hS (by omega) (by omega) (by show 0 < 7; omega) (by show 7 ≤ 1000; omega))
      go_wp2_with fail
      refine HC.out.mono ?_
      rintro e w5 ⟨r5, rfl, hr5, hS5, hG5⟩
      have hr6 : r5.size ≤ 700 + 11 * (k + 1) := by
        have : (⟨#[32, 10, 48, 49, 114, 117, 45]⟩ : ByteArray).size = 7 := rfl
        rw [this] at hr5
        omega
      have hG6 := Gr.trans hG hG5
      clear hr5 hG5
      go_wp2
      go_roundw
      case rel => exact ⟨k + 1, r5, by omega, by go_num, rfl, hr6, hS5.mono (by omega), hG6⟩
      case measure => simp [intOf]; omega
    · go_wp2
      go_ret
      exact ⟨_, rfl, by omega, hS.mono (by omega), hG⟩
end Go.Proofs.YthdolfnfiggkjaaGreatDoor
