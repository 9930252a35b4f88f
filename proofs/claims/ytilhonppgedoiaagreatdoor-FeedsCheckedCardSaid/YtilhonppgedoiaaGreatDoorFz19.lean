/- Texts of the proof of a law, put together, part 19 of 46. Conditions: none beyond those that each theorem names. -/
import Derived.Test.YtilhonppgedoiaaGreatDoorFz18
namespace Go.Proofs.YtilhonppgedoiaaGreatDoor
open Go.RowKit Go.Sort Go.Maps
/-- what Text writes. -/
def fdTxt (l : List Fed) : Bs := if textsF l = 0 then textL wrF l else []
set_option maxHeartbeats 4000000 in
set_option maxRecDepth 100000 in
theorem FdText_any (l : List Fed) (v : Value) (w : World) (hT : TxW w) (hlen : l.length ≤ 300000) (rp : RecR TFe w 0 v l) (hz : FedZ l) (hi : ∀ e ∈ l, FdI e) (ht : textsF l = 0 → (textL wrF l).length ≤ 200000) :
    Calls Tryz.prog 6 #[v] w fun e w' => ∃ r : ByteArray, e = .returned (.tuple #[.string r, .int .i64 (textsF l)]) ∧ bsOf r = fdTxt l ∧ Below w.heap.size w w' := by
  have HCP := Lib.hid (textsFault_any l v w (by omega) rp hz)
  have HW := Lib.hid (fun h : textsF l = 0 => And.intro (textsF_ok h).2 (And.intro (textsF_ok h).1 (ht h)))
  obtain ⟨f, hf⟩ : ∃ f, f = textsF l := ⟨_, rfl⟩
  have HTX : Hid (fdTxt l = if f = 0 then textL wrF l else []) := Lib.hid (by rw [hf]; rfl)
  rw [← hf] at HCP HW ⊢
  obtain ⟨a, cap, rfl, hc1, hc2⟩ := rp.form
  have HT := Lib.hid hT
  have RP := Lib.hid rp
  have HI := Lib.hid hi
  clear hT rp hf hz hi ht
  by_cases h0 : f = 0
  · subst h0
    have HTX2 : Hid (fdTxt l = textL wrF l) := Lib.hid (by rw [HTX.out]; rfl)
    have HWW := Lib.hid (HW.out rfl)
    have hl5 := (HW.out rfl).2.1
    clear HTX HW
    go_enter Tryz.func6, Tryz.ntmps6
    go_wp2_with fail
    refine HCP.out.mono ?_
    rintro e w0 ⟨rfl, hb0⟩
    have hz0 := hb0.size
    have HB0 := Lib.hid hb0
    clear hb0
    go_wp2_with fail
    go_loopw [15] (fun i wr => ∃ (k : Nat), k ≤ l.length ∧ i = .int .i64 k ∧ Hid (Bd8 w0.heap.size w0.heap.size (textL wrF (l.take k)) wr) ∧ Below w0.heap.size w0 wr) (fun i _ => l.length - (intOf i).toNat)
    case atStart =>
      refine ⟨0, Nat.zero_le _, rfl, Lib.hid ?_, by first | exact Bl.alloc (Below.refl _ _) _ | exact Below.refl _ _⟩
      refine .inl ⟨Nat.le_refl _, .slice none 0 0, blk_new w0 _, World.ownsRow_nil _ _ _ 1, by simp [Value.ownBlock]⟩
    case round =>
      obtain ⟨k, hk, rfl, hBd, hBr⟩ := hrel
      have hz := hBr.size
      have hB := HB0.out.trans (hBr.mono hz0)
      by_cases hlt : k < l.length
      · obtain ⟨s, hs⟩ : ∃ x, l[k]? = some x := ⟨_, List.getElem?_eq_getElem hlt⟩
        have HTK : Hid (textL wrF (l.take (k + 1)) = textL wrF (l.take k) ++ (wrF s ++ [10])) := Lib.hid (textFd_take hs)
        have hW := HWW.out.1 s (List.mem_of_getElem? hs)
        have hI := HI.out s (List.mem_of_getElem? hs)
        have hwl := wrF_len hW hI.1 hI.2
        have htl : (textL wrF (l.take k)).length ≤ 705000 := by
          have h1 := textFd_len (l.take k) fun q hq => ⟨HWW.out.1 q (List.mem_of_mem_take hq), HI.out q (List.mem_of_mem_take hq)⟩
          have h2 : (l.take k).length ≤ 5000 := by rw [List.length_take]; omega
          omega
        obtain ⟨b1, o1, rfl, _, hbb1, hc1⟩ := (RP.out.below hB).at TFe.ok.len hs TFe.ok.pos
        obtain ⟨at1, kd, fd, rk, mn, bd⟩ := s
        have c0 : wr.cell? ⟨b1, o1 + k * 6, none⟩ = some (.int .i64 at1) := hc1 0 _ rfl
        have c1 : wr.cell? ⟨b1, o1 + k * 6 + 1, none⟩ = some (.int .i64 kd) := hc1 1 _ rfl
        have c2 : wr.cell? ⟨b1, o1 + k * 6 + 2, none⟩ = some (.string fd) := hc1 2 _ rfl
        have c3 : wr.cell? ⟨b1, o1 + k * 6 + 3, none⟩ = some (.string rk) := hc1 3 _ rfl
        have c4 : wr.cell? ⟨b1, o1 + k * 6 + 4, none⟩ = some (.int .i64 mn) := hc1 4 _ rfl
        have c5 : wr.cell? ⟨b1, o1 + k * 6 + 5, none⟩ = some (.string bd) := hc1 5 _ rfl
        have hw1 : IntKind.i64.wrap ((k : Int) + 1) = ((k + 1 : Nat) : Int) := by rw [IntWalk.i64_in _ (by omega)]; omega
        have hat : -9223372036854775808 ≤ at1 ∧ at1 ≤ 9223372036854775807 := hI.1
        have hmn : -9223372036854775808 ≤ mn ∧ mn ≤ 9223372036854775807 := hI.2
        have hkd : 1 ≤ kd ∧ kd ≤ 5 := hW.kd
        clear hs hc1
        obtain ⟨ix, hix⟩ : ∃ ix : ByteArray, ix = ⟨(Lib.itoa at1).toArray⟩ := ⟨_, rfl⟩
        obtain ⟨W5, hW5⟩ : ∃ W5, W5 = wr.alloc (.cells #[.int .i64 at1, .int .i64 kd, .string fd, .string rk, .int .i64 mn, .string bd] 37) := ⟨_, rfl⟩
        have hA : Below wr.heap.size wr W5 := by rw [hW5]; exact Bl.alloc (Below.refl _ _) _
        have hB5 := Bl.trans hB hA
        have hBr5 := Bl.trans hBr hA
        have HT5 := Lib.hid (HT.out.below hB5)
        have HIX : Hid (∀ U, Below W5.heap.size W5 U → Calls Tryz.prog 29 #[.int .i64 at1] U fun e w' => e = .returned (.string ix) ∧ Below U.heap.size U w') := Lib.hid fun U hU => by rw [hix]; exact Itoa_any at1 U (HT5.out.below hU) hat.1 hat.2
        have HWO : Hid (∀ U : World, Below W5.heap.size W5 U → Calls Tryz.prog 30 #[.agg #[.int .i64 at1, .int .i64 kd, .string fd, .string rk, .int .i64 mn, .string bd]] U fun e w' => ∃ (q : Addr) (c : Nat) (ws : List ByteArray), e = .returned (.slice (some q) ws.length c) ∧ Hid (RecR TS w' 0 (.slice (some q) ws.length c) ws ∧ ws.map bsOf = wordsF (at1, kd, fd, rk, mn, bd) ∧ [ix].length + ws.length ≤ 1000000) ∧ Below U.heap.size U w') := Lib.hid fun U hU => by
          refine (FdWords_any (at1, kd, fd, rk, mn, bd) U (HT5.out.below hU) hkd hmn).mono ?_
          rintro e w' ⟨v, ws, rfl, hO, hm, hb⟩
          have hwn : ws.length ≤ 5 := by
            have h1 := congrArg List.length hm
            rw [List.length_map] at h1
            rw [h1]
            exact wordsF_len _
          obtain ⟨g, c2, cur, rfl, _⟩ := hO.blk (by
            intro h
            rw [h] at hm
            unfold wordsF at hm
            cases hm)
          exact ⟨_, _, ws, rfl, Lib.hid ⟨hO.rec0, hm, by simp; omega⟩, hb⟩
        have HJN : Hid (∀ (ws : List ByteArray), ws.map bsOf = wordsF (at1, kd, fd, rk, mn, bd) → ∀ (U : World) (v : Value), RecR TS U 0 v ([ix] ++ ws) → Calls Tryz.prog 28 #[v] U fun e w' => ∃ r : ByteArray, e = .returned (.string r) ∧ Hid (bsOf r = wrF (at1, kd, fd, rk, mn, bd) ++ [10]) ∧ Below U.heap.size U w') := Lib.hid fun ws hm U v hR => by
          have he : ([ix] ++ ws).map bsOf = Lib.itoa at1 :: wordsF (at1, kd, fd, rk, mn, bd) := by
            rw [List.map_append, hm, hix]; rfl
          have hwn : ws.length ≤ 5 := by
            have h1 := congrArg List.length hm
            rw [List.length_map] at h1
            rw [h1]
            exact wordsF_len _
          refine (JoinR_any v ([ix] ++ ws) U hR (by simp) (by simp; omega) (by rw [he]; exact Nat.le_trans hwl (by decide))).mono ?_
          rintro e w' ⟨r, rfl, h1, h2⟩
          exact ⟨r, rfl, Lib.hid (by rw [h1, he]; rfl), h2⟩
        have hb8 := hBd.out.below hA
        have HWS : Hid (∀ (st : ByteArray), bsOf st = wrF (at1, kd, fd, rk, mn, bd) ++ [10] → ∀ U, Below W5.heap.size W5 U → Calls Tryz.prog 27 #[.pointer (some ⟨w0.heap.size, 0, none⟩), .string st] U fun e w' => (∃ rv, e = .returned rv) ∧ Bd8 w0.heap.size w0.heap.size (textL wrF (l.take (k + 1))) w' ∧ Below w0.heap.size W5 w') := Lib.hid fun st e1 U hU => by
          have hz5 := hBr5.size
          have hzU := hU.size
          have e2 : st.size ≤ 141 := by
            rw [← bsOf_len, e1, List.length_append, List.length_singleton]
            omega
          refine (WriteString_any w0.heap.size w0.heap.size _ st U (hb8.below hU) (by omega) (by omega)).mono ?_
          rintro e w' ⟨h0, h1, h2⟩
          have e3 : st.data.toList = wrF (at1, kd, fd, rk, mn, bd) ++ [10] := e1
          rw [e3, ← HTK.out] at h1
          exact ⟨⟨_, h0⟩, h1, (hU.mono hz5).trans h2⟩
        have HBr5 := Lib.hid hBr5
        have hsz5 : wr.heap.size < W5.heap.size := by rw [hW5]; simp
        have c50 : W5.cell? ⟨wr.heap.size, 0, none⟩ = some (.int .i64 at1) := by rw [hW5, blk_cell (blk_new wr _) 0]; rfl
        have c51 : W5.cell? ⟨wr.heap.size, 1, none⟩ = some (.int .i64 kd) := by rw [hW5, blk_cell (blk_new wr _) 1]; rfl
        have c52 : W5.cell? ⟨wr.heap.size, 2, none⟩ = some (.string fd) := by rw [hW5, blk_cell (blk_new wr _) 2]; rfl
        have c53 : W5.cell? ⟨wr.heap.size, 3, none⟩ = some (.string rk) := by rw [hW5, blk_cell (blk_new wr _) 3]; rfl
        have c54 : W5.cell? ⟨wr.heap.size, 4, none⟩ = some (.int .i64 mn) := by rw [hW5, blk_cell (blk_new wr _) 4]; rfl
        have c55 : W5.cell? ⟨wr.heap.size, 5, none⟩ = some (.string bd) := by rw [hW5, blk_cell (blk_new wr _) 5]; rfl
        go_wp2
        rw [← hW5]
        clear hW5 hA hB5 hBr5 hb8 hix htl c0 c1 c2 c3 c4 c5 hB hBr hBd hat hmn hkd hW hI hwl
        go_region_law (first
          | (refine step_goN rfl 29 #[.tmp 20] _ rfl (enters_of Tryz.func29 (by kernel_rfl) rfl) #[.int .i64 at1] (by simp [Act.eval]) (fun e w' => e = .returned (.string ix) ∧ Below W5.heap.size W5 w') (by refine (HIX.out _ (Below.drew (Below.refl _ _))).mono ?_; rintro e w' ⟨rfl, hh⟩; exact ⟨rfl, Bl.trans (Below.drew (Below.refl W5.heap.size W5)) hh⟩) ?_; rintro e w1 ⟨rfl, hb1⟩; refine ⟨_, rfl, ?_⟩; have d0 := (hb1.cell (p := ⟨wr.heap.size, 0, none⟩) hsz5).trans c50; have d1 := (hb1.cell (p := ⟨wr.heap.size, 1, none⟩) hsz5).trans c51; have d2 := (hb1.cell (p := ⟨wr.heap.size, 2, none⟩) hsz5).trans c52; have d3 := (hb1.cell (p := ⟨wr.heap.size, 3, none⟩) hsz5).trans c53; have d4 := (hb1.cell (p := ⟨wr.heap.size, 4, none⟩) hsz5).trans c54; have d5 := (hb1.cell (p := ⟨wr.heap.size, 5, none⟩) hsz5).trans c55; have lz1 : wr.heap.size < w1.heap.size := Nat.lt_of_lt_of_le hsz5 hb1.size; have HB1 := Lib.hid hb1; clear hb1)
          | (refine step_goN rfl 30 #[.tmp 23] _ rfl (enters_of Tryz.func30 (by kernel_rfl) rfl) #[.agg #[.int .i64 at1, .int .i64 kd, .string fd, .string rk, .int .i64 mn, .string bd]] (by simp [Act.eval]) _ (by have hh := HWO.out; first | exact hh _ HB1.out | exact hh _ (Bl.alloc HB1.out _)) ?_; rintro e w2 ⟨q, c, ws, rfl, HR2, hb2⟩; refine ⟨_, rfl, ?_⟩; have hb2' : Below W5.heap.size W5 w2 := (by first | exact Bl.trans HB1.out hb2 | exact Bl.trans (Bl.trans HB1.out (Bl.alloc (Below.refl _ _) _)) hb2); (first | (have HOB : Hid (OwnR TS w2 W5.heap.size (.slice (some ⟨w1.heap.size, 0, none⟩) 1 1) [ix]) := Lib.hid ((ownS_new w1 W5.heap.size 1 [ix] HB1.out.size rfl (by decide)).below hb2)) | skip); have HB2 := Lib.hid hb2'; clear hb2 hb2')
          | (refine step_app_recs TS.ok rfl (.tmp 22) (.tmp 24) rfl W5.heap.size (.slice (some ⟨w1.heap.size, 0, none⟩) 1 1) [ix] (by simp [Act.eval]) HOB.out q c ws (by simp [Act.eval]) (recs_cells HR2.out.1) HR2.out.2.2 HB2.out.size ?_; intro v3 w3 hO3 hg3 hb3; have HB3 : Hid (Below W5.heap.size W5 w3) := Lib.hid (Below.trans HB2.out hb3); have HR3 := Lib.hid hO3.rec0; clear hO3 hg3 hb3)
          | (refine step_app_recs TS.ok rfl (.tmp 22) (.tmp 24) rfl W5.heap.size (.slice (some ⟨w2.heap.size, 0, none⟩) 1 1) [ix] (by simp [Act.eval]) (ownS_new w2 W5.heap.size 1 [ix] HB2.out.size rfl (by decide)) q c ws (by simp [Act.eval]) (recs_cells (HR2.out.1.alloc _)) HR2.out.2.2 (by have := HB2.out.size; simp; omega) ?_; intro v3 w3 hO3 hg3 hb3; have HB3 : Hid (Below W5.heap.size W5 w3) := Lib.hid (Below.trans (Bl.alloc HB2.out _) hb3); have HR3 := Lib.hid hO3.rec0; clear hO3 hg3 hb3)
          | (refine step_goN rfl 28 #[.tmp 25] _ rfl (enters_of Tryz.func28 (by kernel_rfl) rfl) #[v3] (by simp [Act.eval]) (fun e w' => ∃ r : ByteArray, e = .returned (.string r) ∧ Hid (bsOf r = wrF (at1, kd, fd, rk, mn, bd) ++ [10]) ∧ Below W5.heap.size W5 w') (by refine (HJN.out ws HR2.out.2.1 _ v3 HR3.out).mono ?_; rintro e w' ⟨r, rfl, h1, h2⟩; exact ⟨r, rfl, h1, Bl.trans HB3.out h2⟩) ?_; rintro e w4 ⟨r, rfl, HRS, hb4⟩; refine ⟨_, rfl, ?_⟩; have HB4 := Lib.hid hb4; clear hb4)
          | (refine step_goN rfl 27 #[.tmp 5, .tmp 26] _ rfl (enters_of Tryz.func27 (by kernel_rfl) rfl) #[.pointer (some ⟨w0.heap.size, 0, none⟩), .string r] (by simp [Act.eval]) (fun e w' => (∃ rv, e = .returned rv) ∧ Bd8 w0.heap.size w0.heap.size (textL wrF (l.take (k + 1))) w' ∧ Below w0.heap.size W5 w') (by have hh := HWS.out r HRS.out _ HB4.out; exact hh) ?_; rintro e w5 ⟨⟨rv, rfl⟩, hb8, hb5⟩; refine ⟨_, rfl, ?_⟩))
        all_goals (
          have H8 := Lib.hid hb8
          have HF3 := Lib.hid ((HBr5.out).trans hb5)
          clear hb8 hb5
          go_wp2
          go_roundw
          case rel => exact ⟨k + 1, by omega, by go_num, H8, HF3.out⟩
          case measure => simp [intOf]; omega)
      · obtain rfl : k = l.length := by omega
        have HS := Lib.hid fun (U : World) (hU : Bd8 w0.heap.size w0.heap.size (textL wrF l) U) (hz : w0.heap.size ≤ U.heap.size) => BString_any w0.heap.size w0.heap.size (textL wrF l) U hU hz
        have hb0 := hBd.out
        rw [List.take_length] at hb0
        have HL := Lib.hid (BLen_any w0.heap.size w0.heap.size (textL wrF l) wr hb0)
        obtain ⟨tl, htl⟩ : ∃ n, n = (textL wrF l).length := ⟨_, rfl⟩
        rw [← htl] at HL
        have htl2 : ¬ (200000 : Int) < (tl : Int) := by have := HWW.out.2.2; omega
        clear htl
        go_wp2_with fail
        refine HL.out.mono ?_
        rintro e w2 ⟨rfl, rfl⟩
        go_wp2_with fail
        refine (HS.out _ hb0 (by omega)).mono ?_
        rintro e w3 ⟨rfl, hb⟩
        have hBF := hB.trans (hb.mono hz0)
        go_wp2
        go_ret2
        exact ⟨_, rfl, by rw [HTX2.out]; exact bsOf_baOf _, hBF⟩
  · have HTX2 : Hid (fdTxt l = []) := Lib.hid (by rw [HTX.out, if_neg h0])
    clear HTX HW
    go_enter Tryz.func6, Tryz.ntmps6
    go_wp2_with fail
    refine HCP.out.mono ?_
    rintro e w0 ⟨rfl, hb0⟩
    go_wp2
    go_ret2
    exact ⟨_, rfl, by rw [HTX2.out]; rfl, hb0⟩
end Go.Proofs.YtilhonppgedoiaaGreatDoor
