/- The walk of ReelsStay: whatever the input: true. No conditions. -/
import Derived.Test.YtcfeoapbbkfbnaaGreatDoorRh3
import Derived.Test.YtcfeoapbbkfbnaaGreatDoorRh5
import Derived.Test.YtcfeoapbbkfbnaaGreatDoorRp2
import Derived.Test.YtcfeoapbbkfbnaaGreatDoorReady2
import Derived.Test.YtcfeoapbbkfbnaaGreatDoorStart
namespace Go.Proofs.YtcfeoapbbkfbnaaGreatDoor
open Go.RowKit Go.Sort Go.Maps

def f1B : ByteArray := ⟨#[102, 49]⟩
def u1B : ByteArray := ⟨#[117, 49]⟩
theorem ask_f1 (F : Int) (h : F = 0) : askF F (keyB f1B) (inB 0 345686399999 345686399999) 5 = 0 := by rw [h]; decide
theorem ask_u1 (F : Int) (h : F = 0) : askF F (keyB u1B) true 5 = 0 := by rw [h]; decide
theorem ask_end (F : Int) (h : F = 0) : askF F true (inB 0 345686399999 345686399999) 0 = 0 := by rw [h]; decide
theorem spoilNr_any (l : List ByteArray) (v : Value) (w : World) (B : Nat) (hlen : l.length ≤ 100000) (hO : OwnR TS w B v l) :
    Calls Tryz.prog 41 #[v] w fun e w' => e = .returned (.tuple #[]) ∧ w.grownBy w' v.ownBlock := by
  obtain ⟨a, cap, rfl, _, _⟩ := hO.form
  obtain ⟨n, hn⟩ : ∃ n, n = l.length := ⟨_, rfl⟩
  rw [← hn] at hO hlen ⊢
  have HN := Lib.hid hn
  have HO := Lib.hid hO
  clear hO hn
  go_enter Tryz.func41, Tryz.ntmps41
  go_wp2_with fail
  go_loopw [5] (fun i wr => ∃ (k : Nat) (l' : List ByteArray), k ≤ n ∧ i = .int .i64 k ∧ Hid (l'.length = n ∧ OwnR TS wr B (.slice a n cap) l') ∧ w.grownBy wr (Value.slice a n cap).ownBlock) (fun i _ => n - (intOf i).toNat)
  case atStart => exact ⟨0, l, Nat.zero_le _, rfl, Lib.hid ⟨HN.out.symm, HO.out⟩, Gr.refl _ _⟩
  case round =>
    obtain ⟨k, l', hk, rfl, HI, hK⟩ := hrel
    by_cases hlt : k < n
    · obtain ⟨x, hx⟩ : ∃ x, l'[k]? = some x := ⟨_, List.getElem?_eq_getElem (by rw [HI.out.1]; exact hlt)⟩
      obtain ⟨g, cap', cur, hv, hBg, _⟩ := HI.out.2.blk (by intro e; have := HI.out.1; rw [e, List.length_nil] at this; omega)
      injection hv with e1 _ _
      subst e1
      obtain ⟨c1, f1⟩ := HI.out.2.cellf (fo := 0) (i := k) (x := x) (v := .string x) TS.ok HI.out.1.symm hx rfl
      simp only [TS, Nat.mul_one, Nat.add_zero] at c1 f1
      have hs : OwnR TS (wr.setCell ⟨g, k * 1 + 0, none⟩ (.string ⟨#[115, 112, 111, 105, 108, 116]⟩)) B (.slice (some ⟨g, 0, none⟩) n cap) (l'.set k ⟨#[115, 112, 111, 105, 108, 116]⟩) := OwnR.setf TS.ok HI.out.2 HI.out.1.symm hx (fo := 0) (by decide) rfl
      rw [Nat.mul_one, Nat.add_zero] at hs
      have HS := Lib.hid hs
      have hK2 := Gr.set hK g k (.inl rfl) (.string ⟨#[115, 112, 111, 105, 108, 116]⟩)
      have hw1 : IntKind.i64.wrap ((k : Int) + 1) = ((k + 1 : Nat) : Int) := by rw [IntWalk.i64_in _ (by omega)]; omega
      have HL : Hid ((l'.set k ⟨#[115, 112, 111, 105, 108, 116]⟩).length = n) := Lib.hid (by rw [List.length_set]; exact HI.out.1)
      clear hs hx hK
      go_wp2
      go_roundw
      case rel => exact ⟨k + 1, _, by omega, by go_num, Lib.hid ⟨HL.out, HS.out⟩, hK2⟩
      case measure => simp [intOf]; omega
    · go_wp2
      go_end0
      exact ⟨rfl, hK⟩
set_option maxHeartbeats 8000000 in
set_option maxRecDepth 100000 in
theorem ReelsStay_any (l : List Int) (v : Value) (w : World) (rl : Ints w 0 v l) (hl : ∀ x ∈ l, -9223372036854775808 ≤ x ∧ x ≤ 9223372036854775807) :
    Calls Tryz.prog 4 #[v] w fun e w' => e = .returned (.bool true) ∧ Below w.heap.size w w' := by
  obtain ⟨va, cap, rfl, hc1, hc2⟩ := Ints.form rl
  have hs0 := Str.begin rl hl
  have hb0 := Bl.alloc (Below.refl w.heap.size w) (.cells #[.slice va l.length cap, .int .i64 0] 25)
  clear rl hl
  go_enter Tryz.func4, Tryz.ntmps4
  go_wp2_with fail
  refine (RightFeeds_any _ 0 _ hs0 (by omega)).mono ?_
  rintro e w1 ⟨vr, rs, vf, fs, rfl, hR1, hF1, hr4, hf15, hrk, hfk, hz, hs1, hg1⟩
  have HB1 := Lib.hid (Below.trans hb0 (Gr.below hg1 (Nat.le_refl _) hb0.size))
  have hR1 := hR1.rec0
  have hF1 := hF1.rec0
  obtain ⟨ra, rc, rfl, _, _⟩ := hR1.form
  obtain ⟨fa, fc, rfl, _, _⟩ := hF1.form
  have HR := Lib.hid (fun W (hW : Below w1.heap.size w1 W) => hR1.below hW)
  have HF := Lib.hid (fun W (hW : Below w1.heap.size w1 W) => hF1.below hW)
  have HRZ := Lib.hid (RelOk.z hrk)
  have HFZ := Lib.hid (FedOk.z hfk)
  have HZ := Lib.hid hz
  have hn1 : rs.length ≤ 1000000 := by omega
  have hn2 : fs.length ≤ 900 := by omega
  have HN := Lib.hid (And.intro hn1 (And.intro hn2 (show fs.length ≤ 1000000 by omega)))
  have HOK := Lib.hid (feedsF_right hz)
  clear hs0 hb0 hR1 hF1 hr4 hf15 hrk hfk hz hs1 hg1 hn1 hn2
  go_wp2_with fail
  refine (CloneRe_any _ w1 HN.out.1 (HR.out w1 (Below.refl _ _))).mono ?_
  rintro e w2 ⟨vq, rfl, hQ2, hb2⟩
  obtain ⟨qa, qc, rfl, _, _⟩ := hQ2.form
  have HQ2 := Lib.hid hQ2.rec0
  have HB2 := Lib.hid hb2
  clear hQ2 hb2
  go_wp2_with fail
  refine (CloneFe_any _ w2 HN.out.2.2 (HF.out w2 HB2.out)).mono ?_
  rintro e w3 ⟨vg, rfl, hG3, hb3⟩
  obtain ⟨ga, gc, rfl, _, _⟩ := hG3.form
  have HG := Lib.hid (fun W (hW : Below w3.heap.size w3 W) => hG3.rec0.below hW)
  have HQ := Lib.hid (fun W (hW : Below w3.heap.size w3 W) => (HQ2.out.below hb3).below hW)
  have HB3 := Lib.hid (Bl.trans HB2.out hb3)
  clear hG3 hb3 HQ2 HB2
  have HFE := Lib.hid (Feeder_any rs fs f1B 345686399999 _ _ w3 HN.out.1 HN.out.2.1 (HR.out w3 HB3.out) (HF.out w3 HB3.out) HRZ.out HFZ.out (by decide))
  rw [ask_f1 _ HZ.out, if_pos rfl] at HFE
  obtain ⟨M1, hM1⟩ : ∃ q, q = feederM rs fs 345686399999 f1B := ⟨_, rfl⟩
  rw [← hM1] at HFE
  have HM1 : Hid (M1.length ≤ 1000) := Lib.hid (by
    have h1 := (runM_inv (at' := 345686399999) fs (newM rs) 0 0 (newM_inv fun r hr => (HOK.out.rz r hr).2) HOK.out.lz).ln f1B
    have h2 := HN.out.2.1
    rw [hM1]
    unfold feederM loadL
    rw [List.length_map]
    omega)
  clear hM1
  unfold f1B at HFE
  go_wp2_with fail
  refine HFE.out.mono ?_
  rintro e w4 ⟨⟨vA, rfl, hA4⟩, hb4⟩
  obtain ⟨aa, ac, rfl, _, _⟩ := hA4.form
  have HA4 := Lib.hid hA4
  have HB34 := Lib.hid hb4
  have HB4 := Lib.hid (Bl.trans HB3.out hb4)
  clear hA4 hb4 HFE
  have HTE := Lib.hid (Trace_any rs fs u1B _ _ w4 HN.out.1 HN.out.2.1 (HR.out w4 HB4.out) (HF.out w4 HB4.out) HRZ.out HFZ.out (by decide))
  rw [ask_u1 _ HZ.out, if_pos rfl] at HTE
  obtain ⟨M2, hM2⟩ : ∃ q, q = traceM rs fs u1B := ⟨_, rfl⟩
  rw [← hM2] at HTE
  have HM2 : Hid (M2.length ≤ 1000000) := Lib.hid (by
    rw [hM2]
    exact traceM_few (by have := runM_inv (at' := 345686400000) fs (newM rs) 0 0 (newM_inv fun r hr => (HOK.out.rz r hr).2) HOK.out.lz; rwa [Nat.zero_add] at this) HN.out.2.1)
  clear hM2
  unfold u1B at HTE
  go_wp2_with fail
  refine HTE.out.mono ?_
  rintro e w5 ⟨⟨vT, rfl, hT5⟩, hb5⟩
  obtain ⟨ta, tc, rfl, _, _⟩ := hT5.form
  have HA5 := Lib.hid (HA4.out.below hb5)
  have HT5 := Lib.hid hT5
  have HB35 := Lib.hid (HB34.out.trans (hb5.mono HB34.out.size))
  have HB5 := Lib.hid (Bl.trans HB4.out hb5)
  clear hT5 hb5 HTE HA4
  have HIE := Lib.hid (Idle_any rs fs 345686399999 _ _ w5 HN.out.1 HN.out.2.1 (HR.out w5 HB5.out) (HF.out w5 HB5.out) HRZ.out HFZ.out)
  rw [ask_end _ HZ.out, if_pos rfl] at HIE
  obtain ⟨M3, hM3⟩ : ∃ q, q = idleM (runM 345686399999 (newM rs) 0 fs) rs := ⟨_, rfl⟩
  rw [← hM3] at HIE
  have HM3 : Hid (M3.length ≤ 100000) := Lib.hid (by rw [hM3]; have := idleM_few (runM 345686399999 (newM rs) 0 fs) rs; have := HOK.out.rn; omega)
  clear hM3
  go_wp2_with fail
  refine HIE.out.mono ?_
  rintro e w6 ⟨⟨vI, rfl, hI6⟩, hb6⟩
  obtain ⟨ia, ic, rfl, _, _⟩ := hI6.form
  have HS6 := Lib.hid (And.intro (HA5.out.below hb6) (And.intro ((HT5.out.below hb6).base HB34.out.size) (hI6.base (HB35.out.size))))
  have HB36 := Lib.hid (HB35.out.trans (hb6.mono HB35.out.size))
  clear hI6 hb6 HIE HA5 HT5
  go_wp2_with fail
  go_loopw [58] (fun i wr => ∃ k : Nat, k ≤ M1.length ∧ i = .int .i64 k ∧ Hid (∃ l', l'.length = M1.length ∧ OwnR TLo wr w3.heap.size (.slice aa M1.length ac) l' ∧ OwnR TOr wr w3.heap.size (.slice ta M2.length tc) M2 ∧ OwnR TS wr w3.heap.size (.slice ia M3.length ic) M3 ∧ Below w3.heap.size w3 wr)) (fun i _ => M1.length - (intOf i).toNat)
  case atStart => exact ⟨0, Nat.zero_le _, rfl, Lib.hid ⟨M1, rfl, HS6.out.1, HS6.out.2.1, HS6.out.2.2, HB36.out⟩⟩
  case round =>
    obtain ⟨k, hk, rfl, HI⟩ := hrel
    by_cases hlt : k < M1.length
    case pos =>
      obtain ⟨l', hln, hA, hT, hI, hB⟩ := HI.out
      obtain ⟨x, hx⟩ : ∃ x, l'[k]? = some x := ⟨_, List.getElem?_eq_getElem (by omega)⟩
      obtain ⟨g, cap', cur, hv, hBg, _⟩ := hA.blk (by intro e; rw [e, List.length_nil] at hln; omega)
      injection hv with e1 _ _
      subst e1
      obtain ⟨c1, f1⟩ := hA.cellf (fo := 0) (i := k) (x := x) (v := .string x.1) TLo.ok hln.symm hx rfl
      have hs := OwnR.setf (v := .string ⟨#[115, 112, 111, 105, 108, 116]⟩) (x' := (⟨#[115, 112, 111, 105, 108, 116]⟩, x.2)) TLo.ok hA hln.symm hx (fo := 0) (by decide) rfl
      have hgr : wr.grownBy (wr.setCell ⟨g, k * 2 + 0, none⟩ (.string ⟨#[115, 112, 111, 105, 108, 116]⟩)) (some g) := Gr.set (Gr.refl _ _) g _ (.inl rfl) _
      have HNX : Hid (∃ l', l'.length = M1.length ∧ OwnR TLo (wr.setCell ⟨g, k * 2, none⟩ (.string ⟨#[115, 112, 111, 105, 108, 116]⟩)) w3.heap.size (.slice (some ⟨g, 0, none⟩) M1.length ac) l' ∧ OwnR TOr (wr.setCell ⟨g, k * 2, none⟩ (.string ⟨#[115, 112, 111, 105, 108, 116]⟩)) w3.heap.size (.slice ta M2.length tc) M2 ∧ OwnR TS (wr.setCell ⟨g, k * 2, none⟩ (.string ⟨#[115, 112, 111, 105, 108, 116]⟩)) w3.heap.size (.slice ia M3.length ic) M3 ∧ Below w3.heap.size w3 (wr.setCell ⟨g, k * 2, none⟩ (.string ⟨#[115, 112, 111, 105, 108, 116]⟩))) :=
        Lib.hid ⟨_, by rw [List.length_set]; exact hln, hs, own_apart hT hA hgr (by decide), own_apart hI hA hgr (by decide), Bl.set hB g _ hBg _⟩
      replace c1 : wr.cell? ⟨g, k * 2, none⟩ = some (.string x.1) := c1
      replace f1 : wr.frozen? ⟨g, k * 2, none⟩ = false := f1
      have hw1 : IntKind.i64.wrap ((k : Int) + 1) = ((k + 1 : Nat) : Int) := by have := HM1.out; rw [IntWalk.i64_in _ (by omega)]; omega
      obtain ⟨x1, hx1⟩ : ∃ q, q = x.1 := ⟨_, rfl⟩
      rw [← hx1] at c1
      clear hln hA hT hI hB hx hBg hs hgr hx1 HI
      go_wp2
      go_roundw
      case rel => exact ⟨k + 1, by omega, by go_num, HNX⟩
      case measure => simp [intOf]; omega
    case neg =>
      obtain rfl : k = M1.length := by omega
      have HI7 : Hid (OwnR TOr wr w3.heap.size (.slice ta M2.length tc) M2 ∧ OwnR TS wr w3.heap.size (.slice ia M3.length ic) M3 ∧ Below w3.heap.size w3 wr) := Lib.hid (by
        obtain ⟨l', _, _, h1, h2, h3⟩ := HI.out
        exact ⟨h1, h2, h3⟩)
      clear HI HS6
      generalize wr = w7 at *
      go_wp2_with fail
      go_loopw [68] (fun i wr => ∃ k : Nat, k ≤ M2.length ∧ i = .int .i64 k ∧ Hid (∃ l', l'.length = M2.length ∧ OwnR TOr wr w3.heap.size (.slice ta M2.length tc) l' ∧ OwnR TS wr w3.heap.size (.slice ia M3.length ic) M3 ∧ Below w3.heap.size w3 wr)) (fun i _ => M2.length - (intOf i).toNat)
      case atStart => exact ⟨0, Nat.zero_le _, rfl, Lib.hid ⟨M2, rfl, HI7.out.1, HI7.out.2.1, HI7.out.2.2⟩⟩
      case round =>
        obtain ⟨k, hk, rfl, HI⟩ := hrel
        by_cases hlt : k < M2.length
        case pos =>
          obtain ⟨l', hln, hT, hI, hB⟩ := HI.out
          obtain ⟨x, hx⟩ : ∃ x, l'[k]? = some x := ⟨_, List.getElem?_eq_getElem (by omega)⟩
          obtain ⟨g, cap', cur, hv, hBg, _⟩ := hT.blk (by intro e; rw [e, List.length_nil] at hln; omega)
          injection hv with e1 _ _
          subst e1
          obtain ⟨c1, f1⟩ := hT.cellf (fo := 1) (i := k) (x := x) (v := .string x.2.1) TOr.ok hln.symm hx rfl
          have hs := OwnR.setf (v := .string ⟨#[115, 112, 111, 105, 108, 116]⟩) (x' := (x.1, ⟨#[115, 112, 111, 105, 108, 116]⟩, x.2.2)) TOr.ok hT hln.symm hx (fo := 1) (by decide) rfl
          have hgr : wr.grownBy (wr.setCell ⟨g, k * 3 + 1, none⟩ (.string ⟨#[115, 112, 111, 105, 108, 116]⟩)) (some g) := Gr.set (Gr.refl _ _) g _ (.inl rfl) _
          have HNX : Hid (∃ l', l'.length = M2.length ∧ OwnR TOr (wr.setCell ⟨g, k * 3 + 1, none⟩ (.string ⟨#[115, 112, 111, 105, 108, 116]⟩)) w3.heap.size (.slice (some ⟨g, 0, none⟩) M2.length tc) l' ∧ OwnR TS (wr.setCell ⟨g, k * 3 + 1, none⟩ (.string ⟨#[115, 112, 111, 105, 108, 116]⟩)) w3.heap.size (.slice ia M3.length ic) M3 ∧ Below w3.heap.size w3 (wr.setCell ⟨g, k * 3 + 1, none⟩ (.string ⟨#[115, 112, 111, 105, 108, 116]⟩))) :=
            Lib.hid ⟨_, by rw [List.length_set]; exact hln, hs, own_apart hI hT hgr (by decide), Bl.set hB g _ hBg _⟩
          replace c1 : wr.cell? ⟨g, k * 3 + 1, none⟩ = some (.string x.2.1) := c1
          replace f1 : wr.frozen? ⟨g, k * 3 + 1, none⟩ = false := f1
          have hw1 : IntKind.i64.wrap ((k : Int) + 1) = ((k + 1 : Nat) : Int) := by have := HM2.out; rw [IntWalk.i64_in _ (by omega)]; omega
          obtain ⟨x1, hx1⟩ : ∃ q, q = x.2.1 := ⟨_, rfl⟩
          rw [← hx1] at c1
          clear hln hT hI hB hx hBg hs hgr hx1 HI
          go_wp2
          go_roundw
          case rel => exact ⟨k + 1, by omega, by go_num, HNX⟩
          case measure => simp [intOf]; omega
        case neg =>
          obtain rfl : k = M2.length := by omega
          have HI8 : Hid (OwnR TS wr w3.heap.size (.slice ia M3.length ic) M3 ∧ Below w3.heap.size w3 wr) := Lib.hid (by
            obtain ⟨l', _, _, h1, h2⟩ := HI.out
            exact ⟨h1, h2⟩)
          clear HI HI7
          generalize wr = w8 at *
          have HSP := Lib.hid (spoilNr_any M3 _ w8 w3.heap.size HM3.out HI8.out.1)
          go_wp2_with fail
          refine HSP.out.mono ?_
          rintro e w9 ⟨rfl, hg9⟩
          have HB9 := Lib.hid (HI8.out.2.trans (app_belowR HI8.out.1 hg9 HI8.out.2.size))
          clear hg9 HSP HI8
          have HE1 := EqualRe_any rs rs (.slice ra rs.length rc) (.slice qa rs.length qc) w9 HN.out.1 HN.out.1 (HR.out w9 (HB3.out.trans (HB9.out.mono HB3.out.size))) (HQ.out w9 HB9.out)
          rw [decide_eq_true rfl] at HE1
          have HE1 := Lib.hid HE1
          go_wp2_with fail
          refine HE1.out.mono ?_
          rintro e wA ⟨rfl, hbA⟩
          have HBA := Lib.hid (HB9.out.trans (hbA.mono HB9.out.size))
          clear hbA HE1
          have HE2 := EqualFe_any fs fs (.slice fa fs.length fc) (.slice ga fs.length gc) wA HN.out.2.2 HN.out.2.2 (HF.out wA (HB3.out.trans (HBA.out.mono HB3.out.size))) (HG.out wA HBA.out)
          rw [decide_eq_true rfl] at HE2
          have HE2 := Lib.hid HE2
          go_wp2_with fail
          refine HE2.out.mono ?_
          rintro e wB ⟨rfl, hbB⟩
          have HBB := Lib.hid (HBA.out.trans (hbB.mono HBA.out.size))
          clear hbB HE2
          go_wp2_with fail
          refine (ready_any wB).mono ?_
          rintro e wC ⟨rfl, hbC⟩
          have HBC := Lib.hid (HB1.out.trans ((HB3.out.trans ((HBB.out.trans (hbC.mono HBB.out.size)).mono HB3.out.size)).mono HB1.out.size))
          clear hbC
          go_wp2
          go_ret
          exact ⟨rfl, HBC.out⟩
end Go.Proofs.YtcfeoapbbkfbnaaGreatDoor
