/- reel.CheckFeeds: what is wrong with reels and events. Conditions: at most 10^6 reels and events, strings of at most 2^47 bytes. · The reference's FeedsFault answers as reel.CheckFeeds does. Conditions: at most 10^6 reels and events, strings of at most 2^47 bytes. -/
import Derived.Test.YtfhfncnnendnfaaGreatDoorRe7
namespace Go.Proofs.YtfhfncnnendnfaaGreatDoor
open Go.RowKit Go.Sort

def feedsF1 (rs : List Rel) : Option Int → List Fed → Int
  | _, [] => 0
  | p, x :: l => if feedF rs p x = 0 then feedsF1 rs (some x.1) l else feedF rs p x
def feedsF (rs : List Rel) (l : List Fed) : Int := if reelsF rs = 0 then (if 5000 < l.length then 2 else feedsF1 rs none l) else reelsF rs
theorem feedsF1_go {rs : List Rel} {l : List Fed} {k : Nat} {x : Fed} (hx : l[k]? = some x) (h : feedF rs (prevT l k) x = 0) : feedsF1 rs (prevT l k) (l.drop k) = feedsF1 rs (prevT l (k + 1)) (l.drop (k + 1)) := by
  obtain ⟨hk, e⟩ := List.getElem?_eq_some_iff.1 hx
  rw [List.drop_eq_getElem_cons hk, e, feedsF1, if_pos h]
  show _ = feedsF1 rs ((l[k]?).map (·.1)) _
  rw [hx]; rfl
theorem feedsF1_stop {rs : List Rel} {l : List Fed} {k : Nat} {x : Fed} (hx : l[k]? = some x) (h : feedF rs (prevT l k) x ≠ 0) : feedsF1 rs (prevT l k) (l.drop k) = feedF rs (prevT l k) x := by
  obtain ⟨hk, e⟩ := List.getElem?_eq_some_iff.1 hx
  rw [List.drop_eq_getElem_cons hk, e, feedsF1, if_neg h]
set_option maxHeartbeats 8000000 in
set_option maxRecDepth 100000 in
theorem CheckFeeds_any (rs : List Rel) (l : List Fed) (vr vl : Value) (w : World) (hlr : rs.length ≤ 1000000) (hl : l.length ≤ 1000000) (rr : RecR TRe w 0 vr rs) (rl : RecR TFe w 0 vl l) (hzr : RelZ rs) (hz : FedZ l) :
    Calls Tryz.prog 23 #[vr, vl] w fun e w' => e = .returned (.int .i64 (feedsF rs l)) ∧ Below w.heap.size w w' := by
  have HCR := Lib.hid (CheckReels_any rs vr w hlr rr hzr)
  have RR := Lib.hid rr
  have RL := Lib.hid rl
  obtain ⟨ra, rcap, rfl, _, _⟩ := rr.form
  obtain ⟨fa, fcap, rfl, _, _⟩ := rl.form
  obtain ⟨F, hF⟩ : ∃ F, F = feedsF rs l := ⟨_, rfl⟩
  rw [← hF]
  have HF := Lib.hid hF
  clear rr rl hF
  by_cases h0 : reelsF rs = 0
  · have HSR := Lib.hid (reelsF_sorted h0).1
    rw [h0] at HCR
    by_cases hbig : 5000 < l.length
    · have HFF : Hid (F = 2) := Lib.hid (by rw [HF.out]; unfold feedsF; rw [if_pos h0, if_pos hbig])
      have e1 : (5000 : Int) < (l.length : Int) := by omega
      clear h0 hbig
      go_enter Tryz.func23, Tryz.ntmps23
      go_wp2_with fail
      refine HCR.out.mono ?_
      rintro e w2 ⟨rfl, hb2⟩
      have HB2 := Lib.hid hb2
      clear hb2
      go_wp2
      go_ret
      exact ⟨ret_int HFF.out.symm, HB2.out⟩
    · have HF1 : Hid (F = feedsF1 rs none l) := Lib.hid (by rw [HF.out]; unfold feedsF; rw [if_pos h0, if_neg hbig])
      have e1 : ¬ (5000 : Int) < (l.length : Int) := by omega
      clear h0 hbig
      go_enter Tryz.func23, Tryz.ntmps23
      go_wp2_with fail
      refine HCR.out.mono ?_
      rintro e w2 ⟨rfl, hb2⟩
      have HB2 := Lib.hid hb2
      clear hb2
      go_wp2_with fail
      clear e1
      go_loopw [18] (fun i wr => ∃ k : Nat, k ≤ l.length ∧ i = .int .i64 k ∧ Hid (F = feedsF1 rs (prevT l k) (l.drop k)) ∧ Hid (Below w.heap.size w wr)) (fun i _ => l.length - (intOf i).toNat)
      case atStart => exact ⟨0, Nat.zero_le _, rfl, Lib.hid (by rw [HF1.out]; rfl), HB2⟩
      case round =>
        obtain ⟨k, hk, rfl, hP, HB⟩ := hrel
        by_cases hlt : k < l.length
        · obtain ⟨s, hs⟩ : ∃ x, l[k]? = some x := ⟨_, List.getElem?_eq_getElem hlt⟩
          have hw9 : IntKind.i64.wrap ((k : Int) + 1) = ((k + 1 : Nat) : Int) := by rw [IntWalk.i64_in _ (by omega)]; omega
          have HC := Lib.hid (feedFault_any rs l k _ _ wr hlr HSR.out hl hlt (RR.out.below HB.out) (RL.out.below HB.out) hz s hs)
          obtain ⟨q, hq⟩ : ∃ q, q = feedF rs (prevT l k) s := ⟨_, rfl⟩
          rw [← hq] at HC
          have HGO : Hid ((q = 0 → F = feedsF1 rs (prevT l (k + 1)) (l.drop (k + 1))) ∧ (q ≠ 0 → F = q)) := Lib.hid (by rw [hq]; exact ⟨fun h => by rw [hP.out]; exact feedsF1_go hs h, fun h => by rw [hP.out]; exact feedsF1_stop hs h⟩)
          clear hs hq
          by_cases hq0 : q = 0
          · have HG := Lib.hid (HGO.out.1 hq0)
            subst hq0
            clear HGO
            go_wp2_with fail
            refine HC.out.mono ?_
            rintro e w3 ⟨rfl, hb3⟩
            have HB3 := Lib.hid (Bl.trans HB.out hb3)
            clear hb3
            go_wp2
            go_roundw
            case rel => exact ⟨k + 1, by omega, by go_num, HG, HB3⟩
            case measure => simp [intOf]; omega
          · have HG := Lib.hid (HGO.out.2 hq0)
            clear HGO
            go_wp2_with fail
            refine HC.out.mono ?_
            rintro e w3 ⟨rfl, hb3⟩
            have HB3 := Lib.hid (Bl.trans HB.out hb3)
            clear hb3
            go_wp2
            go_ret
            exact ⟨ret_int HG.out.symm, HB3.out⟩
        · obtain rfl : k = l.length := by omega
          have HG : Hid (F = 0) := Lib.hid (by rw [hP.out, List.drop_length]; rfl)
          go_wp2
          go_ret
          exact ⟨ret_int HG.out.symm, HB.out⟩
  · have HFF : Hid (F = reelsF rs) := Lib.hid (by rw [HF.out]; unfold feedsF; rw [if_neg h0])
    obtain ⟨q, hq⟩ : ∃ q, q = reelsF rs := ⟨_, rfl⟩
    rw [← hq] at HFF h0 HCR
    clear hq
    go_enter Tryz.func23, Tryz.ntmps23
    go_wp2_with fail
    refine HCR.out.mono ?_
    rintro e w2 ⟨rfl, hb2⟩
    have HB2 := Lib.hid hb2
    clear hb2
    go_wp2
    go_ret
    exact ⟨ret_int HFF.out.symm, HB2.out⟩
/-- how many an event takes, as the reference counts it: the same where the event has its form. -/
theorem many_form {x : Fed} (hk : 1 ≤ x.2.1 ∧ x.2.1 ≤ 5) (hf : formB x = true) : (if inB (lowM x.2.1) x.2.2.2.2.1 100000 = true then (0 : Int) else 1) = manyP x.2.1 x.2.2.2.2.1 := by
  obtain ⟨t, k, fd, rk, mn, bd⟩ := x
  show (if inB (lowM k) mn 100000 = true then (0 : Int) else 1) = manyP k mn
  unfold manyP
  cases hu : uM k
  · unfold formB at hf
    simp only [hu, Bool.false_or, Bool.and_eq_true, decide_eq_true_eq] at hf
    have hm : mn = 0 := hf.1.2
    have h4 : ¬ k = 4 := fun h => by subst h; cases hu
    subst hm
    unfold lowM
    rw [if_neg h4]
    rfl
  · cases inB (lowM k) mn 100000 <;> rfl
end Go.Proofs.YtfhfncnnendnfaaGreatDoor
namespace Go.Proofs.YtfhfncnnendnfaaGreatDoor
open Go.RowKit Go.Sort

end Go.Proofs.YtfhfncnnendnfaaGreatDoor
