/- The checks ahead of the program's answers: feederFault, reelFault, momentFault. Conditions: at most 10^6 reels and events, strings of at most 2^47 bytes. -/
import Derived.Test.YtcfeoapbbkfbnaaGreatDoorRe9
namespace Go.Proofs.YtcfeoapbbkfbnaaGreatDoor
open Go.RowKit Go.Sort

def askF (E : Int) (has mom : Bool) (e : Int) : Int := if E = 0 then (if has = false then e else if mom = false then 1 else 0) else E
theorem feedsF_zero {rs : List Rel} {l : List Fed} (h : feedsF rs l = 0) : reelsF rs = 0 := by
  unfold feedsF at h
  by_cases h0 : reelsF rs = 0
  · exact h0
  · rw [if_neg h0] at h; exact h
set_option maxHeartbeats 4000000 in
theorem feederFault_any (rs : List Rel) (l : List Fed) (f : ByteArray) (t : Int) (vr vl : Value) (w : World) (hlr : rs.length ≤ 1000000) (hl : l.length ≤ 1000000) (rr : RecR TRe w 0 vr rs) (rl : RecR TFe w 0 vl l) (hzr : RelZ rs) (hz : FedZ l) (hk : f.size ≤ 140737488355328) :
    Calls Tryz.prog 72 #[vr, vl, .string f, .int .i64 t] w fun e w' => e = .returned (.int .i64 (askF (feedsF rs l) (keyB f) (inB 0 t 345686399999) 5)) ∧ Below w.heap.size w w' := by
  have HC := Lib.hid (CheckFeeds_any rs l vr vl w hlr hl rr rl hzr hz)
  have RR := Lib.hid rr
  obtain ⟨ra, rcap, rfl, _, _⟩ := rr.form
  obtain ⟨fa, fcap, rfl, _, _⟩ := rl.form
  obtain ⟨E, hE⟩ : ∃ E, E = feedsF rs l := ⟨_, rfl⟩
  obtain ⟨bh, hbh⟩ : ∃ q, q = (keyB f) := ⟨_, rfl⟩
  obtain ⟨bm, hbm⟩ : ∃ q, q = inB 0 t 345686399999 := ⟨_, rfl⟩
  have HM := Lib.hid (fun W => IsMoment_any t W)
  have HK : Hid (∀ W, Calls Tryz.prog 113 #[.string f] W fun e w' => e = .returned (.bool bh) ∧ Below W.heap.size W w') := Lib.hid (fun W => by rw [hbh]; exact IsKey_any f W hk)
  rw [← hE, ← hbh, ← hbm]
  rw [← hE] at HC
  rw [← hbm] at HM
  obtain ⟨R, hR⟩ : ∃ R, R = askF E bh bm 5 := ⟨_, rfl⟩
  rw [← hR]
  have HR := Lib.hid hR
  clear hE hbh hbm rr rl hR hk
  by_cases h0 : E = 0
  case neg =>
    have HRR : Hid (R = E) := Lib.hid (by rw [HR.out]; unfold askF; rw [if_neg h0])
    go_enter Tryz.func72, Tryz.ntmps72
    go_wp2_with fail
    refine HC.out.mono ?_
    rintro e w2 ⟨rfl, hb2⟩
    have HB2 := Lib.hid hb2
    clear hb2
    go_wp2
    go_ret
    exact ⟨ret_int HRR.out.symm, HB2.out⟩
  subst h0
  have HK2 := HK
  clear HK
  cases bh
  case false =>
    have HRR : Hid (R = 5) := Lib.hid HR.out
    go_enter Tryz.func72, Tryz.ntmps72
    go_wp2_with fail
    refine HC.out.mono ?_
    rintro e w2 ⟨rfl, hb2⟩
    have HB2 := Lib.hid hb2
    clear hb2
    go_wp2_with fail
    refine (HK2.out w2).mono ?_
    rintro e w3 ⟨rfl, hb3⟩
    have HB3 := Lib.hid (Bl.trans HB2.out hb3)
    clear hb3
    go_wp2
    go_ret
    exact ⟨ret_int HRR.out.symm, HB3.out⟩
  cases bm
  case false =>
    have HRR : Hid (R = 1) := Lib.hid HR.out
    go_enter Tryz.func72, Tryz.ntmps72
    go_wp2_with fail
    refine HC.out.mono ?_
    rintro e w2 ⟨rfl, hb2⟩
    have HB2 := Lib.hid hb2
    clear hb2
    go_wp2_with fail
    refine (HK2.out w2).mono ?_
    rintro e w3 ⟨rfl, hb3⟩
    have HB3 := Lib.hid (Bl.trans HB2.out hb3)
    clear hb3
    go_wp2_with fail
    refine (HM.out w3).mono ?_
    rintro e w' ⟨rfl, rfl⟩
    go_wp2
    go_ret
    exact ⟨ret_int HRR.out.symm, HB3.out⟩
  have HRR : Hid (R = 0) := Lib.hid HR.out
  go_enter Tryz.func72, Tryz.ntmps72
  go_wp2_with fail
  refine HC.out.mono ?_
  rintro e w2 ⟨rfl, hb2⟩
  have HB2 := Lib.hid hb2
  clear hb2
  go_wp2_with fail
  refine (HK2.out w2).mono ?_
  rintro e w3 ⟨rfl, hb3⟩
  have HB3 := Lib.hid (Bl.trans HB2.out hb3)
  clear hb3
  go_wp2_with fail
  refine (HM.out w3).mono ?_
  rintro e w' ⟨rfl, rfl⟩
  go_wp2
  go_ret
  exact ⟨ret_int HRR.out.symm, HB3.out⟩
set_option maxHeartbeats 4000000 in
theorem reelFault_any (rs : List Rel) (l : List Fed) (f : ByteArray) (t : Int) (vr vl : Value) (w : World) (hlr : rs.length ≤ 1000000) (hl : l.length ≤ 1000000) (rr : RecR TRe w 0 vr rs) (rl : RecR TFe w 0 vl l) (hzr : RelZ rs) (hz : FedZ l) :
    Calls Tryz.prog 75 #[vr, vl, .string f, .int .i64 t] w fun e w' => e = .returned (.int .i64 (askF (feedsF rs l) (hasB rs f) (inB 0 t 345686399999) 8)) ∧ Below w.heap.size w w' := by
  have HC := Lib.hid (CheckFeeds_any rs l vr vl w hlr hl rr rl hzr hz)
  have RR := Lib.hid rr
  obtain ⟨ra, rcap, rfl, _, _⟩ := rr.form
  obtain ⟨fa, fcap, rfl, _, _⟩ := rl.form
  obtain ⟨E, hE⟩ : ∃ E, E = feedsF rs l := ⟨_, rfl⟩
  obtain ⟨bh, hbh⟩ : ∃ q, q = (hasB rs f) := ⟨_, rfl⟩
  obtain ⟨bm, hbm⟩ : ∃ q, q = inB 0 t 345686399999 := ⟨_, rfl⟩
  have HM := Lib.hid (fun W => IsMoment_any t W)
  have HK : Hid (E = 0 → ∀ W, Below w.heap.size w W → Calls Tryz.prog 116 #[.slice ra rs.length rcap, .string f] W fun e w' => (∃ r : Int, e = .returned (.tuple #[.int .i64 r, .bool bh])) ∧ Below W.heap.size W w') := Lib.hid (fun h W hW => by rw [hbh]; exact reelAt_any rs f _ W hlr (reelsF_sorted (feedsF_zero (by rw [← hE]; exact h))).1 (RR.out.below hW))
  rw [← hE, ← hbh, ← hbm]
  rw [← hE] at HC
  rw [← hbm] at HM
  obtain ⟨R, hR⟩ : ∃ R, R = askF E bh bm 8 := ⟨_, rfl⟩
  rw [← hR]
  have HR := Lib.hid hR
  clear hE hbh hbm rr rl hR
  by_cases h0 : E = 0
  case neg =>
    have HRR : Hid (R = E) := Lib.hid (by rw [HR.out]; unfold askF; rw [if_neg h0])
    go_enter Tryz.func75, Tryz.ntmps75
    go_wp2_with fail
    refine HC.out.mono ?_
    rintro e w2 ⟨rfl, hb2⟩
    have HB2 := Lib.hid hb2
    clear hb2
    go_wp2
    go_ret
    exact ⟨ret_int HRR.out.symm, HB2.out⟩
  subst h0
  have HK2 := Lib.hid (HK.out rfl)
  clear HK
  cases bh
  case false =>
    have HRR : Hid (R = 8) := Lib.hid HR.out
    go_enter Tryz.func75, Tryz.ntmps75
    go_wp2_with fail
    refine HC.out.mono ?_
    rintro e w2 ⟨rfl, hb2⟩
    have HB2 := Lib.hid hb2
    clear hb2
    go_wp2_with fail
    refine (HK2.out w2 HB2.out).mono ?_
    rintro e w3 ⟨⟨r, rfl⟩, hb3⟩
    have HB3 := Lib.hid (Bl.trans HB2.out hb3)
    clear hb3
    go_wp2
    go_ret
    exact ⟨ret_int HRR.out.symm, HB3.out⟩
  cases bm
  case false =>
    have HRR : Hid (R = 1) := Lib.hid HR.out
    go_enter Tryz.func75, Tryz.ntmps75
    go_wp2_with fail
    refine HC.out.mono ?_
    rintro e w2 ⟨rfl, hb2⟩
    have HB2 := Lib.hid hb2
    clear hb2
    go_wp2_with fail
    refine (HK2.out w2 HB2.out).mono ?_
    rintro e w3 ⟨⟨r, rfl⟩, hb3⟩
    have HB3 := Lib.hid (Bl.trans HB2.out hb3)
    clear hb3
    go_wp2_with fail
    refine (HM.out w3).mono ?_
    rintro e w' ⟨rfl, rfl⟩
    go_wp2
    go_ret
    exact ⟨ret_int HRR.out.symm, HB3.out⟩
  have HRR : Hid (R = 0) := Lib.hid HR.out
  go_enter Tryz.func75, Tryz.ntmps75
  go_wp2_with fail
  refine HC.out.mono ?_
  rintro e w2 ⟨rfl, hb2⟩
  have HB2 := Lib.hid hb2
  clear hb2
  go_wp2_with fail
  refine (HK2.out w2 HB2.out).mono ?_
  rintro e w3 ⟨⟨r, rfl⟩, hb3⟩
  have HB3 := Lib.hid (Bl.trans HB2.out hb3)
  clear hb3
  go_wp2_with fail
  refine (HM.out w3).mono ?_
  rintro e w' ⟨rfl, rfl⟩
  go_wp2
  go_ret
  exact ⟨ret_int HRR.out.symm, HB3.out⟩
set_option maxHeartbeats 4000000 in
theorem momentFaultL_any (rs : List Rel) (l : List Fed) (t : Int) (vr vl : Value) (w : World) (hlr : rs.length ≤ 1000000) (hl : l.length ≤ 1000000) (rr : RecR TRe w 0 vr rs) (rl : RecR TFe w 0 vl l) (hzr : RelZ rs) (hz : FedZ l) :
    Calls Tryz.prog 78 #[vr, vl, .int .i64 t] w fun e w' => e = .returned (.int .i64 (askF (feedsF rs l) true (inB 0 t 345686399999) 0)) ∧ Below w.heap.size w w' := by
  have HC := Lib.hid (CheckFeeds_any rs l vr vl w hlr hl rr rl hzr hz)
  have RR := Lib.hid rr
  obtain ⟨ra, rcap, rfl, _, _⟩ := rr.form
  obtain ⟨fa, fcap, rfl, _, _⟩ := rl.form
  obtain ⟨E, hE⟩ : ∃ E, E = feedsF rs l := ⟨_, rfl⟩
  obtain ⟨bh, hbh⟩ : ∃ q, q = true := ⟨_, rfl⟩
  obtain ⟨bm, hbm⟩ : ∃ q, q = inB 0 t 345686399999 := ⟨_, rfl⟩
  have HM := Lib.hid (fun W => IsMoment_any t W)
  rw [← hE, ← hbm]
  rw [← hE] at HC
  rw [← hbm] at HM
  obtain ⟨R, hR⟩ : ∃ R, R = askF E true bm 0 := ⟨_, rfl⟩
  rw [← hR]
  have HR := Lib.hid hR
  clear hE hbh hbm rr rl hR
  by_cases h0 : E = 0
  case neg =>
    have HRR : Hid (R = E) := Lib.hid (by rw [HR.out]; unfold askF; rw [if_neg h0])
    go_enter Tryz.func78, Tryz.ntmps78
    go_wp2_with fail
    refine HC.out.mono ?_
    rintro e w2 ⟨rfl, hb2⟩
    have HB2 := Lib.hid hb2
    clear hb2
    go_wp2
    go_ret
    exact ⟨ret_int HRR.out.symm, HB2.out⟩
  subst h0
  cases bm
  case false =>
    have HRR : Hid (R = 1) := Lib.hid HR.out
    go_enter Tryz.func78, Tryz.ntmps78
    go_wp2_with fail
    refine HC.out.mono ?_
    rintro e w2 ⟨rfl, hb2⟩
    have HB2 := Lib.hid hb2
    clear hb2
    go_wp2_with fail
    refine (HM.out w2).mono ?_
    rintro e w' ⟨rfl, rfl⟩
    go_wp2
    go_ret
    exact ⟨ret_int HRR.out.symm, HB2.out⟩
  have HRR : Hid (R = 0) := Lib.hid HR.out
  go_enter Tryz.func78, Tryz.ntmps78
  go_wp2_with fail
  refine HC.out.mono ?_
  rintro e w2 ⟨rfl, hb2⟩
  have HB2 := Lib.hid hb2
  clear hb2
  go_wp2_with fail
  refine (HM.out w2).mono ?_
  rintro e w' ⟨rfl, rfl⟩
  go_wp2
  go_ret
  exact ⟨ret_int HRR.out.symm, HB2.out⟩
end Go.Proofs.YtcfeoapbbkfbnaaGreatDoor
