/- The contracts of CheckStays and StaysFault: what is wrong with stays. Conditions: at most 500 stays. -/
import Derived.Test.YtfhfncnnendnfaaGreatDoorLExp
namespace Go.Proofs.YtfhfncnnendnfaaGreatDoor
open Go.RowKit Go.Sort

def prevAt (l : List Sty) (k : Nat) : Option Int := if k = 0 then none else (l[k - 1]?).map (·.2)
theorem prevAt_succ {l : List Sty} {k : Nat} {x : Sty} (h : l[k]? = some x) : prevAt l (k + 1) = some x.2 := by
  unfold prevAt
  rw [if_neg (by omega), Nat.add_sub_cancel, h]; rfl
theorem stLoop_bad1 {p : Option Int} {x : Sty} {r : List Sty} (h : inB 1 x.1 4 = false) : stLoop p (x :: r) = 4 := by
  unfold stLoop; rw [h]; simp
theorem stLoop_bad2 {p : Option Int} {x : Sty} {r : List Sty} (h : inB 1 x.1 4 = true) (h2 : inB 0 x.2 345686399999 = false) : stLoop p (x :: r) = 1 := by
  unfold stLoop; rw [h, h2]; simp
theorem stLoop_bad3 {p : Option Int} {x : Sty} {r : List Sty} (h : inB 1 x.1 4 = true) (h2 : inB 0 x.2 345686399999 = true) (h3 : late p x.2 = true) : stLoop p (x :: r) = 7 := by
  unfold stLoop; rw [h, h2, h3]; simp
theorem stLoop_ok {p : Option Int} {x : Sty} {r : List Sty} (h : inB 1 x.1 4 = true) (h2 : inB 0 x.2 345686399999 = true) (h3 : late p x.2 = false) : stLoop p (x :: r) = stLoop (some x.2) r := by
  conv => lhs; unfold stLoop
  rw [h, h2, h3]; simp
set_option maxHeartbeats 8000000 in
set_option maxRecDepth 100000 in
theorem CheckStays_any (l : List Sty) (v : Value) (w : World) (hl : l.length ≤ 500) (rl : RecR TY w 0 v l) :
    Calls Tryz.prog 29 #[v] w fun e w' => e = .returned (.int .i64 (stF l)) ∧ Below w.heap.size w w' := by
  obtain ⟨a, cap, rfl, hc1, hc2⟩ := RecR.form rl
  by_cases h0 : l = []
  · subst h0
    go_enter Tryz.func29, Tryz.ntmps29
    go_wp2
    go_ret
    exact ⟨rfl, Below.refl _ _⟩
  have hpos : 0 < l.length := List.length_pos_iff.2 h0
  have hne : ((l.length : Int) == 0) = false := by rw [beq_eq_false_iff_ne]; omega
  have HF : Hid (stF l = stLoop none l) := Lib.hid (by unfold stF; rw [if_neg h0])
  clear h0
  go_enter Tryz.func29, Tryz.ntmps29
  go_wp2
  go_loopw [13] (fun i wr => ∃ k : Nat, k ≤ l.length ∧ i = .int .i64 k ∧ Hid (stLoop none l = stLoop (prevAt l k) (l.drop k)) ∧ Below w.heap.size w wr) (fun i _ => l.length - (intOf i).toNat)
  case atStart => exact ⟨0, Nat.zero_le _, rfl, Lib.hid rfl, Below.refl _ _⟩
  case round =>
    obtain ⟨k, hk, rfl, hE, hb⟩ := hrel
    by_cases hlt : k < l.length
    · obtain ⟨⟨x1, x2⟩, hx⟩ : ∃ x, l[k]? = some x := ⟨_, List.getElem?_eq_getElem hlt⟩
      have rlr := rl.below hb
      obtain ⟨b, o, rfl, _, hlb, hc⟩ := rlr.at TY.ok.len hx TY.ok.pos
      have c0 : wr.cell? ⟨b, o + k * 2, none⟩ = some (.int .i64 x1) := hc 0 _ rfl
      have c1 : wr.cell? ⟨b, o + k * 2 + 1, none⟩ = some (.int .i64 x2) := hc 1 _ rfl
      have hd := drop_at hx
      have hbr := Bl.alloc hb (.cells #[.int .i64 x1, .int .i64 x2] 32)
      cases h1 : inB 1 x1 4
      · have HV : Hid (stF l = 4) := Lib.hid (by rw [HF.out, hE.out, hd, stLoop_bad1 h1])
        clear hc hx hd rlr hE HF rl
        go_wp2_with (first | (go_at_call 18; refine (Outside_any _ _ _ _).mono ?_; rintro e w' ⟨rfl, rfl⟩; first | rw [h1] | skip) | (go_at_call 19; refine (IsMoment_any _ _).mono ?_; rintro e w' ⟨rfl, rfl⟩; rw [h2]))
        go_ret
        exact ⟨ret_int HV.out.symm, hbr⟩
      cases h2 : inB 0 x2 345686399999
      · have HV : Hid (stF l = 1) := Lib.hid (by rw [HF.out, hE.out, hd, stLoop_bad2 h1 h2])
        clear hc hx hd rlr hE HF rl
        go_wp2_with (first | (go_at_call 18; refine (Outside_any _ _ _ _).mono ?_; rintro e w' ⟨rfl, rfl⟩; first | rw [h1] | skip) | (go_at_call 19; refine (IsMoment_any _ _).mono ?_; rintro e w' ⟨rfl, rfl⟩; rw [h2]))
        go_ret
        exact ⟨ret_int HV.out.symm, hbr⟩
      by_cases h0 : k = 0
      · subst h0
        have HN : Hid (stLoop none l = stLoop (prevAt l (0 + 1)) (l.drop (0 + 1))) := Lib.hid (by rw [hE.out, hd, stLoop_ok h1 h2 rfl, prevAt_succ hx])
        clear hc hx hd rlr hE
        simp only [Nat.zero_mul, Nat.add_zero] at c0 c1
        go_wp2_with (first | (go_at_call 18; refine (Outside_any _ _ _ _).mono ?_; rintro e w' ⟨rfl, rfl⟩; first | rw [h1] | skip) | (go_at_call 19; refine (IsMoment_any _ _).mono ?_; rintro e w' ⟨rfl, rfl⟩; rw [h2]))
        go_region
        go_wp2
        go_roundw
        case rel => exact ⟨0 + 1, by omega, by go_num, HN, by first | exact hbr | exact Below.drew hbr⟩
        case measure => simp [intOf]; omega
      · obtain ⟨m, rfl⟩ : ∃ m, k = m + 1 := ⟨k - 1, by omega⟩
        obtain ⟨⟨y1, y2⟩, hy⟩ : ∃ y, l[m]? = some y := ⟨_, List.getElem?_eq_getElem (by omega)⟩
        obtain ⟨b', o', hab, _, _, hcy⟩ := rlr.at TY.ok.len hy TY.ok.pos
        injection hab with hab
        injection hab with e1 e2 _
        subst e1 e2
        have d1 : wr.cell? ⟨b, o + m * 2 + 1, none⟩ = some (.int .i64 y2) := hcy 1 _ rfl
        have hw : IntKind.i64.wrap ((m : Int) + 1 - 1) = (m : Int) := by rw [IntWalk.i64_in _ (by omega)]; omega
        have hp : prevAt l (m + 1) = some y2 := prevAt_succ hy
        have hgd : (0 : Int) < (m : Int) + 1 := by omega
        by_cases h3 : x2 ≤ y2
        · have HV : Hid (stF l = 7) := Lib.hid (by rw [HF.out, hE.out, hd, hp, stLoop_bad3 h1 h2 (by simp [late, h3])])
          clear hc hcy hx hy hd rlr hE HF hp rl
          go_wp2_with (first | (go_at_call 18; refine (Outside_any _ _ _ _).mono ?_; rintro e w' ⟨rfl, rfl⟩; first | rw [h1] | skip) | (go_at_call 19; refine (IsMoment_any _ _).mono ?_; rintro e w' ⟨rfl, rfl⟩; rw [h2]))
          go_quiet (fail)
          go_wp2
          go_ret
          exact ⟨ret_int HV.out.symm, Bl.drewN hbr _⟩
        · have HN : Hid (stLoop none l = stLoop (prevAt l (m + 1 + 1)) (l.drop (m + 1 + 1))) := Lib.hid (by rw [hE.out, hd, hp, stLoop_ok h1 h2 (by simp [late]; omega), prevAt_succ hx])
          clear hc hcy hx hy hd rlr hE hp
          go_wp2_with (first | (go_at_call 18; refine (Outside_any _ _ _ _).mono ?_; rintro e w' ⟨rfl, rfl⟩; first | rw [h1] | skip) | (go_at_call 19; refine (IsMoment_any _ _).mono ?_; rintro e w' ⟨rfl, rfl⟩; rw [h2]))
          go_quiet (fail)
          go_wp2
          go_roundw
          case rel => exact ⟨m + 1 + 1, by omega, by go_num, HN, Bl.drewN hbr _⟩
          case measure => simp [intOf]; omega
    · have hk2 : k = l.length := by omega
      have HV : Hid (stF l = 0) := Lib.hid (by rw [HF.out, hE.out, hk2, List.drop_length]; cases prevAt l l.length <;> rfl)
      clear hE rl
      go_wp2
      go_ret
      exact ⟨ret_int HV.out.symm, hb⟩
end Go.Proofs.YtfhfncnnendnfaaGreatDoor
