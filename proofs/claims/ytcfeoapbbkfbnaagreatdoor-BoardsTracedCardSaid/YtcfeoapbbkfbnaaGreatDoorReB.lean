/- What is wrong with the wanted parts of feeders: the program's and the reference's answers; faults of keys, moments, of none. Conditions: at most 10^6 of them, strings of at most 2^47 bytes. -/
import Derived.Test.YtcfeoapbbkfbnaaGreatDoorRe5
import Derived.Test.YtcfeoapbbkfbnaaGreatDoorSpan
namespace Go.Proofs.YtcfeoapbbkfbnaaGreatDoor
open Go.RowKit Go.Sort

/-- what a feeder should have: feeder, part. -/
abbrev Wnt := ByteArray × ByteArray
def TWn : Rty Wnt := { e := 106, S := 33, k := 2, b := 32, z := .agg #[.string ByteArray.empty, .string ByteArray.empty], f := fun x => [.string x.1, .string x.2] }
theorem TWn.ok : TWn.Ok := ⟨by kernel_rfl, Tryz.underlying33, rfl, by decide, fun _ => rfl, fun x u hu => by simp [TWn] at hu; rcases hu with rfl | rfl <;> rfl, by decide⟩
def wantF (prev : Option ByteArray) (x : Wnt) : Int :=
  if keyB x.1 = false then 5 else if keyB x.2 = false then 5 else match prev with
    | none => 0
    | some p => if bleB x.1 p = true then 7 else 0
def wantsF1 : Option ByteArray → List Wnt → Int
  | _, [] => 0
  | p, x :: l => if wantF p x = 0 then wantsF1 (some x.1) l else wantF p x
def wantsF (l : List Wnt) : Int := if 200 < l.length then 2 else wantsF1 none l
def prevW (l : List Wnt) : Nat → Option ByteArray
  | 0 => none
  | k + 1 => (l[k]?).map (·.1)
theorem wantsF1_go {l : List Wnt} {k : Nat} {x : Wnt} (hx : l[k]? = some x) (h : wantF (prevW l k) x = 0) : wantsF1 (prevW l k) (l.drop k) = wantsF1 (prevW l (k + 1)) (l.drop (k + 1)) := by
  obtain ⟨hk, e⟩ := List.getElem?_eq_some_iff.1 hx
  rw [List.drop_eq_getElem_cons hk, e, wantsF1, if_pos h]
  show _ = wantsF1 ((l[k]?).map (·.1)) _
  rw [hx]; rfl
theorem wantsF1_stop {l : List Wnt} {k : Nat} {x : Wnt} (hx : l[k]? = some x) (h : wantF (prevW l k) x ≠ 0) : wantsF1 (prevW l k) (l.drop k) = wantF (prevW l k) x := by
  obtain ⟨hk, e⟩ := List.getElem?_eq_some_iff.1 hx
  rw [List.drop_eq_getElem_cons hk, e, wantsF1, if_neg h]
def WntZ (l : List Wnt) : Prop := ∀ x ∈ l, x.1.size ≤ 140737488355328 ∧ x.2.size ≤ 140737488355328
def leF (prev : Option ByteArray) (t : ByteArray) : Int := match prev with
  | none => 0
  | some p => if bleB t p = true then 7 else 0
set_option maxHeartbeats 8000000 in
set_option maxRecDepth 100000 in
theorem wantFault_any (l : List Wnt) (v : Value) (w : World) (hl : l.length ≤ 1000000) (rl : RecR TWn w 0 v l) (hz : WntZ l) :
    Calls Tryz.prog 79 #[v] w fun e w' => e = .returned (.int .i64 (wantsF l)) ∧ Below w.heap.size w w' := by
  obtain ⟨a, cap, rfl, _, _⟩ := rl.form
  have RL := Lib.hid rl
  obtain ⟨F, hF⟩ : ∃ F, F = wantsF l := ⟨_, rfl⟩
  rw [← hF]
  have HF := Lib.hid hF
  clear rl hF
  by_cases hbig : 200 < l.length
  case pos =>
    have HFF : Hid (F = 2) := Lib.hid (by rw [HF.out]; unfold wantsF; rw [if_pos hbig])
    have e1 : (200 : Int) < (l.length : Int) := by omega
    clear hbig
    go_enter Tryz.func79, Tryz.ntmps79
    go_wp2
    go_ret
    exact ⟨ret_int HFF.out.symm, Below.refl _ _⟩
  have HF1 : Hid (F = wantsF1 none l) := Lib.hid (by rw [HF.out]; unfold wantsF; rw [if_neg hbig])
  have e1 : ¬ (200 : Int) < (l.length : Int) := by omega
  clear hbig HF
  go_enter Tryz.func79, Tryz.ntmps79
  go_wp2_with fail
  clear e1
  go_loopw [10] (fun i wr => ∃ k : Nat, k ≤ l.length ∧ i = .int .i64 k ∧ Hid (F = wantsF1 (prevW l k) (l.drop k)) ∧ Hid (Below w.heap.size w wr)) (fun i _ => l.length - (intOf i).toNat)
  case atStart => exact ⟨0, Nat.zero_le _, rfl, Lib.hid (by rw [HF1.out]; rfl), Lib.hid (Below.refl _ _)⟩
  case round =>
    obtain ⟨k, hk, rfl, hP, HB⟩ := hrel
    by_cases hlt : k < l.length
    case neg =>
      obtain rfl : k = l.length := by omega
      have HG : Hid (F = 0) := Lib.hid (by rw [hP.out, List.drop_length]; rfl)
      go_wp2
      go_ret
      exact ⟨ret_int HG.out.symm, HB.out⟩
    obtain ⟨x, hx⟩ : ∃ x, l[k]? = some x := ⟨_, List.getElem?_eq_getElem hlt⟩
    have HW9 : Hid (IntKind.i64.wrap ((k : Int) + 1) = ((k + 1 : Nat) : Int)) := Lib.hid (by rw [IntWalk.i64_in _ (by omega)]; omega)
    obtain ⟨z1, z2⟩ := hz x (List.mem_of_getElem? hx)
    have rw' := RL.out.below HB.out
    obtain ⟨b1, o1, rfl, _, hb1, hc1⟩ := rw'.at TWn.ok.len hx TWn.ok.pos
    have HP : Hid (k = 0 ∧ prevW l k = none ∨ ∃ k' p, k = k' + 1 ∧ prevW l k = some p ∧ ∀ W, Below wr.heap.size wr W → W.cell? ⟨b1, o1 + k' * 2, none⟩ = some (.string p)) := Lib.hid (by
      match k with
      | 0 => exact .inl ⟨rfl, rfl⟩
      | k' + 1 =>
        obtain ⟨p, hp⟩ : ∃ x, l[k']? = some x := ⟨_, List.getElem?_eq_getElem (by omega)⟩
        refine .inr ⟨k', p.1, rfl, by show (l[k']?).map (·.1) = _; rw [hp]; rfl, fun W hW => ?_⟩
        obtain ⟨b4, o4, hae, _, hb4, hc4⟩ := rw'.at TWn.ok.len hp TWn.ok.pos
        injection hae with hae
        injection hae with e1 e2 _
        subst e1 e2
        exact ((bcell hW).1 _ _ hb4).trans (hc4 0 _ rfl))
    clear rw'
    obtain ⟨G, hG⟩ : ∃ G, G = wantF (prevW l k) x := ⟨_, rfl⟩
    have HGO : Hid ((G = 0 → F = wantsF1 (prevW l (k + 1)) (l.drop (k + 1))) ∧ (G ≠ 0 → F = G)) := Lib.hid (by rw [hG]; exact ⟨fun h => by rw [hP.out]; exact wantsF1_go hx h, fun h => by rw [hP.out]; exact wantsF1_stop hx h⟩)
    clear hx hP HF1
    obtain ⟨ky, pt⟩ := x
    have c0 : wr.cell? ⟨b1, o1 + k * 2, none⟩ = some (.string ky) := hc1 0 _ rfl
    have c1 : wr.cell? ⟨b1, o1 + k * 2 + 1, none⟩ = some (.string pt) := hc1 1 _ rfl
    clear hc1
    obtain ⟨w1, hw1⟩ : ∃ w1, w1 = wr.alloc (.cells #[.string ky, .string pt] 106) := ⟨_, rfl⟩
    have HA1 : Hid (Below wr.heap.size wr w1) := Lib.hid (by rw [hw1]; exact Bl.alloc (Below.refl _ _) _)
    have HBA : Hid (Below w.heap.size w w1) := Lib.hid (Bl.trans HB.out HA1.out)
    have HXC := Lib.hid (show ∀ W, Below w1.heap.size w1 W → W.cell? ⟨wr.heap.size, 0, none⟩ = some (.string ky) ∧ W.cell? ⟨wr.heap.size, 1, none⟩ = some (.string pt) from fun W hW => by
      have h : W.heap[wr.heap.size]? = some (.cells #[.string ky, .string pt] 106 (0, 0)) := blk_below (by rw [hw1]; exact blk_new wr _) hW
      exact ⟨blk_cell h 0, blk_cell h 1⟩)
    obtain ⟨k1, hk1⟩ : ∃ q, q = keyB ky := ⟨_, rfl⟩
    obtain ⟨k2, hk2⟩ : ∃ q, q = keyB pt := ⟨_, rfl⟩
    obtain ⟨O, hO⟩ : ∃ q, q = leF (prevW l k) ky := ⟨_, rfl⟩
    have HV : Hid (G = if k1 = false then 5 else if k2 = false then 5 else O) := Lib.hid (by rw [hG, hk1, hk2, hO]; rfl)
    have HK1 : Hid (∀ W, Calls Tryz.prog 113 #[.string ky] W fun e w' => e = .returned (.bool k1) ∧ Below W.heap.size W w') := Lib.hid (fun W => by rw [hk1]; exact IsKey_any ky W z1)
    have HK2 : Hid (∀ W, Calls Tryz.prog 113 #[.string pt] W fun e w' => e = .returned (.bool k2) ∧ Below W.heap.size W w') := Lib.hid (fun W => by rw [hk2]; exact IsKey_any pt W z2)
    have HOO := Lib.hid hO
    have HW := Lib.hid hw1
    have j1 : (0 : Int) ≤ (k : Int) := by omega
    have j2 : (k : Int) < (l.length : Int) := by omega
    clear hk1 hk2 hO hw1 z1 z2 hG
    obtain ⟨x0, x1⟩ := HXC.out w1 (Below.refl _ _)
    go_wp2_with fail
    rw [← HW.out]
    go_wp2_with fail
    refine (HK1.out w1).mono ?_
    rintro e w2 ⟨rfl, hb2⟩
    have HB2 := Lib.hid hb2
    obtain ⟨y0, y1⟩ := HXC.out w2 hb2
    clear hb2 x0 x1
    cases k1
    case false =>
      have HG1 : G = 5 := HV.out
      have HFF : Hid (F = 5) := Lib.hid (by rw [HGO.out.2 (by rw [HG1]; decide), HG1])
      clear HG1
      go_wp2
      go_ret
      exact ⟨ret_int HFF.out.symm, Bl.trans HBA.out HB2.out⟩
    go_wp2_with fail
    refine (HK2.out w2).mono ?_
    rintro e w6 ⟨rfl, hb6⟩
    have HW6 := Lib.hid (Bl.trans HBA.out (Bl.trans HB2.out hb6))
    have HR6 := Lib.hid (Bl.trans HA1.out (Bl.trans HB2.out hb6))
    obtain ⟨z0, z1⟩ := HXC.out w6 (Bl.trans HB2.out hb6)
    clear hb6 y0 y1
    cases k2
    case false =>
      have HG1 : G = 5 := HV.out
      have HFF : Hid (F = 5) := Lib.hid (by rw [HGO.out.2 (by rw [HG1]; decide), HG1])
      clear HG1
      go_wp2
      go_ret
      exact ⟨ret_int HFF.out.symm, HW6.out⟩
    have HFO : Hid (G = O) := Lib.hid HV.out
    clear HV HK1 HK2
    rcases HP.out with ⟨h0, hn⟩ | ⟨k', p, hkk, hp, hcell⟩
    · have HG : Hid (F = wantsF1 (prevW l (k + 1)) (l.drop (k + 1))) := Lib.hid (HGO.out.1 (by rw [HFO.out, HOO.out, hn]; rfl))
      have e1 : ¬ 0 < k := by omega
      have e2 : ¬ (0 : Int) < (k : Int) := by omega
      clear h0 hn
      go_wp2_with fail
      go_quiet (fail)
      have HB9 := Lib.hid (fun n => Bl.drewN HW6.out n)
      clear e1 e2
      have hw9 := HW9.out
      go_wp2
      go_roundw
      case rel => exact ⟨k + 1, by omega, by go_num, HG, Lib.hid (HB9.out _)⟩
      case measure => simp [intOf]; omega
    · have hm1 : IntKind.i64.wrap ((k : Int) - 1) = (k' : Int) := by rw [IntWalk.i64_in _ (by omega)]; omega
      have e1 : 0 < k := by omega
      have e2 : (0 : Int) < (k : Int) := by omega
      have d0 := hcell w6 HR6.out
      have i1 : (0 : Int) ≤ (k' : Int) := by omega
      have i2 : (k' : Int) < (l.length : Int) := by omega
      have HFO2 : Hid (G = if bleB ky p = true then 7 else 0) := Lib.hid (by rw [HFO.out, HOO.out, hp]; rfl)
      clear hcell hkk hp
      cases hbl1 : Op.bytesLess ky.toList p.toList <;> cases hbl2 : (ky.toList == p.toList)
      all_goals (
        have HR1 := HFO2.out
        simp only [bleB, hbl1, hbl2, Bool.or_true, Bool.or_false, if_true, Bool.false_eq_true, if_false] at HR1
        have HR2 := Lib.hid HR1
        clear HR1
        go_wp2_with fail
        go_quiet (fail)
        have HB9 := Lib.hid (fun n => Bl.drewN HW6.out n)
        clear hm1 e1 e2
        have hw9 := HW9.out
        go_wp2
        first
          | (have HFF : Hid (F = 7) := Lib.hid (by rw [HGO.out.2 (by rw [HR2.out]; decide), HR2.out])
             go_ret
             exact ⟨ret_int HFF.out.symm, HB9.out _⟩)
          | (have HG : Hid (F = wantsF1 (prevW l (k + 1)) (l.drop (k + 1))) := Lib.hid (HGO.out.1 HR2.out)
             go_roundw
             case rel => exact ⟨k + 1, by omega, by go_num, HG, Lib.hid (HB9.out _)⟩
             case measure => simp [intOf]; omega))
set_option maxHeartbeats 8000000 in
set_option maxRecDepth 100000 in
theorem WantFault_any (l : List Wnt) (v : Value) (w : World) (hl : l.length ≤ 1000000) (rl : RecR TWn w 0 v l) (hz : WntZ l) :
    Calls Tryz.prog 27 #[v] w fun e w' => e = .returned (.int .i64 (wantsF l)) ∧ Below w.heap.size w w' := by
  obtain ⟨a, cap, rfl, _, _⟩ := rl.form
  have RL := Lib.hid rl
  obtain ⟨F, hF⟩ : ∃ F, F = wantsF l := ⟨_, rfl⟩
  rw [← hF]
  have HF := Lib.hid hF
  clear rl hF
  by_cases hbig : 200 < l.length
  case pos =>
    have HFF : Hid (F = 2) := Lib.hid (by rw [HF.out]; unfold wantsF; rw [if_pos hbig])
    have e1 : (200 : Int) < (l.length : Int) := by omega
    clear hbig
    go_enter Tryz.func27, Tryz.ntmps27
    go_wp2
    go_ret
    exact ⟨ret_int HFF.out.symm, Below.refl _ _⟩
  have HF1 : Hid (F = wantsF1 none l) := Lib.hid (by rw [HF.out]; unfold wantsF; rw [if_neg hbig])
  have e1 : ¬ (200 : Int) < (l.length : Int) := by omega
  clear hbig HF
  go_enter Tryz.func27, Tryz.ntmps27
  go_wp2_with fail
  clear e1
  go_loopw [10] (fun i wr => ∃ k : Nat, k ≤ l.length ∧ i = .int .i64 k ∧ Hid (F = wantsF1 (prevW l k) (l.drop k)) ∧ Hid (Below w.heap.size w wr)) (fun i _ => l.length - (intOf i).toNat)
  case atStart => exact ⟨0, Nat.zero_le _, rfl, Lib.hid (by rw [HF1.out]; rfl), Lib.hid (Below.refl _ _)⟩
  case round =>
    obtain ⟨k, hk, rfl, hP, HB⟩ := hrel
    by_cases hlt : k < l.length
    case neg =>
      obtain rfl : k = l.length := by omega
      have HG : Hid (F = 0) := Lib.hid (by rw [hP.out, List.drop_length]; rfl)
      go_wp2
      go_ret
      exact ⟨ret_int HG.out.symm, HB.out⟩
    obtain ⟨x, hx⟩ : ∃ x, l[k]? = some x := ⟨_, List.getElem?_eq_getElem hlt⟩
    have HW9 : Hid (IntKind.i64.wrap ((k : Int) + 1) = ((k + 1 : Nat) : Int)) := Lib.hid (by rw [IntWalk.i64_in _ (by omega)]; omega)
    obtain ⟨z1, z2⟩ := hz x (List.mem_of_getElem? hx)
    have rw' := RL.out.below HB.out
    obtain ⟨b1, o1, rfl, _, hb1, hc1⟩ := rw'.at TWn.ok.len hx TWn.ok.pos
    have HP : Hid (k = 0 ∧ prevW l k = none ∨ ∃ k' p, k = k' + 1 ∧ prevW l k = some p ∧ ∀ W, Below wr.heap.size wr W → W.cell? ⟨b1, o1 + k' * 2, none⟩ = some (.string p)) := Lib.hid (by
      match k with
      | 0 => exact .inl ⟨rfl, rfl⟩
      | k' + 1 =>
        obtain ⟨p, hp⟩ : ∃ x, l[k']? = some x := ⟨_, List.getElem?_eq_getElem (by omega)⟩
        refine .inr ⟨k', p.1, rfl, by show (l[k']?).map (·.1) = _; rw [hp]; rfl, fun W hW => ?_⟩
        obtain ⟨b4, o4, hae, _, hb4, hc4⟩ := rw'.at TWn.ok.len hp TWn.ok.pos
        injection hae with hae
        injection hae with e1 e2 _
        subst e1 e2
        exact ((bcell hW).1 _ _ hb4).trans (hc4 0 _ rfl))
    clear rw'
    obtain ⟨G, hG⟩ : ∃ G, G = wantF (prevW l k) x := ⟨_, rfl⟩
    have HGO : Hid ((G = 0 → F = wantsF1 (prevW l (k + 1)) (l.drop (k + 1))) ∧ (G ≠ 0 → F = G)) := Lib.hid (by rw [hG]; exact ⟨fun h => by rw [hP.out]; exact wantsF1_go hx h, fun h => by rw [hP.out]; exact wantsF1_stop hx h⟩)
    clear hx hP HF1
    obtain ⟨ky, pt⟩ := x
    have c0 : wr.cell? ⟨b1, o1 + k * 2, none⟩ = some (.string ky) := hc1 0 _ rfl
    have c1 : wr.cell? ⟨b1, o1 + k * 2 + 1, none⟩ = some (.string pt) := hc1 1 _ rfl
    clear hc1
    obtain ⟨w1, hw1⟩ : ∃ w1, w1 = wr.alloc (.cells #[.string ky, .string pt] 106) := ⟨_, rfl⟩
    have HA1 : Hid (Below wr.heap.size wr w1) := Lib.hid (by rw [hw1]; exact Bl.alloc (Below.refl _ _) _)
    have HBA : Hid (Below w.heap.size w w1) := Lib.hid (Bl.trans HB.out HA1.out)
    have HXC := Lib.hid (show ∀ W, Below w1.heap.size w1 W → W.cell? ⟨wr.heap.size, 0, none⟩ = some (.string ky) ∧ W.cell? ⟨wr.heap.size, 1, none⟩ = some (.string pt) from fun W hW => by
      have h : W.heap[wr.heap.size]? = some (.cells #[.string ky, .string pt] 106 (0, 0)) := blk_below (by rw [hw1]; exact blk_new wr _) hW
      exact ⟨blk_cell h 0, blk_cell h 1⟩)
    obtain ⟨k1, hk1⟩ : ∃ q, q = keyB ky := ⟨_, rfl⟩
    obtain ⟨k2, hk2⟩ : ∃ q, q = keyB pt := ⟨_, rfl⟩
    obtain ⟨O, hO⟩ : ∃ q, q = leF (prevW l k) ky := ⟨_, rfl⟩
    have HV : Hid (G = if k1 = false then 5 else if k2 = false then 5 else O) := Lib.hid (by rw [hG, hk1, hk2, hO]; rfl)
    have HK1 : Hid (∀ W, Calls Tryz.prog 70 #[.string ky] W fun e w' => e = .returned (.bool k1) ∧ Below W.heap.size W w') := Lib.hid (fun W => by rw [hk1]; exact Key_any ky W z1)
    have HK2 : Hid (∀ W, Calls Tryz.prog 70 #[.string pt] W fun e w' => e = .returned (.bool k2) ∧ Below W.heap.size W w') := Lib.hid (fun W => by rw [hk2]; exact Key_any pt W z2)
    have HOO := Lib.hid hO
    have HW := Lib.hid hw1
    have j1 : (0 : Int) ≤ (k : Int) := by omega
    have j2 : (k : Int) < (l.length : Int) := by omega
    clear hk1 hk2 hO hw1 z1 z2 hG
    obtain ⟨x0, x1⟩ := HXC.out w1 (Below.refl _ _)
    go_wp2_with fail
    rw [← HW.out]
    go_wp2_with fail
    refine (HK1.out w1).mono ?_
    rintro e w2 ⟨rfl, hb2⟩
    have HB2 := Lib.hid hb2
    obtain ⟨y0, y1⟩ := HXC.out w2 hb2
    clear hb2 x0 x1
    cases k1
    case false =>
      have HG1 : G = 5 := HV.out
      have HFF : Hid (F = 5) := Lib.hid (by rw [HGO.out.2 (by rw [HG1]; decide), HG1])
      clear HG1
      go_wp2
      go_ret
      exact ⟨ret_int HFF.out.symm, Bl.trans HBA.out HB2.out⟩
    go_wp2_with fail
    refine (HK2.out w2).mono ?_
    rintro e w6 ⟨rfl, hb6⟩
    have HW6 := Lib.hid (Bl.trans HBA.out (Bl.trans HB2.out hb6))
    have HR6 := Lib.hid (Bl.trans HA1.out (Bl.trans HB2.out hb6))
    obtain ⟨z0, z1⟩ := HXC.out w6 (Bl.trans HB2.out hb6)
    clear hb6 y0 y1
    cases k2
    case false =>
      have HG1 : G = 5 := HV.out
      have HFF : Hid (F = 5) := Lib.hid (by rw [HGO.out.2 (by rw [HG1]; decide), HG1])
      clear HG1
      go_wp2
      go_ret
      exact ⟨ret_int HFF.out.symm, HW6.out⟩
    have HFO : Hid (G = O) := Lib.hid HV.out
    clear HV HK1 HK2
    rcases HP.out with ⟨h0, hn⟩ | ⟨k', p, hkk, hp, hcell⟩
    · have HG : Hid (F = wantsF1 (prevW l (k + 1)) (l.drop (k + 1))) := Lib.hid (HGO.out.1 (by rw [HFO.out, HOO.out, hn]; rfl))
      have e1 : ¬ 0 < k := by omega
      have e2 : ¬ (0 : Int) < (k : Int) := by omega
      clear h0 hn
      go_wp2_with fail
      go_quiet (fail)
      have HB9 := Lib.hid (fun n => Bl.drewN HW6.out n)
      clear e1 e2
      have hw9 := HW9.out
      go_wp2
      go_roundw
      case rel => exact ⟨k + 1, by omega, by go_num, HG, Lib.hid (HB9.out _)⟩
      case measure => simp [intOf]; omega
    · have hm1 : IntKind.i64.wrap ((k : Int) - 1) = (k' : Int) := by rw [IntWalk.i64_in _ (by omega)]; omega
      have e1 : 0 < k := by omega
      have e2 : (0 : Int) < (k : Int) := by omega
      have d0 := hcell w6 HR6.out
      have i1 : (0 : Int) ≤ (k' : Int) := by omega
      have i2 : (k' : Int) < (l.length : Int) := by omega
      have HFO2 : Hid (G = if bleB ky p = true then 7 else 0) := Lib.hid (by rw [HFO.out, HOO.out, hp]; rfl)
      clear hcell hkk hp
      cases hbl1 : Op.bytesLess ky.toList p.toList <;> cases hbl2 : (ky.toList == p.toList)
      all_goals (
        have HR1 := HFO2.out
        simp only [bleB, hbl1, hbl2, Bool.or_true, Bool.or_false, if_true, Bool.false_eq_true, if_false] at HR1
        have HR2 := Lib.hid HR1
        clear HR1
        go_wp2_with fail
        go_quiet (fail)
        have HB9 := Lib.hid (fun n => Bl.drewN HW6.out n)
        clear hm1 e1 e2
        have hw9 := HW9.out
        go_wp2
        first
          | (have HFF : Hid (F = 7) := Lib.hid (by rw [HGO.out.2 (by rw [HR2.out]; decide), HR2.out])
             go_ret
             exact ⟨ret_int HFF.out.symm, HB9.out _⟩)
          | (have HG : Hid (F = wantsF1 (prevW l (k + 1)) (l.drop (k + 1))) := Lib.hid (HGO.out.1 HR2.out)
             go_roundw
             case rel => exact ⟨k + 1, by omega, by go_num, HG, Lib.hid (HB9.out _)⟩
             case measure => simp [intOf]; omega))
theorem MomentFaultR_any (n : Int) (w : World) : Calls Tryz.prog 23 #[.int .i64 n] w fun e w' => e = .returned (.int .i64 (spanF n 0 345686399999)) ∧ w = w' := by
  obtain ⟨q, hq⟩ : ∃ q, q = spanF n 0 345686399999 := ⟨_, rfl⟩
  have HP := Lib.hid (SpanFault_any n 0 345686399999 w)
  rw [← hq] at HP ⊢
  clear hq
  go_enter Tryz.func23, Tryz.ntmps23
  go_wp2_with fail
  refine HP.out.mono ?_
  rintro e w' ⟨rfl, rfl⟩
  go_wp2
  go_ret
  exact ⟨rfl, rfl⟩
theorem KeyFaultR_any (s : ByteArray) (w : World) (hs : s.size ≤ 140737488355328) : Calls Tryz.prog 22 #[.string s] w fun e w' => e = .returned (.int .i64 (if keyB s = true then 0 else 5)) ∧ Below w.heap.size w w' := by
  have H := Lib.hid (Key_any s w hs)
  generalize keyB s = k at *
  cases k
  all_goals (
    go_enter Tryz.func22, Tryz.ntmps22
    go_wp2_with fail
    refine H.out.mono ?_
    rintro e w' ⟨rfl, hb⟩
    go_wp2
    go_ret
    exact ⟨rfl, hb⟩)
theorem NoneFaultR_any (b : Bool) (w : World) : Calls Tryz.prog 24 #[.bool b] w fun e w' => e = .returned (.int .i64 (if b = true then 8 else 0)) ∧ w = w' := by
  cases b
  all_goals (
    go_enter Tryz.func24, Tryz.ntmps24
    go_wp2
    go_ret
    exact ⟨rfl, rfl⟩)
end Go.Proofs.YtcfeoapbbkfbnaaGreatDoor
