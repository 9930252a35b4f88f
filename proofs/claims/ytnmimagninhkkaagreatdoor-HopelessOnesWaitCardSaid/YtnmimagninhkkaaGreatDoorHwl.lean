/- Right steps with repairs behind them are right: the plain law. No conditions. · slices.ContainsFunc with the closure of HopelessOnesWait: none is outside. Conditions: at most 100000 names. · The plain law of HopelessOnesWait, as the walk asks it. No conditions. -/
import Derived.Test.YtnmimagninhkkaaGreatDoorHop
import Derived.Test.YtnmimagninhkkaaGreatDoorHls
namespace Go.Proofs.YtnmimagninhkkaaGreatDoor
open Go.RowKit Go.Sort Go.Maps

def lastA : Option Int → List Stp → Option Int
  | p, [] => p
  | _, s :: l => lastA (some s.at) l
theorem stepsF1_append : ∀ (x y : List Stp) (p : Option Int), stepsF1 p x = 0 → stepsF1 p (x ++ y) = stepsF1 (lastA p x) y
  | [], y, p, _ => rfl
  | s :: x, y, p, h => by
    rw [stepsF1] at h
    split at h
    · rename_i h0
      rw [List.cons_append, stepsF1, if_pos h0, stepsF1_append x y _ h]; rfl
    · rename_i h0; exact absurd h h0
theorem lastA_last : ∀ (x : List Stp) (p : Option Int) (h : x ≠ []), lastA p x = some (x.getLast h).at
  | [s], p, _ => rfl
  | s :: t :: x, p, _ => by
    rw [lastA, lastA_last (t :: x) _ (by simp)]
    rfl
theorem rep_right {a : Int} {bd k : ByteArray} (ha : momB a = true) (hb : keyB bd = true) (hk : keyB k = true) : stepF (some a) (repS a bd k) = 0 := by
  unfold stepF
  show (if momB a = false then 1 else if keyB bd = false then 5 else if inB 1 4 6 = false then 4 else if namB 4 = false ∧ k.size ≠ 0 then 3 else if namB 4 = true ∧ keyB k = false then 5 else if a < a then 7 else 0) = (0 : Int)
  rw [if_neg (by rw [ha]; decide), if_neg (by rw [hb]; decide), if_neg (by decide), if_neg (by intro h; exact absurd h.1 (by decide)), if_neg (by rw [hk]; intro h; cases h.2), if_neg (by omega)]
theorem reps_right {a : Int} {bd : ByteArray} (ha : momB a = true) (hb : keyB bd = true) : ∀ ks : List ByteArray, (∀ k ∈ ks, keyB k = true) → stepsF1 (some a) (ks.map (repS a bd)) = 0
  | [], _ => rfl
  | k :: ks, h => by
    rw [List.map_cons, stepsF1, if_pos (rep_right ha hb (h k (List.mem_cons_self ..)))]
    exact reps_right ha hb ks fun x hx => h x (List.mem_cons_of_mem _ hx)
theorem with_reps {x : List Stp} {bd : ByteArray} {ks : List ByteArray} (hx : stepsF x = 0) (hne : x ≠ []) (hb : keyB bd = true) (hk : ∀ k ∈ ks, keyB k = true) (hl : x.length + ks.length ≤ 5000) : stepsF (x ++ ks.map (repS (x.getLast hne).at bd)) = 0 := by
  have hr := (stepsF_right hx).2.1 _ (List.getLast_mem hne)
  have hm : momB (x.getLast hne).at = true := by
    unfold momB inB
    have h1 := hr.a0
    have h2 := hr.a1
    simp; omega
  unfold stepsF at hx ⊢
  split at hx
  · cases hx
  rw [if_neg (by rw [List.length_append, List.length_map]; omega), stepsF1_append _ _ _ hx, lastA_last _ _ hne]
  exact reps_right hm hb ks hk
/-- all steps are at the last one's moment or ahead of it. -/
theorem at_last {x : List Stp} (hx : stepsF x = 0) (hne : x ≠ []) : ∀ s ∈ x, s.at ≤ (x.getLast hne).at := by
  have hp := (stepsF_right hx).2.2
  intro s hs
  obtain ⟨i, hi, e⟩ := List.getElem_of_mem hs
  by_cases h : i = x.length - 1
  · subst h
    rw [← e, List.getLast_eq_getElem]
    exact Int.le_refl _
  · rw [List.getLast_eq_getElem, ← e]
    exact List.pairwise_iff_getElem.1 hp i (x.length - 1) hi (by omega) (by omega)
/-- the board behind its repairs. -/
theorem reps_board {rh rr : Int} {x : List Stp} {bd : ByteArray} {b : Bd0} (hx : stepsF x = 0) (hne : x ≠ []) (ks : List ByteArray) (hb : (runS rh rr (x.getLast hne).at [] x).get (bsOf bd) = some b) :
    (runS rh rr (x.getLast hne).at [] (x ++ ks.map (repS (x.getLast hne).at bd))).get (bsOf bd) = some ((ks.map (repS (x.getLast hne).at bd)).foldl (stB1 rh rr) b) := by
  rw [runS_append _ _ _ (at_last hx hne)]
  refine runS_board _ _ _ (fun s hs => ?_) hb
  obtain ⟨k, _, rfl⟩ := List.mem_map.1 hs
  exact ⟨Int.le_refl _, rfl⟩
end Go.Proofs.YtnmimagninhkkaaGreatDoor
namespace Go.Proofs.YtnmimagninhkkaaGreatDoor
open Go.RowKit Go.Sort Go.Maps

set_option maxHeartbeats 1000000 in
theorem hwC_any (k : ByteArray) (ws : List ByteArray) (vw : Value) (X : Nat) (W : World) (hlen : ws.length ≤ 100000) (hX : W.cell? ⟨X, 0, none⟩ = some vw) (rw' : RecR TS W 0 vw ws) (hk : k ∈ ws) :
    Calls Tryz.prog 26 #[.string k, .pointer (some ⟨X, 0, none⟩)] W fun e w' => e = .returned (.bool false) ∧ Below W.heap.size W w' := by
  have HC := HasS_any ws vw k W hlen rw'
  rw [(Lib.containsS_iff _ _).2 hk] at HC
  have HC := Lib.hid HC
  obtain ⟨a, n, cap, hv⟩ : ∃ a n cap, vw = .slice a n cap := by obtain ⟨a, cap, hv, _, _⟩ := rw'.form; exact ⟨a, _, cap, hv⟩
  subst hv
  clear rw' hlen hk
  go_enter Tryz.func26, Tryz.ntmps26
  go_wp2_with fail
  refine HC.out.mono ?_
  rintro e w' ⟨rfl, rfl⟩
  go_wp2
  go_ret
  exact ⟨rfl, Below.refl _ _⟩
set_option maxHeartbeats 1000000 in
theorem IndexW_any (w : World) (X : Nat) (ks ws : List ByteArray) (v vw : Value) (hlen : ks.length ≤ 100000) (hlw : ws.length ≤ 100000) (rl : RecR TS w 0 v ks) (hX : w.cell? ⟨X, 0, none⟩ = some vw) (rw' : RecR TS w 0 vw ws) (hk : ∀ k ∈ ks, k ∈ ws) :
    Calls Tryz.prog 102 #[v, .func (.func 26) #[] #[.pointer (some ⟨X, 0, none⟩)]] w fun e w' => e = .returned (.int .i64 (-1)) ∧ Below w.heap.size w w' := by
  have lX := World.block_lt_of_cell? _ _ hX
  simp only at lX
  have HQ := Lib.hid fun (W : World) (hW : Below w.heap.size w W) (k : ByteArray) (hm : k ∈ ks) => hwC_any k ws vw X W hlw (((bcell hW).1 X 0 lX).trans hX) (rw'.below hW) (hk k hm)
  obtain ⟨a, n, cap, hv, hn⟩ : ∃ a n cap, v = .slice a n cap ∧ n = ks.length := by obtain ⟨a, cap, hv, _, _⟩ := rl.form; exact ⟨a, _, cap, hv, rfl⟩
  subst hv
  have RL := Lib.hid rl
  have HNL := Lib.hid hn
  have hn5 : n ≤ 100000 := by omega
  clear rl hn hlen hX rw' hk hlw
  go_enter Tryz.func102, Tryz.ntmps102
  go_wp2
  go_loopw [8] (fun i wr => ∃ k : Nat, k ≤ n ∧ i = .int .i64 k ∧ Below w.heap.size w wr) (fun i _ => n - (intOf i).toNat)
  case atStart => exact ⟨0, Nat.zero_le _, rfl, Below.refl _ _⟩
  case round =>
    obtain ⟨k, hk, rfl, hb⟩ := hrel
    by_cases hlt : k < n
    · obtain ⟨t, ht⟩ : ∃ t, ks[k]? = some t := ⟨_, List.getElem?_eq_getElem (by rw [← HNL.out]; exact hlt)⟩
      have HC := Lib.hid (HQ.out wr hb t (List.mem_of_getElem? ht))
      obtain ⟨b2', o2, rfl, _, hl2, hx2⟩ := str_at (RL.out.below hb) ht
      clear ht
      go_wp2_with (go_at_call 26; refine HC.out.mono ?_; rintro e w2 ⟨rfl, hb2⟩)
      go_roundw
      case rel => exact ⟨k + 1, by omega, by go_num, hb.trans (hb2.mono hb.size)⟩
      case measure => simp [intOf]; omega
    · go_wp2
      go_ret
      exact ⟨rfl, hb⟩
set_option maxHeartbeats 1000000 in
theorem HasW_any (w : World) (X : Nat) (ks ws : List ByteArray) (v vw : Value) (hlen : ks.length ≤ 100000) (hlw : ws.length ≤ 100000) (rl : RecR TS w 0 v ks) (hX : w.cell? ⟨X, 0, none⟩ = some vw) (rw' : RecR TS w 0 vw ws) (hk : ∀ k ∈ ks, k ∈ ws) :
    Calls Tryz.prog 25 #[v, .func (.func 26) #[] #[.pointer (some ⟨X, 0, none⟩)]] w fun e w' => e = .returned (.bool false) ∧ Below w.heap.size w w' := by
  have HI := Lib.hid (IndexW_any w X ks ws v vw hlen hlw rl hX rw' hk)
  clear rl hX rw' hk hlen hlw
  go_enter Tryz.func25, Tryz.ntmps25
  go_wp2_with fail
  refine HI.out.mono ?_
  rintro e w2 ⟨rfl, hb⟩
  go_wp2
  go_ret
  exact ⟨rfl, hb⟩
end Go.Proofs.YtnmimagninhkkaaGreatDoor
namespace Go.Proofs.YtnmimagninhkkaaGreatDoor
open Go.RowKit Go.Sort Go.Maps

/-- the moment of the last step. -/
def lastM (x : List Stp) : Int := if h : x ≠ [] then (x.getLast h).at else 0
theorem lastM_ok {x : List Stp} (hx : stepsF x = 0) : 0 ≤ lastM x ∧ lastM x ≤ 345686399999 := by
  unfold lastM
  split
  · rename_i h
    have hr := (stepsF_right hx).2.1 _ (List.getLast_mem h)
    exact ⟨hr.a0, hr.a1⟩
  · decide
theorem mfl_of {rh rr : Int} {x : List Stp} (h1 : 1 ≤ rh ∧ rh ≤ 10) (h2 : 1 ≤ rr ∧ rr ≤ 3) (hx : stepsF x = 0) : mfltF rh rr x (lastM x) = 0 := by
  have := lastM_ok hx
  unfold mfltF
  rw [fltF_of h1 h2 hx, if_pos rfl, if_pos (show momB (lastM x) = true from inB_true this.1 this.2)]
theorem bfl_of {rh rr at' : Int} {x : List Stp} {bd : ByteArray} (h1 : 1 ≤ rh ∧ rh ≤ 10) (h2 : 1 ≤ rr ∧ rr ≤ 3) (hx : stepsF x = 0) (ha : 0 ≤ at' ∧ at' ≤ 345686399999) (hb : keyB bd = true) : bfltF rh rr x bd at' = 0 := by
  unfold bfltF
  rw [fltF_of h1 h2 hx, if_pos rfl, hb, if_pos rfl, if_pos (show momB at' = true from inB_true ha.1 ha.2)]
theorem wait_mem {rh rr : Int} {x : List Stp} {k : Bs} (hk : k ∈ waitL rh rr x (lastM x)) : k ∈ inS (runS rh rr (lastM x) [] x) 3 := by
  unfold waitL at hk
  split at hk
  · exact (sortW_perm _ _).mem_iff.1 hk
  · simp at hk
theorem hop_mem {rh rr : Int} {x : List Stp} (h1 : 1 ≤ rh ∧ rh ≤ 10) (h2 : 1 ≤ rr ∧ rr ≤ 3) (hx : stepsF x = 0) : ∀ k ∈ (hopL rh rr x (lastM x)).map baOf, k ∈ (waitL rh rr x (lastM x)).map baOf := by
  intro k hk
  obtain ⟨j, hj, rfl⟩ := List.mem_map.1 hk
  refine List.mem_map.2 ⟨j, ?_, rfl⟩
  unfold hopL at hj
  unfold waitL
  rw [if_pos (mfl_of h1 h2 hx)] at hj ⊢
  exact (sortW_perm _ _).mem_iff.2 (List.mem_filter.1 hj).1
theorem hw_law {rh rr : Int} {x : List Stp} (h1 : 1 ≤ rh ∧ rh ≤ 10) (h2 : 1 ≤ rr ∧ rr ≤ 3) (hx : stepsF x = 0) (hl : x.length ≤ 24) {k : Bs} (hk : k ∈ waitL rh rr x (lastM x)) :
    ∃ b, keyB (baOf k) = true ∧ cAt rh rr x (baOf k) (lastM x) = b ∧ 0 < b.op.length ∧ b.op.length ≤ 24 ∧ (∀ c ∈ b.op.keys, c.length ≤ 40) ∧
      stepsF (x ++ (b.op.keys.map baOf).map (repS (lastM x) (baOf k))) = 0 ∧
      ((cAt rh rr (x ++ (b.op.keys.map baOf).map (repS (lastM x) (baOf k))) (baOf k) (lastM x)).st = 2 ↔ Lib.containsS ((hopL rh rr x (lastM x)).map baOf) (baOf k) = false) := by
  have hin := wait_mem hk
  have hok : Sm.Ok (runS rh rr (lastM x) [] x) := runS_ok x Sm.Ok.nil
  obtain ⟨b, hg, hst⟩ := inS_mem hok hin
  have hne : x ≠ [] := by
    rintro rfl
    simp [runS, Sm.get] at hg
  have hla : lastM x = (x.getLast hne).at := dif_pos hne
  have ha := lastM_ok hx
  have hJ := runS_J (rh := rh) (rr := rr) (at' := lastM x) hx _ (Sm.get_mem hg)
  have hI : BdI rh b := runS_all (P := BdI rh) (BdI.new (by omega)) (fun b s h hr => h.step s hr) x (m := []) (fun p hp => by simp at hp) _ (Sm.get_mem hg)
  have hsm := (runS_small (rh := rh) (rr := rr) (at' := lastM x) x (m := []) (n := 0) ⟨Nat.le_refl _, fun p hp => by simp at hp⟩).2 _ (Sm.get_mem hg)
  have hol : b.op.length ≤ 24 := by have := hsm.2.2.2.2.1; simp only at this; omega
  have hkk : ∀ c ∈ b.op.keys.map baOf, keyB c = true := fun c hc => by
    obtain ⟨q, hq, rfl⟩ := List.mem_map.1 hc
    obtain ⟨p, hp, rfl⟩ := List.mem_map.1 hq
    exact hJ.1.ck p hp
  have hy : stepsF (x ++ (b.op.keys.map baOf).map (repS (lastM x) (baOf k))) = 0 := by
    rw [hla]
    exact with_reps hx hne hJ.2 hkk (by rw [List.length_map, keys_len]; omega)
  refine ⟨b, hJ.2, ?_, hI.fail hst, hol, fun c hc => ?_, hy, ?_⟩
  · rw [cAt_right (bfl_of h1 h2 hx ha hJ.2), bsOf_baOf, hg]; rfl
  · have := keyB_size (hkk _ (List.mem_map.2 ⟨c, hc, rfl⟩))
    have e : (baOf c).size = c.length := by show c.toArray.size = _; simp
    omega
  · have hb2 : (runS rh rr (x.getLast hne).at [] x).get (bsOf (baOf k)) = some b := by rw [← hla, bsOf_baOf]; exact hg
    rw [cAt_right (bfl_of h1 h2 hy ha hJ.2)]
    have := reps_board hx hne (b.op.keys.map baOf) hb2
    rw [← hla] at this
    rw [this]
    show (((b.op.keys.map baOf).map (repS (lastM x) (baOf k))).foldl (stB1 rh rr) b).st = 2 ↔ _
    rw [hopeless_law hst hJ.1.toOpI hI.he (hI.fail hst), ← Bool.not_eq_true, ← Bool.not_eq_true (Lib.containsS _ _), Lib.containsS_iff]
    refine not_congr ?_
    unfold hopL
    rw [if_pos (mfl_of h1 h2 hx)]
    constructor
    · intro h
      exact List.mem_map.2 ⟨k, List.mem_filter.2 ⟨hin, by unfold hopK; rw [hg]; exact h⟩, rfl⟩
    · intro h
      obtain ⟨j, hj, e⟩ := List.mem_map.1 h
      have := baOf_inj e
      subst this
      have := (List.mem_filter.1 hj).2
      unfold hopK at this
      rw [hg] at this
      exact this
end Go.Proofs.YtnmimagninhkkaaGreatDoor
