/- ContainsFunc of the reference's HopelessAt: whether some component is worn; it turns nothing. Conditions: at most 10^5 names. -/
import Derived.Test.YthdolfnfiggkjaaGreatDoorIn
namespace Go.Proofs.YthdolfnfiggkjaaGreatDoor
open Go.RowKit Go.Sort Go.Maps

/-- what is asked of the closure: it says q of each name, and turns nothing that is there. -/
def QfDn (w : World) (X0 X1 : Nat) (ks : List Bs) (q : Bs → Bool) : Prop := ∀ m, ∀ k ∈ ks, Calls Tryz.prog 108 #[.string (baOf k), .pointer (some ⟨X0, 0, none⟩), .pointer (some ⟨X1, 0, none⟩)] (w.drewN m) fun e w' => e = .returned (.bool (q k)) ∧ ∃ n, w' = (w.drewN m).drewN n
set_option maxHeartbeats 1000000 in
theorem IndexDn_any (w : World) (X0 X1 : Nat) (ks : List Bs) (q : Bs → Bool) (v : Value) (hlen : ks.length ≤ 100000) (rl : RecR TS w 0 v (ks.map baOf)) (hq : QfDn w X0 X1 ks q) :
    Calls Tryz.prog 159 #[v, (.func (.func 108) #[] #[.pointer (some ⟨X0, 0, none⟩), .pointer (some ⟨X1, 0, none⟩)])] w fun e w' => (∃ r : Int, e = .returned (.int .i64 r) ∧ decide (0 ≤ r) = ks.any q) ∧ ∃ n, w' = w.drewN n := by
  obtain ⟨a, n, cap, hv, hn⟩ : ∃ a n cap, v = .slice a n cap ∧ n = ks.length := by obtain ⟨a, cap, hv, _, _⟩ := rl.form; exact ⟨a, _, cap, hv, List.length_map _⟩
  subst hv
  have HQ := Lib.hid hq
  have RL := Lib.hid rl
  have HNL := Lib.hid hn
  have hn5 : n ≤ 100000 := by omega
  clear hq rl hn hlen
  go_enter Tryz.func159, Tryz.ntmps159
  go_wp2
  go_loopw [8] (fun i wr => ∃ k m : Nat, k ≤ n ∧ i = .int .i64 k ∧ Hid ((ks.take k).any q = false) ∧ wr = w.drewN m) (fun i _ => n - (intOf i).toNat)
  case atStart => exact ⟨0, 0, Nat.zero_le _, rfl, Lib.hid rfl, rfl⟩
  case round =>
    obtain ⟨k, m, hk, rfl, hf, rfl⟩ := hrel
    by_cases hlt : k < n
    · obtain ⟨t, ht⟩ : ∃ t, ks[k]? = some t := ⟨_, List.getElem?_eq_getElem (by rw [← HNL.out]; exact hlt)⟩
      have HS : Hid (ks.take (k + 1) = ks.take k ++ [t]) := Lib.hid (by rw [List.take_add_one, ht]; rfl)
      have HM := Lib.hid (List.mem_of_getElem? ht)
      have HC := HQ.out m t (List.mem_of_getElem? ht)
      obtain ⟨b2', o2, rfl, _, hl2, hx2⟩ := str_at (RL.out.below (Bl.drewN (Below.refl _ _) m)) (k := k) (x := baOf t) (by simp [ht])
      clear ht
      cases hp : q t
      · rw [hp] at HC
        have HC := Lib.hid HC
        have HN : Hid ((ks.take (k + 1)).any q = false) := Lib.hid (by rw [HS.out, List.any_append, hf.out]; simp [hp])
        clear hp
        go_wp2_with (go_at_call 108; refine HC.out.mono ?_; rintro e w2 ⟨rfl, n2, rfl⟩)
        go_roundw
        case rel => exact ⟨k + 1, m + n2, by omega, by go_num, HN, rfl⟩
        case measure => simp [intOf]; omega
      · rw [hp] at HC
        have HC := Lib.hid HC
        have HN : Hid (ks.any q = true) := Lib.hid (List.any_eq_true.2 ⟨t, HM.out, hp⟩)
        clear hp
        go_wp2_with (go_at_call 108; refine HC.out.mono ?_; rintro e w2 ⟨rfl, n2, rfl⟩)
        go_ret
        exact ⟨⟨_, rfl, by rw [HN.out]; simp⟩, m + n2, rfl⟩
    · have hk2 : k = n := by omega
      subst hk2
      have HN : Hid (ks.any q = false) := Lib.hid (by
        have hff := hf.out
        rw [HNL.out, List.take_length] at hff
        exact hff)
      go_wp2
      go_ret
      exact ⟨⟨_, rfl, by rw [HN.out]; rfl⟩, m, rfl⟩
set_option maxHeartbeats 1000000 in
theorem HasDn_any (w : World) (X0 X1 : Nat) (ks : List Bs) (q : Bs → Bool) (v : Value) (hlen : ks.length ≤ 100000) (rl : RecR TS w 0 v (ks.map baOf)) (hq : QfDn w X0 X1 ks q) :
    Calls Tryz.prog 109 #[v, (.func (.func 108) #[] #[.pointer (some ⟨X0, 0, none⟩), .pointer (some ⟨X1, 0, none⟩)])] w fun e w' => e = .returned (.bool (ks.any q)) ∧ ∃ n, w' = w.drewN n := by
  have HI := Lib.hid (IndexDn_any w X0 X1 ks q v hlen rl hq)
  obtain ⟨a, n, cap, hv⟩ : ∃ a n cap, v = .slice a n cap := by obtain ⟨a, cap, hv, _, _⟩ := rl.form; exact ⟨a, _, cap, hv⟩
  subst hv
  generalize ks.any q = R at *
  clear rl hq hlen
  go_enter Tryz.func109, Tryz.ntmps109
  go_wp2_with fail
  refine HI.out.mono ?_
  rintro e w2 ⟨⟨r, rfl, hr⟩, n2, rfl⟩
  have HR := Lib.hid hr.symm
  clear hr
  go_wp2
  go_ret
  exact ⟨by rw [HR.out] <;> rfl, n2, rfl⟩
end Go.Proofs.YthdolfnfiggkjaaGreatDoor
