/- The contract of tour.victim. Conditions: at most 100000 names. -/
import Derived.Test.YtbkglhakhahfpaaGreatDoorHd2
namespace Go.Proofs.YtbkglhakhahfpaaGreatDoor
open Go.RowKit Go.Sort

theorem vicF_step (later held : List Nm) {k : Nat} {x : Nm} (hx : held[k]? = some x) (a : Int × Int) : vicF nlt later held k a (held.drop k) = vicF nlt later held (k + 1) (vicS nlt later held a k x) (held.drop (k + 1)) := by
  obtain ⟨hl, he⟩ := List.getElem?_eq_some_iff.1 hx
  rw [List.drop_eq_getElem_cons hl, he]
  rfl
set_option maxHeartbeats 4000000 in
set_option maxRecDepth 100000 in
theorem victim_any (held later : List Nm) (vh vl : Value) (w : World) (h0 : held ≠ []) (hlen : later.length ≤ 100000) (hlh : held.length ≤ 100000) (rh : RecR TS w 0 vh held) (rl : RecR TS w 0 vl later) :
    Calls Tryz.prog 204 #[vh, vl] w fun e w' => e = .returned (.int .i64 (vic nlt later held)) ∧ w = w' := by
  obtain ⟨a, cap, rfl, hc1, hc2⟩ := rh.form
  have HA := Lib.hid fun x => againT_any x later vl w hlen rl
  have hpos := List.length_pos_iff.2 h0
  have HV : Hid (∃ j : Nat, (vicF nlt later held 0 (-1, -1) held).1 = j) := Lib.hid (by
    rcases vicF_ok nlt nlt_names later held held 0 (-1, -1) rfl (.inl ⟨rfl, rfl⟩) with ⟨_, h⟩ | ⟨j, v, h1, _⟩
    · exact absurd h h0
    · exact ⟨j, h1⟩)
  obtain ⟨la, lcap, rfl, _, _⟩ := rl.form
  go_enter Tryz.func204, Tryz.ntmps204
  go_wp2
  go_loopw [5, 6, 12] (fun b n i wr => ∃ (k : Nat) (bst whn : Int), k ≤ held.length ∧ i = .int .i64 k ∧ b = .int .i64 bst ∧ n = .int .i64 whn ∧ w = wr ∧ Hid (vicF nlt later held k (bst, whn) (held.drop k) = vicF nlt later held 0 (-1, -1) held) ∧ ((bst = -1 ∧ whn = -1) ∨ ∃ j : Nat, j < k ∧ bst = j ∧ 0 ≤ whn ∧ whn ≤ later.length)) (fun _ _ i _ => held.length - (intOf i).toNat)
  case atStart => exact ⟨0, -1, -1, Nat.zero_le _, rfl, rfl, rfl, rfl, Lib.hid rfl, .inl ⟨rfl, rfl⟩⟩
  case round =>
    obtain ⟨k, bst, whn, hk, rfl, rfl, rfl, rfl, hF, hI⟩ := hrel
    by_cases hlt : k < held.length
    · obtain ⟨x, hx⟩ : ∃ x, held[k]? = some x := ⟨_, List.getElem?_eq_getElem hlt⟩
      have HS := Lib.hid (vicF_step later held hx (bst, whn))
      have HX := Lib.hid hx
      obtain ⟨b2, o2, hae, _, hl2, hx2⟩ := strs_at rh hx
      subst hae
      have hdl := idxD_le x later
      have HE := Lib.hid (vicS_eq nlt later held (bst, whn) k x)
      have HAx := Lib.hid (HA.out x)
      generalize idxD x later = d at *
      clear hx
      by_cases c1 : whn < (d : Int)
      · have HN : Hid (vicS nlt later held (bst, whn) k x = ((k : Int), (d : Int))) := Lib.hid (by rw [HE.out]; exact if_pos c1)
        clear HE
        go_wp2_with fail
        refine HAx.out.mono ?_
        rintro e w' ⟨rfl, rfl⟩
        go_wp2
        go_roundw
        case rel => exact ⟨k + 1, k, d, by omega, by go_num, rfl, rfl, trivial, Lib.hid (by rw [← hF.out, HS.out, HN.out]), .inr ⟨k, by omega, rfl, by omega, by omega⟩⟩
        case measure => simp [intOf]; omega
      · by_cases c2 : (d : Int) = whn
        · rcases hI with ⟨_, hw⟩ | ⟨j, hj, hb, hw0, hw1⟩
          · omega
          · subst hb
            obtain ⟨y, hy⟩ : ∃ y, held[j]? = some y := ⟨_, List.getElem?_eq_getElem (by omega)⟩
            obtain ⟨b3, o3, hae, _, hl3, hx3⟩ := strs_at rh hy
            injection hae with hae; injection hae with hb3 ho3 _; subst hb3 ho3
            have hjl : j < held.length := by omega
            cases hn : nlt x y
            all_goals
              have hn' := hn
              unfold nlt at hn'
              have HQ : Hid (((held[((j : Int), whn).1.toNat]?).any fun z => nlt x z) = nlt x y) := Lib.hid (by rw [show ((j : Int), whn).1.toNat = j from rfl, hy]; rfl)
            · have HN : Hid (vicS nlt later held (j, whn) k x = ((j : Int), whn)) := Lib.hid (by rw [HE.out, if_neg c1, if_neg (by rw [HQ.out, hn]; simp)])
              clear HE HQ hn hy
              go_wp2_with fail
              refine HAx.out.mono ?_
              rintro e w' ⟨rfl, rfl⟩
              go_wp2
              go_roundw
              case rel => exact ⟨k + 1, j, whn, by omega, by go_num, rfl, rfl, trivial, Lib.hid (by rw [← hF.out, HS.out, HN.out]), .inr ⟨j, by omega, rfl, by omega, by omega⟩⟩
              case measure => simp [intOf]; omega
            · have HN : Hid (vicS nlt later held (j, whn) k x = ((k : Int), (d : Int))) := Lib.hid (by rw [HE.out, if_neg c1, if_pos ⟨c2, by rw [HQ.out, hn]⟩])
              clear HE HQ hn hy
              go_wp2_with fail
              refine HAx.out.mono ?_
              rintro e w' ⟨rfl, rfl⟩
              go_wp2
              go_roundw
              case rel => exact ⟨k + 1, k, d, by omega, by go_num, rfl, by rw [c2], trivial, Lib.hid (by rw [← hF.out, HS.out, HN.out]), .inr ⟨k, by omega, rfl, by omega, by omega⟩⟩
              case measure => simp [intOf]; omega
        · have HN : Hid (vicS nlt later held (bst, whn) k x = (bst, whn)) := Lib.hid (by rw [HE.out, if_neg c1, if_neg (fun h => c2 h.1)])
          clear HE
          go_wp2_with fail
          refine HAx.out.mono ?_
          rintro e w' ⟨rfl, rfl⟩
          go_wp2
          go_roundw
          case rel => exact ⟨k + 1, bst, whn, by omega, by go_num, rfl, rfl, trivial, Lib.hid (by rw [← hF.out, HS.out, HN.out]), by
            rcases hI with h | ⟨j, h1, h2⟩
            · exact .inl h
            · exact .inr ⟨j, by omega, h2⟩⟩
          case measure => simp [intOf]; omega
    · obtain rfl : k = held.length := by omega
      have HB : Hid (bst = (vic nlt later held : Int)) := Lib.hid (by
        have h1 := hF.out
        rw [List.drop_length] at h1
        obtain ⟨j, hj⟩ := HV.out
        have h2 : bst = (vicF nlt later held 0 (-1, -1) held).1 := by rw [← h1]; rfl
        unfold vic
        rw [h2, hj, Int.toNat_natCast])
      go_wp2
      go_ret
      exact ⟨ret_int HB.out, rfl⟩
end Go.Proofs.YtbkglhakhahfpaaGreatDoor
