/- The walk of the law HoldersHoldWhatIsNeeded: whatever the input: true. -/
import Derived.Test.YtgcmlhpocbgkaaaGreatDoorHd7
import Derived.Test.YtgcmlhpocbgkaaaGreatDoorHd4
import Derived.Test.YtgcmlhpocbgkaaaGreatDoorReady2
import Derived.Test.YtgcmlhpocbgkaaaGreatDoorStart
namespace Go.Proofs.YtgcmlhpocbgkaaaGreatDoor
open Go.RowKit Go.Sort

theorem hold_round {h : Nat} {ks : List Nm} {i : Nat} {k : Nm} (h1 : 1 ≤ h) (hk : ks[i]? = some k) :
    Lib.containsS (sortN (atH nlt h ks (i + 1))) k = true ∧ (sortN (atH nlt h ks (i + 1))).length ≤ h ∧ ((sortN (atH nlt h ks (i + 1))).filter fun x => !Lib.containsS (sortN (atH nlt h ks i)) x).length = missH (atH nlt h ks i) k ∧ sortN (atH nlt h ks (i + 1)) ≠ [] := by
  have hok := atH_ok nlt nlt_names h1 ks i
  obtain ⟨a, b, c⟩ := stepH_ok nlt nlt_names h1 hok k (ks.drop (i + 1))
  have hf := fresh_len nlt nlt_names h1 hok k (ks.drop (i + 1))
  rw [← atH_succ nlt hk] at a b c hf
  refine ⟨(Lib.containsS_iff _ _).2 ((sortN_mem _ _).2 b), by rw [sortN_len]; exact a.le, ?_, fun e => ?_⟩
  · rw [← hf, ((sortN_perm (atH nlt h ks (i + 1))).filter _).length_eq]
    rw [filt_eq (fun x => Lib.containsS (sortN (atH nlt h ks i)) x) (atH nlt h ks i) _ fun x => (Lib.containsS_iff _ _).trans (sortN_mem _ _)]
  · have := (sortN_mem (atH nlt h ks (i + 1)) k).2 b
    rw [e] at this; simp at this
theorem miss_le {c : List Nm} {k : Nm} : missH c k ≤ 1 := by unfold missH; split <;> omega
theorem sortN_nil : sortN [] = [] := List.eq_nil_of_length_eq_zero (sortN_len [])
set_option maxHeartbeats 20000000 in
set_option maxRecDepth 100000 in
theorem HoldersHoldWhatIsNeeded_any (l : List Int) (v : Value) (w : World) (rl : Ints w 0 v l) (hl : ∀ x ∈ l, -9223372036854775808 ≤ x ∧ x ≤ 9223372036854775807) :
    Calls Tryz.prog 7 #[v] w fun e w' => e = .returned (.bool true) ∧ Below w.heap.size w w' := by
  obtain ⟨va, cap, rfl, hc1, hc2⟩ := Ints.form rl
  have hs0 := Str.begin rl hl
  have hb0 := Bl.alloc (Below.refl w.heap.size w) (.cells #[.slice va l.length cap, .int .i64 0] 25)
  have hmf : ∀ (fn : Fn) (first cap : Array Value) (w : World), (Instr.makeFunc fn first cap).run Tryz.prog w = .ok (.func fn first cap) w := fun _ _ _ _ => rfl
  clear rl hl
  go_enter Tryz.func7, Tryz.ntmps7
  go_wp2_with fail
  refine (NozzleList_any _ 20 0 _ hs0 (by omega) (by omega)).mono ?_
  rintro e w1 ⟨vk, K, rfl, hO1, hK20, hKs, hs1, hg1⟩
  have hb1 := Below.trans hb0 (Gr.below hg1 (Nat.le_refl _) hb0.size)
  obtain ⟨ka, kcap, rfl, hkc1, hkc2⟩ := hO1.form
  have HKS := Lib.hid hKs
  have HO1 := Lib.hid hO1
  clear hs0 hb0 hg1 hKs hO1
  go_wp2_with fail
  refine (Range_any _ _ 1 4 _ hs1 (by omega) (by omega) (by omega) (by omega) (by omega)).mono ?_
  rintro e w2 ⟨n, rfl, ⟨hn0, hn1, _⟩, hs2, hg2⟩
  have hn2 := hn1 (by omega)
  clear hn1
  obtain ⟨h, rfl⟩ := Int.eq_ofNat_of_zero_le (show 0 ≤ n by omega)
  have hb2 := Below.trans hb1 (Gr.below hg2 (Nat.le_refl _) hb1.size)
  have rK := (HO1.out.rec.grown hg2 (by simp)).mono (Nat.zero_le _)
  clear hs1 hs2 hg2 hb1 HO1
  go_wp2_with fail
  refine (NozzlesFault_any K h _ w2 (by omega) HKS.out rK).mono ?_
  rintro e w3 ⟨rfl, hb3⟩
  have hb03 := Bl.trans hb2 hb3
  have rK3 := rK.below hb3
  clear hb2 hb3 rK
  by_cases hF : kindF K h = 0
  · have HF := Lib.hid hF
    have HF2 := Lib.hid (kindF_next hF (by omega))
    obtain ⟨nI, hnI⟩ : ∃ nI : Int, nI = ((chgH nlt h [] K : Nat) : Int) := ⟨_, rfl⟩
    obtain ⟨mI, hmI⟩ : ∃ mI : Int, mI = ((chgH nlt (h + 1) [] K : Nat) : Int) := ⟨_, rfl⟩
    have hmn : mI ≤ nI := by
      have := chg_mono nlt nlt_names (h := h) (by omega) K (c := []) (d := []) ⟨List.nodup_nil, Nat.zero_le _⟩ ⟨List.nodup_nil, Nat.zero_le _⟩ (by simp) (by simp) (by simp)
      omega
    have hnle : 0 ≤ nI ∧ nI ≤ 2000 := by
      have h1 := chgTo_all nlt h K
      have h2 := chgTo_le nlt h K K.length
      omega
    have hgt : ¬ nI < mI := by omega
    have hw4 : IntKind.i64.wrap ((h : Int) + 1) = ((h + 1 : Nat) : Int) := by rw [IntWalk.i64_in _ (by omega)]; omega
    have HN := Lib.hid hnI
    have HH := Lib.hid (fun W (r : RecR TS W 0 (.slice ka K.length kcap) K) => Held_any K h _ W hF HKS.out r)
    have HC := Lib.hid (fun W (r : RecR TS W 0 (.slice ka K.length kcap) K) => Changes_any K h _ W hF HKS.out r)
    have HD := Lib.hid (fun W (r : RecR TS W 0 (.slice ka K.length kcap) K) => Changes_any K (h + 1) _ W (by rw [show ((h + 1 : Nat) : Int) = (h : Int) + 1 by omega]; exact HF2.out) HKS.out r)
    rw [← hnI] at HC
    rw [← hmI] at HD
    rw [hF]
    clear hF hnI hmI
    go_wp2_with fail
    refine (HH.out w3 rK3).mono ?_
    rintro e w4 ⟨⟨vh, rfl, hR⟩, hb4⟩
    obtain ⟨sls, hv, hsl, hrows, _⟩ := hR.ex
    obtain ⟨ga, gcap, hvh, _, _⟩ := hv.form
    rw [heldL_len] at hsl
    rw [hsl] at hvh
    subst hvh
    have hb04 := Bl.trans hb03 hb4
    have rK4 := rK3.below hb4
    have rV4 := hv.rec0
    have HRW := Lib.hid hrows
    have HSL := Lib.hid hsl
    clear hb03 hb4 rK3 hv hR hsl hrows
    go_wp2_with fail
    refine (HC.out w4 rK4).mono ?_
    rintro e w5 ⟨rfl, hb5⟩
    have hb05 := Bl.trans hb04 hb5
    have rK5 := rK4.below hb5
    go_wp2_with fail
    refine (HD.out w5 rK5).mono ?_
    rintro e w6 ⟨rfl, hb6⟩
    have hb06 := Bl.trans hb05 hb6
    have rK6 := rK5.below hb6
    have rV6 := (rV4.below hb5).below hb6
    have HRW6 := Lib.hid (show ∀ (j : Nat) (s : Sl3) (x : List Nm), sls[j]? = some s → (heldL h K K.length)[j]? = some x → RecR TS w6 0 (slV s) x from fun j s x h1 h2 => (((HRW.out j s x h1 h2).rec0.below hb5).below hb6))
    have hbx := blk_new w6 (.cells #[.slice none 0 0] 26)
    have hba := Bl.alloc (Below.refl w6.heap.size w6) (.cells #[.slice none 0 0] 26)
    have hza : w6.heap.size + 1 ≤ (w6.alloc (.cells #[.slice none 0 0] 26)).heap.size := by simp
    have HE0 : Hid (sortN (atH nlt h K 0) = []) := Lib.hid sortN_nil
    clear HRW rV4 rK4 hb04 hb5 hb05 rK5 hb6 HH HC HD
    go_wp2_with fail
    go_loopw [8, 71] (fun c i wr => ∃ (k : Nat) (ci : Int), k ≤ K.length ∧ i = .int .i64 k ∧ c = .int .i64 ci ∧ Hid (ci = nI - ((chgTo nlt h K k : Nat) : Int)) ∧ (∃ vb, wr.heap[w6.heap.size]? = some (.cells #[vb] 26 (0, 0)) ∧ RecR TS w6 0 vb (sortN (atH nlt h K k))) ∧ Below w6.heap.size w6 wr ∧ w6.heap.size + 1 ≤ wr.heap.size) (fun _ i _ => K.length - (intOf i).toNat)
    case atStart => exact ⟨0, nI, Nat.zero_le _, rfl, rfl, Lib.hid (by simp [chgTo]), ⟨_, hbx, by rw [HE0.out]; exact RecR.nil _ _⟩, hba, hza⟩
    case round =>
      obtain ⟨k, ci, hk, rfl, rfl, hci, ⟨vb, hB, rb⟩, hbr, hzr⟩ := hrel
      by_cases hlt : k < K.length
      · obtain ⟨x, hx⟩ : ∃ x, K[k]? = some x := ⟨_, List.getElem?_eq_getElem hlt⟩
        obtain ⟨s, hs⟩ : ∃ s, sls[k]? = some s := ⟨_, List.getElem?_eq_getElem (by have := HSL.out; omega)⟩
        have hxs : (heldL h K K.length)[k]? = some (sortN (atH nlt h K (k + 1))) := by unfold heldL; rw [List.getElem?_map, List.getElem?_range hlt]; rfl
        have rx6 := HRW6.out k s _ hs hxs
        obtain ⟨q1, q2, q3, q4⟩ := hold_round (h := h) (by omega) hx
        have HS := Lib.hid (chgTo_succ nlt (h := h) hx)
        have HML := Lib.hid (miss_le (c := atH nlt h K k) (k := x))
        have hcl1 := chgTo_le nlt h K k
        have hbl := (atH_ok nlt nlt_names (h := h) (by omega) K k).le
        have hsr := sortN_sorted (atH nlt h K (k + 1))
        have HBL : Hid ((sortN (atH nlt h K k)).length ≤ 100000) := Lib.hid (by rw [sortN_len]; omega)
        obtain ⟨fl, hfl⟩ : ∃ fl, fl = ((sortN (atH nlt h K (k + 1))).filter fun y => !Lib.containsS (sortN (atH nlt h K k)) y).length := ⟨_, rfl⟩
        have HFL : Hid (fl = missH (atH nlt h K k) x) := Lib.hid (hfl.trans q3)
        have hfl1 : fl ≤ 1 := by rw [HFL.out]; exact HML.out
        have hci2 := hci.out
        have HDel := Lib.hid (fun (vv : Value) (C : Nat) (W : World) hW1 hW2 hW3 hW4 hW5 hW6 => DelS_any (sortN (atH nlt h K k)) (sortN (atH nlt h K (k + 1))) vb vv w6.heap.size C W q4 HBL.out (by omega) hW1 hW2 hW3 hW4 hW5 hW6)
        rw [← hfl] at HDel
        have HXS := Lib.hid hxs
        generalize hgen : sortN (atH nlt h K (k + 1)) = xs at *
        have HGEN := Lib.hid hgen
        obtain ⟨b2, o2, hae, _, hl2, hx2⟩ := strs_at (rK6.below hbr) hx
        subst hae
        obtain ⟨b3, o3, hae, _, hl3, hx3⟩ := (rV6.below hbr).at TL.ok.len hs TL.ok.pos
        subst hae
        have c3 : wr.cell? ⟨b3, o3 + k, none⟩ = some (.slice s.1 s.2.1 s.2.2) := by simpa [TL] using hx3 0 _ rfl
        obtain ⟨s1, s2, s3⟩ := s
        obtain ⟨xa, xcap, hsv, _, _⟩ := rx6.form
        unfold slV at rx6 hsv
        injection hsv with hsa hs2 hsc
        simp only at hsa hs2 hsc c3 rx6
        subst hsa hs2 hsc
        have rxr := rx6.below hbr
        have HC1 := Lib.hid (CloneS_any xs _ wr (by omega) q4 rxr)
        have HQ1 := Lib.hid q1
        have HSR := Lib.hid hsr
        have hci3 : -100000 ≤ ci ∧ ci ≤ 100000 := by omega
        have hw1 : IntKind.i64.wrap ((k : Int) + 1) = ((k + 1 : Nat) : Int) := by rw [IntWalk.i64_in _ (by omega)]; omega
        have hw2 : IntKind.i64.wrap (ci - (fl : Int)) = ci - (fl : Int) := IntWalk.i64_in _ (by omega)
        have e1 : ¬ (h : Int) < ((xs.length : Nat) : Int) := by omega
        have e2 : ¬ (1 : Int) < (fl : Int) := by omega
        have hrcb : sortN (atH nlt h K k) ≠ [] → ∀ a n c, vb = .slice (some a) n c → a.block < wr.heap.size := fun hne a n c e => by
          subst e
          obtain ⟨y, hy⟩ : ∃ y, (sortN (atH nlt h K k))[0]? = some y := ⟨_, List.getElem?_eq_getElem (List.length_pos_iff.2 hne)⟩
          obtain ⟨b, o, hae, _, hlt', _⟩ := strs_at rb hy
          injection hae with hae
          have := hbr.size
          rw [hae]; show b < _; omega
        have HRCB := Lib.hid hrcb
        clear hx hs hxs q1 q3 hfl hsr hcl1 hci2 hrcb hx3 hgen hbl
        go_wp2_with fail
        refine HC1.out.mono ?_
        rintro e w7 ⟨vc, rfl, hO7, hb7⟩
        have hB7 := blk_below hB hb7
        obtain ⟨ca, ccap, rfl, _, _⟩ := hO7.form
        go_wp2_with fail
        refine (HDel.out _ wr.heap.size w7 hB7 (by omega) hb7.size ((rb.below hbr).below hb7) HRCB.out hO7).mono ?_
        rintro e w8 ⟨⟨fa, fc, rfl⟩, hb8⟩
        have hb78 := hb7.trans hb8
        have rx8 := rxr.below hb78
        have hk8 := (bcell hb78).1 b2 (o2 + k) hl2 |>.trans hx2
        have hB8 := blk_below hB hb78
        clear hO7 hb7 hb8 hB7
        go_wp2_with fail
        refine (ContainsS_any xs _ x w8 (by omega) rx8).mono ?_
        rintro e w' ⟨rfl, rfl⟩
        rw [HQ1.out]
        go_wp2_with fail
        refine (IsSortedS_any xs _ w8 (by omega) HSR.out rx8).mono ?_
        rintro e w9 ⟨rfl, hb9⟩
        have hb79 := Bl.trans hb78 hb9
        have hB9 := blk_below hB8 hb9
        have f9 := blk_free hB9 0
        have k9 := blk_cell hB9 0
        have hBs := blk_set hB9 0 (.slice s1 xs.length s3)
        have hbs := Bl.set (hbr.trans (hb79.mono (by omega))) w6.heap.size 0 (Nat.le_refl _) (.slice s1 xs.length s3)
        have hzs : w6.heap.size + 1 ≤ (w9.setCell ⟨w6.heap.size, 0, none⟩ (.slice s1 xs.length s3)).heap.size := by have := hb79.size; simp; omega
        go_wp2
        go_roundw
        case rel => exact ⟨k + 1, ci - (fl : Int), by omega, by go_num, rfl, Lib.hid (by rw [HS.out]; have := hci.out; have := HFL.out; omega), ⟨_, hBs, by rw [HGEN.out]; exact rx6⟩, hbs, hzs⟩
        case measure => simp [intOf]; omega
      · obtain rfl : k = K.length := by omega
        have HCA := Lib.hid (chgTo_all nlt h K)
        obtain rfl : ci = 0 := by have := hci.out; have := HN.out; have := HCA.out; omega
        have hbW := Bl.trans hb06 hbr
        go_wp2_with fail
        refine (ready_any _).mono ?_
        rintro e wD ⟨rfl, hbD⟩
        go_wp2
        go_ret
        exact ⟨rfl, Bl.trans hbW hbD⟩
  · have heq : (kindF K h != 0) = true := by simpa using hF
    go_wp2_with fail
    refine (ready_any _).mono ?_
    rintro e wD ⟨rfl, hbD⟩
    go_wp2
    go_ret
    exact ⟨rfl, Bl.trans hb03 hbD⟩
end Go.Proofs.YtgcmlhpocbgkaaaGreatDoor
