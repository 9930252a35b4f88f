/- The contracts of Length and Improved. Condition: coordinates within 2^41, at most 1000 points and places. -/
import Derived.Test.YtbkglhakhahfpaaGreatDoorOrd2
namespace Go.Proofs.YtbkglhakhahfpaaGreatDoor
open Go.RowKit Go.Sort

theorem ordF_zero {n : Nat} : ∀ (l seen : List Int), ordF n seen l = 0 → (∀ x ∈ l, 0 ≤ x ∧ x < n ∧ x ∉ seen) ∧ l.Nodup
  | [], _, _ => ⟨by simp, List.nodup_nil⟩
  | k :: r, seen, h => by
    simp only [ordF] at h
    by_cases h1 : inB 0 k ((n : Int) - 1) = true
    · rw [if_pos h1] at h
      by_cases h2 : memB k seen = true
      · rw [if_pos h2] at h; omega
      · rw [if_neg h2] at h
        have hk : 0 ≤ k ∧ k < n := by simp [inB] at h1; omega
        have hks : k ∉ seen := by intro hh; exact h2 (memB_yes hh)
        obtain ⟨g1, g2⟩ := ordF_zero r (seen ++ [k]) h
        refine ⟨fun x hx => ?_, ?_⟩
        · rcases List.mem_cons.1 hx with rfl | hx
          · exact ⟨hk.1, hk.2, hks⟩
          · obtain ⟨a, b, c⟩ := g1 x hx
            exact ⟨a, b, fun hh => c (by simp [hh])⟩
        · rw [List.nodup_cons]
          exact ⟨fun hh => (g1 k hh).2.2 (by simp), g2⟩
    · rw [if_neg h1] at h; omega
theorem orderF_zero {n : Nat} {l : List Int} (h : orderF n l = 0) : ∃ o : List Nat, l = nats o ∧ (∀ k ∈ o, k < n) ∧ o.length = n ∧ o.Nodup := by
  unfold orderF at h
  by_cases hl : l.length = n
  · rw [if_pos hl] at h
    obtain ⟨h1, h2⟩ := ordF_zero l [] h
    have e : l = nats (l.map Int.toNat) := by
      unfold nats
      rw [List.map_map]
      conv => lhs; rw [← List.map_id l]
      apply List.map_congr_left
      intro x hx
      have := (h1 x hx).1
      simp; omega
    refine ⟨l.map Int.toNat, e, ?_, by simpa using hl, ?_⟩
    · intro k hk
      obtain ⟨x, hx, rfl⟩ := List.mem_map.1 hk
      have := h1 x hx; omega
    · rw [e] at h2
      exact List.Pairwise.of_map _ (fun a b hab => by intro hh; exact hab (by rw [hh])) h2
  · rw [if_neg hl] at h; omega

theorem errno_ne {x : Int} (h : x ≠ 0) : (x != 0) = true := by simpa using h

/-- the error ahead of Length's and Improved's own work. -/
def impF (st : Pt) (P : List Pt) (l : List Int) : Int := if tourF st P 500 = 0 then orderF P.length l else tourF st P 500

def Turns (st : Pt) (P : List Pt) : Nat → List Nat → List Nat → Prop
  | 0, o, o' => o' = o
  | t + 1, o, o' => ∃ i k, First st P o i k ∧ Turns st P t (revSeg o i (k + 1 - i)) o'
theorem Turns.snoc {st : Pt} {P : List Pt} : ∀ {t : Nat} {o a : List Nat} {i k : Nat}, Turns st P t o a → First st P a i k → Turns st P (t + 1) o (revSeg a i (k + 1 - i))
  | 0, _, _, i, k, h, hf => by
    simp only [Turns] at h
    subst h
    exact ⟨i, k, hf, rfl⟩
  | t + 1, _, _, _, _, ⟨i, k, h1, h2⟩, hf => ⟨i, k, h1, h2.snoc hf⟩
theorem First.uniq {st : Pt} {P : List Pt} {o : List Nat} {i k i' k' : Nat} (h : First st P o i k) (h' : First st P o i' k') : i = i' ∧ k = k' := by
  obtain ⟨a1, a2, a3, a4⟩ := h
  obtain ⟨b1, b2, b3, b4⟩ := h'
  by_cases h1 : i < i'
  · exact absurd a3 (b4 i k a1 a2 (.inl h1))
  · by_cases h2 : i' < i
    · exact absurd b3 (a4 i' k' b1 b2 (.inl h2))
    · obtain rfl : i = i' := by omega
      by_cases h3 : k < k'
      · exact absurd a3 (b4 i k a1 a2 (.inr ⟨rfl, h3⟩))
      · by_cases h4 : k' < k
        · exact absurd b3 (a4 i k' b1 b2 (.inr ⟨rfl, h4⟩))
        · exact ⟨rfl, by omega⟩
theorem Turns.uniq {st : Pt} {P : List Pt} : ∀ {t s : Nat} {o a b : List Nat}, Turns st P t o a → NoGain st P a → Turns st P s o b → NoGain st P b → a = b
  | 0, 0, _, _, _, h, _, h', _ => by simp only [Turns] at h h'; rw [h, h']
  | 0, s + 1, _, _, _, h, hn, ⟨i, k, hf, _⟩, _ => by
    simp only [Turns] at h; subst h
    exact absurd hf.2.2.1 (hn i k hf.1 hf.2.1)
  | t + 1, 0, _, _, _, ⟨i, k, hf, _⟩, _, h', hn' => by
    simp only [Turns] at h'; subst h'
    exact absurd hf.2.2.1 (hn' i k hf.1 hf.2.1)
  | t + 1, s + 1, _, _, _, ⟨i, k, hf, h2⟩, hn, ⟨i', k', hf', h2'⟩, hn' => by
    obtain ⟨rfl, rfl⟩ := hf.uniq hf'
    exact h2.uniq hn h2' hn'
theorem revSeg_mem {o : List Nat} {i m x : Nat} (h : x ∈ revSeg o i m) : x ∈ o := by
  unfold revSeg splice at h
  simp only [List.mem_append, List.mem_reverse] at h
  rcases h with (h | h) | h
  · exact List.mem_of_mem_take h
  · exact List.mem_of_mem_drop (List.mem_of_mem_take h)
  · exact List.mem_of_mem_drop h

set_option maxHeartbeats 1000000 in
theorem Improved_any (st : Pt) (P : List Pt) (l : List Int) (vp v : Value) (w : World) (hst : Bd st) (hPb : ∀ p ∈ P, Bd p) (hn : P.length ≤ 1000) (hlen : l.length ≤ 1000) (rp : Pts w 0 vp P) (rl : Ints w 0 v l) :
    Calls Tryz.prog 49 #[ptv st, vp, v] w fun e w' => (∃ (r : List Int) (vr : Value) (n : Int), e = .returned (.tuple #[vr, .int .i64 n, .int .i64 (impF st P l)]) ∧ Own w' w.heap.size vr r ∧ (impF st P l ≠ 0 → r = [] ∧ n = 0) ∧
      ∀ o, l = nats o → impF st P l = 0 → ∃ t o', Turns st P t o o' ∧ NoGain st P o' ∧ r = nats o' ∧ n = lenOf st P o') ∧ Below w.heap.size w w' := by
  obtain ⟨sx, sy⟩ := st
  unfold ptv
  by_cases hT : tourF (sx, sy) P 500 = 0
  · by_cases hO : orderF P.length l = 0
    · obtain ⟨o, rfl, ho1, ho2, ho3⟩ := orderF_zero hO
      have HI : Hid (impF (sx, sy) P (nats o) = 0) := Lib.hid (by unfold impF; rw [if_pos hT, hO])
      have HT := Lib.hid hT
      have HO := Lib.hid hO
      clear hT hO
      go_enter Tryz.func49, Tryz.ntmps49
      go_wp2_with fail
      refine (pointsFault_any (sx, sy) P 500 vp _ hn (rp.alloc _)).mono ?_
      rintro e w1 ⟨rfl, hb1⟩
      rw [HT.out]
      have hb1' := (Bl.alloc (Below.refl w.heap.size w) _).trans (hb1.mono (by simp))
      have hS1 := blk_below (blk_new w _) hb1
      clear hb1
      go_wp2_with fail
      refine (orderFault_any P (nats o) vp v _ hn hlen (rp.below hb1') (rl.below hb1')).mono ?_
      rintro e w2 ⟨rfl, hb2⟩
      rw [HO.out]
      have hb2' := Bl.trans hb1' hb2
      have hS2 := blk_below hS1 hb2
      clear hb2 hS1 hb1'
      go_wp2_with fail
      refine (Clone_any (nats o) v _ (by omega) (rl.below hb2')).mono ?_
      rintro e w3 ⟨v3, rfl, hO3, hb3⟩
      have hb3' := Bl.trans hb2' hb3
      have hS3 := blk_below hS2 hb3
      have hz2 := blk_lt hS2
      have hz2' := hb2'.size
      have HN := Lib.hid ho2
      clear ho2
      go_wp2
      go_loopg [] (lenOf (sx, sy) P o).toNat (fun gk wr => ∃ (t : Nat) (o' : List Nat), gk = (lenOf (sx, sy) P o').toNat ∧ Turns (sx, sy) P t o o' ∧ (∀ k ∈ o', k < P.length) ∧ Hid (o'.length = P.length) ∧ Own wr w2.heap.size v3 (nats o') ∧ Below w2.heap.size w2 wr)
      case atStart => exact ⟨0, o, rfl, rfl, ho1, HN, hO3, hb3⟩
      case round =>
        obtain ⟨t, o', rfl, hT', hin', hl', hOr, hbr⟩ := hrel
        have hSr := blk2 (blk_below hS2 hbr)
        obtain ⟨z1, z2⟩ := hSr
        have rpr := (rp.below hb2').below hbr
        go_wp2_with fail
        refine (turn_any (sx, sy) P o' w2.heap.size v3 vp _ hst hPb hin' (by rw [hl'.out]; exact hn) hOr hbr.size rpr).mono ?_
        rintro e w4 ⟨hc, hb4⟩
        have hb4' := hbr.trans hb4
        have hS4 := blk2 (blk_below hS2 hb4')
        obtain ⟨y1, y2⟩ := hS4
        rcases hc with ⟨i, k, hF, rfl, hO4⟩ | ⟨hN, rfl, hO4⟩
        · have hlt := (rev_len (sx, sy) P o' i k (by have := hF.1; omega) hF.2.1).2 hF.2.2.1
          have hnn := lenOf_nonneg (sx, sy) P (revSeg o' i (k + 1 - i))
          have hLT : (lenOf (sx, sy) P (revSeg o' i (k + 1 - i))).toNat < (lenOf (sx, sy) P o').toNat := by omega
          have HLT := Lib.hid hLT
          clear hlt hnn hLT
          go_wp2
          go_roundg (lenOf (sx, sy) P (revSeg o' i (k + 1 - i))).toNat
          case rel => exact ⟨t + 1, _, rfl, hT'.snoc hF, fun x hx => hin' x (revSeg_mem hx), Lib.hid (by rw [revSeg_length (by have := hF.2.1; have := hF.1; omega)]; exact hl'.out), hO4, hb4'⟩
          case measure => exact HLT.out
        · go_wp2_with fail
          refine (length_any (sx, sy) P o' vp v3 _ hst hPb hin' (by rw [hl'.out]; exact hn) ((rp.below hb2').below hb4') hO4.ints0).mono ?_
          rintro e w5 ⟨rfl, hb5⟩
          go_wp2
          go_ret3
          rw [HI.out]
          refine ⟨⟨nats o', _, _, rfl, ?_, fun h => absurd rfl h, fun o2 h _ => ?_⟩, (hb2'.trans (hb4'.mono hz2')).trans (hb5.mono (Nat.le_trans hz2' hb4'.size))⟩
          · have := hO4.below hb5
            exact own_base this hz2'
          · have : o = o2 := by
              have := congrArg (List.map Int.toNat) h
              simpa [nats, List.map_map, Function.comp_def] using this
            subst this
            exact ⟨t, o', hT', hN, rfl, rfl⟩
    · have HI : Hid (impF (sx, sy) P l = orderF P.length l) := Lib.hid (by unfold impF; rw [if_pos hT])
      have hne := errno_ne hO
      have HT := Lib.hid hT
      have HO := Lib.hid hO
      clear hT hO
      generalize hg : orderF P.length l = f at *
      have HG := Lib.hid hg
      clear hg
      go_enter Tryz.func49, Tryz.ntmps49
      go_wp2_with fail
      refine (pointsFault_any (sx, sy) P 500 vp _ hn (rp.alloc _)).mono ?_
      rintro e w1 ⟨rfl, hb1⟩
      rw [HT.out]
      have hb1' := (Bl.alloc (Below.refl w.heap.size w) _).trans (hb1.mono (by simp))
      clear hb1
      go_wp2_with fail
      refine (orderFault_any P l vp v _ hn hlen (rp.below hb1') (rl.below hb1')).mono ?_
      rintro e w2 ⟨rfl, hb2⟩
      rw [HG.out]
      go_wp2
      go_ret3
      rw [HI.out]
      exact ⟨⟨[], _, 0, rfl, Own.nil _ _, fun _ => ⟨rfl, rfl⟩, fun _ _ h => absurd h HO.out⟩, Bl.trans hb1' hb2⟩
  · have HI : Hid (impF (sx, sy) P l = tourF (sx, sy) P 500) := Lib.hid (by unfold impF; rw [if_neg hT])
    have hne := errno_ne hT
    have HT := Lib.hid hT
    clear hT
    generalize hg : tourF (sx, sy) P 500 = f at *
    have HG := Lib.hid hg
    clear hg
    go_enter Tryz.func49, Tryz.ntmps49
    go_wp2_with fail
    refine (pointsFault_any (sx, sy) P 500 vp _ hn (rp.alloc _)).mono ?_
    rintro e w1 ⟨rfl, hb1⟩
    rw [HG.out]
    have hb1' := (Bl.alloc (Below.refl w.heap.size w) _).trans (hb1.mono (by simp))
    go_wp2
    go_ret3
    rw [HI.out]
    exact ⟨⟨[], _, 0, rfl, Own.nil _ _, fun _ => ⟨rfl, rfl⟩, fun _ _ h => absurd h HT.out⟩, hb1'⟩
end Go.Proofs.YtbkglhakhahfpaaGreatDoor
